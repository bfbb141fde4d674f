import Derived.Test.YtmodnnokcmabhaaGreatDenZ
import Derived.Test.YtmodnnokcmabhaaGreatProg
namespace Go.Proofs.YtmodnnokcmabhaaGreat.GFnLog
open Go Go.RowKit Go.Proofs Go.Proofs.YtmodnnokcmabhaaGreat.Den
set_option linter.unusedVariables false
set_option linter.unusedSimpArgs false
def tyL : List (Nat × Ty) := [(3, ⟨[], 1, 8, false, [.int .i64 0], .ints .i64, .int .i64, []⟩),
  (4, ⟨[], 1, 1, false, [.bool false], .bools, .bool, []⟩),
  (5, ⟨[], 1, 1, false, [.int .u8 0], .ints .u8, .int .u8, []⟩),
  (9, ⟨[], 1, 16, false, [.str ⟨#[]⟩], .strs, .str, []⟩),
  (22, ⟨[], 1, 24, false, [.nil], .refs, .sl 5, [.ints .u8]⟩),
  (24, ⟨[], 1, 24, false, [.nil], .refs, .sl 58, [.puts]⟩),
  (31, ⟨[], 1, 24, false, [.nil], .refs, .sl 9, [.strs]⟩),
  (32, ⟨[], 1, 24, false, [.nil], .refs, .sl 3, [.ints .i64]⟩),
  (34, ⟨[], 2, 48, true, [.nil, .nil], .none, .st [(0, 1), (1, 1)], [.strs, .ints .i64]⟩),
  (36, ⟨[], 4, 80, true, [.nil, .nil, .nil, .int .i64 0], .none, .st [(0, 2), (2, 1), (3, 1)], [.strs, .ints .i64, .ints .i64, .none]⟩),
  (45, ⟨[], 1, 24, false, [.nil], .refs, .sl 99, [.acts]⟩),
  (58, ⟨[.int .i64, .str], 2, 24, true, [.int .i64 0, .str ⟨#[]⟩], .puts, .st [(0, 1), (1, 1)], []⟩),
  (71, ⟨[], 3, 40, true, [.nil, .int .i64 0, .bool false], .none, .st [(0, 1), (1, 1), (2, 1)], [.ints .u8, .none, .none]⟩),
  (86, ⟨[], 3, 32, true, [.int .i64 0, .int .i64 0, .str ⟨#[]⟩], .acts, .st [(0, 1), (1, 1), (2, 1)], []⟩),
  (99, ⟨[], 3, 32, true, [.int .i64 0, .int .i64 0, .str ⟨#[]⟩], .acts, .st [(0, 1), (1, 1), (2, 1)], []⟩),
  (104, ⟨[], 3, 40, true, [.nil, .int .i64 0, .int .i64 0], .none, .st [(0, 1), (1, 1), (2, 1)], [.ints .u8, .none, .none]⟩),
  (107, ⟨[], 1, 8, false, [.int .u64 0], .ints .u64, .int .u64, []⟩),
  (108, ⟨[], 1, 24, false, [.nil], .none, .sl 22, []⟩),
  (126, ⟨[], 6, 112, true, [.nil, .nil, .nil, .int .i64 0, .nil, .bool false], .none, .st [(0, 4), (4, 1), (5, 1)], [.strs, .ints .i64, .ints .i64, .none, .acts, .none]⟩),
  (147, ⟨[], 1, 4, false, [.int .u32 0], .ints .u32, .int .u32, []⟩),
  (150, ⟨[], 1, 8, false, [.int .u64 0], .ints .u64, .int .u64, []⟩)]
def tb : TypeId → Option Ty := tbOf tyL
theorem tab : TabOk Tryz.prog tb := TabOk.of ⟨.of (by kernel_rfl) rfl rfl (by kernel_rfl) (by show _ = _; kernel_rfl) trivial,
  .of (by kernel_rfl) rfl rfl (by kernel_rfl) (by show _ = _; kernel_rfl) trivial,
  .of (by kernel_rfl) rfl rfl (by kernel_rfl) (by show _ = _; kernel_rfl) trivial,
  .of (by kernel_rfl) rfl rfl (by kernel_rfl) (by show _ = _; kernel_rfl) trivial,
  .of (by kernel_rfl) rfl rfl (by kernel_rfl) (by show _ = _; kernel_rfl) trivial,
  .of (by kernel_rfl) rfl rfl (by kernel_rfl) (by show _ = _; kernel_rfl) trivial,
  .of (by kernel_rfl) rfl rfl (by kernel_rfl) (by show _ = _; kernel_rfl) trivial,
  .of (by kernel_rfl) rfl rfl (by kernel_rfl) (by show _ = _; kernel_rfl) trivial,
  .of (by kernel_rfl) rfl rfl (by kernel_rfl) (by show _ = _; kernel_rfl) trivial,
  .of (by kernel_rfl) rfl rfl (by kernel_rfl) (by show _ = _; kernel_rfl) trivial,
  .of (by kernel_rfl) rfl rfl (by kernel_rfl) (by show _ = _; kernel_rfl) trivial,
  .of (by kernel_rfl) rfl rfl (by kernel_rfl) (by show _ = _; kernel_rfl) (by show _ = _; kernel_rfl),
  .of (by kernel_rfl) rfl rfl (by kernel_rfl) (by show _ = _; kernel_rfl) trivial,
  .of (by kernel_rfl) rfl rfl (by kernel_rfl) (by show _ = _; kernel_rfl) trivial,
  .of (by kernel_rfl) rfl rfl (by kernel_rfl) (by show _ = _; kernel_rfl) trivial,
  .of (by kernel_rfl) rfl rfl (by kernel_rfl) (by show _ = _; kernel_rfl) trivial,
  .of (by kernel_rfl) rfl rfl (by kernel_rfl) (by show _ = _; kernel_rfl) trivial,
  .of (by kernel_rfl) rfl rfl (by kernel_rfl) (by show _ = _; kernel_rfl) trivial,
  .of (by kernel_rfl) rfl rfl (by kernel_rfl) (by show _ = _; kernel_rfl) trivial,
  .of (by kernel_rfl) rfl rfl (by kernel_rfl) (by show _ = _; kernel_rfl) trivial,
  .of (by kernel_rfl) rfl rfl (by kernel_rfl) (by show _ = _; kernel_rfl) trivial, trivial⟩
theorem n0 {q : Prop} (b : q) : (0 : Nat) = 0 ∧ q := ⟨rfl, b⟩
theorem nn (n : Nat) {q : Prop} (b : q) : n = n ∧ q := ⟨rfl, b⟩
theorem nl {α : Type} (l : List α) {q : Prop} (b : q) : l.length = l.length ∧ q := ⟨rfl, b⟩
def bT : Ans := .br true
def bF : Ans := .br false
abbrev iT (l : List Int) : List (Option Row) := [some ⟨true, .ints .u8 l⟩]
abbrev iF (l : List Int) : List (Option Row) := [some ⟨false, .ints .u8 l⟩]
theorem mixed : Tryz.prog.follows .mixedOrders = true := by kernel_rfl
def laws.big.f (a0 : List Int) : Option (Unit) :=
  some ()
theorem laws.big.spec (a0 : List Int) (o : Unit) (h : laws.big.f a0 = some o) : Den.Spec Tryz.prog 6 [one (.sl 0 0 a0.length)] [some ⟨false, .ints .u8 a0⟩] (one (.bool (decide ((a0.length : Int) > 1048576)))) [some ⟨false, .ints .u8 a0⟩] := by
  unfold laws.big.f at h
  obtain rfl := Option.some.inj h
  exact Den.Spec.of_walk tab mixed Tryz.func6 (by kernel_rfl) [] [] [0] trivial (by kernel_rfl)
def spec.l1New.l0.f (a0 : List Int) : Nat → Int → Int → Option (Int)
  | 0, _, _ => none
  | k + 1, v15_0, v15_1 =>
    cond (decide (v15_1 < (a0.length : Int))) (cond (decide (v15_1 < 4000)) (ck (0 ≤ v15_1) (spec.l1New.l0.f a0 k (bits2 .i64 (· &&& ·) (w64 ((w64 ((w64 (v15_0 * 131)) + (w64 (a0.getD v15_1.toNat 0)))) + 7)) 1073741823) (w64 (v15_1 + 1)))) (some v15_0)) (some v15_0)
def spec.l1New.l0.s (a0 : List Int) (v15_0 : Int) (v15_1 : Int) : St := mkSt 32 [(0, one (.sl 0 0 a0.length)), (3, one (.int .i64 v15_0)), (4, one (.int .i64 v15_1))] [some ⟨false, .ints .u8 a0⟩]
def spec.l1New.l0.e0 (a0 : List Int) (o : Int) : St := mkSt 32 [(0, one (.sl 0 0 a0.length)), (3, one (.int .i64 o))] [some ⟨false, .ints .u8 a0⟩]
def spec.l1New.l0.x (a0 : List Int) : (Int) → AExit × St := fun o => (.exit 0, spec.l1New.l0.e0 a0 o)
theorem spec.l1New.l0.spec (a0 : List Int) : ∀ (k : Nat) (v15_0 : Int) (v15_1 : Int) (o : Int), spec.l1New.l0.f a0 k v15_0 v15_1 = some o → LoopSpec Tryz.prog 1 (loopN Tryz.f35 0) (spec.l1New.l0.s a0 v15_0 v15_1) (spec.l1New.l0.x a0 o).1 (spec.l1New.l0.x a0 o).2
  | 0, _, _, _, h => by cases h
  | k + 1, v15_0, v15_1, o, h => by
    unfold spec.l1New.l0.f at h
    rcases br_cases h with ⟨c1, h⟩ | ⟨c1, h⟩
    · rcases br_cases h with ⟨c2, h⟩ | ⟨c2, h⟩
      · obtain ⟨p1, h⟩ := ck_some h
        exact .of_step tab mixed [bT, bT, bT, bT] [] [0, 3, 4] [0] (s1 := spec.l1New.l0.s a0 (bits2 .i64 (· &&& ·) (w64 ((w64 ((w64 (v15_0 * 131)) + (w64 (a0.getD v15_1.toNat 0)))) + 7)) 1073741823) (w64 (v15_1 + 1))) (nd c1 (nd c1 (nd c1 (nd c2 (nd p1 (nd (of_decide_eq_true c1) (nd (tn p1 (of_decide_eq_true c1)) trivial))))))) (by kernel_rfl) (spec.l1New.l0.spec a0 k (bits2 .i64 (· &&& ·) (w64 ((w64 ((w64 (v15_0 * 131)) + (w64 (a0.getD v15_1.toNat 0)))) + 7)) 1073741823) (w64 (v15_1 + 1)) _ h)
      · obtain rfl := Option.some.inj h
        exact .of_done tab mixed [bT, bT, bT, bF] [] [0, 3] [0] rfl (nd c1 (nd c1 (nd c1 (nd c2 trivial)))) (by kernel_rfl)
    · obtain rfl := Option.some.inj h
      exact .of_done tab mixed [bF, bF, bF, bF] [] [0, 3] [0] rfl (nd c1 (nd c1 (nd c1 (nd ff trivial)))) (by kernel_rfl)
def spec.l1New.f (K : Nat) (a0 : List Int) : Option (Int) :=
  Option.bind (spec.l1New.l0.f a0 K (w64 (19109 + (a0.length : Int))) 0) fun x1 => some x1
theorem spec.l1New.spec (K : Nat) (a0 : List Int) (o : Int) (h : spec.l1New.f K a0 = some o) : Den.Spec Tryz.prog 35 [one (.sl 0 0 a0.length)] [some ⟨false, .ints .u8 a0⟩] (one (.ptr 1 0 0)) [some ⟨false, .ints .u8 a0⟩, some ⟨true, .cells [.sl 0 0 a0.length, .int .i64 0, .int .i64 o]⟩] := by
  unfold spec.l1New.f at h
  obtain ⟨x1, e1, h⟩ := bind_some h
  obtain rfl := Option.some.inj h
  exact Den.Spec.of_walk tab mixed Tryz.func35 (by kernel_rfl) [.loop [] [0, 3, 4] [0] (.exit 0) (spec.l1New.l0.e0 a0 x1)] [] [0, 1] (nd (spec.l1New.l0.spec a0 K (w64 (19109 + (a0.length : Int))) 0 _ e1) trivial) (by kernel_rfl)
def spec.l1Byte.f (a0 : List Int) (a1 : Int) (a2 : Int) : Option (Int × Int) :=
  cond (decide (a1 < (a0.length : Int))) (ck (0 ≤ a1) (some (bits2 .i64 (· &&& ·) (w64 ((bits2 .i64 (· &&& ·) (bits2 .i64 (· ^^^ ·) ((w64 ((w64 (a2 * 6364136223846793005)) + 1442695040888963407)).fdiv (2 ^ 33)) ((w64 ((w64 (a2 * 6364136223846793005)) + 1442695040888963407)).fdiv (2 ^ 45))) 255) + (w64 (a0.getD a1.toNat 0)))) 255, w64 (a1 + 1)))) (some (bits2 .i64 (· &&& ·) (bits2 .i64 (· ^^^ ·) ((w64 ((w64 (a2 * 6364136223846793005)) + 1442695040888963407)).fdiv (2 ^ 33)) ((w64 ((w64 (a2 * 6364136223846793005)) + 1442695040888963407)).fdiv (2 ^ 45))) 255, a1))
theorem spec.l1Byte.spec (a0 : List Int) (a1 : Int) (a2 : Int) (o : Int × Int) (h : spec.l1Byte.f a0 a1 a2 = some o) : Den.Spec Tryz.prog 86 [one (.ptr 0 0 0)] [some ⟨true, .cells [.sl 1 0 a0.length, .int .i64 a1, .int .i64 a2]⟩, some ⟨false, .ints .u8 a0⟩] (one (.int .i64 o.1)) [some ⟨true, .cells [.sl 1 0 a0.length, .int .i64 o.2, .int .i64 (w64 ((w64 (a2 * 6364136223846793005)) + 1442695040888963407))]⟩, some ⟨false, .ints .u8 a0⟩] := by
  unfold spec.l1Byte.f at h
  rcases br_cases h with ⟨c1, h⟩ | ⟨c1, h⟩
  · obtain ⟨p1, h⟩ := ck_some h
    obtain rfl := Option.some.inj h
    exact Den.Spec.of_walk tab mixed Tryz.func86 (by kernel_rfl) [bT] [] [0, 1] (nd (by decide : (0 : Int) ≤ 33) (nd (by decide : (0 : Int) ≤ 45) (nd c1 (nd p1 (nd (of_decide_eq_true c1) (nd (tn p1 (of_decide_eq_true c1)) trivial)))))) (by kernel_rfl)
  · obtain rfl := Option.some.inj h
    exact Den.Spec.of_walk tab mixed Tryz.func86 (by kernel_rfl) [bF] [] [0, 1] (nd (by decide : (0 : Int) ≤ 33) (nd (by decide : (0 : Int) ≤ 45) (nd c1 trivial))) (by kernel_rfl)
def spec.l1Below.f (a0 : List Int) (a1 : Int) (a2 : Int) (a3 : Int) : Option (Int × Int × Int) :=
  cond (decide (a3 ≤ 0)) (some (0, a1, a2)) (cond (decide (a3 ≤ 256)) (Option.bind (spec.l1Byte.f a0 a1 a2) fun x1 => ck (a3 ≠ 0) (some (x1.1.tmod a3, x1.2, w64 ((w64 (a2 * 6364136223846793005)) + 1442695040888963407)))) (Option.bind (spec.l1Byte.f a0 a1 a2) fun x1 => Option.bind (spec.l1Byte.f a0 x1.2 (w64 ((w64 (a2 * 6364136223846793005)) + 1442695040888963407))) fun x2 => Option.bind (spec.l1Byte.f a0 x2.2 (w64 ((w64 ((w64 ((w64 (a2 * 6364136223846793005)) + 1442695040888963407)) * 6364136223846793005)) + 1442695040888963407))) fun x3 => Option.bind (spec.l1Byte.f a0 x3.2 (w64 ((w64 ((w64 ((w64 ((w64 ((w64 (a2 * 6364136223846793005)) + 1442695040888963407)) * 6364136223846793005)) + 1442695040888963407)) * 6364136223846793005)) + 1442695040888963407))) fun x4 => ck (a3 ≠ 0) (some ((w64 ((w64 ((w64 ((w64 (x1.1 * 16777216)) + (w64 (x2.1 * 65536)))) + (w64 (x3.1 * 256)))) + x4.1)).tmod a3, x4.2, w64 ((w64 ((w64 ((w64 ((w64 ((w64 ((w64 ((w64 (a2 * 6364136223846793005)) + 1442695040888963407)) * 6364136223846793005)) + 1442695040888963407)) * 6364136223846793005)) + 1442695040888963407)) * 6364136223846793005)) + 1442695040888963407)))))
theorem spec.l1Below.spec (a0 : List Int) (a1 : Int) (a2 : Int) (a3 : Int) (o : Int × Int × Int) (h : spec.l1Below.f a0 a1 a2 a3 = some o) : Den.Spec Tryz.prog 49 [one (.ptr 0 0 0), one (.int .i64 a3)] [some ⟨true, .cells [.sl 1 0 a0.length, .int .i64 a1, .int .i64 a2]⟩, some ⟨false, .ints .u8 a0⟩] (one (.int .i64 o.1)) [some ⟨true, .cells [.sl 1 0 a0.length, .int .i64 o.2.1, .int .i64 o.2.2]⟩, some ⟨false, .ints .u8 a0⟩] := by
  unfold spec.l1Below.f at h
  rcases br_cases h with ⟨c1, h⟩ | ⟨c1, h⟩
  · obtain rfl := Option.some.inj h
    exact Den.Spec.of_walk tab mixed Tryz.func49 (by kernel_rfl) [bT] [] [0, 1] (nd c1 trivial) (by kernel_rfl)
  · rcases br_cases h with ⟨c2, h⟩ | ⟨c2, h⟩
    · obtain ⟨x1, e1, h⟩ := bind_some h
      obtain ⟨p1, h⟩ := ck_some h
      obtain rfl := Option.some.inj h
      exact Den.Spec.of_walk tab mixed Tryz.func49 (by kernel_rfl) [bF, bT, .call [(0, true), (1, false)] [] (one (.int .i64 x1.1)) [some ⟨true, .cells [.sl 1 0 a0.length, .int .i64 x1.2, .int .i64 (w64 ((w64 (a2 * 6364136223846793005)) + 1442695040888963407))]⟩, some ⟨false, .ints .u8 a0⟩]] [] [0, 1] (nd c1 (nd c2 (nd (spec.l1Byte.spec a0 a1 a2 _ e1) (nd p1 trivial)))) (by kernel_rfl)
    · obtain ⟨x1, e1, h⟩ := bind_some h
      obtain ⟨x2, e2, h⟩ := bind_some h
      obtain ⟨x3, e3, h⟩ := bind_some h
      obtain ⟨x4, e4, h⟩ := bind_some h
      obtain ⟨p1, h⟩ := ck_some h
      obtain rfl := Option.some.inj h
      exact Den.Spec.of_walk tab mixed Tryz.func49 (by kernel_rfl) [bF, bF, .call [(0, true), (1, false)] [] (one (.int .i64 x1.1)) [some ⟨true, .cells [.sl 1 0 a0.length, .int .i64 x1.2, .int .i64 (w64 ((w64 (a2 * 6364136223846793005)) + 1442695040888963407))]⟩, some ⟨false, .ints .u8 a0⟩], .call [(0, true), (1, false)] [] (one (.int .i64 x2.1)) [some ⟨true, .cells [.sl 1 0 a0.length, .int .i64 x2.2, .int .i64 (w64 ((w64 ((w64 ((w64 (a2 * 6364136223846793005)) + 1442695040888963407)) * 6364136223846793005)) + 1442695040888963407))]⟩, some ⟨false, .ints .u8 a0⟩], .call [(0, true), (1, false)] [] (one (.int .i64 x3.1)) [some ⟨true, .cells [.sl 1 0 a0.length, .int .i64 x3.2, .int .i64 (w64 ((w64 ((w64 ((w64 ((w64 ((w64 (a2 * 6364136223846793005)) + 1442695040888963407)) * 6364136223846793005)) + 1442695040888963407)) * 6364136223846793005)) + 1442695040888963407))]⟩, some ⟨false, .ints .u8 a0⟩], .call [(0, true), (1, false)] [] (one (.int .i64 x4.1)) [some ⟨true, .cells [.sl 1 0 a0.length, .int .i64 x4.2, .int .i64 (w64 ((w64 ((w64 ((w64 ((w64 ((w64 ((w64 ((w64 (a2 * 6364136223846793005)) + 1442695040888963407)) * 6364136223846793005)) + 1442695040888963407)) * 6364136223846793005)) + 1442695040888963407)) * 6364136223846793005)) + 1442695040888963407))]⟩, some ⟨false, .ints .u8 a0⟩]] [] [0, 1] (nd c1 (nd c2 (nd (spec.l1Byte.spec a0 a1 a2 _ e1) (nd (spec.l1Byte.spec a0 x1.2 (w64 ((w64 (a2 * 6364136223846793005)) + 1442695040888963407)) _ e2) (nd (spec.l1Byte.spec a0 x2.2 (w64 ((w64 ((w64 ((w64 (a2 * 6364136223846793005)) + 1442695040888963407)) * 6364136223846793005)) + 1442695040888963407)) _ e3) (nd (spec.l1Byte.spec a0 x3.2 (w64 ((w64 ((w64 ((w64 ((w64 ((w64 (a2 * 6364136223846793005)) + 1442695040888963407)) * 6364136223846793005)) + 1442695040888963407)) * 6364136223846793005)) + 1442695040888963407)) _ e4) (nd p1 trivial))))))) (by kernel_rfl)
def spec.l1Pick.f (a0 : List Int) (a1 : Int) (a2 : Int) (a3 : List ByteArray) : Option (ByteArray × Int × Int) :=
  Option.bind (spec.l1Below.f a0 a1 a2 (a3.length : Int)) fun x1 => ck (0 ≤ x1.1) (ck (x1.1 < (a3.length : Int)) (some (a3.getD x1.1.toNat noVal, x1.2.1, x1.2.2)))
theorem spec.l1Pick.spec (a0 : List Int) (a1 : Int) (a2 : Int) (a3 : List ByteArray) (o : ByteArray × Int × Int) (h : spec.l1Pick.f a0 a1 a2 a3 = some o) : Den.Spec Tryz.prog 50 [one (.ptr 0 0 0), one (.sl 2 0 a3.length)] [some ⟨true, .cells [.sl 1 0 a0.length, .int .i64 a1, .int .i64 a2]⟩, some ⟨false, .ints .u8 a0⟩, some ⟨false, .strs a3⟩] (one (.str o.1)) [some ⟨true, .cells [.sl 1 0 a0.length, .int .i64 o.2.1, .int .i64 o.2.2]⟩, some ⟨false, .ints .u8 a0⟩, some ⟨false, .strs a3⟩] := by
  unfold spec.l1Pick.f at h
  obtain ⟨x1, e1, h⟩ := bind_some h
  obtain ⟨p1, h⟩ := ck_some h
  obtain ⟨p2, h⟩ := ck_some h
  obtain rfl := Option.some.inj h
  exact Den.Spec.of_walk tab mixed Tryz.func50 (by kernel_rfl) [.call [(0, true), (1, false)] [] (one (.int .i64 x1.1)) [some ⟨true, .cells [.sl 1 0 a0.length, .int .i64 x1.2.1, .int .i64 x1.2.2]⟩, some ⟨false, .ints .u8 a0⟩]] [] [0, 1, 2] (nd (spec.l1Below.spec a0 a1 a2 (a3.length : Int) _ e1) (nd p1 (nd p2 (nd (tn p1 p2) trivial)))) (by kernel_rfl)
def spec.l7DrawBatch.l0.f (a0 : List Int) : Nat → Int → Int → (List (Int × ByteArray)) → Int → Int → Option (Int × Int × (List (Int × ByteArray)))
  | 0, _, _, _, _, _ => none
  | k + 1, v19_0, v19_1, v19_2, v19_3, v19_4 =>
    cond (decide (v19_4 < v19_3)) (Option.bind (spec.l1Below.f a0 v19_0 v19_1 7) fun x1 => Option.bind (spec.l1Pick.f a0 x1.2.1 x1.2.2 [noVal, (ByteArray.mk #[120]), (ByteArray.mk #[100, 97, 98, 99, 61, 49]), (ByteArray.mk #[102, 104, 101, 108, 108, 111])]) fun x2 => ck ((v19_2 ++ [((w64 ((w64 (7 * v19_4)) + x1.1)).tmod 24, x2.1)]).length * 24 ≤ 70368744177664) (spec.l7DrawBatch.l0.f a0 k x2.2.1 x2.2.2 (v19_2 ++ [((w64 ((w64 (7 * v19_4)) + x1.1)).tmod 24, x2.1)]) v19_3 (w64 (v19_4 + 1)))) (some (v19_0, v19_1, v19_2))
def spec.l7DrawBatch.l0.s (a0 : List Int) (v19_0 : Int) (v19_1 : Int) (v19_2 : List (Int × ByteArray)) (v19_3 : Int) (v19_4 : Int) : St := mkSt 68 [(0, one (.ptr 0 0 0)), (3, one (.sl 2 0 v19_2.length)), (4, one (.int .i64 v19_3)), (5, one (.int .i64 v19_4))] [some ⟨true, .cells [.sl 1 0 a0.length, .int .i64 v19_0, .int .i64 v19_1]⟩, some ⟨false, .ints .u8 a0⟩, some ⟨true, .puts v19_2⟩]
def spec.l7DrawBatch.l0.e0 (a0 : List Int) (o : Int × Int × (List (Int × ByteArray))) : St := mkSt 68 [(0, one (.ptr 0 0 0)), (3, one (.sl 2 0 o.2.2.length))] [some ⟨true, .cells [.sl 1 0 a0.length, .int .i64 o.1, .int .i64 o.2.1]⟩, some ⟨false, .ints .u8 a0⟩, some ⟨true, .puts o.2.2⟩]
def spec.l7DrawBatch.l0.x (a0 : List Int) : (Int × Int × (List (Int × ByteArray))) → AExit × St := fun o => (.exit 0, spec.l7DrawBatch.l0.e0 a0 o)
theorem spec.l7DrawBatch.l0.spec (a0 : List Int) : ∀ (k : Nat) (v19_0 : Int) (v19_1 : Int) (v19_2 : List (Int × ByteArray)) (v19_3 : Int) (v19_4 : Int) (o : Int × Int × (List (Int × ByteArray))), spec.l7DrawBatch.l0.f a0 k v19_0 v19_1 v19_2 v19_3 v19_4 = some o → LoopSpec Tryz.prog 2 (loopN Tryz.f34 0) (spec.l7DrawBatch.l0.s a0 v19_0 v19_1 v19_2 v19_3 v19_4) (spec.l7DrawBatch.l0.x a0 o).1 (spec.l7DrawBatch.l0.x a0 o).2
  | 0, _, _, _, _, _, _, h => by cases h
  | k + 1, v19_0, v19_1, v19_2, v19_3, v19_4, o, h => by
    unfold spec.l7DrawBatch.l0.f at h
    rcases br_cases h with ⟨c1, h⟩ | ⟨c1, h⟩
    · obtain ⟨x1, e1, h⟩ := bind_some h
      obtain ⟨x2, e2, h⟩ := bind_some h
      obtain ⟨p1, h⟩ := ck_some h
      exact .of_step tab mixed [bT, .call [(0, true), (1, false)] [] (one (.int .i64 x1.1)) [some ⟨true, .cells [.sl 1 0 a0.length, .int .i64 x1.2.1, .int .i64 x1.2.2]⟩, some ⟨false, .ints .u8 a0⟩], .call [(0, true), (1, false)] [(1, true)] (one (.str x2.1)) [some ⟨true, .cells [.sl 1 0 a0.length, .int .i64 x2.2.1, .int .i64 x2.2.2]⟩, some ⟨false, .ints .u8 a0⟩, some ⟨false, .strs [noVal, (ByteArray.mk #[120]), (ByteArray.mk #[100, 97, 98, 99, 61, 49]), (ByteArray.mk #[102, 104, 101, 108, 108, 111])]⟩], bT] [] [0, 3, 4, 5] [0, 1, 5] (s1 := spec.l7DrawBatch.l0.s a0 x2.2.1 x2.2.2 (v19_2 ++ [((w64 ((w64 (7 * v19_4)) + x1.1)).tmod 24, x2.1)]) v19_3 (w64 (v19_4 + 1))) (nd c1 (nd (spec.l1Below.spec a0 v19_0 v19_1 7 _ e1) (nd (by decide : (24 : Int) ≠ 0) (nd (spec.l1Pick.spec a0 x1.2.1 x1.2.2 [noVal, (ByteArray.mk #[120]), (ByteArray.mk #[100, 97, 98, 99, 61, 49]), (ByteArray.mk #[102, 104, 101, 108, 108, 111])] _ e2) (n0 (nn 4 (n0 (nl v19_2 (nd p1 (n0 (nn 1 trivial))))))))))) (by kernel_rfl) (spec.l7DrawBatch.l0.spec a0 k x2.2.1 x2.2.2 (v19_2 ++ [((w64 ((w64 (7 * v19_4)) + x1.1)).tmod 24, x2.1)]) v19_3 (w64 (v19_4 + 1)) _ h)
    · obtain rfl := Option.some.inj h
      exact .of_done tab mixed [bF] [] [0, 3] [0, 1, 2] rfl (nd c1 trivial) (by kernel_rfl)
def spec.l1PickInt.f (a0 : List Int) (a1 : Int) (a2 : Int) (a3 : List Int) : Option (Int × Int × Int) :=
  Option.bind (spec.l1Below.f a0 a1 a2 (a3.length : Int)) fun x1 => ck (0 ≤ x1.1) (ck (x1.1 < (a3.length : Int)) (some (a3.getD x1.1.toNat 0, x1.2.1, x1.2.2)))
theorem spec.l1PickInt.spec (a0 : List Int) (a1 : Int) (a2 : Int) (a3 : List Int) (o : Int × Int × Int) (h : spec.l1PickInt.f a0 a1 a2 a3 = some o) : Den.Spec Tryz.prog 79 [one (.ptr 0 0 0), one (.sl 2 0 a3.length)] [some ⟨true, .cells [.sl 1 0 a0.length, .int .i64 a1, .int .i64 a2]⟩, some ⟨false, .ints .u8 a0⟩, some ⟨false, .ints .i64 a3⟩] (one (.int .i64 o.1)) [some ⟨true, .cells [.sl 1 0 a0.length, .int .i64 o.2.1, .int .i64 o.2.2]⟩, some ⟨false, .ints .u8 a0⟩, some ⟨false, .ints .i64 a3⟩] := by
  unfold spec.l1PickInt.f at h
  obtain ⟨x1, e1, h⟩ := bind_some h
  obtain ⟨p1, h⟩ := ck_some h
  obtain ⟨p2, h⟩ := ck_some h
  obtain rfl := Option.some.inj h
  exact Den.Spec.of_walk tab mixed Tryz.func79 (by kernel_rfl) [.call [(0, true), (1, false)] [] (one (.int .i64 x1.1)) [some ⟨true, .cells [.sl 1 0 a0.length, .int .i64 x1.2.1, .int .i64 x1.2.2]⟩, some ⟨false, .ints .u8 a0⟩]] [] [0, 1, 2] (nd (spec.l1Below.spec a0 a1 a2 (a3.length : Int) _ e1) (nd p1 (nd p2 (nd (tn p1 p2) trivial)))) (by kernel_rfl)
def spec.l7DrawBatch.l1.f (a0 : List Int) : Nat → Int → Int → (List (Int × ByteArray)) → Option ((List (Int × ByteArray)) × Int × Int)
  | 0, _, _, _ => none
  | k + 1, v22_0, v22_1, v22_2 =>
    ck (0 < (v22_2.length : Int)) (ck (0 < v22_2.length) (Option.bind (spec.l1Below.f a0 v22_0 v22_1 2) fun x1 => cond (decide ((((v22_2.getD 0 (0, noVal)).2).size : Int) < (w64 (400 + x1.1)))) (ck (((((v22_2.getD 0 (0, noVal)).2).size + (ByteArray.mk #[122]).size : Nat) : Int) ≤ 9223372036854775807) (spec.l7DrawBatch.l1.f a0 k x1.2.1 x1.2.2 (v22_2.set 0 ((v22_2.getD 0 (0, noVal)).1, ((v22_2.getD 0 (0, noVal)).2) ++ (ByteArray.mk #[122]))))) (some (v22_2, x1.2.1, x1.2.2))))
def spec.l7DrawBatch.l1.s (a0 : List Int) (v22_0 : Int) (v22_1 : Int) (v22_2 : List (Int × ByteArray)) : St := mkSt 68 [(0, one (.ptr 0 0 0)), (3, one (.sl 2 0 v22_2.length))] [some ⟨true, .cells [.sl 1 0 a0.length, .int .i64 v22_0, .int .i64 v22_1]⟩, some ⟨false, .ints .u8 a0⟩, some ⟨true, .puts v22_2⟩]
def spec.l7DrawBatch.l1.e0 (a0 : List Int) (o : (List (Int × ByteArray)) × Int × Int) : St := mkSt 68 [(3, one (.sl 2 0 o.1.length))] [some ⟨true, .cells [.sl 1 0 a0.length, .int .i64 o.2.1, .int .i64 o.2.2]⟩, some ⟨false, .ints .u8 a0⟩, some ⟨true, .puts o.1⟩]
def spec.l7DrawBatch.l1.x (a0 : List Int) : ((List (Int × ByteArray)) × Int × Int) → AExit × St := fun o => (.exit 3, spec.l7DrawBatch.l1.e0 a0 o)
theorem spec.l7DrawBatch.l1.spec (a0 : List Int) : ∀ (k : Nat) (v22_0 : Int) (v22_1 : Int) (v22_2 : List (Int × ByteArray)) (o : (List (Int × ByteArray)) × Int × Int), spec.l7DrawBatch.l1.f a0 k v22_0 v22_1 v22_2 = some o → LoopSpec Tryz.prog 2 (loopN Tryz.f34 1) (spec.l7DrawBatch.l1.s a0 v22_0 v22_1 v22_2) (spec.l7DrawBatch.l1.x a0 o).1 (spec.l7DrawBatch.l1.x a0 o).2
  | 0, _, _, _, _, h => by cases h
  | k + 1, v22_0, v22_1, v22_2, o, h => by
    unfold spec.l7DrawBatch.l1.f at h
    obtain ⟨p1, h⟩ := ck_some h
    obtain ⟨p2, h⟩ := ck_some h
    obtain ⟨x1, e1, h⟩ := bind_some h
    rcases br_cases h with ⟨c1, h⟩ | ⟨c1, h⟩
    · obtain ⟨p3, h⟩ := ck_some h
      exact .of_step tab mixed [.call [(0, true), (1, false)] [] (one (.int .i64 x1.1)) [some ⟨true, .cells [.sl 1 0 a0.length, .int .i64 x1.2.1, .int .i64 x1.2.2]⟩, some ⟨false, .ints .u8 a0⟩], bT] [] [0, 3] [0, 1, 2] (s1 := mkSt 68 [(0, one (.ptr 0 0 0)), (3, one (.sl 2 0 v22_2.length))] [some ⟨true, .cells [.sl 1 0 a0.length, .int .i64 x1.2.1, .int .i64 x1.2.2]⟩, some ⟨false, .ints .u8 a0⟩, some ⟨true, .puts (v22_2.set 0 ((v22_2.getD 0 (0, noVal)).1, ((v22_2.getD 0 (0, noVal)).2) ++ (ByteArray.mk #[122])))⟩]) (nd (Int.le_refl 0) (nd p1 (nd p2 (nd (spec.l1Below.spec a0 v22_0 v22_1 2 _ e1) (nd c1 (nd (Int.le_refl 0) (nd p1 (nd p2 (nd p3 (nd (Int.le_refl 0) (nd p1 (nd p2 trivial)))))))))))) (by kernel_rfl) (LoopSpec.eqs (spec.l7DrawBatch.l1.spec a0 k x1.2.1 x1.2.2 (v22_2.set 0 ((v22_2.getD 0 (0, noVal)).1, ((v22_2.getD 0 (0, noVal)).2) ++ (ByteArray.mk #[122]))) _ h) (by simp only [spec.l7DrawBatch.l1.s, List.length_set, overL_length] : spec.l7DrawBatch.l1.s a0 x1.2.1 x1.2.2 (v22_2.set 0 ((v22_2.getD 0 (0, noVal)).1, ((v22_2.getD 0 (0, noVal)).2) ++ (ByteArray.mk #[122]))) = mkSt 68 [(0, one (.ptr 0 0 0)), (3, one (.sl 2 0 v22_2.length))] [some ⟨true, .cells [.sl 1 0 a0.length, .int .i64 x1.2.1, .int .i64 x1.2.2]⟩, some ⟨false, .ints .u8 a0⟩, some ⟨true, .puts (v22_2.set 0 ((v22_2.getD 0 (0, noVal)).1, ((v22_2.getD 0 (0, noVal)).2) ++ (ByteArray.mk #[122])))⟩]))
    · obtain rfl := Option.some.inj h
      exact .of_done tab mixed [.call [(0, true), (1, false)] [] (one (.int .i64 x1.1)) [some ⟨true, .cells [.sl 1 0 a0.length, .int .i64 x1.2.1, .int .i64 x1.2.2]⟩, some ⟨false, .ints .u8 a0⟩], bF] [] [3] [0, 1, 2] rfl (nd (Int.le_refl 0) (nd p1 (nd p2 (nd (spec.l1Below.spec a0 v22_0 v22_1 2 _ e1) (nd c1 trivial))))) (by kernel_rfl)
def spec.l7DrawBatch.f (K : Nat) (a0 : List Int) (a1 : Int) (a2 : Int) : Option ((List (Int × ByteArray)) × Int × Int) :=
  Option.bind (spec.l1Below.f a0 a1 a2 3) fun x1 => Option.bind (spec.l7DrawBatch.l0.f a0 K x1.2.1 x1.2.2 [] (w64 (1 + x1.1)) 0) fun x2 => Option.bind (spec.l1Below.f a0 x2.1 x2.2.1 20) fun x3 => cond (x3.1 == 0) (ck (0 < (x2.2.2.length : Int)) (ck (0 < x2.2.2.length) (ck ((x2.2.2 ++ [((x2.2.2.getD 0 (0, noVal)).1, (x2.2.2.getD 0 (0, noVal)).2)]).length * 24 ≤ 70368744177664) (some (x2.2.2 ++ [((x2.2.2.getD 0 (0, noVal)).1, (x2.2.2.getD 0 (0, noVal)).2)], x3.2.1, x3.2.2))))) (cond (x3.1 == 1) (Option.bind (spec.l1PickInt.f a0 x3.2.1 x3.2.2 [24, (-1)]) fun x4 => ck (0 < (x2.2.2.length : Int)) (ck (0 < x2.2.2.length) (some (x2.2.2.set 0 (x4.1, (x2.2.2.getD 0 (0, noVal)).2), x4.2.1, x4.2.2)))) (cond (x3.1 == 2) (some ([], x3.2.1, x3.2.2)) (cond (x3.1 == 3) (Option.bind (spec.l7DrawBatch.l1.f a0 K x3.2.1 x3.2.2 x2.2.2) fun x4 => some (x4.1, x4.2.1, x4.2.2)) (some (x2.2.2, x3.2.1, x3.2.2)))))
theorem spec.l7DrawBatch.spec (K : Nat) (a0 : List Int) (a1 : Int) (a2 : Int) (o : (List (Int × ByteArray)) × Int × Int) (h : spec.l7DrawBatch.f K a0 a1 a2 = some o) : Den.Spec Tryz.prog 34 [one (.ptr 0 0 0)] [some ⟨true, .cells [.sl 1 0 a0.length, .int .i64 a1, .int .i64 a2]⟩, some ⟨false, .ints .u8 a0⟩] (one (.sl 2 0 o.1.length)) [some ⟨true, .cells [.sl 1 0 a0.length, .int .i64 o.2.1, .int .i64 o.2.2]⟩, some ⟨false, .ints .u8 a0⟩, some ⟨true, .puts o.1⟩] := by
  unfold spec.l7DrawBatch.f at h
  obtain ⟨x1, e1, h⟩ := bind_some h
  obtain ⟨x2, e2, h⟩ := bind_some h
  obtain ⟨x3, e3, h⟩ := bind_some h
  rcases br_cases h with ⟨c1, h⟩ | ⟨c1, h⟩
  · obtain ⟨p1, h⟩ := ck_some h
    obtain ⟨p2, h⟩ := ck_some h
    obtain ⟨p3, h⟩ := ck_some h
    obtain rfl := Option.some.inj h
    exact Den.Spec.of_walk tab mixed Tryz.func34 (by kernel_rfl) [.call [(0, true), (1, false)] [] (one (.int .i64 x1.1)) [some ⟨true, .cells [.sl 1 0 a0.length, .int .i64 x1.2.1, .int .i64 x1.2.2]⟩, some ⟨false, .ints .u8 a0⟩], .loop [] [0, 3, 4, 5] [0, 1, 2] (.exit 0) (spec.l7DrawBatch.l0.e0 a0 x2), .call [(0, true), (1, false)] [] (one (.int .i64 x3.1)) [some ⟨true, .cells [.sl 1 0 a0.length, .int .i64 x3.2.1, .int .i64 x3.2.2]⟩, some ⟨false, .ints .u8 a0⟩], bT, bT] [] [0, 1, 4] (nd (spec.l1Below.spec a0 a1 a2 3 _ e1) (nd (spec.l7DrawBatch.l0.spec a0 K x1.2.1 x1.2.2 [] (w64 (1 + x1.1)) 0 _ e2) (nd (spec.l1Below.spec a0 x2.1 x2.2.1 20 _ e3) (nd c1 (nd (Int.le_refl 0) (nd p1 (nd p2 (n0 (nl x2.2.2 (nd p3 (n0 (nn 1 trivial)))))))))))) (by kernel_rfl)
  · rcases br_cases h with ⟨c2, h⟩ | ⟨c2, h⟩
    · obtain ⟨x4, e4, h⟩ := bind_some h
      obtain ⟨p1, h⟩ := ck_some h
      obtain ⟨p2, h⟩ := ck_some h
      obtain rfl := Option.some.inj h
      exact Den.Spec.eqd (r := one (.sl 2 0 x2.2.2.length)) (h' := [some ⟨true, .cells [.sl 1 0 a0.length, .int .i64 x4.2.1, .int .i64 x4.2.2]⟩, some ⟨false, .ints .u8 a0⟩, some ⟨true, .puts (x2.2.2.set 0 (x4.1, (x2.2.2.getD 0 (0, noVal)).2))⟩]) (Den.Spec.of_walk tab mixed Tryz.func34 (by kernel_rfl) [.call [(0, true), (1, false)] [] (one (.int .i64 x1.1)) [some ⟨true, .cells [.sl 1 0 a0.length, .int .i64 x1.2.1, .int .i64 x1.2.2]⟩, some ⟨false, .ints .u8 a0⟩], .loop [] [0, 3, 4, 5] [0, 1, 2] (.exit 0) (spec.l7DrawBatch.l0.e0 a0 x2), .call [(0, true), (1, false)] [] (one (.int .i64 x3.1)) [some ⟨true, .cells [.sl 1 0 a0.length, .int .i64 x3.2.1, .int .i64 x3.2.2]⟩, some ⟨false, .ints .u8 a0⟩], bF, bT, .call [(0, true), (1, false)] [(1, true)] (one (.int .i64 x4.1)) [some ⟨true, .cells [.sl 1 0 a0.length, .int .i64 x4.2.1, .int .i64 x4.2.2]⟩, some ⟨false, .ints .u8 a0⟩, some ⟨false, .ints .i64 [24, (-1)]⟩]] [] [0, 1, 2] (nd (spec.l1Below.spec a0 a1 a2 3 _ e1) (nd (spec.l7DrawBatch.l0.spec a0 K x1.2.1 x1.2.2 [] (w64 (1 + x1.1)) 0 _ e2) (nd (spec.l1Below.spec a0 x2.1 x2.2.1 20 _ e3) (nd c1 (nd c2 (nd (spec.l1PickInt.spec a0 x3.2.1 x3.2.2 [24, (-1)] _ e4) (n0 (nn 2 (nd (Int.le_refl 0) (nd p1 (nd p2 trivial))))))))))) (by kernel_rfl)) (by simp only [List.length_set, overL_length]) (by simp only [List.length_set, overL_length])
    · rcases br_cases h with ⟨c3, h⟩ | ⟨c3, h⟩
      · obtain rfl := Option.some.inj h
        exact Den.Spec.of_walk tab mixed Tryz.func34 (by kernel_rfl) [.call [(0, true), (1, false)] [] (one (.int .i64 x1.1)) [some ⟨true, .cells [.sl 1 0 a0.length, .int .i64 x1.2.1, .int .i64 x1.2.2]⟩, some ⟨false, .ints .u8 a0⟩], .loop [] [0, 3, 4, 5] [0, 1, 2] (.exit 0) (spec.l7DrawBatch.l0.e0 a0 x2), .call [(0, true), (1, false)] [] (one (.int .i64 x3.1)) [some ⟨true, .cells [.sl 1 0 a0.length, .int .i64 x3.2.1, .int .i64 x3.2.2]⟩, some ⟨false, .ints .u8 a0⟩], bF, bF, bT] [(2, [.puts])] [0, 1, 3] (nd (spec.l1Below.spec a0 a1 a2 3 _ e1) (nd (spec.l7DrawBatch.l0.spec a0 K x1.2.1 x1.2.2 [] (w64 (1 + x1.1)) 0 _ e2) (nd (spec.l1Below.spec a0 x2.1 x2.2.1 20 _ e3) (nd c1 (nd c2 (nd c3 trivial)))))) (by kernel_rfl)
      · rcases br_cases h with ⟨c4, h⟩ | ⟨c4, h⟩
        · obtain ⟨x4, e4, h⟩ := bind_some h
          obtain rfl := Option.some.inj h
          exact Den.Spec.of_walk tab mixed Tryz.func34 (by kernel_rfl) [.call [(0, true), (1, false)] [] (one (.int .i64 x1.1)) [some ⟨true, .cells [.sl 1 0 a0.length, .int .i64 x1.2.1, .int .i64 x1.2.2]⟩, some ⟨false, .ints .u8 a0⟩], .loop [] [0, 3, 4, 5] [0, 1, 2] (.exit 0) (spec.l7DrawBatch.l0.e0 a0 x2), .call [(0, true), (1, false)] [] (one (.int .i64 x3.1)) [some ⟨true, .cells [.sl 1 0 a0.length, .int .i64 x3.2.1, .int .i64 x3.2.2]⟩, some ⟨false, .ints .u8 a0⟩], bF, bF, bF, bT, .loop [] [0, 3] [0, 1, 2] (.exit 3) (spec.l7DrawBatch.l1.e0 a0 x4)] [] [0, 1, 2] (nd (spec.l1Below.spec a0 a1 a2 3 _ e1) (nd (spec.l7DrawBatch.l0.spec a0 K x1.2.1 x1.2.2 [] (w64 (1 + x1.1)) 0 _ e2) (nd (spec.l1Below.spec a0 x2.1 x2.2.1 20 _ e3) (nd c1 (nd c2 (nd c3 (nd c4 (nd (spec.l7DrawBatch.l1.spec a0 K x3.2.1 x3.2.2 x2.2.2 _ e4) trivial)))))))) (by kernel_rfl)
        · obtain rfl := Option.some.inj h
          exact Den.Spec.of_walk tab mixed Tryz.func34 (by kernel_rfl) [.call [(0, true), (1, false)] [] (one (.int .i64 x1.1)) [some ⟨true, .cells [.sl 1 0 a0.length, .int .i64 x1.2.1, .int .i64 x1.2.2]⟩, some ⟨false, .ints .u8 a0⟩], .loop [] [0, 3, 4, 5] [0, 1, 2] (.exit 0) (spec.l7DrawBatch.l0.e0 a0 x2), .call [(0, true), (1, false)] [] (one (.int .i64 x3.1)) [some ⟨true, .cells [.sl 1 0 a0.length, .int .i64 x3.2.1, .int .i64 x3.2.2]⟩, some ⟨false, .ints .u8 a0⟩], bF, bF, bF, bF] [] [0, 1, 2] (nd (spec.l1Below.spec a0 a1 a2 3 _ e1) (nd (spec.l7DrawBatch.l0.spec a0 K x1.2.1 x1.2.2 [] (w64 (1 + x1.1)) 0 _ e2) (nd (spec.l1Below.spec a0 x2.1 x2.2.1 20 _ e3) (nd c1 (nd c2 (nd c3 (nd c4 trivial))))))) (by kernel_rfl)
def spec.DrawLogText.f (K : Nat) (a0 : List Int) : Option ((List (Int × ByteArray))) :=
  Option.bind (spec.l1New.f K a0) fun x1 => Option.bind (spec.l7DrawBatch.f K a0 0 x1) fun x2 => some x2.1
theorem spec.DrawLogText.spec (K : Nat) (a0 : List Int) (o : (List (Int × ByteArray))) (h : spec.DrawLogText.f K a0 = some o) : Den.Spec Tryz.prog 7 [one (.sl 0 0 a0.length)] [some ⟨false, .ints .u8 a0⟩] (one (.sl 1 0 o.length)) [some ⟨false, .ints .u8 a0⟩, some ⟨true, .puts o⟩] := by
  unfold spec.DrawLogText.f at h
  obtain ⟨x1, e1, h⟩ := bind_some h
  obtain ⟨x2, e2, h⟩ := bind_some h
  obtain rfl := Option.some.inj h
  exact Den.Spec.of_walk tab mixed Tryz.func7 (by kernel_rfl) [.call [(0, false)] [] (one (.ptr 1 0 0)) [some ⟨false, .ints .u8 a0⟩, some ⟨true, .cells [.sl 0 0 a0.length, .int .i64 0, .int .i64 x1]⟩], .call [(1, true), (0, false)] [] (one (.sl 2 0 x2.1.length)) [some ⟨true, .cells [.sl 1 0 a0.length, .int .i64 x2.2.1, .int .i64 x2.2.2]⟩, some ⟨false, .ints .u8 a0⟩, some ⟨true, .puts x2.1⟩]] [] [0, 2] (nd (spec.l1New.spec K a0 _ e1) (nd (spec.l7DrawBatch.spec K a0 0 x1 _ e2) trivial)) (by kernel_rfl)
def impl.in_.f (a0 : Int) (a1 : Int) (a2 : Int) : Option (Bool) :=
  cond (decide (a0 ≥ a1)) (some (decide (a0 ≤ a2))) (some false)
theorem impl.in_.spec (a0 : Int) (a1 : Int) (a2 : Int) (o : Bool) (h : impl.in_.f a0 a1 a2 = some o) : Den.Spec Tryz.prog 54 [one (.int .i64 a0), one (.int .i64 a1), one (.int .i64 a2)] [] (one (.bool o)) [] := by
  unfold impl.in_.f at h
  rcases br_cases h with ⟨c1, h⟩ | ⟨c1, h⟩
  · obtain rfl := Option.some.inj h
    exact Den.Spec.of_walk tab mixed Tryz.func54 (by kernel_rfl) [bT, bT, bT, bT] [] [] (nd c1 (nd c1 (nd c1 (nd c1 trivial)))) (by kernel_rfl)
  · obtain rfl := Option.some.inj h
    exact Den.Spec.of_walk tab mixed Tryz.func54 (by kernel_rfl) [bF, bF, bF, bF] [] [] (nd c1 (nd c1 (nd c1 (nd c1 trivial)))) (by kernel_rfl)
def impl.isBatch_1.f (a0 : Int) (a1 : ByteArray) (a2 : Int) (a3 : ByteArray) : Option (Unit) :=
  some ()
theorem impl.isBatch_1.spec (a0 : Int) (a1 : ByteArray) (a2 : Int) (a3 : ByteArray) (o : Unit) (h : impl.isBatch_1.f a0 a1 a2 a3 = some o) : Den.Spec Tryz.prog 81 [.v (.agg [.int .i64 a0, .str a1]), one (.ptr 0 0 0)] [some ⟨false, .cells [.int .i64 a2, .str a3]⟩] (one (.bool (a0 == a2))) [some ⟨false, .cells [.int .i64 a2, .str a3]⟩] := by
  unfold impl.isBatch_1.f at h
  obtain rfl := Option.some.inj h
  exact Den.Spec.of_walk tab mixed Tryz.func81 (by kernel_rfl) [] [] [0] trivial (by kernel_rfl)
def slices.IndexFunc_impl.Put_impl.Put.l0.f (a0 : List (Int × ByteArray)) (a1 : Int) (a2 : ByteArray) : Nat → Int → Option (Int ⊕ Unit)
  | 0, _ => none
  | k + 1, v28_0 =>
    cond (decide (v28_0 < (a0.length : Int))) (ck (0 ≤ v28_0) (Option.bind (impl.isBatch_1.f ((a0.getD v28_0.toNat (0, noVal)).1) ((a0.getD v28_0.toNat (0, noVal)).2) a1 a2) fun x1 => cond (((a0.getD v28_0.toNat (0, noVal)).1) == a1) (some (.inl v28_0)) (slices.IndexFunc_impl.Put_impl.Put.l0.f a0 a1 a2 k (w64 (v28_0 + 1))))) (some (.inr (())))
def slices.IndexFunc_impl.Put_impl.Put.l0.s (a0 : List (Int × ByteArray)) (a1 : Int) (a2 : ByteArray) (v28_0 : Int) : St := mkSt 19 [(0, one (.sl 1 0 a0.length)), (1, one (.fn 81 [(0, 0, 0)])), (7, one (.int .i64 (a0.length : Int))), (8, one (.int .i64 v28_0))] [some ⟨false, .cells [.int .i64 a1, .str a2]⟩, some ⟨false, .puts a0⟩]
def slices.IndexFunc_impl.Put_impl.Put.l0.e0 (a0 : List (Int × ByteArray)) (a1 : Int) (a2 : ByteArray) (o : Int) : St := mkSt 19 [(4, one (.int .i64 o))] [some ⟨false, .cells [.int .i64 a1, .str a2]⟩, some ⟨false, .puts a0⟩]
def slices.IndexFunc_impl.Put_impl.Put.l0.e1 (a0 : List (Int × ByteArray)) (a1 : Int) (a2 : ByteArray) (o : Unit) : St := mkSt 19 [] [some ⟨false, .cells [.int .i64 a1, .str a2]⟩, some ⟨false, .puts a0⟩]
def slices.IndexFunc_impl.Put_impl.Put.l0.x (a0 : List (Int × ByteArray)) (a1 : Int) (a2 : ByteArray) : (Int ⊕ Unit) → AExit × St := Sum.elim (fun o => (.ret, slices.IndexFunc_impl.Put_impl.Put.l0.e0 a0 a1 a2 o)) (fun o => (.exit 0, slices.IndexFunc_impl.Put_impl.Put.l0.e1 a0 a1 a2 o))
theorem slices.IndexFunc_impl.Put_impl.Put.l0.spec (a0 : List (Int × ByteArray)) (a1 : Int) (a2 : ByteArray) : ∀ (k : Nat) (v28_0 : Int) (o : Int ⊕ Unit), slices.IndexFunc_impl.Put_impl.Put.l0.f a0 a1 a2 k v28_0 = some o → LoopSpec Tryz.prog 2 (loopN Tryz.f112 0) (slices.IndexFunc_impl.Put_impl.Put.l0.s a0 a1 a2 v28_0) (slices.IndexFunc_impl.Put_impl.Put.l0.x a0 a1 a2 o).1 (slices.IndexFunc_impl.Put_impl.Put.l0.x a0 a1 a2 o).2
  | 0, _, _, h => by cases h
  | k + 1, v28_0, o, h => by
    unfold slices.IndexFunc_impl.Put_impl.Put.l0.f at h
    rcases br_cases h with ⟨c1, h⟩ | ⟨c1, h⟩
    · obtain ⟨p1, h⟩ := ck_some h
      obtain ⟨x1, e1, h⟩ := bind_some h
      rcases br_cases h with ⟨c2, h⟩ | ⟨c2, h⟩
      · obtain rfl := Option.some.inj h
        exact .of_done tab mixed [bT, .call [(0, false)] [] (one (.bool (((a0.getD v28_0.toNat (0, noVal)).1) == a1))) [some ⟨false, .cells [.int .i64 a1, .str a2]⟩], bT] [] [4] [0, 1] rfl (nd c1 (nd p1 (nd (of_decide_eq_true c1) (nd (tn p1 (of_decide_eq_true c1)) (nd (impl.isBatch_1.spec ((a0.getD v28_0.toNat (0, noVal)).1) ((a0.getD v28_0.toNat (0, noVal)).2) a1 a2 _ e1) (nd c2 trivial)))))) (by kernel_rfl)
      · exact .of_step tab mixed [bT, .call [(0, false)] [] (one (.bool (((a0.getD v28_0.toNat (0, noVal)).1) == a1))) [some ⟨false, .cells [.int .i64 a1, .str a2]⟩], bF] [] [0, 1, 7, 8] [0, 1] (s1 := slices.IndexFunc_impl.Put_impl.Put.l0.s a0 a1 a2 (w64 (v28_0 + 1))) (nd c1 (nd p1 (nd (of_decide_eq_true c1) (nd (tn p1 (of_decide_eq_true c1)) (nd (impl.isBatch_1.spec ((a0.getD v28_0.toNat (0, noVal)).1) ((a0.getD v28_0.toNat (0, noVal)).2) a1 a2 _ e1) (nd c2 trivial)))))) (by kernel_rfl) (slices.IndexFunc_impl.Put_impl.Put.l0.spec a0 a1 a2 k (w64 (v28_0 + 1)) _ h)
    · obtain rfl := Option.some.inj h
      exact .of_done tab mixed [bF] [] [] [0, 1] rfl (nd c1 trivial) (by kernel_rfl)
def slices.IndexFunc_impl.Put_impl.Put.f (K : Nat) (a0 : List (Int × ByteArray)) (a1 : Int) (a2 : ByteArray) : Option (Int) :=
  Option.bind (slices.IndexFunc_impl.Put_impl.Put.l0.f a0 a1 a2 K 0) fun x1 => (Sum.elim (fun x1 => some x1) (fun x1 => some (-1))) x1
theorem slices.IndexFunc_impl.Put_impl.Put.spec (K : Nat) (a0 : List (Int × ByteArray)) (a1 : Int) (a2 : ByteArray) (o : Int) (h : slices.IndexFunc_impl.Put_impl.Put.f K a0 a1 a2 = some o) : Den.Spec Tryz.prog 112 [one (.sl 1 0 a0.length), one (.fn 81 [(0, 0, 0)])] [some ⟨false, .cells [.int .i64 a1, .str a2]⟩, some ⟨false, .puts a0⟩] (one (.int .i64 o)) [some ⟨false, .cells [.int .i64 a1, .str a2]⟩, some ⟨false, .puts a0⟩] := by
  unfold slices.IndexFunc_impl.Put_impl.Put.f at h
  obtain ⟨x1, e1, h⟩ := bind_some h
  rcases x1 with x1 | x1
  · obtain rfl := Option.some.inj h
    exact Den.Spec.of_walk tab mixed Tryz.func112 (by kernel_rfl) [.loop [] [0, 1, 7, 8] [0, 1] (.ret) (slices.IndexFunc_impl.Put_impl.Put.l0.e0 a0 a1 a2 x1)] [] [0, 1] (nd (slices.IndexFunc_impl.Put_impl.Put.l0.spec a0 a1 a2 K 0 _ e1) trivial) (by kernel_rfl)
  · obtain rfl := Option.some.inj h
    exact Den.Spec.of_walk tab mixed Tryz.func112 (by kernel_rfl) [.loop [] [0, 1, 7, 8] [0, 1] (.exit 0) (slices.IndexFunc_impl.Put_impl.Put.l0.e1 a0 a1 a2 x1)] [] [0, 1] (nd (slices.IndexFunc_impl.Put_impl.Put.l0.spec a0 a1 a2 K 0 _ e1) trivial) (by kernel_rfl)
def slices.ContainsFunc_impl.Put_impl.Put.f (K : Nat) (a0 : List (Int × ByteArray)) (a1 : Int) (a2 : ByteArray) : Option (Bool) :=
  Option.bind (slices.IndexFunc_impl.Put_impl.Put.f K a0 a1 a2) fun x1 => some (decide (x1 ≥ 0))
theorem slices.ContainsFunc_impl.Put_impl.Put.spec (K : Nat) (a0 : List (Int × ByteArray)) (a1 : Int) (a2 : ByteArray) (o : Bool) (h : slices.ContainsFunc_impl.Put_impl.Put.f K a0 a1 a2 = some o) : Den.Spec Tryz.prog 80 [one (.sl 1 0 a0.length), one (.fn 81 [(0, 0, 0)])] [some ⟨false, .cells [.int .i64 a1, .str a2]⟩, some ⟨false, .puts a0⟩] (one (.bool o)) [some ⟨false, .cells [.int .i64 a1, .str a2]⟩, some ⟨false, .puts a0⟩] := by
  unfold slices.ContainsFunc_impl.Put_impl.Put.f at h
  obtain ⟨x1, e1, h⟩ := bind_some h
  obtain rfl := Option.some.inj h
  exact Den.Spec.of_walk tab mixed Tryz.func80 (by kernel_rfl) [.call [(0, false)] [(0, true)] (one (.int .i64 x1)) [some ⟨false, .cells [.int .i64 a1, .str a2]⟩, some ⟨false, .puts a0⟩]] [] [0, 1] (nd (slices.IndexFunc_impl.Put_impl.Put.spec K a0 a1 a2 _ e1) (n0 (nl a0 trivial))) (by kernel_rfl)
def impl.isBatch.l0.f (K : Nat) (a0 : List (Int × ByteArray)) : Nat → Int → Option (Unit ⊕ Unit)
  | 0, _ => none
  | k + 1, v31_0 =>
    cond (decide (v31_0 < (a0.length : Int))) (ck (0 ≤ v31_0) (Option.bind (impl.in_.f ((a0.getD v31_0.toNat (0, noVal)).1) 0 23) fun x1 => cond (x1) (cond (decide ((((a0.getD v31_0.toNat (0, noVal)).2).size : Int) > 400)) (some (.inl ())) (ck (v31_0 ≤ (a0.length : Int)) (Option.bind (slices.ContainsFunc_impl.Put_impl.Put.f K ((a0.drop 0).take v31_0.toNat) ((a0.getD v31_0.toNat (0, noVal)).1) ((a0.getD v31_0.toNat (0, noVal)).2)) fun x2 => ck (0 + v31_0.toNat ≤ a0.length) (cond (x2) (some (.inl ())) (impl.isBatch.l0.f K a0 k (w64 (v31_0 + 1))))))) (some (.inl ())))) (some (.inr (())))
def impl.isBatch.l0.s (K : Nat) (a0 : List (Int × ByteArray)) (v31_0 : Int) : St := mkSt 33 [(0, one (.sl 0 0 a0.length)), (5, one (.sl 0 0 a0.length)), (6, one (.int .i64 (a0.length : Int))), (7, one (.int .i64 v31_0))] [some ⟨false, .puts a0⟩]
def impl.isBatch.l0.e0 (K : Nat) (a0 : List (Int × ByteArray)) (o : Unit) : St := mkSt 33 [(2, one (.bool false))] [some ⟨false, .puts a0⟩]
def impl.isBatch.l0.e1 (K : Nat) (a0 : List (Int × ByteArray)) (o : Unit) : St := mkSt 33 [(0, one (.sl 0 0 a0.length))] [some ⟨false, .puts a0⟩]
def impl.isBatch.l0.x (K : Nat) (a0 : List (Int × ByteArray)) : (Unit ⊕ Unit) → AExit × St := Sum.elim (fun o => (.ret, impl.isBatch.l0.e0 K a0 o)) (fun o => (.exit 0, impl.isBatch.l0.e1 K a0 o))
theorem impl.isBatch.l0.spec (K : Nat) (a0 : List (Int × ByteArray)) : ∀ (k : Nat) (v31_0 : Int) (o : Unit ⊕ Unit), impl.isBatch.l0.f K a0 k v31_0 = some o → LoopSpec Tryz.prog 1 (loopN Tryz.f36 0) (impl.isBatch.l0.s K a0 v31_0) (impl.isBatch.l0.x K a0 o).1 (impl.isBatch.l0.x K a0 o).2
  | 0, _, _, h => by cases h
  | k + 1, v31_0, o, h => by
    unfold impl.isBatch.l0.f at h
    rcases br_cases h with ⟨c1, h⟩ | ⟨c1, h⟩
    · obtain ⟨p1, h⟩ := ck_some h
      obtain ⟨x1, e1, h⟩ := bind_some h
      rcases br_cases h with ⟨c2, h⟩ | ⟨c2, h⟩
      · rcases br_cases h with ⟨c3, h⟩ | ⟨c3, h⟩
        · obtain rfl := Option.some.inj h
          exact .of_done tab mixed [bT, .call [] [] (one (.bool x1)) [], bF, bF, bF, bF, bF, bT, bT, bT, bT, bT, bT, bT] [] [2] [0] rfl (nd c1 (nd p1 (nd (of_decide_eq_true c1) (nd (tn p1 (of_decide_eq_true c1)) (nd (impl.in_.spec ((a0.getD v31_0.toNat (0, noVal)).1) 0 23 _ e1) (nd (nf c2) (nd (nf c2) (nd (nf c2) (nd (nf c2) (nd (nf c2) (nd c3 (nd c3 (nd c3 (nd c3 (nd c3 (nd c3 (nd tt trivial))))))))))))))))) (by kernel_rfl)
        · obtain ⟨p2, h⟩ := ck_some h
          obtain ⟨x2, e2, h⟩ := bind_some h
          obtain ⟨p3, h⟩ := ck_some h
          rcases br_cases h with ⟨c4, h⟩ | ⟨c4, h⟩
          · obtain rfl := Option.some.inj h
            exact .of_done tab mixed [bT, .call [] [] (one (.bool x1)) [], bF, bF, bF, bF, bF, bF, bF, bF, bF, bF, .call [(1, false)] [(0, false)] (one (.bool x2)) [some ⟨false, .cells [.int .i64 ((a0.getD v31_0.toNat (0, noVal)).1), .str ((a0.getD v31_0.toNat (0, noVal)).2)]⟩, some ⟨false, .puts ((a0.drop 0).take v31_0.toNat)⟩], bF, bT] [] [2] [0] rfl (nd c1 (nd p1 (nd (of_decide_eq_true c1) (nd (tn p1 (of_decide_eq_true c1)) (nd (impl.in_.spec ((a0.getD v31_0.toNat (0, noVal)).1) 0 23 _ e1) (nd (nf c2) (nd (nf c2) (nd (nf c2) (nd (nf c2) (nd (nf c2) (nd c3 (nd c3 (nd c3 (nd (Int.le_refl 0) (nd p1 (nd p2 (nd c3 (nd c3 (nd ((slices.ContainsFunc_impl.Put_impl.Put.spec K ((a0.drop 0).take v31_0.toNat) ((a0.getD v31_0.toNat (0, noVal)).1) ((a0.getD v31_0.toNat (0, noVal)).2) _ e2).args (congrArg (fun n => ([one (.sl 1 0 n), one (.fn 81 [(0, 0, 0)])] : List AV)) (win_len p3))) (nd c3 (nd c4 trivial))))))))))))))))))))) (by kernel_rfl)
          · exact .of_step tab mixed [bT, .call [] [] (one (.bool x1)) [], bF, bF, bF, bF, bF, bF, bF, bF, bF, bF, .call [(1, false)] [(0, false)] (one (.bool x2)) [some ⟨false, .cells [.int .i64 ((a0.getD v31_0.toNat (0, noVal)).1), .str ((a0.getD v31_0.toNat (0, noVal)).2)]⟩, some ⟨false, .puts ((a0.drop 0).take v31_0.toNat)⟩], bF, bF] [] [0, 5, 6, 7] [0] (s1 := impl.isBatch.l0.s K a0 (w64 (v31_0 + 1))) (nd c1 (nd p1 (nd (of_decide_eq_true c1) (nd (tn p1 (of_decide_eq_true c1)) (nd (impl.in_.spec ((a0.getD v31_0.toNat (0, noVal)).1) 0 23 _ e1) (nd (nf c2) (nd (nf c2) (nd (nf c2) (nd (nf c2) (nd (nf c2) (nd c3 (nd c3 (nd c3 (nd (Int.le_refl 0) (nd p1 (nd p2 (nd c3 (nd c3 (nd ((slices.ContainsFunc_impl.Put_impl.Put.spec K ((a0.drop 0).take v31_0.toNat) ((a0.getD v31_0.toNat (0, noVal)).1) ((a0.getD v31_0.toNat (0, noVal)).2) _ e2).args (congrArg (fun n => ([one (.sl 1 0 n), one (.fn 81 [(0, 0, 0)])] : List AV)) (win_len p3))) (nd c3 (nd c4 trivial))))))))))))))))))))) (by kernel_rfl) (impl.isBatch.l0.spec K a0 k (w64 (v31_0 + 1)) _ h)
      · obtain rfl := Option.some.inj h
        exact .of_done tab mixed [bT, .call [] [] (one (.bool x1)) [], bT, bT, bT, bT, bT, bT, bT, bT, bT, bT, bT, bT] [] [2] [0] rfl (nd c1 (nd p1 (nd (of_decide_eq_true c1) (nd (tn p1 (of_decide_eq_true c1)) (nd (impl.in_.spec ((a0.getD v31_0.toNat (0, noVal)).1) 0 23 _ e1) (nd (nt c2) (nd (nt c2) (nd (nt c2) (nd (nt c2) (nd (nt c2) (nd tt (nd tt (nd tt (nd tt (nd tt (nd tt (nd tt trivial))))))))))))))))) (by kernel_rfl)
    · obtain rfl := Option.some.inj h
      exact .of_done tab mixed [bF] [] [0] [0] rfl (nd c1 trivial) (by kernel_rfl)
def impl.isBatch.f (K : Nat) (a0 : List (Int × ByteArray)) : Option (Bool) :=
  Option.bind (impl.isBatch.l0.f K a0 K 0) fun x1 => (Sum.elim (fun x1 => some false) (fun x1 => some (decide ((a0.length : Int) ≤ 3)))) x1
theorem impl.isBatch.spec (K : Nat) (a0 : List (Int × ByteArray)) (o : Bool) (h : impl.isBatch.f K a0 = some o) : Den.Spec Tryz.prog 36 [one (.sl 0 0 a0.length)] [some ⟨false, .puts a0⟩] (one (.bool o)) [some ⟨false, .puts a0⟩] := by
  unfold impl.isBatch.f at h
  obtain ⟨x1, e1, h⟩ := bind_some h
  rcases x1 with x1 | x1
  · obtain rfl := Option.some.inj h
    exact Den.Spec.of_walk tab mixed Tryz.func36 (by kernel_rfl) [.loop [] [0, 5, 6, 7] [0] (.ret) (impl.isBatch.l0.e0 K a0 x1)] [] [0] (nd (impl.isBatch.l0.spec K a0 K 0 _ e1) trivial) (by kernel_rfl)
  · obtain rfl := Option.some.inj h
    exact Den.Spec.of_walk tab mixed Tryz.func36 (by kernel_rfl) [.loop [] [0, 5, 6, 7] [0] (.exit 0) (impl.isBatch.l0.e1 K a0 x1)] [] [0] (nd (impl.isBatch.l0.spec K a0 K 0 _ e1) trivial) (by kernel_rfl)
def impl.PutNum.l0.f : Nat → Int → (List Int) → Option (Int × (List Int))
  | 0, _, _ => none
  | k + 1, v34_0, v34_1 =>
    cond (decide (v34_0 > 127)) (ck ((v34_1 ++ [IntKind.u8.wrap (bits2 .i64 (· ||| ·) (bits2 .i64 (· &&& ·) v34_0 127) 128)]).length * 1 ≤ 70368744177664) (impl.PutNum.l0.f k (v34_0.fdiv (2 ^ 7)) (v34_1 ++ [IntKind.u8.wrap (bits2 .i64 (· ||| ·) (bits2 .i64 (· &&& ·) v34_0 127) 128)]))) (some (v34_0, v34_1))
def impl.PutNum.l0.s (v34_0 : Int) (v34_1 : List Int) : St := mkSt 24 [(0, one (.int .i64 v34_0)), (3, one (.sl 0 0 v34_1.length))] [some ⟨true, .ints .u8 v34_1⟩]
def impl.PutNum.l0.e0 (o : Int × (List Int)) : St := mkSt 24 [(0, one (.int .i64 o.1)), (3, one (.sl 0 0 o.2.length))] [some ⟨true, .ints .u8 o.2⟩]
def impl.PutNum.l0.x : (Int × (List Int)) → AExit × St := fun o => (.exit 0, impl.PutNum.l0.e0 o)
theorem impl.PutNum.l0.spec : ∀ (k : Nat) (v34_0 : Int) (v34_1 : List Int) (o : Int × (List Int)), impl.PutNum.l0.f k v34_0 v34_1 = some o → LoopSpec Tryz.prog 0 (loopN Tryz.f37 0) (impl.PutNum.l0.s v34_0 v34_1) (impl.PutNum.l0.x o).1 (impl.PutNum.l0.x o).2
  | 0, _, _, _, h => by cases h
  | k + 1, v34_0, v34_1, o, h => by
    unfold impl.PutNum.l0.f at h
    rcases br_cases h with ⟨c1, h⟩ | ⟨c1, h⟩
    · obtain ⟨p1, h⟩ := ck_some h
      exact .of_step tab mixed [bT, bT] [] [0, 3] [2] (s1 := impl.PutNum.l0.s (v34_0.fdiv (2 ^ 7)) (v34_1 ++ [IntKind.u8.wrap (bits2 .i64 (· ||| ·) (bits2 .i64 (· &&& ·) v34_0 127) 128)])) (nd c1 (n0 (nl v34_1 (nd p1 (n0 (nn 1 (nd (by decide : (0 : Int) ≤ 7) trivial))))))) (by kernel_rfl) (impl.PutNum.l0.spec k (v34_0.fdiv (2 ^ 7)) (v34_1 ++ [IntKind.u8.wrap (bits2 .i64 (· ||| ·) (bits2 .i64 (· &&& ·) v34_0 127) 128)]) _ h)
    · obtain rfl := Option.some.inj h
      exact .of_done tab mixed [bF] [] [0, 3] [0] rfl (nd c1 trivial) (by kernel_rfl)
def impl.PutNum.f (K : Nat) (a0 : Int) : Option ((List Int)) :=
  Option.bind (impl.in_.f a0 0 1000000000) fun x1 => cond (x1) (Option.bind (impl.PutNum.l0.f K a0 []) fun x2 => ck ((x2.2 ++ [IntKind.u8.wrap x2.1]).length * 1 ≤ 70368744177664) (some (x2.2 ++ [IntKind.u8.wrap x2.1]))) (some [])
theorem impl.PutNum.spec (K : Nat) (a0 : Int) (o : (List Int)) (h : impl.PutNum.f K a0 = some o) : Den.Spec Tryz.prog 37 [one (.int .i64 a0)] [] (one (.sl 0 0 o.length)) [some ⟨true, .ints .u8 o⟩] := by
  unfold impl.PutNum.f at h
  obtain ⟨x1, e1, h⟩ := bind_some h
  rcases br_cases h with ⟨c1, h⟩ | ⟨c1, h⟩
  · obtain ⟨x2, e2, h⟩ := bind_some h
    obtain ⟨p1, h⟩ := ck_some h
    obtain rfl := Option.some.inj h
    exact Den.Spec.of_walk tab mixed Tryz.func37 (by kernel_rfl) [.call [] [] (one (.bool x1)) [], bF, .loop [] [0, 3] [0] (.exit 0) (impl.PutNum.l0.e0 x2), bT] [] [2] (nd (impl.in_.spec a0 0 1000000000 _ e1) (nd (nf c1) (nd (impl.PutNum.l0.spec K a0 [] _ e2) (n0 (nl x2.2 (nd p1 (n0 (nn 1 trivial)))))))) (by kernel_rfl)
  · obtain rfl := Option.some.inj h
    exact Den.Spec.of_walk tab mixed Tryz.func37 (by kernel_rfl) [.call [] [] (one (.bool x1)) [], bT] [(2, [.ints .u8])] [0] (nd (impl.in_.spec a0 0 1000000000 _ e1) (nd (nt c1) trivial)) (by kernel_rfl)
def impl.PutText.f (K : Nat) (a0 : ByteArray) : Option ((List Int)) :=
  cond (decide ((a0.size : Int) > 400)) (some []) (Option.bind (impl.PutNum.f K (a0.size : Int)) fun x1 => ck ((x1 ++ (bytesL a0)).length * 1 ≤ 70368744177664) (some (x1 ++ (bytesL a0))))
theorem impl.PutText.spec (K : Nat) (a0 : ByteArray) (o : (List Int)) (h : impl.PutText.f K a0 = some o) : Den.Spec Tryz.prog 39 [one (.str a0)] [] (one (.sl 0 0 o.length)) [some ⟨true, .ints .u8 o⟩] := by
  unfold impl.PutText.f at h
  rcases br_cases h with ⟨c1, h⟩ | ⟨c1, h⟩
  · obtain rfl := Option.some.inj h
    exact Den.Spec.of_walk tab mixed Tryz.func39 (by kernel_rfl) [bT] [(2, [.ints .u8])] [0] (nd c1 trivial) (by kernel_rfl)
  · obtain ⟨x1, e1, h⟩ := bind_some h
    obtain ⟨p1, h⟩ := ck_some h
    obtain rfl := Option.some.inj h
    exact Den.Spec.of_walk tab mixed Tryz.func39 (by kernel_rfl) [bF, .call [] [] (one (.sl 0 0 x1.length)) (iT x1)] [] [1] (nd c1 (nd (impl.PutNum.spec K (a0.size : Int) _ e1) (n0 (nl x1 (nd p1 trivial))))) (by kernel_rfl)
def slices.Grow_byte_byte.f (a0 : Int) : Option ((List Int) × Nat) :=
  cond (decide (a0 < 0)) (none) (cond (decide ((w64 (a0 - 0)) > 0)) (ck (((w64 (a0 - 0)) * (1 : Int)) ≤ 70368744177664) (some (List.replicate (w64 (a0 - 0)).toNat (0 : Int), 0))) (some ([], 0)))
theorem slices.Grow_byte_byte.spec (a0 : Int) (o : (List Int) × Nat) (h : slices.Grow_byte_byte.f a0 = some o) : Den.Spec Tryz.prog 82 [one (.nil), one (.int .i64 a0)] [] (one (.sl 0 0 o.2)) [some ⟨true, .ints .u8 o.1⟩] := by
  unfold slices.Grow_byte_byte.f at h
  rcases br_cases h with ⟨c1, h⟩ | ⟨c1, h⟩
  · cases h
  · rcases br_cases h with ⟨c2, h⟩ | ⟨c2, h⟩
    · obtain ⟨p1, h⟩ := ck_some h
      obtain rfl := Option.some.inj h
      exact Den.Spec.of_walk tab mixed Tryz.func82 (by kernel_rfl) [bF, bT] [] [0] (nd c1 (nd c2 (nd (rfl : (0 : Int) = 0) (nd (rfl : (0 : Int) = 0) (nd (of_decide_eq_true c2) (nd p1 (nd (Int.le_refl 0) (nd (Int.le_refl 0) (nd (Int.natCast_nonneg ((List.replicate (w64 (a0 - 0)).toNat (0 : Int)).length)) trivial))))))))) (by kernel_rfl)
    · obtain rfl := Option.some.inj h
      exact Den.Spec.of_walk tab mixed Tryz.func82 (by kernel_rfl) [bF, bF] [(4, [.ints .u8])] [0] (nd c1 (nd c2 trivial)) (by kernel_rfl)
def slices.Concat_byte_byte.f (a0 : List Int) (a1 : List Int) (a2 : List Int) : Option ((List Int)) :=
  ck (0 < (3 : Int)) (cond (decide ((w64 (0 + (a0.length : Int))) < 0)) (none) (ck (1 < (3 : Int)) (cond (decide ((w64 ((w64 (0 + (a0.length : Int))) + (a1.length : Int))) < 0)) (none) (ck (2 < (3 : Int)) (cond (decide ((w64 ((w64 ((w64 (0 + (a0.length : Int))) + (a1.length : Int))) + (a2.length : Int))) < 0)) (none) (Option.bind (slices.Grow_byte_byte.f (w64 ((w64 ((w64 (0 + (a0.length : Int))) + (a1.length : Int))) + (a2.length : Int)))) fun x1 => ck (x1.2 ≤ x1.1.length) (ck ((((x1.1.drop 0).take x1.2) ++ a0).length * 1 ≤ 70368744177664) (ck (((((x1.1.drop 0).take x1.2) ++ a0) ++ a1).length * 1 ≤ 70368744177664) (ck ((((((x1.1.drop 0).take x1.2) ++ a0) ++ a1) ++ a2).length * 1 ≤ 70368744177664) (some (((((x1.1.drop 0).take x1.2) ++ a0) ++ a1) ++ a2)))))))))))
theorem slices.Concat_byte_byte.spec (a0 : List Int) (a1 : List Int) (a2 : List Int) (o : (List Int)) (h : slices.Concat_byte_byte.f a0 a1 a2 = some o) : Den.Spec Tryz.prog 38 [one (.sl 0 0 3)] [some ⟨false, .refs [.sl 1 0 a0.length, .sl 2 0 a1.length, .sl 3 0 a2.length]⟩, some ⟨false, .ints .u8 a0⟩, some ⟨false, .ints .u8 a1⟩, some ⟨false, .ints .u8 a2⟩] (one (.sl 4 0 o.length)) [some ⟨false, .refs [.sl 1 0 a0.length, .sl 2 0 a1.length, .sl 3 0 a2.length]⟩, some ⟨false, .ints .u8 a0⟩, some ⟨false, .ints .u8 a1⟩, some ⟨false, .ints .u8 a2⟩, some ⟨true, .ints .u8 o⟩] := by
  unfold slices.Concat_byte_byte.f at h
  obtain ⟨p1, h⟩ := ck_some h
  rcases br_cases h with ⟨c1, h⟩ | ⟨c1, h⟩
  · cases h
  · obtain ⟨p2, h⟩ := ck_some h
    rcases br_cases h with ⟨c2, h⟩ | ⟨c2, h⟩
    · cases h
    · obtain ⟨p3, h⟩ := ck_some h
      rcases br_cases h with ⟨c3, h⟩ | ⟨c3, h⟩
      · cases h
      · obtain ⟨x1, e1, h⟩ := bind_some h
        obtain ⟨p4, h⟩ := ck_some h
        obtain ⟨p5, h⟩ := ck_some h
        obtain ⟨p6, h⟩ := ck_some h
        obtain ⟨p7, h⟩ := ck_some h
        obtain rfl := Option.some.inj h
        exact Den.Spec.of_walk tab mixed Tryz.func38 (by kernel_rfl) [.loop [] [0, 3, 9, 10, 11] [0, 1, 2, 3] (.exit 0) (mkSt 36 [(0, one (.sl 0 0 3)), (3, one (.int .i64 (w64 ((w64 ((w64 (0 + (a0.length : Int))) + (a1.length : Int))) + (a2.length : Int)))))] [some ⟨false, .refs [.sl 1 0 a0.length, .sl 2 0 a1.length, .sl 3 0 a2.length]⟩, some ⟨false, .ints .u8 a0⟩, some ⟨false, .ints .u8 a1⟩, some ⟨false, .ints .u8 a2⟩]), .asis, .call [] [] (one (.sl 0 0 x1.2)) (iT x1.1), .loop [] [6, 25, 26, 27] [0, 1, 2, 3, 4] (.exit 2) (mkSt 36 [(6, one (.sl 4 0 ((((((x1.1.drop 0).take x1.2) ++ a0) ++ a1) ++ a2).length)))] [some ⟨false, .refs [.sl 1 0 a0.length, .sl 2 0 a1.length, .sl 3 0 a2.length]⟩, some ⟨false, .ints .u8 a0⟩, some ⟨false, .ints .u8 a1⟩, some ⟨false, .ints .u8 a2⟩, some ⟨true, .ints .u8 (((((x1.1.drop 0).take x1.2) ++ a0) ++ a1) ++ a2)⟩])] [] [0, 1, 2, 3, 4] (nd (LoopSpec.of_step tab mixed [bT, bF] [] [0, 3, 9, 10, 11] [0, 1, 2, 3] (s1 := mkSt 36 [(0, one (.sl 0 0 3)), (3, one (.int .i64 (w64 (0 + (a0.length : Int))))), (9, one (.sl 0 0 3)), (10, one (.int .i64 3)), (11, one (.int .i64 1))] [some ⟨false, .refs [.sl 1 0 a0.length, .sl 2 0 a1.length, .sl 3 0 a2.length]⟩, some ⟨false, .ints .u8 a0⟩, some ⟨false, .ints .u8 a1⟩, some ⟨false, .ints .u8 a2⟩]) (nd tt (nd (Int.le_refl 0) (nd p1 (nd c1 trivial)))) (by kernel_rfl) (LoopSpec.of_step tab mixed [bT, bF] [] [0, 3, 9, 10, 11] [0, 1, 2, 3] (s1 := mkSt 36 [(0, one (.sl 0 0 3)), (3, one (.int .i64 (w64 ((w64 (0 + (a0.length : Int))) + (a1.length : Int))))), (9, one (.sl 0 0 3)), (10, one (.int .i64 3)), (11, one (.int .i64 2))] [some ⟨false, .refs [.sl 1 0 a0.length, .sl 2 0 a1.length, .sl 3 0 a2.length]⟩, some ⟨false, .ints .u8 a0⟩, some ⟨false, .ints .u8 a1⟩, some ⟨false, .ints .u8 a2⟩]) (nd tt (nd (by decide : (0 : Int) ≤ 1) (nd p2 (nd c2 trivial)))) (by kernel_rfl) (LoopSpec.of_step tab mixed [bT, bF] [] [0, 3, 9, 10, 11] [0, 1, 2, 3] (s1 := mkSt 36 [(0, one (.sl 0 0 3)), (3, one (.int .i64 (w64 ((w64 ((w64 (0 + (a0.length : Int))) + (a1.length : Int))) + (a2.length : Int))))), (9, one (.sl 0 0 3)), (10, one (.int .i64 3)), (11, one (.int .i64 3))] [some ⟨false, .refs [.sl 1 0 a0.length, .sl 2 0 a1.length, .sl 3 0 a2.length]⟩, some ⟨false, .ints .u8 a0⟩, some ⟨false, .ints .u8 a1⟩, some ⟨false, .ints .u8 a2⟩]) (nd tt (nd (by decide : (0 : Int) ≤ 2) (nd p3 (nd c3 trivial)))) (by kernel_rfl) (LoopSpec.of_done tab mixed [bF] [] [0, 3] [0, 1, 2, 3] rfl (nd ff trivial) (by kernel_rfl) : LoopSpec Tryz.prog 4 (loopN Tryz.f38 0) (mkSt 36 [(0, one (.sl 0 0 3)), (3, one (.int .i64 (w64 ((w64 ((w64 (0 + (a0.length : Int))) + (a1.length : Int))) + (a2.length : Int))))), (9, one (.sl 0 0 3)), (10, one (.int .i64 3)), (11, one (.int .i64 3))] [some ⟨false, .refs [.sl 1 0 a0.length, .sl 2 0 a1.length, .sl 3 0 a2.length]⟩, some ⟨false, .ints .u8 a0⟩, some ⟨false, .ints .u8 a1⟩, some ⟨false, .ints .u8 a2⟩]) (.exit 0) (mkSt 36 [(0, one (.sl 0 0 3)), (3, one (.int .i64 (w64 ((w64 ((w64 (0 + (a0.length : Int))) + (a1.length : Int))) + (a2.length : Int)))))] [some ⟨false, .refs [.sl 1 0 a0.length, .sl 2 0 a1.length, .sl 3 0 a2.length]⟩, some ⟨false, .ints .u8 a0⟩, some ⟨false, .ints .u8 a1⟩, some ⟨false, .ints .u8 a2⟩])) : LoopSpec Tryz.prog 4 (loopN Tryz.f38 0) (mkSt 36 [(0, one (.sl 0 0 3)), (3, one (.int .i64 (w64 ((w64 (0 + (a0.length : Int))) + (a1.length : Int))))), (9, one (.sl 0 0 3)), (10, one (.int .i64 3)), (11, one (.int .i64 2))] [some ⟨false, .refs [.sl 1 0 a0.length, .sl 2 0 a1.length, .sl 3 0 a2.length]⟩, some ⟨false, .ints .u8 a0⟩, some ⟨false, .ints .u8 a1⟩, some ⟨false, .ints .u8 a2⟩]) (.exit 0) (mkSt 36 [(0, one (.sl 0 0 3)), (3, one (.int .i64 (w64 ((w64 ((w64 (0 + (a0.length : Int))) + (a1.length : Int))) + (a2.length : Int)))))] [some ⟨false, .refs [.sl 1 0 a0.length, .sl 2 0 a1.length, .sl 3 0 a2.length]⟩, some ⟨false, .ints .u8 a0⟩, some ⟨false, .ints .u8 a1⟩, some ⟨false, .ints .u8 a2⟩])) : LoopSpec Tryz.prog 4 (loopN Tryz.f38 0) (mkSt 36 [(0, one (.sl 0 0 3)), (3, one (.int .i64 (w64 (0 + (a0.length : Int))))), (9, one (.sl 0 0 3)), (10, one (.int .i64 3)), (11, one (.int .i64 1))] [some ⟨false, .refs [.sl 1 0 a0.length, .sl 2 0 a1.length, .sl 3 0 a2.length]⟩, some ⟨false, .ints .u8 a0⟩, some ⟨false, .ints .u8 a1⟩, some ⟨false, .ints .u8 a2⟩]) (.exit 0) (mkSt 36 [(0, one (.sl 0 0 3)), (3, one (.int .i64 (w64 ((w64 ((w64 (0 + (a0.length : Int))) + (a1.length : Int))) + (a2.length : Int)))))] [some ⟨false, .refs [.sl 1 0 a0.length, .sl 2 0 a1.length, .sl 3 0 a2.length]⟩, some ⟨false, .ints .u8 a0⟩, some ⟨false, .ints .u8 a1⟩, some ⟨false, .ints .u8 a2⟩])) : LoopSpec Tryz.prog 4 (loopN Tryz.f38 0) (mkSt 36 [(0, one (.sl 0 0 3)), (3, one (.int .i64 0)), (9, one (.sl 0 0 3)), (10, one (.int .i64 3)), (11, one (.int .i64 0))] [some ⟨false, .refs [.sl 1 0 a0.length, .sl 2 0 a1.length, .sl 3 0 a2.length]⟩, some ⟨false, .ints .u8 a0⟩, some ⟨false, .ints .u8 a1⟩, some ⟨false, .ints .u8 a2⟩]) (.exit 0) (mkSt 36 [(0, one (.sl 0 0 3)), (3, one (.int .i64 (w64 ((w64 ((w64 (0 + (a0.length : Int))) + (a1.length : Int))) + (a2.length : Int)))))] [some ⟨false, .refs [.sl 1 0 a0.length, .sl 2 0 a1.length, .sl 3 0 a2.length]⟩, some ⟨false, .ints .u8 a0⟩, some ⟨false, .ints .u8 a1⟩, some ⟨false, .ints .u8 a2⟩])) (nd (slices.Grow_byte_byte.spec (w64 ((w64 ((w64 (0 + (a0.length : Int))) + (a1.length : Int))) + (a2.length : Int))) _ e1) (nd (LoopSpec.of_step tab mixed [bT, bT, .cut] [] [6, 25, 26, 27] [0, 1, 2, 3, 5] (s1 := mkSt 36 [(6, one (.sl 4 0 ((((x1.1.drop 0).take x1.2) ++ a0).length))), (25, one (.sl 0 0 3)), (26, one (.int .i64 3)), (27, one (.int .i64 1))] [some ⟨false, .refs [.sl 1 0 a0.length, .sl 2 0 a1.length, .sl 3 0 a2.length]⟩, some ⟨false, .ints .u8 a0⟩, some ⟨false, .ints .u8 a1⟩, some ⟨false, .ints .u8 a2⟩, some ⟨true, .ints .u8 (((x1.1.drop 0).take x1.2) ++ a0)⟩]) (nd tt (nd (Int.le_refl 0) (nd p1 (n0 (nd p4 (nd p5 (n0 (nl a0 trivial)))))))) (by kernel_rfl) (LoopSpec.of_step tab mixed [bT, bT] [] [6, 25, 26, 27] [0, 1, 2, 3, 5] (s1 := mkSt 36 [(6, one (.sl 4 0 (((((x1.1.drop 0).take x1.2) ++ a0) ++ a1).length))), (25, one (.sl 0 0 3)), (26, one (.int .i64 3)), (27, one (.int .i64 2))] [some ⟨false, .refs [.sl 1 0 a0.length, .sl 2 0 a1.length, .sl 3 0 a2.length]⟩, some ⟨false, .ints .u8 a0⟩, some ⟨false, .ints .u8 a1⟩, some ⟨false, .ints .u8 a2⟩, some ⟨true, .ints .u8 ((((x1.1.drop 0).take x1.2) ++ a0) ++ a1)⟩]) (nd tt (nd (by decide : (0 : Int) ≤ 1) (nd p2 (n0 (nd (rfl : (((x1.1.drop 0).take x1.2) ++ a0).length = (((x1.1.drop 0).take x1.2) ++ a0).length) (nd p6 (n0 (nl a1 trivial)))))))) (by kernel_rfl) (LoopSpec.of_step tab mixed [bT, bT] [] [6, 25, 26, 27] [0, 1, 2, 3, 5] (s1 := mkSt 36 [(6, one (.sl 4 0 ((((((x1.1.drop 0).take x1.2) ++ a0) ++ a1) ++ a2).length))), (25, one (.sl 0 0 3)), (26, one (.int .i64 3)), (27, one (.int .i64 3))] [some ⟨false, .refs [.sl 1 0 a0.length, .sl 2 0 a1.length, .sl 3 0 a2.length]⟩, some ⟨false, .ints .u8 a0⟩, some ⟨false, .ints .u8 a1⟩, some ⟨false, .ints .u8 a2⟩, some ⟨true, .ints .u8 (((((x1.1.drop 0).take x1.2) ++ a0) ++ a1) ++ a2)⟩]) (nd tt (nd (by decide : (0 : Int) ≤ 2) (nd p3 (n0 (nd (rfl : ((((x1.1.drop 0).take x1.2) ++ a0) ++ a1).length = ((((x1.1.drop 0).take x1.2) ++ a0) ++ a1).length) (nd p7 (n0 (nl a2 trivial)))))))) (by kernel_rfl) (LoopSpec.of_done tab mixed [bF] [] [6] [0, 1, 2, 3, 4] rfl (nd ff trivial) (by kernel_rfl) : LoopSpec Tryz.prog 4 (loopN Tryz.f38 1) (mkSt 36 [(6, one (.sl 4 0 ((((((x1.1.drop 0).take x1.2) ++ a0) ++ a1) ++ a2).length))), (25, one (.sl 0 0 3)), (26, one (.int .i64 3)), (27, one (.int .i64 3))] [some ⟨false, .refs [.sl 1 0 a0.length, .sl 2 0 a1.length, .sl 3 0 a2.length]⟩, some ⟨false, .ints .u8 a0⟩, some ⟨false, .ints .u8 a1⟩, some ⟨false, .ints .u8 a2⟩, some ⟨true, .ints .u8 (((((x1.1.drop 0).take x1.2) ++ a0) ++ a1) ++ a2)⟩]) (.exit 2) (mkSt 36 [(6, one (.sl 4 0 ((((((x1.1.drop 0).take x1.2) ++ a0) ++ a1) ++ a2).length)))] [some ⟨false, .refs [.sl 1 0 a0.length, .sl 2 0 a1.length, .sl 3 0 a2.length]⟩, some ⟨false, .ints .u8 a0⟩, some ⟨false, .ints .u8 a1⟩, some ⟨false, .ints .u8 a2⟩, some ⟨true, .ints .u8 (((((x1.1.drop 0).take x1.2) ++ a0) ++ a1) ++ a2)⟩])) : LoopSpec Tryz.prog 4 (loopN Tryz.f38 1) (mkSt 36 [(6, one (.sl 4 0 (((((x1.1.drop 0).take x1.2) ++ a0) ++ a1).length))), (25, one (.sl 0 0 3)), (26, one (.int .i64 3)), (27, one (.int .i64 2))] [some ⟨false, .refs [.sl 1 0 a0.length, .sl 2 0 a1.length, .sl 3 0 a2.length]⟩, some ⟨false, .ints .u8 a0⟩, some ⟨false, .ints .u8 a1⟩, some ⟨false, .ints .u8 a2⟩, some ⟨true, .ints .u8 ((((x1.1.drop 0).take x1.2) ++ a0) ++ a1)⟩]) (.exit 2) (mkSt 36 [(6, one (.sl 4 0 ((((((x1.1.drop 0).take x1.2) ++ a0) ++ a1) ++ a2).length)))] [some ⟨false, .refs [.sl 1 0 a0.length, .sl 2 0 a1.length, .sl 3 0 a2.length]⟩, some ⟨false, .ints .u8 a0⟩, some ⟨false, .ints .u8 a1⟩, some ⟨false, .ints .u8 a2⟩, some ⟨true, .ints .u8 (((((x1.1.drop 0).take x1.2) ++ a0) ++ a1) ++ a2)⟩])) : LoopSpec Tryz.prog 4 (loopN Tryz.f38 1) (mkSt 36 [(6, one (.sl 4 0 ((((x1.1.drop 0).take x1.2) ++ a0).length))), (25, one (.sl 0 0 3)), (26, one (.int .i64 3)), (27, one (.int .i64 1))] [some ⟨false, .refs [.sl 1 0 a0.length, .sl 2 0 a1.length, .sl 3 0 a2.length]⟩, some ⟨false, .ints .u8 a0⟩, some ⟨false, .ints .u8 a1⟩, some ⟨false, .ints .u8 a2⟩, some ⟨true, .ints .u8 (((x1.1.drop 0).take x1.2) ++ a0)⟩]) (.exit 2) (mkSt 36 [(6, one (.sl 4 0 ((((((x1.1.drop 0).take x1.2) ++ a0) ++ a1) ++ a2).length)))] [some ⟨false, .refs [.sl 1 0 a0.length, .sl 2 0 a1.length, .sl 3 0 a2.length]⟩, some ⟨false, .ints .u8 a0⟩, some ⟨false, .ints .u8 a1⟩, some ⟨false, .ints .u8 a2⟩, some ⟨true, .ints .u8 (((((x1.1.drop 0).take x1.2) ++ a0) ++ a1) ++ a2)⟩])) : LoopSpec Tryz.prog 4 (loopN Tryz.f38 1) (mkSt 36 [(6, one (.sl 4 0 x1.2)), (25, one (.sl 0 0 3)), (26, one (.int .i64 3)), (27, one (.int .i64 0))] [some ⟨false, .refs [.sl 1 0 a0.length, .sl 2 0 a1.length, .sl 3 0 a2.length]⟩, some ⟨false, .ints .u8 a0⟩, some ⟨false, .ints .u8 a1⟩, some ⟨false, .ints .u8 a2⟩, some ⟨true, .ints .u8 x1.1⟩]) (.exit 2) (mkSt 36 [(6, one (.sl 4 0 ((((((x1.1.drop 0).take x1.2) ++ a0) ++ a1) ++ a2).length)))] [some ⟨false, .refs [.sl 1 0 a0.length, .sl 2 0 a1.length, .sl 3 0 a2.length]⟩, some ⟨false, .ints .u8 a0⟩, some ⟨false, .ints .u8 a1⟩, some ⟨false, .ints .u8 a2⟩, some ⟨true, .ints .u8 (((((x1.1.drop 0).take x1.2) ++ a0) ++ a1) ++ a2)⟩])) trivial))) (by kernel_rfl)
def impl.LogText.l0.f (K : Nat) (a0 : List (Int × ByteArray)) : Nat → (List Int) → Int → Option ((List Int))
  | 0, _, _ => none
  | k + 1, v45_0, v45_1 =>
    cond (decide (v45_1 < (a0.length : Int))) (ck (0 ≤ v45_1) (Option.bind (impl.PutNum.f K ((a0.getD v45_1.toNat (0, noVal)).1)) fun x1 => Option.bind (impl.PutText.f K ((a0.getD v45_1.toNat (0, noVal)).2)) fun x2 => Option.bind (slices.Concat_byte_byte.f v45_0 x1 x2) fun x3 => impl.LogText.l0.f K a0 k x3 (w64 (v45_1 + 1)))) (some v45_0)
def impl.LogText.l0.s (K : Nat) (a0 : List (Int × ByteArray)) (v45_0 : List Int) (v45_1 : Int) : St := mkSt 40 [(3, one (.sl 1 0 v45_0.length)), (18, one (.sl 0 0 a0.length)), (19, one (.int .i64 (a0.length : Int))), (20, one (.int .i64 v45_1))] [some ⟨false, .puts a0⟩, some ⟨true, .ints .u8 v45_0⟩]
def impl.LogText.l0.e0 (K : Nat) (a0 : List (Int × ByteArray)) (o : (List Int)) : St := mkSt 40 [(3, one (.sl 1 0 o.length))] [some ⟨false, .puts a0⟩, some ⟨true, .ints .u8 o⟩]
def impl.LogText.l0.x (K : Nat) (a0 : List (Int × ByteArray)) : ((List Int)) → AExit × St := fun o => (.exit 0, impl.LogText.l0.e0 K a0 o)
theorem impl.LogText.l0.spec (K : Nat) (a0 : List (Int × ByteArray)) : ∀ (k : Nat) (v45_0 : List Int) (v45_1 : Int) (o : (List Int)), impl.LogText.l0.f K a0 k v45_0 v45_1 = some o → LoopSpec Tryz.prog 1 (loopN Tryz.f8 0) (impl.LogText.l0.s K a0 v45_0 v45_1) (impl.LogText.l0.x K a0 o).1 (impl.LogText.l0.x K a0 o).2
  | 0, _, _, _, h => by cases h
  | k + 1, v45_0, v45_1, o, h => by
    unfold impl.LogText.l0.f at h
    rcases br_cases h with ⟨c1, h⟩ | ⟨c1, h⟩
    · obtain ⟨p1, h⟩ := ck_some h
      obtain ⟨x1, e1, h⟩ := bind_some h
      obtain ⟨x2, e2, h⟩ := bind_some h
      obtain ⟨x3, e3, h⟩ := bind_some h
      exact .of_step tab mixed [bT, .call [] [] (one (.sl 0 0 x1.length)) (iT x1), .call [] [] (one (.sl 0 0 x2.length)) (iT x2), .call [(59, false), (1, false), (27, false), (51, false)] [] (one (.sl 4 0 x3.length)) [some ⟨false, .refs [.sl 1 0 v45_0.length, .sl 2 0 x1.length, .sl 3 0 x2.length]⟩, some ⟨false, .ints .u8 v45_0⟩, some ⟨false, .ints .u8 x1⟩, some ⟨false, .ints .u8 x2⟩, some ⟨true, .ints .u8 x3⟩]] [] [3, 18, 19, 20] [0, 67] (s1 := impl.LogText.l0.s K a0 x3 (w64 (v45_1 + 1))) (nd c1 (nd p1 (nd (of_decide_eq_true c1) (nd (tn p1 (of_decide_eq_true c1)) (nd (impl.PutNum.spec K ((a0.getD v45_1.toNat (0, noVal)).1) _ e1) (nd (impl.PutText.spec K ((a0.getD v45_1.toNat (0, noVal)).2) _ e2) (nd (slices.Concat_byte_byte.spec v45_0 x1 x2 _ e3) trivial))))))) (by kernel_rfl) (impl.LogText.l0.spec K a0 k x3 (w64 (v45_1 + 1)) _ h)
    · obtain rfl := Option.some.inj h
      exact .of_done tab mixed [bF] [] [3] [0, 1] rfl (nd c1 trivial) (by kernel_rfl)
def impl.Sum.l0.f (a0 : List Int) : Nat → Int → Int → Option (Int)
  | 0, _, _ => none
  | k + 1, v41_0, v41_1 =>
    cond (decide (v41_1 < (a0.length : Int))) (ck (0 ≤ v41_1) (impl.Sum.l0.f a0 k ((w64 ((w64 (31 * v41_0)) + (w64 (a0.getD v41_1.toNat 0)))).tmod 1000003) (w64 (v41_1 + 1)))) (some v41_0)
def impl.Sum.l0.s (a0 : List Int) (v41_0 : Int) (v41_1 : Int) : St := mkSt 20 [(3, one (.int .i64 v41_0)), (6, one (.sl 0 0 a0.length)), (7, one (.int .i64 (a0.length : Int))), (8, one (.int .i64 v41_1))] [some ⟨false, .ints .u8 a0⟩]
def impl.Sum.l0.e0 (a0 : List Int) (o : Int) : St := mkSt 20 [(3, one (.int .i64 o))] [some ⟨false, .ints .u8 a0⟩]
def impl.Sum.l0.x (a0 : List Int) : (Int) → AExit × St := fun o => (.exit 0, impl.Sum.l0.e0 a0 o)
theorem impl.Sum.l0.spec (a0 : List Int) : ∀ (k : Nat) (v41_0 : Int) (v41_1 : Int) (o : Int), impl.Sum.l0.f a0 k v41_0 v41_1 = some o → LoopSpec Tryz.prog 1 (loopN Tryz.f83 0) (impl.Sum.l0.s a0 v41_0 v41_1) (impl.Sum.l0.x a0 o).1 (impl.Sum.l0.x a0 o).2
  | 0, _, _, _, h => by cases h
  | k + 1, v41_0, v41_1, o, h => by
    unfold impl.Sum.l0.f at h
    rcases br_cases h with ⟨c1, h⟩ | ⟨c1, h⟩
    · obtain ⟨p1, h⟩ := ck_some h
      exact .of_step tab mixed [bT] [] [3, 6, 7, 8] [0] (s1 := impl.Sum.l0.s a0 ((w64 ((w64 (31 * v41_0)) + (w64 (a0.getD v41_1.toNat 0)))).tmod 1000003) (w64 (v41_1 + 1))) (nd c1 (nd p1 (nd (of_decide_eq_true c1) (nd (tn p1 (of_decide_eq_true c1)) (nd (by decide : (1000003 : Int) ≠ 0) trivial))))) (by kernel_rfl) (impl.Sum.l0.spec a0 k ((w64 ((w64 (31 * v41_0)) + (w64 (a0.getD v41_1.toNat 0)))).tmod 1000003) (w64 (v41_1 + 1)) _ h)
    · obtain rfl := Option.some.inj h
      exact .of_done tab mixed [bF] [] [3] [0] rfl (nd c1 trivial) (by kernel_rfl)
def impl.Sum.f (K : Nat) (a0 : List Int) : Option (Int) :=
  Option.bind (impl.Sum.l0.f a0 K 7 0) fun x1 => some x1
theorem impl.Sum.spec (K : Nat) (a0 : List Int) (o : Int) (h : impl.Sum.f K a0 = some o) : Den.Spec Tryz.prog 83 [one (.sl 0 0 a0.length)] [some ⟨false, .ints .u8 a0⟩] (one (.int .i64 o)) [some ⟨false, .ints .u8 a0⟩] := by
  unfold impl.Sum.f at h
  obtain ⟨x1, e1, h⟩ := bind_some h
  obtain rfl := Option.some.inj h
  exact Den.Spec.of_walk tab mixed Tryz.func83 (by kernel_rfl) [.loop [] [3, 6, 7, 8] [0] (.exit 0) (impl.Sum.l0.e0 a0 x1)] [] [0] (nd (impl.Sum.l0.spec a0 K 7 0 _ e1) trivial) (by kernel_rfl)
def slices.Concat_byte_byte_1.f (a0 : List Int) (a1 : List Int) : Option ((List Int)) :=
  ck (0 < (2 : Int)) (cond (decide ((w64 (0 + (a0.length : Int))) < 0)) (none) (ck (1 < (2 : Int)) (cond (decide ((w64 ((w64 (0 + (a0.length : Int))) + (a1.length : Int))) < 0)) (none) (Option.bind (slices.Grow_byte_byte.f (w64 ((w64 (0 + (a0.length : Int))) + (a1.length : Int)))) fun x1 => ck (x1.2 ≤ x1.1.length) (ck ((((x1.1.drop 0).take x1.2) ++ a0).length * 1 ≤ 70368744177664) (ck (((((x1.1.drop 0).take x1.2) ++ a0) ++ a1).length * 1 ≤ 70368744177664) (some ((((x1.1.drop 0).take x1.2) ++ a0) ++ a1))))))))
theorem slices.Concat_byte_byte_1.spec (a0 : List Int) (a1 : List Int) (o : (List Int)) (h : slices.Concat_byte_byte_1.f a0 a1 = some o) : Den.Spec Tryz.prog 38 [one (.sl 0 0 2)] [some ⟨false, .refs [.sl 1 0 a0.length, .sl 2 0 a1.length]⟩, some ⟨false, .ints .u8 a0⟩, some ⟨false, .ints .u8 a1⟩] (one (.sl 3 0 o.length)) [some ⟨false, .refs [.sl 1 0 a0.length, .sl 2 0 a1.length]⟩, some ⟨false, .ints .u8 a0⟩, some ⟨false, .ints .u8 a1⟩, some ⟨true, .ints .u8 o⟩] := by
  unfold slices.Concat_byte_byte_1.f at h
  obtain ⟨p1, h⟩ := ck_some h
  rcases br_cases h with ⟨c1, h⟩ | ⟨c1, h⟩
  · cases h
  · obtain ⟨p2, h⟩ := ck_some h
    rcases br_cases h with ⟨c2, h⟩ | ⟨c2, h⟩
    · cases h
    · obtain ⟨x1, e1, h⟩ := bind_some h
      obtain ⟨p3, h⟩ := ck_some h
      obtain ⟨p4, h⟩ := ck_some h
      obtain ⟨p5, h⟩ := ck_some h
      obtain rfl := Option.some.inj h
      exact Den.Spec.of_walk tab mixed Tryz.func38 (by kernel_rfl) [.loop [] [0, 3, 9, 10, 11] [0, 1, 2] (.exit 0) (mkSt 36 [(0, one (.sl 0 0 2)), (3, one (.int .i64 (w64 ((w64 (0 + (a0.length : Int))) + (a1.length : Int)))))] [some ⟨false, .refs [.sl 1 0 a0.length, .sl 2 0 a1.length]⟩, some ⟨false, .ints .u8 a0⟩, some ⟨false, .ints .u8 a1⟩]), .asis, .call [] [] (one (.sl 0 0 x1.2)) (iT x1.1), .loop [] [6, 25, 26, 27] [0, 1, 2, 3] (.exit 2) (mkSt 36 [(6, one (.sl 3 0 (((((x1.1.drop 0).take x1.2) ++ a0) ++ a1).length)))] [some ⟨false, .refs [.sl 1 0 a0.length, .sl 2 0 a1.length]⟩, some ⟨false, .ints .u8 a0⟩, some ⟨false, .ints .u8 a1⟩, some ⟨true, .ints .u8 ((((x1.1.drop 0).take x1.2) ++ a0) ++ a1)⟩])] [] [0, 1, 2, 3] (nd (LoopSpec.of_step tab mixed [bT, bF] [] [0, 3, 9, 10, 11] [0, 1, 2] (s1 := mkSt 36 [(0, one (.sl 0 0 2)), (3, one (.int .i64 (w64 (0 + (a0.length : Int))))), (9, one (.sl 0 0 2)), (10, one (.int .i64 2)), (11, one (.int .i64 1))] [some ⟨false, .refs [.sl 1 0 a0.length, .sl 2 0 a1.length]⟩, some ⟨false, .ints .u8 a0⟩, some ⟨false, .ints .u8 a1⟩]) (nd tt (nd (Int.le_refl 0) (nd p1 (nd c1 trivial)))) (by kernel_rfl) (LoopSpec.of_step tab mixed [bT, bF] [] [0, 3, 9, 10, 11] [0, 1, 2] (s1 := mkSt 36 [(0, one (.sl 0 0 2)), (3, one (.int .i64 (w64 ((w64 (0 + (a0.length : Int))) + (a1.length : Int))))), (9, one (.sl 0 0 2)), (10, one (.int .i64 2)), (11, one (.int .i64 2))] [some ⟨false, .refs [.sl 1 0 a0.length, .sl 2 0 a1.length]⟩, some ⟨false, .ints .u8 a0⟩, some ⟨false, .ints .u8 a1⟩]) (nd tt (nd (by decide : (0 : Int) ≤ 1) (nd p2 (nd c2 trivial)))) (by kernel_rfl) (LoopSpec.of_done tab mixed [bF] [] [0, 3] [0, 1, 2] rfl (nd ff trivial) (by kernel_rfl) : LoopSpec Tryz.prog 3 (loopN Tryz.f38 0) (mkSt 36 [(0, one (.sl 0 0 2)), (3, one (.int .i64 (w64 ((w64 (0 + (a0.length : Int))) + (a1.length : Int))))), (9, one (.sl 0 0 2)), (10, one (.int .i64 2)), (11, one (.int .i64 2))] [some ⟨false, .refs [.sl 1 0 a0.length, .sl 2 0 a1.length]⟩, some ⟨false, .ints .u8 a0⟩, some ⟨false, .ints .u8 a1⟩]) (.exit 0) (mkSt 36 [(0, one (.sl 0 0 2)), (3, one (.int .i64 (w64 ((w64 (0 + (a0.length : Int))) + (a1.length : Int)))))] [some ⟨false, .refs [.sl 1 0 a0.length, .sl 2 0 a1.length]⟩, some ⟨false, .ints .u8 a0⟩, some ⟨false, .ints .u8 a1⟩])) : LoopSpec Tryz.prog 3 (loopN Tryz.f38 0) (mkSt 36 [(0, one (.sl 0 0 2)), (3, one (.int .i64 (w64 (0 + (a0.length : Int))))), (9, one (.sl 0 0 2)), (10, one (.int .i64 2)), (11, one (.int .i64 1))] [some ⟨false, .refs [.sl 1 0 a0.length, .sl 2 0 a1.length]⟩, some ⟨false, .ints .u8 a0⟩, some ⟨false, .ints .u8 a1⟩]) (.exit 0) (mkSt 36 [(0, one (.sl 0 0 2)), (3, one (.int .i64 (w64 ((w64 (0 + (a0.length : Int))) + (a1.length : Int)))))] [some ⟨false, .refs [.sl 1 0 a0.length, .sl 2 0 a1.length]⟩, some ⟨false, .ints .u8 a0⟩, some ⟨false, .ints .u8 a1⟩])) : LoopSpec Tryz.prog 3 (loopN Tryz.f38 0) (mkSt 36 [(0, one (.sl 0 0 2)), (3, one (.int .i64 0)), (9, one (.sl 0 0 2)), (10, one (.int .i64 2)), (11, one (.int .i64 0))] [some ⟨false, .refs [.sl 1 0 a0.length, .sl 2 0 a1.length]⟩, some ⟨false, .ints .u8 a0⟩, some ⟨false, .ints .u8 a1⟩]) (.exit 0) (mkSt 36 [(0, one (.sl 0 0 2)), (3, one (.int .i64 (w64 ((w64 (0 + (a0.length : Int))) + (a1.length : Int)))))] [some ⟨false, .refs [.sl 1 0 a0.length, .sl 2 0 a1.length]⟩, some ⟨false, .ints .u8 a0⟩, some ⟨false, .ints .u8 a1⟩])) (nd (slices.Grow_byte_byte.spec (w64 ((w64 (0 + (a0.length : Int))) + (a1.length : Int))) _ e1) (nd (LoopSpec.of_step tab mixed [bT, bT, .cut] [] [6, 25, 26, 27] [0, 1, 2, 4] (s1 := mkSt 36 [(6, one (.sl 3 0 ((((x1.1.drop 0).take x1.2) ++ a0).length))), (25, one (.sl 0 0 2)), (26, one (.int .i64 2)), (27, one (.int .i64 1))] [some ⟨false, .refs [.sl 1 0 a0.length, .sl 2 0 a1.length]⟩, some ⟨false, .ints .u8 a0⟩, some ⟨false, .ints .u8 a1⟩, some ⟨true, .ints .u8 (((x1.1.drop 0).take x1.2) ++ a0)⟩]) (nd tt (nd (Int.le_refl 0) (nd p1 (n0 (nd p3 (nd p4 (n0 (nl a0 trivial)))))))) (by kernel_rfl) (LoopSpec.of_step tab mixed [bT, bT] [] [6, 25, 26, 27] [0, 1, 2, 4] (s1 := mkSt 36 [(6, one (.sl 3 0 (((((x1.1.drop 0).take x1.2) ++ a0) ++ a1).length))), (25, one (.sl 0 0 2)), (26, one (.int .i64 2)), (27, one (.int .i64 2))] [some ⟨false, .refs [.sl 1 0 a0.length, .sl 2 0 a1.length]⟩, some ⟨false, .ints .u8 a0⟩, some ⟨false, .ints .u8 a1⟩, some ⟨true, .ints .u8 ((((x1.1.drop 0).take x1.2) ++ a0) ++ a1)⟩]) (nd tt (nd (by decide : (0 : Int) ≤ 1) (nd p2 (n0 (nd (rfl : (((x1.1.drop 0).take x1.2) ++ a0).length = (((x1.1.drop 0).take x1.2) ++ a0).length) (nd p5 (n0 (nl a1 trivial)))))))) (by kernel_rfl) (LoopSpec.of_done tab mixed [bF] [] [6] [0, 1, 2, 3] rfl (nd ff trivial) (by kernel_rfl) : LoopSpec Tryz.prog 3 (loopN Tryz.f38 1) (mkSt 36 [(6, one (.sl 3 0 (((((x1.1.drop 0).take x1.2) ++ a0) ++ a1).length))), (25, one (.sl 0 0 2)), (26, one (.int .i64 2)), (27, one (.int .i64 2))] [some ⟨false, .refs [.sl 1 0 a0.length, .sl 2 0 a1.length]⟩, some ⟨false, .ints .u8 a0⟩, some ⟨false, .ints .u8 a1⟩, some ⟨true, .ints .u8 ((((x1.1.drop 0).take x1.2) ++ a0) ++ a1)⟩]) (.exit 2) (mkSt 36 [(6, one (.sl 3 0 (((((x1.1.drop 0).take x1.2) ++ a0) ++ a1).length)))] [some ⟨false, .refs [.sl 1 0 a0.length, .sl 2 0 a1.length]⟩, some ⟨false, .ints .u8 a0⟩, some ⟨false, .ints .u8 a1⟩, some ⟨true, .ints .u8 ((((x1.1.drop 0).take x1.2) ++ a0) ++ a1)⟩])) : LoopSpec Tryz.prog 3 (loopN Tryz.f38 1) (mkSt 36 [(6, one (.sl 3 0 ((((x1.1.drop 0).take x1.2) ++ a0).length))), (25, one (.sl 0 0 2)), (26, one (.int .i64 2)), (27, one (.int .i64 1))] [some ⟨false, .refs [.sl 1 0 a0.length, .sl 2 0 a1.length]⟩, some ⟨false, .ints .u8 a0⟩, some ⟨false, .ints .u8 a1⟩, some ⟨true, .ints .u8 (((x1.1.drop 0).take x1.2) ++ a0)⟩]) (.exit 2) (mkSt 36 [(6, one (.sl 3 0 (((((x1.1.drop 0).take x1.2) ++ a0) ++ a1).length)))] [some ⟨false, .refs [.sl 1 0 a0.length, .sl 2 0 a1.length]⟩, some ⟨false, .ints .u8 a0⟩, some ⟨false, .ints .u8 a1⟩, some ⟨true, .ints .u8 ((((x1.1.drop 0).take x1.2) ++ a0) ++ a1)⟩])) : LoopSpec Tryz.prog 3 (loopN Tryz.f38 1) (mkSt 36 [(6, one (.sl 3 0 x1.2)), (25, one (.sl 0 0 2)), (26, one (.int .i64 2)), (27, one (.int .i64 0))] [some ⟨false, .refs [.sl 1 0 a0.length, .sl 2 0 a1.length]⟩, some ⟨false, .ints .u8 a0⟩, some ⟨false, .ints .u8 a1⟩, some ⟨true, .ints .u8 x1.1⟩]) (.exit 2) (mkSt 36 [(6, one (.sl 3 0 (((((x1.1.drop 0).take x1.2) ++ a0) ++ a1).length)))] [some ⟨false, .refs [.sl 1 0 a0.length, .sl 2 0 a1.length]⟩, some ⟨false, .ints .u8 a0⟩, some ⟨false, .ints .u8 a1⟩, some ⟨true, .ints .u8 ((((x1.1.drop 0).take x1.2) ++ a0) ++ a1)⟩])) trivial))) (by kernel_rfl)
def impl.summed.f (K : Nat) (a0 : List Int) : Option (ByteArray) :=
  Option.bind (impl.Sum.f K a0) fun x1 => Option.bind (impl.PutNum.f K x1) fun x2 => Option.bind (slices.Concat_byte_byte_1.f x2 a0) fun x3 => some (ofBytes x3)
theorem impl.summed.spec (K : Nat) (a0 : List Int) (o : ByteArray) (h : impl.summed.f K a0 = some o) : Den.Spec Tryz.prog 40 [one (.sl 0 0 a0.length)] [some ⟨false, .ints .u8 a0⟩] (one (.str o)) [some ⟨false, .ints .u8 a0⟩] := by
  unfold impl.summed.f at h
  obtain ⟨x1, e1, h⟩ := bind_some h
  obtain ⟨x2, e2, h⟩ := bind_some h
  obtain ⟨x3, e3, h⟩ := bind_some h
  obtain rfl := Option.some.inj h
  exact Den.Spec.of_walk tab mixed Tryz.func40 (by kernel_rfl) [.call [] [(0, true)] (one (.int .i64 x1)) (iF a0), .call [] [] (one (.sl 0 0 x2.length)) (iT x2), .call [(2, false), (1, false), (0, false)] [] (one (.sl 3 0 x3.length)) [some ⟨false, .refs [.sl 1 0 x2.length, .sl 2 0 a0.length]⟩, some ⟨false, .ints .u8 x2⟩, some ⟨false, .ints .u8 a0⟩, some ⟨true, .ints .u8 x3⟩], bT] [] [0] (nd (impl.Sum.spec K a0 _ e1) (n0 (nl a0 (nd (impl.PutNum.spec K x1 _ e2) (nd (slices.Concat_byte_byte_1.spec x2 a0 _ e3) (n0 (nl x3 trivial))))))) (by kernel_rfl)
def impl.LogText.f (K : Nat) (a0 : List (Int × ByteArray)) : Option (ByteArray) :=
  Option.bind (impl.isBatch.f K a0) fun x1 => cond (x1) (cond ((a0.length : Int) == 0) (some noVal) (Option.bind (impl.PutNum.f K (a0.length : Int)) fun x2 => Option.bind (impl.LogText.l0.f K a0 K x2 0) fun x3 => Option.bind (impl.summed.f K x3) fun x4 => cond (decide ((x4.size : Int) > 400)) (some noVal) (some x4))) (some noVal)
theorem impl.LogText.spec (K : Nat) (a0 : List (Int × ByteArray)) (o : ByteArray) (h : impl.LogText.f K a0 = some o) : Den.Spec Tryz.prog 8 [one (.sl 0 0 a0.length)] [some ⟨false, .puts a0⟩] (one (.str o)) [some ⟨false, .puts a0⟩] := by
  unfold impl.LogText.f at h
  obtain ⟨x1, e1, h⟩ := bind_some h
  rcases br_cases h with ⟨c1, h⟩ | ⟨c1, h⟩
  · rcases br_cases h with ⟨c2, h⟩ | ⟨c2, h⟩
    · obtain rfl := Option.some.inj h
      exact Den.Spec.of_walk tab mixed Tryz.func8 (by kernel_rfl) [.call [] [(0, true)] (one (.bool x1)) [some ⟨false, .puts a0⟩], bF, bF, bF, bF, bT] [] [0] (nd (impl.isBatch.spec K a0 _ e1) (n0 (nl a0 (nd (nf c1) (nd (nf c1) (nd (nf c1) (nd (nf c1) (nd c2 trivial)))))))) (by kernel_rfl)
    · obtain ⟨x2, e2, h⟩ := bind_some h
      obtain ⟨x3, e3, h⟩ := bind_some h
      obtain ⟨x4, e4, h⟩ := bind_some h
      rcases br_cases h with ⟨c3, h⟩ | ⟨c3, h⟩
      · obtain rfl := Option.some.inj h
        exact Den.Spec.of_walk tab mixed Tryz.func8 (by kernel_rfl) [.call [] [(0, true)] (one (.bool x1)) [some ⟨false, .puts a0⟩], bF, bF, bF, bF, bF, .call [] [] (one (.sl 0 0 x2.length)) (iT x2), .loop [] [3, 18, 19, 20] [0, 1] (.exit 0) (impl.LogText.l0.e0 K a0 x3), .call [] [(0, true)] (one (.str x4)) (iF x3), bT] [] [0] (nd (impl.isBatch.spec K a0 _ e1) (n0 (nl a0 (nd (nf c1) (nd (nf c1) (nd (nf c1) (nd (nf c1) (nd c2 (nd (impl.PutNum.spec K (a0.length : Int) _ e2) (nd (impl.LogText.l0.spec K a0 K x2 0 _ e3) (nd (impl.summed.spec K x3 _ e4) (n0 (nl x3 (nd c3 trivial)))))))))))))) (by kernel_rfl)
      · obtain rfl := Option.some.inj h
        exact Den.Spec.of_walk tab mixed Tryz.func8 (by kernel_rfl) [.call [] [(0, true)] (one (.bool x1)) [some ⟨false, .puts a0⟩], bF, bF, bF, bF, bF, .call [] [] (one (.sl 0 0 x2.length)) (iT x2), .loop [] [3, 18, 19, 20] [0, 1] (.exit 0) (impl.LogText.l0.e0 K a0 x3), .call [] [(0, true)] (one (.str x4)) (iF x3), bF] [] [0] (nd (impl.isBatch.spec K a0 _ e1) (n0 (nl a0 (nd (nf c1) (nd (nf c1) (nd (nf c1) (nd (nf c1) (nd c2 (nd (impl.PutNum.spec K (a0.length : Int) _ e2) (nd (impl.LogText.l0.spec K a0 K x2 0 _ e3) (nd (impl.summed.spec K x3 _ e4) (n0 (nl x3 (nd c3 trivial)))))))))))))) (by kernel_rfl)
  · obtain rfl := Option.some.inj h
    exact Den.Spec.of_walk tab mixed Tryz.func8 (by kernel_rfl) [.call [] [(0, true)] (one (.bool x1)) [some ⟨false, .puts a0⟩], bT, bT, bT, bT, bT] [] [0] (nd (impl.isBatch.spec K a0 _ e1) (n0 (nl a0 (nd (nt c1) (nd (nt c1) (nd (nt c1) (nd (nt c1) (nd tt trivial)))))))) (by kernel_rfl)
def spec.l1In.f (a0 : Int) (a1 : Int) (a2 : Int) : Option (Bool) :=
  cond (decide (a0 ≥ a1)) (some (decide (a0 ≤ a2))) (some false)
theorem spec.l1In.spec (a0 : Int) (a1 : Int) (a2 : Int) (o : Bool) (h : spec.l1In.f a0 a1 a2 = some o) : Den.Spec Tryz.prog 57 [one (.int .i64 a0), one (.int .i64 a1), one (.int .i64 a2)] [] (one (.bool o)) [] := by
  unfold spec.l1In.f at h
  rcases br_cases h with ⟨c1, h⟩ | ⟨c1, h⟩
  · obtain rfl := Option.some.inj h
    exact Den.Spec.of_walk tab mixed Tryz.func57 (by kernel_rfl) [bT, bT, bT, bT] [] [] (nd c1 (nd c1 (nd c1 (nd c1 trivial)))) (by kernel_rfl)
  · obtain rfl := Option.some.inj h
    exact Den.Spec.of_walk tab mixed Tryz.func57 (by kernel_rfl) [bF, bF, bF, bF] [] [] (nd c1 (nd c1 (nd c1 (nd c1 trivial)))) (by kernel_rfl)
def spec.l7Batch.l1.f (a0 : List (Int × ByteArray)) (v51_0 : Int) : Nat → Int → Option (Unit ⊕ Unit)
  | 0, _ => none
  | k + 1, v53_0 =>
    cond (decide (v53_0 < v51_0)) (ck (0 ≤ v53_0) (ck (v53_0 < (a0.length : Int)) (ck (0 ≤ v51_0) (ck (v51_0 < (a0.length : Int)) (cond (((a0.getD v53_0.toNat (0, noVal)).1) == ((a0.getD v51_0.toNat (0, noVal)).1)) (some (.inl ())) (spec.l7Batch.l1.f a0 v51_0 k (w64 (v53_0 + 1)))))))) (some (.inr (())))
def spec.l7Batch.l1.s (a0 : List (Int × ByteArray)) (v51_0 : Int) (v53_0 : Int) : St := mkSt 46 [(0, one (.sl 0 0 a0.length)), (3, one (.int .i64 v51_0)), (4, one (.int .i64 v53_0)), (19, one (.sl 0 0 a0.length)), (20, one (.int .i64 v51_0)), (21, one (.ptr 0 v51_0.toNat 0)), (22, one (.ptr 0 v51_0.toNat 1)), (23, one (.str ((a0.getD v51_0.toNat (0, noVal)).2))), (24, one (.int .i64 (((a0.getD v51_0.toNat (0, noVal)).2).size : Int))), (25, one (.bool (decide ((((a0.getD v51_0.toNat (0, noVal)).2).size : Int) > 400))))] [some ⟨false, .puts a0⟩]
def spec.l7Batch.l1.e0 (a0 : List (Int × ByteArray)) (v51_0 : Int) (o : Unit) : St := mkSt 46 [(2, one (.bool false))] [some ⟨false, .puts a0⟩]
def spec.l7Batch.l1.e1 (a0 : List (Int × ByteArray)) (v51_0 : Int) (o : Unit) : St := mkSt 46 [(0, one (.sl 0 0 a0.length)), (3, one (.int .i64 v51_0)), (19, one (.sl 0 0 a0.length)), (20, one (.int .i64 v51_0)), (21, one (.ptr 0 v51_0.toNat 0)), (22, one (.ptr 0 v51_0.toNat 1)), (23, one (.str ((a0.getD v51_0.toNat (0, noVal)).2))), (24, one (.int .i64 (((a0.getD v51_0.toNat (0, noVal)).2).size : Int))), (25, one (.bool (decide ((((a0.getD v51_0.toNat (0, noVal)).2).size : Int) > 400))))] [some ⟨false, .puts a0⟩]
def spec.l7Batch.l1.x (a0 : List (Int × ByteArray)) (v51_0 : Int) : (Unit ⊕ Unit) → AExit × St := Sum.elim (fun o => (.ret, spec.l7Batch.l1.e0 a0 v51_0 o)) (fun o => (.exit 2, spec.l7Batch.l1.e1 a0 v51_0 o))
theorem spec.l7Batch.l1.spec (a0 : List (Int × ByteArray)) (v51_0 : Int) : ∀ (k : Nat) (v53_0 : Int) (o : Unit ⊕ Unit), spec.l7Batch.l1.f a0 v51_0 k v53_0 = some o → LoopSpec Tryz.prog 1 (loopN Tryz.f41 1) (spec.l7Batch.l1.s a0 v51_0 v53_0) (spec.l7Batch.l1.x a0 v51_0 o).1 (spec.l7Batch.l1.x a0 v51_0 o).2
  | 0, _, _, h => by cases h
  | k + 1, v53_0, o, h => by
    unfold spec.l7Batch.l1.f at h
    rcases br_cases h with ⟨c1, h⟩ | ⟨c1, h⟩
    · obtain ⟨p1, h⟩ := ck_some h
      obtain ⟨p2, h⟩ := ck_some h
      obtain ⟨p3, h⟩ := ck_some h
      obtain ⟨p4, h⟩ := ck_some h
      rcases br_cases h with ⟨c2, h⟩ | ⟨c2, h⟩
      · obtain rfl := Option.some.inj h
        exact .of_done tab mixed [bT, bT] [] [2] [0] rfl (nd c1 (nd p1 (nd p2 (nd (tn p1 p2) (nd p3 (nd p4 (nd (tn p3 p4) (nd c2 trivial)))))))) (by kernel_rfl)
      · exact .of_step tab mixed [bT, bF] [] [0, 3, 4, 19, 20, 21, 22, 23, 24, 25] [0] (s1 := spec.l7Batch.l1.s a0 v51_0 (w64 (v53_0 + 1))) (nd c1 (nd p1 (nd p2 (nd (tn p1 p2) (nd p3 (nd p4 (nd (tn p3 p4) (nd c2 trivial)))))))) (by kernel_rfl) (spec.l7Batch.l1.spec a0 v51_0 k (w64 (v53_0 + 1)) _ h)
    · obtain rfl := Option.some.inj h
      exact .of_done tab mixed [bF] [] [0, 3, 19, 20, 21, 22, 23, 24, 25] [0] rfl (nd c1 trivial) (by kernel_rfl)
def spec.l7Batch.l0.f (K : Nat) (a0 : List (Int × ByteArray)) : Nat → Int → Option (Unit ⊕ Unit)
  | 0, _ => none
  | k + 1, v51_0 =>
    cond (decide (v51_0 < (a0.length : Int))) (ck (0 ≤ v51_0) (Option.bind (spec.l1In.f ((a0.getD v51_0.toNat (0, noVal)).1) 0 23) fun x1 => cond (x1) (cond (decide ((((a0.getD v51_0.toNat (0, noVal)).2).size : Int) > 400)) (some (.inl ())) (Option.bind (spec.l7Batch.l1.f a0 v51_0 K 0) fun x2 => (Sum.elim (fun x2 => some (.inl ())) (fun x2 => spec.l7Batch.l0.f K a0 k (w64 (v51_0 + 1)))) x2)) (some (.inl ())))) (some (.inr (())))
def spec.l7Batch.l0.s (K : Nat) (a0 : List (Int × ByteArray)) (v51_0 : Int) : St := mkSt 46 [(0, one (.sl 0 0 a0.length)), (3, one (.int .i64 v51_0))] [some ⟨false, .puts a0⟩]
def spec.l7Batch.l0.e0 (K : Nat) (a0 : List (Int × ByteArray)) (o : Unit) : St := mkSt 46 [(2, one (.bool false))] [some ⟨false, .puts a0⟩]
def spec.l7Batch.l0.e1 (K : Nat) (a0 : List (Int × ByteArray)) (o : Unit) : St := mkSt 46 [(0, one (.sl 0 0 a0.length))] [some ⟨false, .puts a0⟩]
def spec.l7Batch.l0.x (K : Nat) (a0 : List (Int × ByteArray)) : (Unit ⊕ Unit) → AExit × St := Sum.elim (fun o => (.ret, spec.l7Batch.l0.e0 K a0 o)) (fun o => (.exit 0, spec.l7Batch.l0.e1 K a0 o))
theorem spec.l7Batch.l0.spec (K : Nat) (a0 : List (Int × ByteArray)) : ∀ (k : Nat) (v51_0 : Int) (o : Unit ⊕ Unit), spec.l7Batch.l0.f K a0 k v51_0 = some o → LoopSpec Tryz.prog 1 (loopN Tryz.f41 0) (spec.l7Batch.l0.s K a0 v51_0) (spec.l7Batch.l0.x K a0 o).1 (spec.l7Batch.l0.x K a0 o).2
  | 0, _, _, h => by cases h
  | k + 1, v51_0, o, h => by
    unfold spec.l7Batch.l0.f at h
    rcases br_cases h with ⟨c1, h⟩ | ⟨c1, h⟩
    · obtain ⟨p1, h⟩ := ck_some h
      obtain ⟨x1, e1, h⟩ := bind_some h
      rcases br_cases h with ⟨c2, h⟩ | ⟨c2, h⟩
      · rcases br_cases h with ⟨c3, h⟩ | ⟨c3, h⟩
        · obtain rfl := Option.some.inj h
          exact .of_done tab mixed [bT, .call [] [] (one (.bool x1)) [], bF, bF, bF, bF, bF, bF, bF, bF, bT] [] [2] [0] rfl (nd c1 (nd p1 (nd (of_decide_eq_true c1) (nd (tn p1 (of_decide_eq_true c1)) (nd (spec.l1In.spec ((a0.getD v51_0.toNat (0, noVal)).1) 0 23 _ e1) (nd (nf c2) (nd (nf c2) (nd (nf c2) (nd p1 (nd (of_decide_eq_true c1) (nd (nf c2) (nd (nf c2) (nd (tn p1 (of_decide_eq_true c1)) (nd (nf c2) (nd (nf c2) (nd (nf c2) (nd c3 trivial))))))))))))))))) (by kernel_rfl)
        · obtain ⟨x2, e2, h⟩ := bind_some h
          rcases x2 with x2 | x2
          · obtain rfl := Option.some.inj h
            exact .of_done tab mixed [bT, .call [] [] (one (.bool x1)) [], bF, bF, bF, bF, bF, bF, bF, bF, bF, .loop [] [0, 3, 4, 19, 20, 21, 22, 23, 24, 25] [0] (.ret) (spec.l7Batch.l1.e0 a0 v51_0 x2)] [] [2] [0] rfl (nd c1 (nd p1 (nd (of_decide_eq_true c1) (nd (tn p1 (of_decide_eq_true c1)) (nd (spec.l1In.spec ((a0.getD v51_0.toNat (0, noVal)).1) 0 23 _ e1) (nd (nf c2) (nd (nf c2) (nd (nf c2) (nd p1 (nd (of_decide_eq_true c1) (nd (nf c2) (nd (nf c2) (nd (tn p1 (of_decide_eq_true c1)) (nd (nf c2) (nd (nf c2) (nd (nf c2) (nd c3 (nd (spec.l7Batch.l1.spec a0 v51_0 K 0 _ e2) trivial)))))))))))))))))) (by kernel_rfl)
          · exact .of_step tab mixed [bT, .call [] [] (one (.bool x1)) [], bF, bF, bF, bF, bF, bF, bF, bF, bF, .loop [] [0, 3, 4, 19, 20, 21, 22, 23, 24, 25] [0] (.exit 2) (spec.l7Batch.l1.e1 a0 v51_0 x2)] [] [0, 3] [0] (s1 := spec.l7Batch.l0.s K a0 (w64 (v51_0 + 1))) (nd c1 (nd p1 (nd (of_decide_eq_true c1) (nd (tn p1 (of_decide_eq_true c1)) (nd (spec.l1In.spec ((a0.getD v51_0.toNat (0, noVal)).1) 0 23 _ e1) (nd (nf c2) (nd (nf c2) (nd (nf c2) (nd p1 (nd (of_decide_eq_true c1) (nd (nf c2) (nd (nf c2) (nd (tn p1 (of_decide_eq_true c1)) (nd (nf c2) (nd (nf c2) (nd (nf c2) (nd c3 (nd (spec.l7Batch.l1.spec a0 v51_0 K 0 _ e2) trivial)))))))))))))))))) (by kernel_rfl) (spec.l7Batch.l0.spec K a0 k (w64 (v51_0 + 1)) _ h)
      · obtain rfl := Option.some.inj h
        exact .of_done tab mixed [bT, .call [] [] (one (.bool x1)) [], bT, bT, bT, bT, bT, bT, bT, bT, bT] [] [2] [0] rfl (nd c1 (nd p1 (nd (of_decide_eq_true c1) (nd (tn p1 (of_decide_eq_true c1)) (nd (spec.l1In.spec ((a0.getD v51_0.toNat (0, noVal)).1) 0 23 _ e1) (nd (nt c2) (nd (nt c2) (nd (nt c2) (nd (nt c2) (nd (nt c2) (nd (nt c2) (nd (nt c2) (nd (nt c2) (nd tt trivial)))))))))))))) (by kernel_rfl)
    · obtain rfl := Option.some.inj h
      exact .of_done tab mixed [bF] [] [0] [0] rfl (nd c1 trivial) (by kernel_rfl)
def spec.l7Batch.f (K : Nat) (a0 : List (Int × ByteArray)) : Option (Bool) :=
  Option.bind (spec.l7Batch.l0.f K a0 K 0) fun x1 => (Sum.elim (fun x1 => some false) (fun x1 => some (decide ((a0.length : Int) ≤ 3)))) x1
theorem spec.l7Batch.spec (K : Nat) (a0 : List (Int × ByteArray)) (o : Bool) (h : spec.l7Batch.f K a0 = some o) : Den.Spec Tryz.prog 41 [one (.sl 0 0 a0.length)] [some ⟨false, .puts a0⟩] (one (.bool o)) [some ⟨false, .puts a0⟩] := by
  unfold spec.l7Batch.f at h
  obtain ⟨x1, e1, h⟩ := bind_some h
  rcases x1 with x1 | x1
  · obtain rfl := Option.some.inj h
    exact Den.Spec.of_walk tab mixed Tryz.func41 (by kernel_rfl) [.loop [] [0, 3] [0] (.ret) (spec.l7Batch.l0.e0 K a0 x1)] [] [0] (nd (spec.l7Batch.l0.spec K a0 K 0 _ e1) trivial) (by kernel_rfl)
  · obtain rfl := Option.some.inj h
    exact Den.Spec.of_walk tab mixed Tryz.func41 (by kernel_rfl) [.loop [] [0, 3] [0] (.exit 0) (spec.l7Batch.l0.e1 K a0 x1)] [] [0] (nd (spec.l7Batch.l0.spec K a0 K 0 _ e1) trivial) (by kernel_rfl)
def spec.PutNum.l0.f : Nat → Int → (List Int) → Option (Int × (List Int))
  | 0, _, _ => none
  | k + 1, v56_0, v56_1 =>
    cond (decide (v56_0 > 127)) (ck ((v56_1 ++ [IntKind.u8.wrap (w64 ((v56_0.tmod 128) + 128))]).length * 1 ≤ 70368744177664) (spec.PutNum.l0.f k (w64 (v56_0.tdiv 128)) (v56_1 ++ [IntKind.u8.wrap (w64 ((v56_0.tmod 128) + 128))]))) (some (v56_0, v56_1))
def spec.PutNum.l0.s (v56_0 : Int) (v56_1 : List Int) : St := mkSt 25 [(0, one (.int .i64 v56_0)), (3, one (.sl 0 0 v56_1.length))] [some ⟨true, .ints .u8 v56_1⟩]
def spec.PutNum.l0.e0 (o : Int × (List Int)) : St := mkSt 25 [(0, one (.int .i64 o.1)), (3, one (.sl 0 0 o.2.length))] [some ⟨true, .ints .u8 o.2⟩]
def spec.PutNum.l0.x : (Int × (List Int)) → AExit × St := fun o => (.exit 0, spec.PutNum.l0.e0 o)
theorem spec.PutNum.l0.spec : ∀ (k : Nat) (v56_0 : Int) (v56_1 : List Int) (o : Int × (List Int)), spec.PutNum.l0.f k v56_0 v56_1 = some o → LoopSpec Tryz.prog 0 (loopN Tryz.f42 0) (spec.PutNum.l0.s v56_0 v56_1) (spec.PutNum.l0.x o).1 (spec.PutNum.l0.x o).2
  | 0, _, _, _, h => by cases h
  | k + 1, v56_0, v56_1, o, h => by
    unfold spec.PutNum.l0.f at h
    rcases br_cases h with ⟨c1, h⟩ | ⟨c1, h⟩
    · obtain ⟨p1, h⟩ := ck_some h
      exact .of_step tab mixed [bT, bT] [] [0, 3] [2] (s1 := spec.PutNum.l0.s (w64 (v56_0.tdiv 128)) (v56_1 ++ [IntKind.u8.wrap (w64 ((v56_0.tmod 128) + 128))])) (nd c1 (nd (by decide : (128 : Int) ≠ 0) (n0 (nl v56_1 (nd p1 (n0 (nn 1 (nd (by decide : (128 : Int) ≠ 0) trivial)))))))) (by kernel_rfl) (spec.PutNum.l0.spec k (w64 (v56_0.tdiv 128)) (v56_1 ++ [IntKind.u8.wrap (w64 ((v56_0.tmod 128) + 128))]) _ h)
    · obtain rfl := Option.some.inj h
      exact .of_done tab mixed [bF] [] [0, 3] [0] rfl (nd c1 trivial) (by kernel_rfl)
def spec.PutNum.f (K : Nat) (a0 : Int) : Option ((List Int)) :=
  Option.bind (spec.l1In.f a0 0 1000000000) fun x1 => cond (x1) (Option.bind (spec.PutNum.l0.f K a0 []) fun x2 => ck ((x2.2 ++ [IntKind.u8.wrap x2.1]).length * 1 ≤ 70368744177664) (some (x2.2 ++ [IntKind.u8.wrap x2.1]))) (some [])
theorem spec.PutNum.spec (K : Nat) (a0 : Int) (o : (List Int)) (h : spec.PutNum.f K a0 = some o) : Den.Spec Tryz.prog 42 [one (.int .i64 a0)] [] (one (.sl 0 0 o.length)) [some ⟨true, .ints .u8 o⟩] := by
  unfold spec.PutNum.f at h
  obtain ⟨x1, e1, h⟩ := bind_some h
  rcases br_cases h with ⟨c1, h⟩ | ⟨c1, h⟩
  · obtain ⟨x2, e2, h⟩ := bind_some h
    obtain ⟨p1, h⟩ := ck_some h
    obtain rfl := Option.some.inj h
    exact Den.Spec.of_walk tab mixed Tryz.func42 (by kernel_rfl) [.call [] [] (one (.bool x1)) [], bF, .loop [] [0, 3] [0] (.exit 0) (spec.PutNum.l0.e0 x2), bT] [] [2] (nd (spec.l1In.spec a0 0 1000000000 _ e1) (nd (nf c1) (nd (spec.PutNum.l0.spec K a0 [] _ e2) (n0 (nl x2.2 (nd p1 (n0 (nn 1 trivial)))))))) (by kernel_rfl)
  · obtain rfl := Option.some.inj h
    exact Den.Spec.of_walk tab mixed Tryz.func42 (by kernel_rfl) [.call [] [] (one (.bool x1)) [], bT] [] [0] (nd (spec.l1In.spec a0 0 1000000000 _ e1) (nd (nt c1) trivial)) (by kernel_rfl)
def spec.PutText.f (K : Nat) (a0 : ByteArray) : Option ((List Int)) :=
  cond (decide ((a0.size : Int) > 400)) (some []) (Option.bind (spec.PutNum.f K (a0.size : Int)) fun x1 => ck ((x1 ++ (bytesL a0)).length * 1 ≤ 70368744177664) (some (x1 ++ (bytesL a0))))
theorem spec.PutText.spec (K : Nat) (a0 : ByteArray) (o : (List Int)) (h : spec.PutText.f K a0 = some o) : Den.Spec Tryz.prog 43 [one (.str a0)] [] (one (.sl 0 0 o.length)) [some ⟨true, .ints .u8 o⟩] := by
  unfold spec.PutText.f at h
  rcases br_cases h with ⟨c1, h⟩ | ⟨c1, h⟩
  · obtain rfl := Option.some.inj h
    exact Den.Spec.of_walk tab mixed Tryz.func43 (by kernel_rfl) [bT] [] [0] (nd c1 trivial) (by kernel_rfl)
  · obtain ⟨x1, e1, h⟩ := bind_some h
    obtain ⟨p1, h⟩ := ck_some h
    obtain rfl := Option.some.inj h
    exact Den.Spec.of_walk tab mixed Tryz.func43 (by kernel_rfl) [bF, .call [] [] (one (.sl 0 0 x1.length)) (iT x1), bT] [] [2] (nd c1 (nd (spec.PutNum.spec K (a0.size : Int) _ e1) (n0 (nl x1 (nd p1 (n0 (nd (rfl : (bytesL a0).length = (bytesL a0).length) trivial))))))) (by kernel_rfl)
def spec.LogText.l0.f (K : Nat) (a0 : List (Int × ByteArray)) : Nat → (List Int) → Int → Option ((List Int))
  | 0, _, _ => none
  | k + 1, v63_0, v63_1 =>
    cond (decide (v63_1 < (a0.length : Int))) (ck (0 ≤ v63_1) (Option.bind (spec.PutNum.f K ((a0.getD v63_1.toNat (0, noVal)).1)) fun x1 => ck ((v63_0 ++ x1).length * 1 ≤ 70368744177664) (Option.bind (spec.PutText.f K ((a0.getD v63_1.toNat (0, noVal)).2)) fun x2 => ck (((v63_0 ++ x1) ++ x2).length * 1 ≤ 70368744177664) (spec.LogText.l0.f K a0 k ((v63_0 ++ x1) ++ x2) (w64 (v63_1 + 1)))))) (some v63_0)
def spec.LogText.l0.s (K : Nat) (a0 : List (Int × ByteArray)) (v63_0 : List Int) (v63_1 : Int) : St := mkSt 49 [(0, one (.sl 0 0 a0.length)), (3, one (.sl 1 0 v63_0.length)), (4, one (.int .i64 v63_1))] [some ⟨false, .puts a0⟩, some ⟨true, .ints .u8 v63_0⟩]
def spec.LogText.l0.e0 (K : Nat) (a0 : List (Int × ByteArray)) (o : (List Int)) : St := mkSt 49 [(3, one (.sl 1 0 o.length))] [some ⟨false, .puts a0⟩, some ⟨true, .ints .u8 o⟩]
def spec.LogText.l0.x (K : Nat) (a0 : List (Int × ByteArray)) : ((List Int)) → AExit × St := fun o => (.exit 0, spec.LogText.l0.e0 K a0 o)
theorem spec.LogText.l0.spec (K : Nat) (a0 : List (Int × ByteArray)) : ∀ (k : Nat) (v63_0 : List Int) (v63_1 : Int) (o : (List Int)), spec.LogText.l0.f K a0 k v63_0 v63_1 = some o → LoopSpec Tryz.prog 1 (loopN Tryz.f9 0) (spec.LogText.l0.s K a0 v63_0 v63_1) (spec.LogText.l0.x K a0 o).1 (spec.LogText.l0.x K a0 o).2
  | 0, _, _, _, h => by cases h
  | k + 1, v63_0, v63_1, o, h => by
    unfold spec.LogText.l0.f at h
    rcases br_cases h with ⟨c1, h⟩ | ⟨c1, h⟩
    · obtain ⟨p1, h⟩ := ck_some h
      obtain ⟨x1, e1, h⟩ := bind_some h
      obtain ⟨p2, h⟩ := ck_some h
      obtain ⟨x2, e2, h⟩ := bind_some h
      obtain ⟨p3, h⟩ := ck_some h
      exact .of_step tab mixed [bT, .call [] [] (one (.sl 0 0 x1.length)) (iT x1), bT, .call [] [] (one (.sl 0 0 x2.length)) (iT x2), bT] [] [0, 3, 4] [0, 5] (s1 := spec.LogText.l0.s K a0 ((v63_0 ++ x1) ++ x2) (w64 (v63_1 + 1))) (nd c1 (nd p1 (nd (of_decide_eq_true c1) (nd (tn p1 (of_decide_eq_true c1)) (nd (spec.PutNum.spec K ((a0.getD v63_1.toNat (0, noVal)).1) _ e1) (n0 (nl v63_0 (nd p2 (n0 (nl x1 (nd p1 (nd (of_decide_eq_true c1) (nd (tn p1 (of_decide_eq_true c1)) (nd (spec.PutText.spec K ((a0.getD v63_1.toNat (0, noVal)).2) _ e2) (n0 (nd (rfl : (v63_0 ++ x1).length = (v63_0 ++ x1).length) (nd p3 (n0 (nl x2 trivial))))))))))))))))))) (by kernel_rfl) (spec.LogText.l0.spec K a0 k ((v63_0 ++ x1) ++ x2) (w64 (v63_1 + 1)) _ h)
    · obtain rfl := Option.some.inj h
      exact .of_done tab mixed [bF] [] [3] [0, 1] rfl (nd c1 trivial) (by kernel_rfl)
def spec.Sum.l0.f (a0 : List Int) : Nat → Int → Int → Option (Int)
  | 0, _, _ => none
  | k + 1, v61_0, v61_1 =>
    cond (decide (v61_1 < (a0.length : Int))) (ck (0 ≤ v61_1) (spec.Sum.l0.f a0 k ((w64 ((w64 (31 * v61_0)) + (w64 (a0.getD v61_1.toNat 0)))).tmod 1000003) (w64 (v61_1 + 1)))) (some v61_0)
def spec.Sum.l0.s (a0 : List Int) (v61_0 : Int) (v61_1 : Int) : St := mkSt 21 [(0, one (.sl 0 0 a0.length)), (3, one (.int .i64 v61_0)), (4, one (.int .i64 v61_1))] [some ⟨false, .ints .u8 a0⟩]
def spec.Sum.l0.e0 (a0 : List Int) (o : Int) : St := mkSt 21 [(3, one (.int .i64 o))] [some ⟨false, .ints .u8 a0⟩]
def spec.Sum.l0.x (a0 : List Int) : (Int) → AExit × St := fun o => (.exit 0, spec.Sum.l0.e0 a0 o)
theorem spec.Sum.l0.spec (a0 : List Int) : ∀ (k : Nat) (v61_0 : Int) (v61_1 : Int) (o : Int), spec.Sum.l0.f a0 k v61_0 v61_1 = some o → LoopSpec Tryz.prog 1 (loopN Tryz.f44 0) (spec.Sum.l0.s a0 v61_0 v61_1) (spec.Sum.l0.x a0 o).1 (spec.Sum.l0.x a0 o).2
  | 0, _, _, _, h => by cases h
  | k + 1, v61_0, v61_1, o, h => by
    unfold spec.Sum.l0.f at h
    rcases br_cases h with ⟨c1, h⟩ | ⟨c1, h⟩
    · obtain ⟨p1, h⟩ := ck_some h
      exact .of_step tab mixed [bT] [] [0, 3, 4] [0] (s1 := spec.Sum.l0.s a0 ((w64 ((w64 (31 * v61_0)) + (w64 (a0.getD v61_1.toNat 0)))).tmod 1000003) (w64 (v61_1 + 1))) (nd c1 (nd p1 (nd (of_decide_eq_true c1) (nd (tn p1 (of_decide_eq_true c1)) (nd (by decide : (1000003 : Int) ≠ 0) trivial))))) (by kernel_rfl) (spec.Sum.l0.spec a0 k ((w64 ((w64 (31 * v61_0)) + (w64 (a0.getD v61_1.toNat 0)))).tmod 1000003) (w64 (v61_1 + 1)) _ h)
    · obtain rfl := Option.some.inj h
      exact .of_done tab mixed [bF] [] [3] [0] rfl (nd c1 trivial) (by kernel_rfl)
def spec.Sum.f (K : Nat) (a0 : List Int) : Option (Int) :=
  Option.bind (spec.Sum.l0.f a0 K 7 0) fun x1 => some x1
theorem spec.Sum.spec (K : Nat) (a0 : List Int) (o : Int) (h : spec.Sum.f K a0 = some o) : Den.Spec Tryz.prog 44 [one (.sl 0 0 a0.length)] [some ⟨false, .ints .u8 a0⟩] (one (.int .i64 o)) [some ⟨false, .ints .u8 a0⟩] := by
  unfold spec.Sum.f at h
  obtain ⟨x1, e1, h⟩ := bind_some h
  obtain rfl := Option.some.inj h
  exact Den.Spec.of_walk tab mixed Tryz.func44 (by kernel_rfl) [.loop [] [0, 3, 4] [0] (.exit 0) (spec.Sum.l0.e0 a0 x1)] [] [0] (nd (spec.Sum.l0.spec a0 K 7 0 _ e1) trivial) (by kernel_rfl)
def spec.LogText.f (K : Nat) (a0 : List (Int × ByteArray)) : Option (ByteArray) :=
  Option.bind (spec.l7Batch.f K a0) fun x1 => cond (x1) (cond ((a0.length : Int) == 0) (some noVal) (Option.bind (spec.PutNum.f K (a0.length : Int)) fun x2 => Option.bind (spec.LogText.l0.f K a0 K x2 0) fun x3 => Option.bind (spec.Sum.f K x3) fun x4 => Option.bind (spec.PutNum.f K x4) fun x5 => ck ((x5 ++ x3).length * 1 ≤ 70368744177664) (cond (decide (((x5 ++ x3).length : Int) > 400)) (some noVal) (some (ofBytes (x5 ++ x3)))))) (some noVal)
theorem spec.LogText.spec (K : Nat) (a0 : List (Int × ByteArray)) (o : ByteArray) (h : spec.LogText.f K a0 = some o) : Den.Spec Tryz.prog 9 [one (.sl 0 0 a0.length)] [some ⟨false, .puts a0⟩] (one (.str o)) [some ⟨false, .puts a0⟩] := by
  unfold spec.LogText.f at h
  obtain ⟨x1, e1, h⟩ := bind_some h
  rcases br_cases h with ⟨c1, h⟩ | ⟨c1, h⟩
  · rcases br_cases h with ⟨c2, h⟩ | ⟨c2, h⟩
    · obtain rfl := Option.some.inj h
      exact Den.Spec.of_walk tab mixed Tryz.func9 (by kernel_rfl) [.call [] [(0, true)] (one (.bool x1)) [some ⟨false, .puts a0⟩], bF, bF, bF, bF, bT] [] [0] (nd (spec.l7Batch.spec K a0 _ e1) (n0 (nl a0 (nd (nf c1) (nd (nf c1) (nd (nf c1) (nd (nf c1) (nd c2 trivial)))))))) (by kernel_rfl)
    · obtain ⟨x2, e2, h⟩ := bind_some h
      obtain ⟨x3, e3, h⟩ := bind_some h
      obtain ⟨x4, e4, h⟩ := bind_some h
      obtain ⟨x5, e5, h⟩ := bind_some h
      obtain ⟨p1, h⟩ := ck_some h
      rcases br_cases h with ⟨c3, h⟩ | ⟨c3, h⟩
      · obtain rfl := Option.some.inj h
        exact Den.Spec.of_walk tab mixed Tryz.func9 (by kernel_rfl) [.call [] [(0, true)] (one (.bool x1)) [some ⟨false, .puts a0⟩], bF, bF, bF, bF, bF, .call [] [] (one (.sl 0 0 x2.length)) (iT x2), .loop [] [0, 3, 4] [0, 1] (.exit 0) (spec.LogText.l0.e0 K a0 x3), .call [] [(0, true)] (one (.int .i64 x4)) (iF x3), .call [] [] (one (.sl 0 0 x5.length)) (iT x5), bT, bT] [] [0] (nd (spec.l7Batch.spec K a0 _ e1) (n0 (nl a0 (nd (nf c1) (nd (nf c1) (nd (nf c1) (nd (nf c1) (nd c2 (nd (spec.PutNum.spec K (a0.length : Int) _ e2) (nd (spec.LogText.l0.spec K a0 K x2 0 _ e3) (nd (spec.Sum.spec K x3 _ e4) (n0 (nl x3 (nd (spec.PutNum.spec K x4 _ e5) (n0 (nl x5 (nd p1 (n0 (nl x3 (nd c3 trivial)))))))))))))))))))) (by kernel_rfl)
      · obtain rfl := Option.some.inj h
        exact Den.Spec.of_walk tab mixed Tryz.func9 (by kernel_rfl) [.call [] [(0, true)] (one (.bool x1)) [some ⟨false, .puts a0⟩], bF, bF, bF, bF, bF, .call [] [] (one (.sl 0 0 x2.length)) (iT x2), .loop [] [0, 3, 4] [0, 1] (.exit 0) (spec.LogText.l0.e0 K a0 x3), .call [] [(0, true)] (one (.int .i64 x4)) (iF x3), .call [] [] (one (.sl 0 0 x5.length)) (iT x5), bT, bF, bT] [] [0] (nd (spec.l7Batch.spec K a0 _ e1) (n0 (nl a0 (nd (nf c1) (nd (nf c1) (nd (nf c1) (nd (nf c1) (nd c2 (nd (spec.PutNum.spec K (a0.length : Int) _ e2) (nd (spec.LogText.l0.spec K a0 K x2 0 _ e3) (nd (spec.Sum.spec K x3 _ e4) (n0 (nl x3 (nd (spec.PutNum.spec K x4 _ e5) (n0 (nl x5 (nd p1 (n0 (nl x3 (nd c3 (n0 (nd (rfl : (x5 ++ x3).length = (x5 ++ x3).length) trivial)))))))))))))))))))))) (by kernel_rfl)
  · obtain rfl := Option.some.inj h
    exact Den.Spec.of_walk tab mixed Tryz.func9 (by kernel_rfl) [.call [] [(0, true)] (one (.bool x1)) [some ⟨false, .puts a0⟩], bT, bT, bT, bT, bT] [] [0] (nd (spec.l7Batch.spec K a0 _ e1) (n0 (nl a0 (nd (nt c1) (nd (nt c1) (nd (nt c1) (nd (nt c1) (nd tt trivial)))))))) (by kernel_rfl)
def spec.DrawLogRead.f (K : Nat) (a0 : List Int) : Option (ByteArray) :=
  Option.bind (spec.l1New.f K a0) fun x1 => Option.bind (spec.l7DrawBatch.f K a0 0 x1) fun x2 => Option.bind (spec.LogText.f K x2.1) fun x3 => Option.bind (spec.l1Below.f a0 x2.2.1 x2.2.2 (w64 ((x3.size : Int) + 1))) fun x4 => Option.bind (spec.l1Below.f a0 x4.2.1 x4.2.2 5) fun x5 => cond (x5.1 == 0) (ck (0 ≤ x4.1) (ck (x4.1 ≤ (x3.size : Int)) (some (x3.extract 0 x4.1.toNat)))) (cond (x5.1 == 1) (ck (0 ≤ x4.1) (ck (x4.1 ≤ (x3.size : Int)) (Option.bind (spec.l1Pick.f a0 x5.2.1 x5.2.2 [(ByteArray.mk #[0]), (ByteArray.mk #[128]), (ByteArray.mk #[97])]) fun x6 => ck ((((x3.extract 0 x4.1.toNat).size + x6.1.size : Nat) : Int) ≤ 9223372036854775807) (ck (((((x3.extract 0 x4.1.toNat) ++ x6.1).size + (x3.extract x4.1.toNat x3.size).size : Nat) : Int) ≤ 9223372036854775807) (some (((x3.extract 0 x4.1.toNat) ++ x6.1) ++ (x3.extract x4.1.toNat x3.size))))))) (some x3))
theorem spec.DrawLogRead.spec (K : Nat) (a0 : List Int) (o : ByteArray) (h : spec.DrawLogRead.f K a0 = some o) : Den.Spec Tryz.prog 12 [one (.sl 0 0 a0.length)] [some ⟨false, .ints .u8 a0⟩] (one (.str o)) [some ⟨false, .ints .u8 a0⟩] := by
  unfold spec.DrawLogRead.f at h
  obtain ⟨x1, e1, h⟩ := bind_some h
  obtain ⟨x2, e2, h⟩ := bind_some h
  obtain ⟨x3, e3, h⟩ := bind_some h
  obtain ⟨x4, e4, h⟩ := bind_some h
  obtain ⟨x5, e5, h⟩ := bind_some h
  rcases br_cases h with ⟨c1, h⟩ | ⟨c1, h⟩
  · obtain ⟨p1, h⟩ := ck_some h
    obtain ⟨p2, h⟩ := ck_some h
    obtain rfl := Option.some.inj h
    exact Den.Spec.of_walk tab mixed Tryz.func12 (by kernel_rfl) [.call [(0, false)] [] (one (.ptr 1 0 0)) [some ⟨false, .ints .u8 a0⟩, some ⟨true, .cells [.sl 0 0 a0.length, .int .i64 0, .int .i64 x1]⟩], .call [(1, true), (0, false)] [] (one (.sl 2 0 x2.1.length)) [some ⟨true, .cells [.sl 1 0 a0.length, .int .i64 x2.2.1, .int .i64 x2.2.2]⟩, some ⟨false, .ints .u8 a0⟩, some ⟨true, .puts x2.1⟩], .call [] [(0, true)] (one (.str x3)) [some ⟨false, .puts x2.1⟩], .call [(1, true), (0, false)] [] (one (.int .i64 x4.1)) [some ⟨true, .cells [.sl 1 0 a0.length, .int .i64 x4.2.1, .int .i64 x4.2.2]⟩, some ⟨false, .ints .u8 a0⟩], .call [(1, true), (0, false)] [] (one (.int .i64 x5.1)) [some ⟨true, .cells [.sl 1 0 a0.length, .int .i64 x5.2.1, .int .i64 x5.2.2]⟩, some ⟨false, .ints .u8 a0⟩], bT] [] [0] (nd (spec.l1New.spec K a0 _ e1) (nd (spec.l7DrawBatch.spec K a0 0 x1 _ e2) (nd (spec.LogText.spec K x2.1 _ e3) (n0 (nl x2.1 (nd (spec.l1Below.spec a0 x2.2.1 x2.2.2 (w64 ((x3.size : Int) + 1)) _ e4) (nd (spec.l1Below.spec a0 x4.2.1 x4.2.2 5 _ e5) (nd c1 (nd (Int.le_refl 0) (nd p1 (nd p2 trivial))))))))))) (by kernel_rfl)
  · rcases br_cases h with ⟨c2, h⟩ | ⟨c2, h⟩
    · obtain ⟨p1, h⟩ := ck_some h
      obtain ⟨p2, h⟩ := ck_some h
      obtain ⟨x6, e6, h⟩ := bind_some h
      obtain ⟨p3, h⟩ := ck_some h
      obtain ⟨p4, h⟩ := ck_some h
      obtain rfl := Option.some.inj h
      exact Den.Spec.of_walk tab mixed Tryz.func12 (by kernel_rfl) [.call [(0, false)] [] (one (.ptr 1 0 0)) [some ⟨false, .ints .u8 a0⟩, some ⟨true, .cells [.sl 0 0 a0.length, .int .i64 0, .int .i64 x1]⟩], .call [(1, true), (0, false)] [] (one (.sl 2 0 x2.1.length)) [some ⟨true, .cells [.sl 1 0 a0.length, .int .i64 x2.2.1, .int .i64 x2.2.2]⟩, some ⟨false, .ints .u8 a0⟩, some ⟨true, .puts x2.1⟩], .call [] [(0, true)] (one (.str x3)) [some ⟨false, .puts x2.1⟩], .call [(1, true), (0, false)] [] (one (.int .i64 x4.1)) [some ⟨true, .cells [.sl 1 0 a0.length, .int .i64 x4.2.1, .int .i64 x4.2.2]⟩, some ⟨false, .ints .u8 a0⟩], .call [(1, true), (0, false)] [] (one (.int .i64 x5.1)) [some ⟨true, .cells [.sl 1 0 a0.length, .int .i64 x5.2.1, .int .i64 x5.2.2]⟩, some ⟨false, .ints .u8 a0⟩], bF, bT, .call [(1, true), (0, false)] [(1, true)] (one (.str x6.1)) [some ⟨true, .cells [.sl 1 0 a0.length, .int .i64 x6.2.1, .int .i64 x6.2.2]⟩, some ⟨false, .ints .u8 a0⟩, some ⟨false, .strs [(ByteArray.mk #[0]), (ByteArray.mk #[128]), (ByteArray.mk #[97])]⟩]] [] [0] (nd (spec.l1New.spec K a0 _ e1) (nd (spec.l7DrawBatch.spec K a0 0 x1 _ e2) (nd (spec.LogText.spec K x2.1 _ e3) (n0 (nl x2.1 (nd (spec.l1Below.spec a0 x2.2.1 x2.2.2 (w64 ((x3.size : Int) + 1)) _ e4) (nd (spec.l1Below.spec a0 x4.2.1 x4.2.2 5 _ e5) (nd c1 (nd c2 (nd (Int.le_refl 0) (nd p1 (nd p2 (nd (spec.l1Pick.spec a0 x5.2.1 x5.2.2 [(ByteArray.mk #[0]), (ByteArray.mk #[128]), (ByteArray.mk #[97])] _ e6) (n0 (nn 3 (nd p3 (nd p1 (nd p2 (nd (Int.le_refl (x3.size : Int)) (nd p4 trivial)))))))))))))))))))) (by kernel_rfl)
    · obtain rfl := Option.some.inj h
      exact Den.Spec.of_walk tab mixed Tryz.func12 (by kernel_rfl) [.call [(0, false)] [] (one (.ptr 1 0 0)) [some ⟨false, .ints .u8 a0⟩, some ⟨true, .cells [.sl 0 0 a0.length, .int .i64 0, .int .i64 x1]⟩], .call [(1, true), (0, false)] [] (one (.sl 2 0 x2.1.length)) [some ⟨true, .cells [.sl 1 0 a0.length, .int .i64 x2.2.1, .int .i64 x2.2.2]⟩, some ⟨false, .ints .u8 a0⟩, some ⟨true, .puts x2.1⟩], .call [] [(0, true)] (one (.str x3)) [some ⟨false, .puts x2.1⟩], .call [(1, true), (0, false)] [] (one (.int .i64 x4.1)) [some ⟨true, .cells [.sl 1 0 a0.length, .int .i64 x4.2.1, .int .i64 x4.2.2]⟩, some ⟨false, .ints .u8 a0⟩], .call [(1, true), (0, false)] [] (one (.int .i64 x5.1)) [some ⟨true, .cells [.sl 1 0 a0.length, .int .i64 x5.2.1, .int .i64 x5.2.2]⟩, some ⟨false, .ints .u8 a0⟩], bF, bF] [] [0] (nd (spec.l1New.spec K a0 _ e1) (nd (spec.l7DrawBatch.spec K a0 0 x1 _ e2) (nd (spec.LogText.spec K x2.1 _ e3) (n0 (nl x2.1 (nd (spec.l1Below.spec a0 x2.2.1 x2.2.2 (w64 ((x3.size : Int) + 1)) _ e4) (nd (spec.l1Below.spec a0 x4.2.1 x4.2.2 5 _ e5) (nd c1 (nd c2 trivial))))))))) (by kernel_rfl)
def impl.GetNum.l0.f (a0 : List Int) (a1 : Int) : Nat → Int → Int → Option ((Int × Int × Bool) ⊕ Unit)
  | 0, _, _ => none
  | k + 1, v67_0, v67_1 =>
    cond (decide (v67_1 < 5)) (cond (decide ((w64 (a1 + v67_1)) < (a0.length : Int))) (ck (0 ≤ (w64 (a1 + v67_1))) (ck (0 ≤ (w64 (7 * v67_1))) (cond (decide ((w64 (a0.getD ((w64 (a1 + v67_1)).toNat) 0)) > 127)) (impl.GetNum.l0.f a0 a1 k (bits2 .i64 (· ||| ·) v67_0 (w64 ((bits2 .i64 (· &&& ·) (w64 (a0.getD ((w64 (a1 + v67_1)).toNat) 0)) 127) * 2 ^ (min (w64 (7 * v67_1)).toNat 64)))) (w64 (v67_1 + 1))) (cond ((w64 (a0.getD ((w64 (a1 + v67_1)).toNat) 0)) == 0) (cond (decide (v67_1 > 0)) (some (.inl (0, 0, false))) (cond (decide ((bits2 .i64 (· ||| ·) v67_0 (w64 ((bits2 .i64 (· &&& ·) (w64 (a0.getD ((w64 (a1 + v67_1)).toNat) 0)) 127) * 2 ^ (min (w64 (7 * v67_1)).toNat 64)))) > 1000000000)) (some (.inl (0, 0, false))) (some (.inl (bits2 .i64 (· ||| ·) v67_0 (w64 ((bits2 .i64 (· &&& ·) (w64 (a0.getD ((w64 (a1 + v67_1)).toNat) 0)) 127) * 2 ^ (min (w64 (7 * v67_1)).toNat 64))), w64 ((w64 (a1 + v67_1)) + 1), true))))) (cond (decide ((bits2 .i64 (· ||| ·) v67_0 (w64 ((bits2 .i64 (· &&& ·) (w64 (a0.getD ((w64 (a1 + v67_1)).toNat) 0)) 127) * 2 ^ (min (w64 (7 * v67_1)).toNat 64)))) > 1000000000)) (some (.inl (0, 0, false))) (some (.inl (bits2 .i64 (· ||| ·) v67_0 (w64 ((bits2 .i64 (· &&& ·) (w64 (a0.getD ((w64 (a1 + v67_1)).toNat) 0)) 127) * 2 ^ (min (w64 (7 * v67_1)).toNat 64))), w64 ((w64 (a1 + v67_1)) + 1), true)))))))) (some (.inr (())))) (some (.inr (())))
def impl.GetNum.l0.s (a0 : List Int) (a1 : Int) (v67_0 : Int) (v67_1 : Int) : St := mkSt 58 [(0, one (.sl 0 0 a0.length)), (1, one (.int .i64 a1)), (7, one (.int .i64 v67_0)), (8, one (.int .i64 v67_1))] [some ⟨false, .ints .u8 a0⟩]
def impl.GetNum.l0.e0 (a0 : List Int) (a1 : Int) (o : Int × Int × Bool) : St := mkSt 58 [(4, one (.int .i64 o.1)), (5, one (.int .i64 o.2.1)), (6, one (.bool o.2.2))] [some ⟨false, .ints .u8 a0⟩]
def impl.GetNum.l0.e1 (a0 : List Int) (a1 : Int) (o : Unit) : St := mkSt 58 [] [some ⟨false, .ints .u8 a0⟩]
def impl.GetNum.l0.x (a0 : List Int) (a1 : Int) : ((Int × Int × Bool) ⊕ Unit) → AExit × St := Sum.elim (fun o => (.ret, impl.GetNum.l0.e0 a0 a1 o)) (fun o => (.exit 0, impl.GetNum.l0.e1 a0 a1 o))
theorem impl.GetNum.l0.spec (a0 : List Int) (a1 : Int) : ∀ (k : Nat) (v67_0 : Int) (v67_1 : Int) (o : (Int × Int × Bool) ⊕ Unit), impl.GetNum.l0.f a0 a1 k v67_0 v67_1 = some o → LoopSpec Tryz.prog 1 (loopN Tryz.f84 0) (impl.GetNum.l0.s a0 a1 v67_0 v67_1) (impl.GetNum.l0.x a0 a1 o).1 (impl.GetNum.l0.x a0 a1 o).2
  | 0, _, _, _, h => by cases h
  | k + 1, v67_0, v67_1, o, h => by
    unfold impl.GetNum.l0.f at h
    rcases br_cases h with ⟨c1, h⟩ | ⟨c1, h⟩
    · rcases br_cases h with ⟨c2, h⟩ | ⟨c2, h⟩
      · obtain ⟨p1, h⟩ := ck_some h
        obtain ⟨p2, h⟩ := ck_some h
        rcases br_cases h with ⟨c3, h⟩ | ⟨c3, h⟩
        · exact .of_step tab mixed [bT, bT, bT, bT, bT, bT, bT, bT, bT] [] [0, 1, 7, 8] [0] (s1 := impl.GetNum.l0.s a0 a1 (bits2 .i64 (· ||| ·) v67_0 (w64 ((bits2 .i64 (· &&& ·) (w64 (a0.getD ((w64 (a1 + v67_1)).toNat) 0)) 127) * 2 ^ (min (w64 (7 * v67_1)).toNat 64)))) (w64 (v67_1 + 1))) (nd c1 (nd c1 (nd c1 (nd c1 (nd c1 (nd c1 (nd c1 (nd c2 (nd p1 (nd (of_decide_eq_true c2) (nd (tn p1 (of_decide_eq_true c2)) (nd p2 (nd c3 trivial))))))))))))) (by kernel_rfl) (impl.GetNum.l0.spec a0 a1 k (bits2 .i64 (· ||| ·) v67_0 (w64 ((bits2 .i64 (· &&& ·) (w64 (a0.getD ((w64 (a1 + v67_1)).toNat) 0)) 127) * 2 ^ (min (w64 (7 * v67_1)).toNat 64)))) (w64 (v67_1 + 1)) _ h)
        · rcases br_cases h with ⟨c4, h⟩ | ⟨c4, h⟩
          · rcases br_cases h with ⟨c5, h⟩ | ⟨c5, h⟩
            · obtain rfl := Option.some.inj h
              exact .of_done tab mixed [bT, bT, bT, bT, bT, bT, bT, bT, bF, bT, bT, bT, bT, bT, bT, bT] [] [4, 5, 6] [0] rfl (nd c1 (nd c1 (nd c1 (nd c1 (nd c1 (nd c1 (nd c1 (nd c2 (nd p1 (nd (of_decide_eq_true c2) (nd (tn p1 (of_decide_eq_true c2)) (nd p2 (nd c3 (nd c4 (nd c4 (nd c4 (nd c5 (nd c5 (nd c5 (nd tt trivial)))))))))))))))))))) (by kernel_rfl)
            · rcases br_cases h with ⟨c6, h⟩ | ⟨c6, h⟩
              · obtain rfl := Option.some.inj h
                exact .of_done tab mixed [bT, bT, bT, bT, bT, bT, bT, bT, bF, bT, bT, bT, bF, bF, bF, bT] [] [4, 5, 6] [0] rfl (nd c1 (nd c1 (nd c1 (nd c1 (nd c1 (nd c1 (nd c1 (nd c2 (nd p1 (nd (of_decide_eq_true c2) (nd (tn p1 (of_decide_eq_true c2)) (nd p2 (nd c3 (nd c4 (nd c4 (nd c4 (nd c5 (nd c5 (nd c5 (nd c6 trivial)))))))))))))))))))) (by kernel_rfl)
              · obtain rfl := Option.some.inj h
                exact .of_done tab mixed [bT, bT, bT, bT, bT, bT, bT, bT, bF, bT, bT, bT, bF, bF, bF, bF] [] [4, 5, 6] [0] rfl (nd c1 (nd c1 (nd c1 (nd c1 (nd c1 (nd c1 (nd c1 (nd c2 (nd p1 (nd (of_decide_eq_true c2) (nd (tn p1 (of_decide_eq_true c2)) (nd p2 (nd c3 (nd c4 (nd c4 (nd c4 (nd c5 (nd c5 (nd c5 (nd c6 trivial)))))))))))))))))))) (by kernel_rfl)
          · rcases br_cases h with ⟨c5, h⟩ | ⟨c5, h⟩
            · obtain rfl := Option.some.inj h
              exact .of_done tab mixed [bT, bT, bT, bT, bT, bT, bT, bT, bF, bF, bF, bF, bF, bF, bF, bT] [] [4, 5, 6] [0] rfl (nd c1 (nd c1 (nd c1 (nd c1 (nd c1 (nd c1 (nd c1 (nd c2 (nd p1 (nd (of_decide_eq_true c2) (nd (tn p1 (of_decide_eq_true c2)) (nd p2 (nd c3 (nd c4 (nd c4 (nd c4 (nd ff (nd ff (nd ff (nd c5 trivial)))))))))))))))))))) (by kernel_rfl)
            · obtain rfl := Option.some.inj h
              exact .of_done tab mixed [bT, bT, bT, bT, bT, bT, bT, bT, bF, bF, bF, bF, bF, bF, bF, bF] [] [4, 5, 6] [0] rfl (nd c1 (nd c1 (nd c1 (nd c1 (nd c1 (nd c1 (nd c1 (nd c2 (nd p1 (nd (of_decide_eq_true c2) (nd (tn p1 (of_decide_eq_true c2)) (nd p2 (nd c3 (nd c4 (nd c4 (nd c4 (nd ff (nd ff (nd ff (nd c5 trivial)))))))))))))))))))) (by kernel_rfl)
      · obtain rfl := Option.some.inj h
        exact .of_done tab mixed [bT, bT, bT, bT, bT, bT, bT, bF] [] [] [0] rfl (nd c1 (nd c1 (nd c1 (nd c1 (nd c1 (nd c1 (nd c1 (nd c2 trivial)))))))) (by kernel_rfl)
    · obtain rfl := Option.some.inj h
      exact .of_done tab mixed [bF, bF, bF, bF, bF, bF, bF, bF] [] [] [0] rfl (nd c1 (nd c1 (nd c1 (nd c1 (nd c1 (nd c1 (nd c1 (nd ff trivial)))))))) (by kernel_rfl)
def impl.GetNum.f (K : Nat) (a0 : List Int) (a1 : Int) : Option (Int × Int × Bool) :=
  Option.bind (impl.in_.f a1 0 (a0.length : Int)) fun x1 => cond (x1) (Option.bind (impl.GetNum.l0.f a0 a1 K 0 0) fun x2 => (Sum.elim (fun x2 => some (x2.1, x2.2.1, x2.2.2)) (fun x2 => some (0, 0, false))) x2) (some (0, 0, false))
theorem impl.GetNum.spec (K : Nat) (a0 : List Int) (a1 : Int) (o : Int × Int × Bool) (h : impl.GetNum.f K a0 a1 = some o) : Den.Spec Tryz.prog 84 [one (.sl 0 0 a0.length), one (.int .i64 a1)] [some ⟨false, .ints .u8 a0⟩] (.tup [.c (.int .i64 o.1), .c (.int .i64 o.2.1), .c (.bool o.2.2)]) [some ⟨false, .ints .u8 a0⟩] := by
  unfold impl.GetNum.f at h
  obtain ⟨x1, e1, h⟩ := bind_some h
  rcases br_cases h with ⟨c1, h⟩ | ⟨c1, h⟩
  · obtain ⟨x2, e2, h⟩ := bind_some h
    rcases x2 with x2 | x2
    · obtain rfl := Option.some.inj h
      exact Den.Spec.of_walk tab mixed Tryz.func84 (by kernel_rfl) [.call [] [] (one (.bool x1)) [], bF, .loop [] [0, 1, 7, 8] [0] (.ret) (impl.GetNum.l0.e0 a0 a1 x2)] [] [0] (nd (impl.in_.spec a1 0 (a0.length : Int) _ e1) (nd (nf c1) (nd (impl.GetNum.l0.spec a0 a1 K 0 0 _ e2) trivial))) (by kernel_rfl)
    · obtain rfl := Option.some.inj h
      exact Den.Spec.of_walk tab mixed Tryz.func84 (by kernel_rfl) [.call [] [] (one (.bool x1)) [], bF, .loop [] [0, 1, 7, 8] [0] (.exit 0) (impl.GetNum.l0.e1 a0 a1 x2)] [] [0] (nd (impl.in_.spec a1 0 (a0.length : Int) _ e1) (nd (nf c1) (nd (impl.GetNum.l0.spec a0 a1 K 0 0 _ e2) trivial))) (by kernel_rfl)
  · obtain rfl := Option.some.inj h
    exact Den.Spec.of_walk tab mixed Tryz.func84 (by kernel_rfl) [.call [] [] (one (.bool x1)) [], bT] [] [0] (nd (impl.in_.spec a1 0 (a0.length : Int) _ e1) (nd (nt c1) trivial)) (by kernel_rfl)
def impl.reader.number.f (K : Nat) (a0 : List Int) (a1 : Int) (a2 : Bool) : Option (Int × Int × Bool) :=
  Option.bind (impl.GetNum.f K a0 a1) fun x1 => cond (a2) (some (0, a1, true)) (cond (x1.2.2) (some (x1.1, x1.2.1, a2)) (some (0, a1, true)))
theorem impl.reader.number.spec (K : Nat) (a0 : List Int) (a1 : Int) (a2 : Bool) (o : Int × Int × Bool) (h : impl.reader.number.f K a0 a1 a2 = some o) : Den.Spec Tryz.prog 46 [one (.ptr 0 0 0)] [some ⟨true, .cells [.sl 1 0 a0.length, .int .i64 a1, .bool a2]⟩, some ⟨true, .ints .u8 a0⟩] (one (.int .i64 o.1)) [some ⟨true, .cells [.sl 1 0 a0.length, .int .i64 o.2.1, .bool o.2.2]⟩, some ⟨true, .ints .u8 a0⟩] := by
  unfold impl.reader.number.f at h
  obtain ⟨x1, e1, h⟩ := bind_some h
  rcases br_cases h with ⟨c1, h⟩ | ⟨c1, h⟩
  · obtain rfl := Option.some.inj h
    exact Den.Spec.of_walk tab mixed Tryz.func46 (by kernel_rfl) [.call [] [(0, true)] (.tup [.c (.int .i64 x1.1), .c (.int .i64 x1.2.1), .c (.bool x1.2.2)]) (iF a0), bT, bT, bT, bT] [] [0, 1] (nd (impl.GetNum.spec K a0 a1 _ e1) (n0 (nl a0 (nd c1 (nd c1 (nd c1 (nd tt trivial))))))) (by kernel_rfl)
  · rcases br_cases h with ⟨c2, h⟩ | ⟨c2, h⟩
    · obtain rfl := Option.some.inj h
      exact Den.Spec.of_walk tab mixed Tryz.func46 (by kernel_rfl) [.call [] [(0, true)] (.tup [.c (.int .i64 x1.1), .c (.int .i64 x1.2.1), .c (.bool x1.2.2)]) (iF a0), bF, bF, bF, bF] [] [0, 1] (nd (impl.GetNum.spec K a0 a1 _ e1) (n0 (nl a0 (nd c1 (nd c1 (nd c1 (nd (nf c2) trivial))))))) (by kernel_rfl)
    · obtain rfl := Option.some.inj h
      exact Den.Spec.of_walk tab mixed Tryz.func46 (by kernel_rfl) [.call [] [(0, true)] (.tup [.c (.int .i64 x1.1), .c (.int .i64 x1.2.1), .c (.bool x1.2.2)]) (iF a0), bF, bF, bF, bT] [] [0, 1] (nd (impl.GetNum.spec K a0 a1 _ e1) (n0 (nl a0 (nd c1 (nd c1 (nd c1 (nd (nt c2) trivial))))))) (by kernel_rfl)
def impl.unsummed.f (K : Nat) (a0 : ByteArray) : Option (Int × Bool) :=
  Option.bind (impl.reader.number.f K (bytesL a0) 0 false) fun x1 => cond (x1.2.2) (some (x1.2.1, true)) (ck (0 ≤ x1.2.1) (ck (x1.2.1 ≤ ((bytesL a0).length : Int)) (Option.bind (impl.Sum.f K (((bytesL a0).drop x1.2.1.toNat).take ((bytesL a0).length - x1.2.1.toNat))) fun x2 => ck (x1.2.1.toNat + ((bytesL a0).length - x1.2.1.toNat) ≤ (bytesL a0).length) (some (x1.2.1, x1.1 != x2)))))
theorem impl.unsummed.spec (K : Nat) (a0 : ByteArray) (o : Int × Bool) (h : impl.unsummed.f K a0 = some o) : Den.Spec Tryz.prog 45 [one (.str a0)] [] (one (.ptr 0 0 0)) [some ⟨true, .cells [.sl 1 0 ((bytesL a0).length), .int .i64 o.1, .bool o.2]⟩, some ⟨true, .ints .u8 (bytesL a0)⟩] := by
  unfold impl.unsummed.f at h
  obtain ⟨x1, e1, h⟩ := bind_some h
  rcases br_cases h with ⟨c1, h⟩ | ⟨c1, h⟩
  · obtain rfl := Option.some.inj h
    exact Den.Spec.of_walk tab mixed Tryz.func45 (by kernel_rfl) [.call [(1, true), (0, true)] [] (one (.int .i64 x1.1)) [some ⟨true, .cells [.sl 1 0 ((bytesL a0).length), .int .i64 x1.2.1, .bool x1.2.2]⟩, some ⟨true, .ints .u8 (bytesL a0)⟩], bT, bT, bT, bT, bT, bT, bT, bT, bT, bT, bT, bT, bT] [] [1, 0] (nd (impl.reader.number.spec K (bytesL a0) 0 false _ e1) (nd c1 (nd c1 (nd c1 (nd c1 (nd c1 (nd c1 (nd c1 (nd c1 (nd c1 (nd c1 (nd c1 (nd c1 (nd c1 trivial)))))))))))))) (by kernel_rfl)
  · obtain ⟨p1, h⟩ := ck_some h
    obtain ⟨p2, h⟩ := ck_some h
    obtain ⟨x2, e2, h⟩ := bind_some h
    obtain ⟨p3, h⟩ := ck_some h
    obtain rfl := Option.some.inj h
    exact Den.Spec.of_walk tab mixed Tryz.func45 (by kernel_rfl) [.call [(1, true), (0, true)] [] (one (.int .i64 x1.1)) [some ⟨true, .cells [.sl 1 0 ((bytesL a0).length), .int .i64 x1.2.1, .bool x1.2.2]⟩, some ⟨true, .ints .u8 (bytesL a0)⟩], bF, bF, bF, bF, bF, bF, bF, bF, bF, bF, bF, .call [] [(0, false)] (one (.int .i64 x2)) [some ⟨false, .ints .u8 (((bytesL a0).drop x1.2.1.toNat).take ((bytesL a0).length - x1.2.1.toNat))⟩], bF, bF] [] [1, 0] (nd (impl.reader.number.spec K (bytesL a0) 0 false _ e1) (nd c1 (nd c1 (nd c1 (nd c1 (nd c1 (nd c1 (nd c1 (nd c1 (nd c1 (nd c1 (nd p1 (nd p2 (nd (Int.le_refl ((bytesL a0).length : Int)) (nd c1 (nd ((impl.Sum.spec K (((bytesL a0).drop x1.2.1.toNat).take ((bytesL a0).length - x1.2.1.toNat)) _ e2).args (congrArg (fun n => ([one (.sl 0 0 n)] : List AV)) (win_len p3))) (nd c1 (nd c1 trivial)))))))))))))))))) (by kernel_rfl)
def impl.GetText.f (K : Nat) (a0 : List Int) (a1 : Int) : Option (ByteArray × Int × Bool) :=
  Option.bind (impl.GetNum.f K a0 a1) fun x1 => cond (x1.2.2) (cond (decide (x1.1 > 400)) (some (noVal, 0, false)) (cond (decide (x1.1 > (w64 ((a0.length : Int) - x1.2.1)))) (some (noVal, 0, false)) (ck (0 ≤ x1.2.1) (ck (x1.2.1 ≤ (w64 (x1.2.1 + x1.1))) (ck ((w64 (x1.2.1 + x1.1)) ≤ (a0.length : Int)) (ck (x1.2.1.toNat + ((w64 (x1.2.1 + x1.1)).toNat - x1.2.1.toNat) ≤ a0.length) (some (ofBytes ((a0.drop x1.2.1.toNat).take ((w64 (x1.2.1 + x1.1)).toNat - x1.2.1.toNat)), w64 (x1.2.1 + x1.1), true)))))))) (some (noVal, 0, false))
theorem impl.GetText.spec (K : Nat) (a0 : List Int) (a1 : Int) (o : ByteArray × Int × Bool) (h : impl.GetText.f K a0 a1 = some o) : Den.Spec Tryz.prog 85 [one (.sl 0 0 a0.length), one (.int .i64 a1)] [some ⟨false, .ints .u8 a0⟩] (.tup [.c (.str o.1), .c (.int .i64 o.2.1), .c (.bool o.2.2)]) [some ⟨false, .ints .u8 a0⟩] := by
  unfold impl.GetText.f at h
  obtain ⟨x1, e1, h⟩ := bind_some h
  rcases br_cases h with ⟨c1, h⟩ | ⟨c1, h⟩
  · rcases br_cases h with ⟨c2, h⟩ | ⟨c2, h⟩
    · obtain rfl := Option.some.inj h
      exact Den.Spec.of_walk tab mixed Tryz.func85 (by kernel_rfl) [.call [] [(0, true)] (.tup [.c (.int .i64 x1.1), .c (.int .i64 x1.2.1), .c (.bool x1.2.2)]) (iF a0), bF, bF, bF, bT, bT, bT, bT, bT, bT, bT, bT] [] [0] (nd (impl.GetNum.spec K a0 a1 _ e1) (n0 (nl a0 (nd (nf c1) (nd (nf c1) (nd (nf c1) (nd c2 (nd c2 (nd c2 (nd c2 (nd c2 (nd c2 (nd c2 (nd tt trivial)))))))))))))) (by kernel_rfl)
    · rcases br_cases h with ⟨c3, h⟩ | ⟨c3, h⟩
      · obtain rfl := Option.some.inj h
        exact Den.Spec.of_walk tab mixed Tryz.func85 (by kernel_rfl) [.call [] [(0, true)] (.tup [.c (.int .i64 x1.1), .c (.int .i64 x1.2.1), .c (.bool x1.2.2)]) (iF a0), bF, bF, bF, bF, bF, bF, bF, bF, bF, bF, bT] [] [0] (nd (impl.GetNum.spec K a0 a1 _ e1) (n0 (nl a0 (nd (nf c1) (nd (nf c1) (nd (nf c1) (nd c2 (nd c2 (nd c2 (nd c2 (nd c2 (nd c2 (nd c2 (nd c3 trivial)))))))))))))) (by kernel_rfl)
      · obtain ⟨p1, h⟩ := ck_some h
        obtain ⟨p2, h⟩ := ck_some h
        obtain ⟨p3, h⟩ := ck_some h
        obtain ⟨p4, h⟩ := ck_some h
        obtain rfl := Option.some.inj h
        exact Den.Spec.of_walk tab mixed Tryz.func85 (by kernel_rfl) [.call [] [(0, true)] (.tup [.c (.int .i64 x1.1), .c (.int .i64 x1.2.1), .c (.bool x1.2.2)]) (iF a0), bF, bF, bF, bF, bF, bF, bF, bF, bF, bF, bF, bF] [] [0] (nd (impl.GetNum.spec K a0 a1 _ e1) (n0 (nl a0 (nd (nf c1) (nd (nf c1) (nd (nf c1) (nd c2 (nd c2 (nd c2 (nd c2 (nd c2 (nd c2 (nd c2 (nd c3 (nd p1 (nd p2 (nd p3 (nd p4 trivial)))))))))))))))))) (by kernel_rfl)
  · obtain rfl := Option.some.inj h
    exact Den.Spec.of_walk tab mixed Tryz.func85 (by kernel_rfl) [.call [] [(0, true)] (.tup [.c (.int .i64 x1.1), .c (.int .i64 x1.2.1), .c (.bool x1.2.2)]) (iF a0), bT, bT, bT, bT, bT, bT, bT, bT, bT, bT, bT] [] [0] (nd (impl.GetNum.spec K a0 a1 _ e1) (n0 (nl a0 (nd (nt c1) (nd (nt c1) (nd (nt c1) (nd tt (nd tt (nd tt (nd tt (nd tt (nd tt (nd tt (nd tt trivial)))))))))))))) (by kernel_rfl)
def impl.reader.text.f (K : Nat) (a0 : List Int) (a1 : Int) (a2 : Bool) : Option (ByteArray × Int × Bool) :=
  Option.bind (impl.GetText.f K a0 a1) fun x1 => cond (a2) (some (noVal, a1, true)) (cond (x1.2.2) (some (x1.1, x1.2.1, a2)) (some (noVal, a1, true)))
theorem impl.reader.text.spec (K : Nat) (a0 : List Int) (a1 : Int) (a2 : Bool) (o : ByteArray × Int × Bool) (h : impl.reader.text.f K a0 a1 a2 = some o) : Den.Spec Tryz.prog 47 [one (.ptr 0 0 0)] [some ⟨true, .cells [.sl 1 0 a0.length, .int .i64 a1, .bool a2]⟩, some ⟨true, .ints .u8 a0⟩] (one (.str o.1)) [some ⟨true, .cells [.sl 1 0 a0.length, .int .i64 o.2.1, .bool o.2.2]⟩, some ⟨true, .ints .u8 a0⟩] := by
  unfold impl.reader.text.f at h
  obtain ⟨x1, e1, h⟩ := bind_some h
  rcases br_cases h with ⟨c1, h⟩ | ⟨c1, h⟩
  · obtain rfl := Option.some.inj h
    exact Den.Spec.of_walk tab mixed Tryz.func47 (by kernel_rfl) [.call [] [(0, true)] (.tup [.c (.str x1.1), .c (.int .i64 x1.2.1), .c (.bool x1.2.2)]) (iF a0), bT, bT, bT, bT] [] [0, 1] (nd (impl.GetText.spec K a0 a1 _ e1) (n0 (nl a0 (nd c1 (nd c1 (nd c1 (nd tt trivial))))))) (by kernel_rfl)
  · rcases br_cases h with ⟨c2, h⟩ | ⟨c2, h⟩
    · obtain rfl := Option.some.inj h
      exact Den.Spec.of_walk tab mixed Tryz.func47 (by kernel_rfl) [.call [] [(0, true)] (.tup [.c (.str x1.1), .c (.int .i64 x1.2.1), .c (.bool x1.2.2)]) (iF a0), bF, bF, bF, bF] [] [0, 1] (nd (impl.GetText.spec K a0 a1 _ e1) (n0 (nl a0 (nd c1 (nd c1 (nd c1 (nd (nf c2) trivial))))))) (by kernel_rfl)
    · obtain rfl := Option.some.inj h
      exact Den.Spec.of_walk tab mixed Tryz.func47 (by kernel_rfl) [.call [] [(0, true)] (.tup [.c (.str x1.1), .c (.int .i64 x1.2.1), .c (.bool x1.2.2)]) (iF a0), bF, bF, bF, bT] [] [0, 1] (nd (impl.GetText.spec K a0 a1 _ e1) (n0 (nl a0 (nd c1 (nd c1 (nd c1 (nd (nt c2) trivial))))))) (by kernel_rfl)
def impl.LogRead.l0.f (K : Nat) (a0 : ByteArray) : Nat → Int → Bool → (List (Int × ByteArray)) → Int → Option (Int × Bool × (List (Int × ByteArray)))
  | 0, _, _, _, _ => none
  | k + 1, v75_0, v75_1, v75_2, v75_3 =>
    cond (decide (v75_3 > 0)) (cond (v75_1) (some (v75_0, v75_1, v75_2)) (Option.bind (impl.reader.number.f K (bytesL a0) v75_0 v75_1) fun x1 => Option.bind (impl.reader.text.f K (bytesL a0) x1.2.1 x1.2.2) fun x2 => ck ((v75_2 ++ [(x1.1, x2.1)]).length * 24 ≤ 70368744177664) (impl.LogRead.l0.f K a0 k x2.2.1 x2.2.2 (v75_2 ++ [(x1.1, x2.1)]) (w64 (v75_3 - 1))))) (some (v75_0, v75_1, v75_2))
def impl.LogRead.l0.s (K : Nat) (a0 : ByteArray) (v75_0 : Int) (v75_1 : Bool) (v75_2 : List (Int × ByteArray)) (v75_3 : Int) : St := mkSt 48 [(0, one (.str a0)), (4, one (.ptr 0 0 0)), (5, one (.sl 2 0 v75_2.length)), (6, one (.int .i64 v75_3))] [some ⟨true, .cells [.sl 1 0 ((bytesL a0).length), .int .i64 v75_0, .bool v75_1]⟩, some ⟨true, .ints .u8 (bytesL a0)⟩, some ⟨true, .puts v75_2⟩]
def impl.LogRead.l0.e0 (K : Nat) (a0 : ByteArray) (o : Int × Bool × (List (Int × ByteArray))) : St := mkSt 48 [(0, one (.str a0)), (4, one (.ptr 0 0 0)), (5, one (.sl 2 0 o.2.2.length))] [some ⟨true, .cells [.sl 1 0 ((bytesL a0).length), .int .i64 o.1, .bool o.2.1]⟩, some ⟨true, .ints .u8 (bytesL a0)⟩, some ⟨true, .puts o.2.2⟩]
def impl.LogRead.l0.x (K : Nat) (a0 : ByteArray) : (Int × Bool × (List (Int × ByteArray))) → AExit × St := fun o => (.exit 0, impl.LogRead.l0.e0 K a0 o)
theorem impl.LogRead.l0.spec (K : Nat) (a0 : ByteArray) : ∀ (k : Nat) (v75_0 : Int) (v75_1 : Bool) (v75_2 : List (Int × ByteArray)) (v75_3 : Int) (o : Int × Bool × (List (Int × ByteArray))), impl.LogRead.l0.f K a0 k v75_0 v75_1 v75_2 v75_3 = some o → LoopSpec Tryz.prog 0 (loopN Tryz.f10 0) (impl.LogRead.l0.s K a0 v75_0 v75_1 v75_2 v75_3) (impl.LogRead.l0.x K a0 o).1 (impl.LogRead.l0.x K a0 o).2
  | 0, _, _, _, _, _, h => by cases h
  | k + 1, v75_0, v75_1, v75_2, v75_3, o, h => by
    unfold impl.LogRead.l0.f at h
    rcases br_cases h with ⟨c1, h⟩ | ⟨c1, h⟩
    · rcases br_cases h with ⟨c2, h⟩ | ⟨c2, h⟩
      · obtain rfl := Option.some.inj h
        exact .of_done tab mixed [bT, bT, bT, bT, bT, bT, bF] [] [0, 4, 5] [0, 1, 2] rfl (nd c1 (nd c1 (nd c1 (nd c1 (nd c1 (nd c1 (nd (nf c2) trivial))))))) (by kernel_rfl)
      · obtain ⟨x1, e1, h⟩ := bind_some h
        obtain ⟨x2, e2, h⟩ := bind_some h
        obtain ⟨p1, h⟩ := ck_some h
        exact .of_step tab mixed [bT, bT, bT, bT, bT, bT, bT, .call [(0, true), (1, true)] [] (one (.int .i64 x1.1)) [some ⟨true, .cells [.sl 1 0 ((bytesL a0).length), .int .i64 x1.2.1, .bool x1.2.2]⟩, some ⟨true, .ints .u8 (bytesL a0)⟩], .call [(0, true), (1, true)] [] (one (.str x2.1)) [some ⟨true, .cells [.sl 1 0 ((bytesL a0).length), .int .i64 x2.2.1, .bool x2.2.2]⟩, some ⟨true, .ints .u8 (bytesL a0)⟩], bT] [] [0, 4, 5, 6] [0, 1, 5] (s1 := impl.LogRead.l0.s K a0 x2.2.1 x2.2.2 (v75_2 ++ [(x1.1, x2.1)]) (w64 (v75_3 - 1))) (nd c1 (nd c1 (nd c1 (nd c1 (nd c1 (nd c1 (nd (nt c2) (nd (impl.reader.number.spec K (bytesL a0) v75_0 v75_1 _ e1) (nd (impl.reader.text.spec K (bytesL a0) x1.2.1 x1.2.2 _ e2) (n0 (nl v75_2 (nd p1 (n0 (nn 1 trivial)))))))))))))) (by kernel_rfl) (impl.LogRead.l0.spec K a0 k x2.2.1 x2.2.2 (v75_2 ++ [(x1.1, x2.1)]) (w64 (v75_3 - 1)) _ h)
    · obtain rfl := Option.some.inj h
      exact .of_done tab mixed [bF, bF, bF, bF, bF, bF, bF] [] [0, 4, 5] [0, 1, 2] rfl (nd c1 (nd c1 (nd c1 (nd c1 (nd c1 (nd c1 (nd ff trivial))))))) (by kernel_rfl)
def impl.reader.done.f (a0 : List Int) (a1 : Int) (a2 : Bool) : Option (Bool) :=
  cond (a2) (some false) (some (a1 == (a0.length : Int)))
theorem impl.reader.done.spec (a0 : List Int) (a1 : Int) (a2 : Bool) (o : Bool) (h : impl.reader.done.f a0 a1 a2 = some o) : Den.Spec Tryz.prog 48 [one (.ptr 0 0 0)] [some ⟨false, .cells [.sl 1 0 a0.length, .int .i64 a1, .bool a2]⟩, some ⟨false, .ints .u8 a0⟩] (one (.bool o)) [some ⟨false, .cells [.sl 1 0 a0.length, .int .i64 a1, .bool a2]⟩, some ⟨false, .ints .u8 a0⟩] := by
  unfold impl.reader.done.f at h
  rcases br_cases h with ⟨c1, h⟩ | ⟨c1, h⟩
  · obtain rfl := Option.some.inj h
    exact Den.Spec.of_walk tab mixed Tryz.func48 (by kernel_rfl) [bF, bF, bF, bF, bF, bF, bF, bF, bF, bF, bF] [] [0, 1] (nd (nf c1) (nd (nf c1) (nd (nf c1) (nd (nf c1) (nd (nf c1) (nd (nf c1) (nd (nf c1) (nd (nf c1) (nd (nf c1) (nd (nf c1) (nd (nf c1) trivial))))))))))) (by kernel_rfl)
  · obtain rfl := Option.some.inj h
    exact Den.Spec.of_walk tab mixed Tryz.func48 (by kernel_rfl) [bT, bT, bT, bT, bT, bT, bT, bT, bT, bT, bT] [] [0, 1] (nd (nt c1) (nd (nt c1) (nd (nt c1) (nd (nt c1) (nd (nt c1) (nd (nt c1) (nd (nt c1) (nd (nt c1) (nd (nt c1) (nd (nt c1) (nd (nt c1) trivial))))))))))) (by kernel_rfl)
def impl.LogRead.f (K : Nat) (a0 : ByteArray) : Option ((List (Int × ByteArray)) × Bool) :=
  Option.bind (impl.unsummed.f K a0) fun x1 => Option.bind (impl.reader.number.f K (bytesL a0) x1.1 x1.2) fun x2 => Option.bind (impl.LogRead.l0.f K a0 K x2.2.1 x2.2.2 [] x2.1) fun x3 => Option.bind (impl.reader.done.f (bytesL a0) x3.1 x3.2.1) fun x4 => cond (x4) (cond (strEq a0 noVal) (some ([], false)) (Option.bind (impl.LogText.f K x3.2.2) fun x5 => cond (strEq x5 a0) (some (x3.2.2, true)) (some ([], false)))) (some ([], false))
theorem impl.LogRead.spec (K : Nat) (a0 : ByteArray) (o : (List (Int × ByteArray)) × Bool) (h : impl.LogRead.f K a0 = some o) : Den.Spec Tryz.prog 10 [one (.str a0)] [] (.tup [.c (.sl 0 0 o.1.length), .c (.bool o.2)]) [some ⟨true, .puts o.1⟩] := by
  unfold impl.LogRead.f at h
  obtain ⟨x1, e1, h⟩ := bind_some h
  obtain ⟨x2, e2, h⟩ := bind_some h
  obtain ⟨x3, e3, h⟩ := bind_some h
  obtain ⟨x4, e4, h⟩ := bind_some h
  rcases br_cases h with ⟨c1, h⟩ | ⟨c1, h⟩
  · rcases br_cases h with ⟨c2, h⟩ | ⟨c2, h⟩
    · obtain rfl := Option.some.inj h
      exact Den.Spec.of_walk tab mixed Tryz.func10 (by kernel_rfl) [.call [] [] (one (.ptr 0 0 0)) [some ⟨true, .cells [.sl 1 0 ((bytesL a0).length), .int .i64 x1.1, .bool x1.2]⟩, some ⟨true, .ints .u8 (bytesL a0)⟩], .call [(0, true), (1, true)] [] (one (.int .i64 x2.1)) [some ⟨true, .cells [.sl 1 0 ((bytesL a0).length), .int .i64 x2.2.1, .bool x2.2.2]⟩, some ⟨true, .ints .u8 (bytesL a0)⟩], .loop [] [0, 4, 5, 6] [0, 1, 2] (.exit 0) (impl.LogRead.l0.e0 K a0 x3), .call [(0, false), (1, false)] [] (one (.bool x4)) [some ⟨false, .cells [.sl 1 0 ((bytesL a0).length), .int .i64 x3.1, .bool x3.2.1]⟩, some ⟨false, .ints .u8 (bytesL a0)⟩], bF, bF, bF, bT, bT, bT, bT, bT, bT] [(2, [.puts])] [3] (nd (impl.unsummed.spec K a0 _ e1) (nd (impl.reader.number.spec K (bytesL a0) x1.1 x1.2 _ e2) (nd (impl.LogRead.l0.spec K a0 K x2.2.1 x2.2.2 [] x2.1 _ e3) (nd (impl.reader.done.spec (bytesL a0) x3.1 x3.2.1 _ e4) (nd (nf c1) (nd (nf c1) (nd (nf c1) (nd c2 (nd c2 (nd c2 (nd c2 (nd c2 (nd tt trivial))))))))))))) (by kernel_rfl)
    · obtain ⟨x5, e5, h⟩ := bind_some h
      rcases br_cases h with ⟨c3, h⟩ | ⟨c3, h⟩
      · obtain rfl := Option.some.inj h
        exact Den.Spec.of_walk tab mixed Tryz.func10 (by kernel_rfl) [.call [] [] (one (.ptr 0 0 0)) [some ⟨true, .cells [.sl 1 0 ((bytesL a0).length), .int .i64 x1.1, .bool x1.2]⟩, some ⟨true, .ints .u8 (bytesL a0)⟩], .call [(0, true), (1, true)] [] (one (.int .i64 x2.1)) [some ⟨true, .cells [.sl 1 0 ((bytesL a0).length), .int .i64 x2.2.1, .bool x2.2.2]⟩, some ⟨true, .ints .u8 (bytesL a0)⟩], .loop [] [0, 4, 5, 6] [0, 1, 2] (.exit 0) (impl.LogRead.l0.e0 K a0 x3), .call [(0, false), (1, false)] [] (one (.bool x4)) [some ⟨false, .cells [.sl 1 0 ((bytesL a0).length), .int .i64 x3.1, .bool x3.2.1]⟩, some ⟨false, .ints .u8 (bytesL a0)⟩], bF, bF, bF, bF, bF, .call [] [(0, true)] (one (.str x5)) [some ⟨false, .puts x3.2.2⟩], bF, bF, bF, bF] [] [2] (nd (impl.unsummed.spec K a0 _ e1) (nd (impl.reader.number.spec K (bytesL a0) x1.1 x1.2 _ e2) (nd (impl.LogRead.l0.spec K a0 K x2.2.1 x2.2.2 [] x2.1 _ e3) (nd (impl.reader.done.spec (bytesL a0) x3.1 x3.2.1 _ e4) (nd (nf c1) (nd (nf c1) (nd (nf c1) (nd c2 (nd c2 (nd (impl.LogText.spec K x3.2.2 _ e5) (n0 (nl x3.2.2 (nd c2 (nd c2 (nd c2 (nd (nf c3) trivial)))))))))))))))) (by kernel_rfl)
      · obtain rfl := Option.some.inj h
        exact Den.Spec.of_walk tab mixed Tryz.func10 (by kernel_rfl) [.call [] [] (one (.ptr 0 0 0)) [some ⟨true, .cells [.sl 1 0 ((bytesL a0).length), .int .i64 x1.1, .bool x1.2]⟩, some ⟨true, .ints .u8 (bytesL a0)⟩], .call [(0, true), (1, true)] [] (one (.int .i64 x2.1)) [some ⟨true, .cells [.sl 1 0 ((bytesL a0).length), .int .i64 x2.2.1, .bool x2.2.2]⟩, some ⟨true, .ints .u8 (bytesL a0)⟩], .loop [] [0, 4, 5, 6] [0, 1, 2] (.exit 0) (impl.LogRead.l0.e0 K a0 x3), .call [(0, false), (1, false)] [] (one (.bool x4)) [some ⟨false, .cells [.sl 1 0 ((bytesL a0).length), .int .i64 x3.1, .bool x3.2.1]⟩, some ⟨false, .ints .u8 (bytesL a0)⟩], bF, bF, bF, bF, bF, .call [] [(0, true)] (one (.str x5)) [some ⟨false, .puts x3.2.2⟩], bF, bF, bF, bT] [(2, [.puts])] [3] (nd (impl.unsummed.spec K a0 _ e1) (nd (impl.reader.number.spec K (bytesL a0) x1.1 x1.2 _ e2) (nd (impl.LogRead.l0.spec K a0 K x2.2.1 x2.2.2 [] x2.1 _ e3) (nd (impl.reader.done.spec (bytesL a0) x3.1 x3.2.1 _ e4) (nd (nf c1) (nd (nf c1) (nd (nf c1) (nd c2 (nd c2 (nd (impl.LogText.spec K x3.2.2 _ e5) (n0 (nl x3.2.2 (nd c2 (nd c2 (nd c2 (nd (nt c3) trivial)))))))))))))))) (by kernel_rfl)
  · obtain rfl := Option.some.inj h
    exact Den.Spec.of_walk tab mixed Tryz.func10 (by kernel_rfl) [.call [] [] (one (.ptr 0 0 0)) [some ⟨true, .cells [.sl 1 0 ((bytesL a0).length), .int .i64 x1.1, .bool x1.2]⟩, some ⟨true, .ints .u8 (bytesL a0)⟩], .call [(0, true), (1, true)] [] (one (.int .i64 x2.1)) [some ⟨true, .cells [.sl 1 0 ((bytesL a0).length), .int .i64 x2.2.1, .bool x2.2.2]⟩, some ⟨true, .ints .u8 (bytesL a0)⟩], .loop [] [0, 4, 5, 6] [0, 1, 2] (.exit 0) (impl.LogRead.l0.e0 K a0 x3), .call [(0, false), (1, false)] [] (one (.bool x4)) [some ⟨false, .cells [.sl 1 0 ((bytesL a0).length), .int .i64 x3.1, .bool x3.2.1]⟩, some ⟨false, .ints .u8 (bytesL a0)⟩], bT, bT, bT, bT, bT, bT, bT, bT, bT] [(2, [.puts])] [3] (nd (impl.unsummed.spec K a0 _ e1) (nd (impl.reader.number.spec K (bytesL a0) x1.1 x1.2 _ e2) (nd (impl.LogRead.l0.spec K a0 K x2.2.1 x2.2.2 [] x2.1 _ e3) (nd (impl.reader.done.spec (bytesL a0) x3.1 x3.2.1 _ e4) (nd (nt c1) (nd (nt c1) (nd (nt c1) (nd tt (nd tt (nd tt (nd tt (nd tt (nd tt trivial))))))))))))) (by kernel_rfl)
def spec.GetNum.l0.f (a0 : List Int) (a1 : Int) : Nat → Int → Int → Option ((Int × Int × Bool) ⊕ Unit)
  | 0, _, _ => none
  | k + 1, v78_0, v78_1 =>
    cond (decide (v78_1 < 5)) (cond (decide (a1 < 0)) (some (.inl (0, 0, false))) (cond (decide (a1 ≥ (w64 ((a0.length : Int) - v78_1)))) (some (.inl (0, 0, false))) (ck (0 ≤ (w64 (a1 + v78_1))) (ck ((w64 (a1 + v78_1)) < (a0.length : Int)) (ck (0 ≤ (w64 (7 * v78_1))) (cond (decide ((w64 (a0.getD ((w64 (a1 + v78_1)).toNat) 0)) < 128)) (cond (decide (v78_1 > 0)) (cond ((w64 (a0.getD ((w64 (a1 + v78_1)).toNat) 0)) == 0) (some (.inl (0, 0, false))) (cond (decide ((bits2 .i64 (· ||| ·) v78_0 (w64 (((w64 (a0.getD ((w64 (a1 + v78_1)).toNat) 0)).tmod 128) * 2 ^ (min (w64 (7 * v78_1)).toNat 64)))) > 1000000000)) (some (.inl (0, 0, false))) (some (.inl (bits2 .i64 (· ||| ·) v78_0 (w64 (((w64 (a0.getD ((w64 (a1 + v78_1)).toNat) 0)).tmod 128) * 2 ^ (min (w64 (7 * v78_1)).toNat 64))), w64 ((w64 (a1 + v78_1)) + 1), true))))) (cond (decide ((bits2 .i64 (· ||| ·) v78_0 (w64 (((w64 (a0.getD ((w64 (a1 + v78_1)).toNat) 0)).tmod 128) * 2 ^ (min (w64 (7 * v78_1)).toNat 64)))) > 1000000000)) (some (.inl (0, 0, false))) (some (.inl (bits2 .i64 (· ||| ·) v78_0 (w64 (((w64 (a0.getD ((w64 (a1 + v78_1)).toNat) 0)).tmod 128) * 2 ^ (min (w64 (7 * v78_1)).toNat 64))), w64 ((w64 (a1 + v78_1)) + 1), true))))) (spec.GetNum.l0.f a0 a1 k (bits2 .i64 (· ||| ·) v78_0 (w64 (((w64 (a0.getD ((w64 (a1 + v78_1)).toNat) 0)).tmod 128) * 2 ^ (min (w64 (7 * v78_1)).toNat 64)))) (w64 (v78_1 + 1))))))))) (some (.inr (())))
def spec.GetNum.l0.s (a0 : List Int) (a1 : Int) (v78_0 : Int) (v78_1 : Int) : St := mkSt 55 [(0, one (.sl 0 0 a0.length)), (1, one (.int .i64 a1)), (7, one (.int .i64 v78_0)), (8, one (.int .i64 v78_1))] [some ⟨false, .ints .u8 a0⟩]
def spec.GetNum.l0.e0 (a0 : List Int) (a1 : Int) (o : Int × Int × Bool) : St := mkSt 55 [(4, one (.int .i64 o.1)), (5, one (.int .i64 o.2.1)), (6, one (.bool o.2.2))] [some ⟨false, .ints .u8 a0⟩]
def spec.GetNum.l0.e1 (a0 : List Int) (a1 : Int) (o : Unit) : St := mkSt 55 [] [some ⟨false, .ints .u8 a0⟩]
def spec.GetNum.l0.x (a0 : List Int) (a1 : Int) : ((Int × Int × Bool) ⊕ Unit) → AExit × St := Sum.elim (fun o => (.ret, spec.GetNum.l0.e0 a0 a1 o)) (fun o => (.exit 0, spec.GetNum.l0.e1 a0 a1 o))
theorem spec.GetNum.l0.spec (a0 : List Int) (a1 : Int) : ∀ (k : Nat) (v78_0 : Int) (v78_1 : Int) (o : (Int × Int × Bool) ⊕ Unit), spec.GetNum.l0.f a0 a1 k v78_0 v78_1 = some o → LoopSpec Tryz.prog 1 (loopN Tryz.f51 0) (spec.GetNum.l0.s a0 a1 v78_0 v78_1) (spec.GetNum.l0.x a0 a1 o).1 (spec.GetNum.l0.x a0 a1 o).2
  | 0, _, _, _, h => by cases h
  | k + 1, v78_0, v78_1, o, h => by
    unfold spec.GetNum.l0.f at h
    rcases br_cases h with ⟨c1, h⟩ | ⟨c1, h⟩
    · rcases br_cases h with ⟨c2, h⟩ | ⟨c2, h⟩
      · obtain rfl := Option.some.inj h
        exact .of_done tab mixed [bT, bT, bT, bT, bT, bT, bT, bT, bT] [] [4, 5, 6] [0] rfl (nd c1 (nd c2 (nd c2 (nd c2 (nd c2 (nd c2 (nd c2 (nd c2 (nd tt trivial))))))))) (by kernel_rfl)
      · rcases br_cases h with ⟨c3, h⟩ | ⟨c3, h⟩
        · obtain rfl := Option.some.inj h
          exact .of_done tab mixed [bT, bF, bF, bF, bF, bF, bF, bF, bT] [] [4, 5, 6] [0] rfl (nd c1 (nd c2 (nd c2 (nd c2 (nd c2 (nd c2 (nd c2 (nd c2 (nd c3 trivial))))))))) (by kernel_rfl)
        · obtain ⟨p1, h⟩ := ck_some h
          obtain ⟨p2, h⟩ := ck_some h
          obtain ⟨p3, h⟩ := ck_some h
          rcases br_cases h with ⟨c4, h⟩ | ⟨c4, h⟩
          · rcases br_cases h with ⟨c5, h⟩ | ⟨c5, h⟩
            · rcases br_cases h with ⟨c6, h⟩ | ⟨c6, h⟩
              · obtain rfl := Option.some.inj h
                exact .of_done tab mixed [bT, bF, bF, bF, bF, bF, bF, bF, bF, bT, bT, bT, bT, bT, bT, bT, bT] [] [4, 5, 6] [0] rfl (nd c1 (nd c2 (nd c2 (nd c2 (nd c2 (nd c2 (nd c2 (nd c2 (nd c3 (nd p1 (nd p2 (nd (tn p1 p2) (nd (by decide : (128 : Int) ≠ 0) (nd p3 (nd c4 (nd c5 (nd c5 (nd c5 (nd c6 (nd c6 (nd c6 (nd tt trivial)))))))))))))))))))))) (by kernel_rfl)
              · rcases br_cases h with ⟨c7, h⟩ | ⟨c7, h⟩
                · obtain rfl := Option.some.inj h
                  exact .of_done tab mixed [bT, bF, bF, bF, bF, bF, bF, bF, bF, bT, bT, bT, bT, bF, bF, bF, bT] [] [4, 5, 6] [0] rfl (nd c1 (nd c2 (nd c2 (nd c2 (nd c2 (nd c2 (nd c2 (nd c2 (nd c3 (nd p1 (nd p2 (nd (tn p1 p2) (nd (by decide : (128 : Int) ≠ 0) (nd p3 (nd c4 (nd c5 (nd c5 (nd c5 (nd c6 (nd c6 (nd c6 (nd c7 trivial)))))))))))))))))))))) (by kernel_rfl)
                · obtain rfl := Option.some.inj h
                  exact .of_done tab mixed [bT, bF, bF, bF, bF, bF, bF, bF, bF, bT, bT, bT, bT, bF, bF, bF, bF] [] [4, 5, 6] [0] rfl (nd c1 (nd c2 (nd c2 (nd c2 (nd c2 (nd c2 (nd c2 (nd c2 (nd c3 (nd p1 (nd p2 (nd (tn p1 p2) (nd (by decide : (128 : Int) ≠ 0) (nd p3 (nd c4 (nd c5 (nd c5 (nd c5 (nd c6 (nd c6 (nd c6 (nd c7 trivial)))))))))))))))))))))) (by kernel_rfl)
            · rcases br_cases h with ⟨c6, h⟩ | ⟨c6, h⟩
              · obtain rfl := Option.some.inj h
                exact .of_done tab mixed [bT, bF, bF, bF, bF, bF, bF, bF, bF, bT, bF, bF, bF, bF, bF, bF, bT] [] [4, 5, 6] [0] rfl (nd c1 (nd c2 (nd c2 (nd c2 (nd c2 (nd c2 (nd c2 (nd c2 (nd c3 (nd p1 (nd p2 (nd (tn p1 p2) (nd (by decide : (128 : Int) ≠ 0) (nd p3 (nd c4 (nd c5 (nd c5 (nd c5 (nd ff (nd ff (nd ff (nd c6 trivial)))))))))))))))))))))) (by kernel_rfl)
              · obtain rfl := Option.some.inj h
                exact .of_done tab mixed [bT, bF, bF, bF, bF, bF, bF, bF, bF, bT, bF, bF, bF, bF, bF, bF, bF] [] [4, 5, 6] [0] rfl (nd c1 (nd c2 (nd c2 (nd c2 (nd c2 (nd c2 (nd c2 (nd c2 (nd c3 (nd p1 (nd p2 (nd (tn p1 p2) (nd (by decide : (128 : Int) ≠ 0) (nd p3 (nd c4 (nd c5 (nd c5 (nd c5 (nd ff (nd ff (nd ff (nd c6 trivial)))))))))))))))))))))) (by kernel_rfl)
          · exact .of_step tab mixed [bT, bF, bF, bF, bF, bF, bF, bF, bF, bF] [] [0, 1, 7, 8] [0] (s1 := spec.GetNum.l0.s a0 a1 (bits2 .i64 (· ||| ·) v78_0 (w64 (((w64 (a0.getD ((w64 (a1 + v78_1)).toNat) 0)).tmod 128) * 2 ^ (min (w64 (7 * v78_1)).toNat 64)))) (w64 (v78_1 + 1))) (nd c1 (nd c2 (nd c2 (nd c2 (nd c2 (nd c2 (nd c2 (nd c2 (nd c3 (nd p1 (nd p2 (nd (tn p1 p2) (nd (by decide : (128 : Int) ≠ 0) (nd p3 (nd c4 trivial))))))))))))))) (by kernel_rfl) (spec.GetNum.l0.spec a0 a1 k (bits2 .i64 (· ||| ·) v78_0 (w64 (((w64 (a0.getD ((w64 (a1 + v78_1)).toNat) 0)).tmod 128) * 2 ^ (min (w64 (7 * v78_1)).toNat 64)))) (w64 (v78_1 + 1)) _ h)
    · obtain rfl := Option.some.inj h
      exact .of_done tab mixed [bF] [] [] [0] rfl (nd c1 trivial) (by kernel_rfl)
def spec.GetNum.f (K : Nat) (a0 : List Int) (a1 : Int) : Option (Int × Int × Bool) :=
  Option.bind (spec.GetNum.l0.f a0 a1 K 0 0) fun x1 => (Sum.elim (fun x1 => some (x1.1, x1.2.1, x1.2.2)) (fun x1 => some (0, 0, false))) x1
theorem spec.GetNum.spec (K : Nat) (a0 : List Int) (a1 : Int) (o : Int × Int × Bool) (h : spec.GetNum.f K a0 a1 = some o) : Den.Spec Tryz.prog 51 [one (.sl 0 0 a0.length), one (.int .i64 a1)] [some ⟨false, .ints .u8 a0⟩] (.tup [.c (.int .i64 o.1), .c (.int .i64 o.2.1), .c (.bool o.2.2)]) [some ⟨false, .ints .u8 a0⟩] := by
  unfold spec.GetNum.f at h
  obtain ⟨x1, e1, h⟩ := bind_some h
  rcases x1 with x1 | x1
  · obtain rfl := Option.some.inj h
    exact Den.Spec.of_walk tab mixed Tryz.func51 (by kernel_rfl) [.loop [] [0, 1, 7, 8] [0] (.ret) (spec.GetNum.l0.e0 a0 a1 x1)] [] [0] (nd (spec.GetNum.l0.spec a0 a1 K 0 0 _ e1) trivial) (by kernel_rfl)
  · obtain rfl := Option.some.inj h
    exact Den.Spec.of_walk tab mixed Tryz.func51 (by kernel_rfl) [.loop [] [0, 1, 7, 8] [0] (.exit 0) (spec.GetNum.l0.e1 a0 a1 x1)] [] [0] (nd (spec.GetNum.l0.spec a0 a1 K 0 0 _ e1) trivial) (by kernel_rfl)
def spec.GetText.f (K : Nat) (a0 : List Int) (a1 : Int) : Option (ByteArray × Int × Bool) :=
  Option.bind (spec.GetNum.f K a0 a1) fun x1 => cond (x1.2.2) (cond (decide (x1.1 > 400)) (some (noVal, 0, false)) (cond (decide (x1.1 > (w64 ((a0.length : Int) - x1.2.1)))) (some (noVal, 0, false)) (ck (0 ≤ x1.2.1) (ck (x1.2.1 ≤ (w64 (x1.2.1 + x1.1))) (ck ((w64 (x1.2.1 + x1.1)) ≤ (a0.length : Int)) (ck (x1.2.1.toNat + ((w64 (x1.2.1 + x1.1)).toNat - x1.2.1.toNat) ≤ a0.length) (some (ofBytes ((a0.drop x1.2.1.toNat).take ((w64 (x1.2.1 + x1.1)).toNat - x1.2.1.toNat)), w64 (x1.2.1 + x1.1), true)))))))) (some (noVal, 0, false))
theorem spec.GetText.spec (K : Nat) (a0 : List Int) (a1 : Int) (o : ByteArray × Int × Bool) (h : spec.GetText.f K a0 a1 = some o) : Den.Spec Tryz.prog 52 [one (.sl 0 0 a0.length), one (.int .i64 a1)] [some ⟨false, .ints .u8 a0⟩] (.tup [.c (.str o.1), .c (.int .i64 o.2.1), .c (.bool o.2.2)]) [some ⟨false, .ints .u8 a0⟩] := by
  unfold spec.GetText.f at h
  obtain ⟨x1, e1, h⟩ := bind_some h
  rcases br_cases h with ⟨c1, h⟩ | ⟨c1, h⟩
  · rcases br_cases h with ⟨c2, h⟩ | ⟨c2, h⟩
    · obtain rfl := Option.some.inj h
      exact Den.Spec.of_walk tab mixed Tryz.func52 (by kernel_rfl) [.call [] [(0, true)] (.tup [.c (.int .i64 x1.1), .c (.int .i64 x1.2.1), .c (.bool x1.2.2)]) (iF a0), bF, bF, bF, bT, bT, bT, bT, bT, bT, bT, bT] [] [0] (nd (spec.GetNum.spec K a0 a1 _ e1) (n0 (nl a0 (nd (nf c1) (nd (nf c1) (nd (nf c1) (nd c2 (nd c2 (nd c2 (nd c2 (nd c2 (nd c2 (nd c2 (nd tt trivial)))))))))))))) (by kernel_rfl)
    · rcases br_cases h with ⟨c3, h⟩ | ⟨c3, h⟩
      · obtain rfl := Option.some.inj h
        exact Den.Spec.of_walk tab mixed Tryz.func52 (by kernel_rfl) [.call [] [(0, true)] (.tup [.c (.int .i64 x1.1), .c (.int .i64 x1.2.1), .c (.bool x1.2.2)]) (iF a0), bF, bF, bF, bF, bF, bF, bF, bF, bF, bF, bT] [] [0] (nd (spec.GetNum.spec K a0 a1 _ e1) (n0 (nl a0 (nd (nf c1) (nd (nf c1) (nd (nf c1) (nd c2 (nd c2 (nd c2 (nd c2 (nd c2 (nd c2 (nd c2 (nd c3 trivial)))))))))))))) (by kernel_rfl)
      · obtain ⟨p1, h⟩ := ck_some h
        obtain ⟨p2, h⟩ := ck_some h
        obtain ⟨p3, h⟩ := ck_some h
        obtain ⟨p4, h⟩ := ck_some h
        obtain rfl := Option.some.inj h
        exact Den.Spec.of_walk tab mixed Tryz.func52 (by kernel_rfl) [.call [] [(0, true)] (.tup [.c (.int .i64 x1.1), .c (.int .i64 x1.2.1), .c (.bool x1.2.2)]) (iF a0), bF, bF, bF, bF, bF, bF, bF, bF, bF, bF, bF, bF] [] [0] (nd (spec.GetNum.spec K a0 a1 _ e1) (n0 (nl a0 (nd (nf c1) (nd (nf c1) (nd (nf c1) (nd c2 (nd c2 (nd c2 (nd c2 (nd c2 (nd c2 (nd c2 (nd c3 (nd p1 (nd p2 (nd p3 (nd p4 trivial)))))))))))))))))) (by kernel_rfl)
  · obtain rfl := Option.some.inj h
    exact Den.Spec.of_walk tab mixed Tryz.func52 (by kernel_rfl) [.call [] [(0, true)] (.tup [.c (.int .i64 x1.1), .c (.int .i64 x1.2.1), .c (.bool x1.2.2)]) (iF a0), bT, bT, bT, bT, bT, bT, bT, bT, bT, bT, bT] [] [0] (nd (spec.GetNum.spec K a0 a1 _ e1) (n0 (nl a0 (nd (nt c1) (nd (nt c1) (nd (nt c1) (nd tt (nd tt (nd tt (nd tt (nd tt (nd tt (nd tt (nd tt trivial)))))))))))))) (by kernel_rfl)
def spec.LogRead.l0.f (K : Nat) (a0 : ByteArray) : Nat → Int → Int → (List (Int × ByteArray)) → Int → Option (Unit ⊕ (List (Int × ByteArray)))
  | 0, _, _, _, _ => none
  | k + 1, v82_0, v82_1, v82_2, v82_3 =>
    cond (decide (v82_3 < v82_0)) (Option.bind (spec.GetNum.f K (bytesL a0) v82_1) fun x1 => cond (x1.2.2) (Option.bind (spec.GetText.f K (bytesL a0) x1.2.1) fun x2 => cond (x2.2.2) (ck ((v82_2 ++ [(x1.1, x2.1)]).length * 24 ≤ 70368744177664) (spec.LogRead.l0.f K a0 k v82_0 x2.2.1 (v82_2 ++ [(x1.1, x2.1)]) (w64 (v82_3 + 1)))) (some (.inl ()))) (some (.inl ()))) (some (.inr (v82_2)))
def spec.LogRead.l0.s (K : Nat) (a0 : ByteArray) (v82_0 : Int) (v82_1 : Int) (v82_2 : List (Int × ByteArray)) (v82_3 : Int) : St := mkSt 89 [(0, one (.str a0)), (4, one (.sl 0 0 0)), (5, one (.sl 1 0 ((bytesL a0).length))), (9, one (.int .i64 v82_0)), (10, one (.int .i64 v82_1)), (12, one (.sl 2 0 v82_2.length)), (13, one (.int .i64 v82_3))] [some ⟨true, .puts []⟩, some ⟨true, .ints .u8 (bytesL a0)⟩, some ⟨true, .puts v82_2⟩]
def spec.LogRead.l0.e0 (K : Nat) (a0 : ByteArray) (o : Unit) : St := mkSt 89 [(2, one (.sl 0 0 0)), (3, one (.bool false))] [some ⟨true, .puts []⟩]
def spec.LogRead.l0.e1 (K : Nat) (a0 : ByteArray) (o : (List (Int × ByteArray))) : St := mkSt 89 [(0, one (.str a0)), (4, one (.sl 0 0 0)), (12, one (.sl 1 0 o.length))] [some ⟨true, .puts []⟩, some ⟨true, .puts o⟩]
def spec.LogRead.l0.x (K : Nat) (a0 : ByteArray) : (Unit ⊕ (List (Int × ByteArray))) → AExit × St := Sum.elim (fun o => (.ret, spec.LogRead.l0.e0 K a0 o)) (fun o => (.exit 0, spec.LogRead.l0.e1 K a0 o))
theorem spec.LogRead.l0.spec (K : Nat) (a0 : ByteArray) : ∀ (k : Nat) (v82_0 : Int) (v82_1 : Int) (v82_2 : List (Int × ByteArray)) (v82_3 : Int) (o : Unit ⊕ (List (Int × ByteArray))), spec.LogRead.l0.f K a0 k v82_0 v82_1 v82_2 v82_3 = some o → LoopSpec Tryz.prog 0 (loopN Tryz.f13 0) (spec.LogRead.l0.s K a0 v82_0 v82_1 v82_2 v82_3) (spec.LogRead.l0.x K a0 o).1 (spec.LogRead.l0.x K a0 o).2
  | 0, _, _, _, _, _, h => by cases h
  | k + 1, v82_0, v82_1, v82_2, v82_3, o, h => by
    unfold spec.LogRead.l0.f at h
    rcases br_cases h with ⟨c1, h⟩ | ⟨c1, h⟩
    · obtain ⟨x1, e1, h⟩ := bind_some h
      rcases br_cases h with ⟨c2, h⟩ | ⟨c2, h⟩
      · obtain ⟨x2, e2, h⟩ := bind_some h
        rcases br_cases h with ⟨c3, h⟩ | ⟨c3, h⟩
        · obtain ⟨p1, h⟩ := ck_some h
          exact .of_step tab mixed [bT, .call [] [(0, true)] (.tup [.c (.int .i64 x1.1), .c (.int .i64 x1.2.1), .c (.bool x1.2.2)]) [some ⟨false, .ints .u8 (bytesL a0)⟩], bF, .call [] [(0, true)] (.tup [.c (.str x2.1), .c (.int .i64 x2.2.1), .c (.bool x2.2.2)]) [some ⟨false, .ints .u8 (bytesL a0)⟩], bF, bT] [] [0, 4, 5, 9, 10, 12, 13] [0, 1, 4] (s1 := spec.LogRead.l0.s K a0 v82_0 x2.2.1 (v82_2 ++ [(x1.1, x2.1)]) (w64 (v82_3 + 1))) (nd c1 (nd (spec.GetNum.spec K (bytesL a0) v82_1 _ e1) (n0 (nd (rfl : (bytesL a0).length = (bytesL a0).length) (nd (nf c2) (nd (spec.GetText.spec K (bytesL a0) x1.2.1 _ e2) (n0 (nd (rfl : (bytesL a0).length = (bytesL a0).length) (nd (nf c3) (n0 (nl v82_2 (nd p1 (n0 (nn 1 trivial)))))))))))))) (by kernel_rfl) (spec.LogRead.l0.spec K a0 k v82_0 x2.2.1 (v82_2 ++ [(x1.1, x2.1)]) (w64 (v82_3 + 1)) _ h)
        · obtain rfl := Option.some.inj h
          exact .of_done tab mixed [bT, .call [] [(0, true)] (.tup [.c (.int .i64 x1.1), .c (.int .i64 x1.2.1), .c (.bool x1.2.2)]) [some ⟨false, .ints .u8 (bytesL a0)⟩], bF, .call [] [(0, true)] (.tup [.c (.str x2.1), .c (.int .i64 x2.2.1), .c (.bool x2.2.2)]) [some ⟨false, .ints .u8 (bytesL a0)⟩], bT] [] [2, 3] [0] rfl (nd c1 (nd (spec.GetNum.spec K (bytesL a0) v82_1 _ e1) (n0 (nd (rfl : (bytesL a0).length = (bytesL a0).length) (nd (nf c2) (nd (spec.GetText.spec K (bytesL a0) x1.2.1 _ e2) (n0 (nd (rfl : (bytesL a0).length = (bytesL a0).length) (nd (nt c3) trivial))))))))) (by kernel_rfl)
      · obtain rfl := Option.some.inj h
        exact .of_done tab mixed [bT, .call [] [(0, true)] (.tup [.c (.int .i64 x1.1), .c (.int .i64 x1.2.1), .c (.bool x1.2.2)]) [some ⟨false, .ints .u8 (bytesL a0)⟩], bT] [] [2, 3] [0] rfl (nd c1 (nd (spec.GetNum.spec K (bytesL a0) v82_1 _ e1) (n0 (nd (rfl : (bytesL a0).length = (bytesL a0).length) (nd (nt c2) trivial))))) (by kernel_rfl)
    · obtain rfl := Option.some.inj h
      exact .of_done tab mixed [bF] [] [0, 4, 12] [0, 2] rfl (nd c1 trivial) (by kernel_rfl)
def spec.LogRead.f (K : Nat) (a0 : ByteArray) : Option ((List (Int × ByteArray)) × Bool) :=
  Option.bind (spec.GetNum.f K (bytesL a0) 0) fun x1 => cond (x1.2.2) (Option.bind (spec.GetNum.f K (bytesL a0) x1.2.1) fun x2 => cond (x2.2.2) (cond (decide (x2.1 > 3)) (some ([], false)) (Option.bind (spec.LogRead.l0.f K a0 K x2.1 x2.2.1 [] 0) fun x3 => (Sum.elim (fun x3 => some ([], false)) (fun x3 => cond (strEq a0 noVal) (some ([], false)) (Option.bind (spec.LogText.f K x3) fun x4 => cond (strEq x4 a0) (some (x3, true)) (some ([], false))))) x3)) (some ([], false))) (some ([], false))
theorem spec.LogRead.spec (K : Nat) (a0 : ByteArray) (o : (List (Int × ByteArray)) × Bool) (h : spec.LogRead.f K a0 = some o) : Den.Spec Tryz.prog 13 [one (.str a0)] [] (.tup [.c (.sl 0 0 o.1.length), .c (.bool o.2)]) [some ⟨true, .puts o.1⟩] := by
  unfold spec.LogRead.f at h
  obtain ⟨x1, e1, h⟩ := bind_some h
  rcases br_cases h with ⟨c1, h⟩ | ⟨c1, h⟩
  · obtain ⟨x2, e2, h⟩ := bind_some h
    rcases br_cases h with ⟨c2, h⟩ | ⟨c2, h⟩
    · rcases br_cases h with ⟨c3, h⟩ | ⟨c3, h⟩
      · obtain rfl := Option.some.inj h
        exact Den.Spec.of_walk tab mixed Tryz.func13 (by kernel_rfl) [.call [] [(0, true)] (.tup [.c (.int .i64 x1.1), .c (.int .i64 x1.2.1), .c (.bool x1.2.2)]) [some ⟨false, .ints .u8 (bytesL a0)⟩], bF, .call [] [(0, true)] (.tup [.c (.int .i64 x2.1), .c (.int .i64 x2.2.1), .c (.bool x2.2.2)]) [some ⟨false, .ints .u8 (bytesL a0)⟩], bF, bF, bF, bT] [] [0] (nd (spec.GetNum.spec K (bytesL a0) 0 _ e1) (n0 (nd (rfl : (bytesL a0).length = (bytesL a0).length) (nd (nf c1) (nd (spec.GetNum.spec K (bytesL a0) x1.2.1 _ e2) (n0 (nd (rfl : (bytesL a0).length = (bytesL a0).length) (nd (nf c2) (nd (nf c2) (nd (nf c2) (nd c3 trivial))))))))))) (by kernel_rfl)
      · obtain ⟨x3, e3, h⟩ := bind_some h
        rcases x3 with x3 | x3
        · obtain rfl := Option.some.inj h
          exact Den.Spec.of_walk tab mixed Tryz.func13 (by kernel_rfl) [.call [] [(0, true)] (.tup [.c (.int .i64 x1.1), .c (.int .i64 x1.2.1), .c (.bool x1.2.2)]) [some ⟨false, .ints .u8 (bytesL a0)⟩], bF, .call [] [(0, true)] (.tup [.c (.int .i64 x2.1), .c (.int .i64 x2.2.1), .c (.bool x2.2.2)]) [some ⟨false, .ints .u8 (bytesL a0)⟩], bF, bF, bF, bF, .loop [] [0, 4, 5, 9, 10, 12, 13] [0, 1, 2] (.ret) (spec.LogRead.l0.e0 K a0 x3)] [] [0] (nd (spec.GetNum.spec K (bytesL a0) 0 _ e1) (n0 (nd (rfl : (bytesL a0).length = (bytesL a0).length) (nd (nf c1) (nd (spec.GetNum.spec K (bytesL a0) x1.2.1 _ e2) (n0 (nd (rfl : (bytesL a0).length = (bytesL a0).length) (nd (nf c2) (nd (nf c2) (nd (nf c2) (nd c3 (nd (spec.LogRead.l0.spec K a0 K x2.1 x2.2.1 [] 0 _ e3) trivial)))))))))))) (by kernel_rfl)
        · rcases br_cases h with ⟨c4, h⟩ | ⟨c4, h⟩
          · obtain rfl := Option.some.inj h
            exact Den.Spec.of_walk tab mixed Tryz.func13 (by kernel_rfl) [.call [] [(0, true)] (.tup [.c (.int .i64 x1.1), .c (.int .i64 x1.2.1), .c (.bool x1.2.2)]) [some ⟨false, .ints .u8 (bytesL a0)⟩], bF, .call [] [(0, true)] (.tup [.c (.int .i64 x2.1), .c (.int .i64 x2.2.1), .c (.bool x2.2.2)]) [some ⟨false, .ints .u8 (bytesL a0)⟩], bF, bF, bF, bF, .loop [] [0, 4, 5, 9, 10, 12, 13] [0, 1, 2] (.exit 0) (spec.LogRead.l0.e1 K a0 x3), bT, bT, bT, bT, bT, bT] [] [0] (nd (spec.GetNum.spec K (bytesL a0) 0 _ e1) (n0 (nd (rfl : (bytesL a0).length = (bytesL a0).length) (nd (nf c1) (nd (spec.GetNum.spec K (bytesL a0) x1.2.1 _ e2) (n0 (nd (rfl : (bytesL a0).length = (bytesL a0).length) (nd (nf c2) (nd (nf c2) (nd (nf c2) (nd c3 (nd (spec.LogRead.l0.spec K a0 K x2.1 x2.2.1 [] 0 _ e3) (nd c4 (nd c4 (nd c4 (nd c4 (nd c4 (nd tt trivial)))))))))))))))))) (by kernel_rfl)
          · obtain ⟨x4, e4, h⟩ := bind_some h
            rcases br_cases h with ⟨c5, h⟩ | ⟨c5, h⟩
            · obtain rfl := Option.some.inj h
              exact Den.Spec.of_walk tab mixed Tryz.func13 (by kernel_rfl) [.call [] [(0, true)] (.tup [.c (.int .i64 x1.1), .c (.int .i64 x1.2.1), .c (.bool x1.2.2)]) [some ⟨false, .ints .u8 (bytesL a0)⟩], bF, .call [] [(0, true)] (.tup [.c (.int .i64 x2.1), .c (.int .i64 x2.2.1), .c (.bool x2.2.2)]) [some ⟨false, .ints .u8 (bytesL a0)⟩], bF, bF, bF, bF, .loop [] [0, 4, 5, 9, 10, 12, 13] [0, 1, 2] (.exit 0) (spec.LogRead.l0.e1 K a0 x3), bF, bF, .call [] [(0, true)] (one (.str x4)) [some ⟨false, .puts x3⟩], bF, bF, bF, bF] [] [1] (nd (spec.GetNum.spec K (bytesL a0) 0 _ e1) (n0 (nd (rfl : (bytesL a0).length = (bytesL a0).length) (nd (nf c1) (nd (spec.GetNum.spec K (bytesL a0) x1.2.1 _ e2) (n0 (nd (rfl : (bytesL a0).length = (bytesL a0).length) (nd (nf c2) (nd (nf c2) (nd (nf c2) (nd c3 (nd (spec.LogRead.l0.spec K a0 K x2.1 x2.2.1 [] 0 _ e3) (nd c4 (nd c4 (nd (spec.LogText.spec K x3 _ e4) (n0 (nl x3 (nd c4 (nd c4 (nd c4 (nd (nf c5) trivial))))))))))))))))))))) (by kernel_rfl)
            · obtain rfl := Option.some.inj h
              exact Den.Spec.of_walk tab mixed Tryz.func13 (by kernel_rfl) [.call [] [(0, true)] (.tup [.c (.int .i64 x1.1), .c (.int .i64 x1.2.1), .c (.bool x1.2.2)]) [some ⟨false, .ints .u8 (bytesL a0)⟩], bF, .call [] [(0, true)] (.tup [.c (.int .i64 x2.1), .c (.int .i64 x2.2.1), .c (.bool x2.2.2)]) [some ⟨false, .ints .u8 (bytesL a0)⟩], bF, bF, bF, bF, .loop [] [0, 4, 5, 9, 10, 12, 13] [0, 1, 2] (.exit 0) (spec.LogRead.l0.e1 K a0 x3), bF, bF, .call [] [(0, true)] (one (.str x4)) [some ⟨false, .puts x3⟩], bF, bF, bF, bT] [] [0] (nd (spec.GetNum.spec K (bytesL a0) 0 _ e1) (n0 (nd (rfl : (bytesL a0).length = (bytesL a0).length) (nd (nf c1) (nd (spec.GetNum.spec K (bytesL a0) x1.2.1 _ e2) (n0 (nd (rfl : (bytesL a0).length = (bytesL a0).length) (nd (nf c2) (nd (nf c2) (nd (nf c2) (nd c3 (nd (spec.LogRead.l0.spec K a0 K x2.1 x2.2.1 [] 0 _ e3) (nd c4 (nd c4 (nd (spec.LogText.spec K x3 _ e4) (n0 (nl x3 (nd c4 (nd c4 (nd c4 (nd (nt c5) trivial))))))))))))))))))))) (by kernel_rfl)
    · obtain rfl := Option.some.inj h
      exact Den.Spec.of_walk tab mixed Tryz.func13 (by kernel_rfl) [.call [] [(0, true)] (.tup [.c (.int .i64 x1.1), .c (.int .i64 x1.2.1), .c (.bool x1.2.2)]) [some ⟨false, .ints .u8 (bytesL a0)⟩], bF, .call [] [(0, true)] (.tup [.c (.int .i64 x2.1), .c (.int .i64 x2.2.1), .c (.bool x2.2.2)]) [some ⟨false, .ints .u8 (bytesL a0)⟩], bT, bT, bT, bT] [] [0] (nd (spec.GetNum.spec K (bytesL a0) 0 _ e1) (n0 (nd (rfl : (bytesL a0).length = (bytesL a0).length) (nd (nf c1) (nd (spec.GetNum.spec K (bytesL a0) x1.2.1 _ e2) (n0 (nd (rfl : (bytesL a0).length = (bytesL a0).length) (nd (nt c2) (nd (nt c2) (nd (nt c2) (nd tt trivial))))))))))) (by kernel_rfl)
  · obtain rfl := Option.some.inj h
    exact Den.Spec.of_walk tab mixed Tryz.func13 (by kernel_rfl) [.call [] [(0, true)] (.tup [.c (.int .i64 x1.1), .c (.int .i64 x1.2.1), .c (.bool x1.2.2)]) [some ⟨false, .ints .u8 (bytesL a0)⟩], bT] [] [0] (nd (spec.GetNum.spec K (bytesL a0) 0 _ e1) (n0 (nd (rfl : (bytesL a0).length = (bytesL a0).length) (nd (nt c1) trivial)))) (by kernel_rfl)
def spec.ChipNew.f : Option (Unit) :=
  ck ((60 * (16 : Int)) ≤ 70368744177664) (ck ((10 * (8 : Int)) ≤ 70368744177664) (some ()))
theorem spec.ChipNew.spec (o : Unit) (h : spec.ChipNew.f = some o) : Den.Spec Tryz.prog 21 [] [] (.v (.agg [.sl 0 0 ((List.replicate 60 noVal).length), .sl 1 0 ((List.replicate 10 (0 : Int)).length)])) [some ⟨true, .strs (List.replicate 60 noVal)⟩, some ⟨true, .ints .i64 (List.replicate 10 (0 : Int))⟩] := by
  unfold spec.ChipNew.f at h
  obtain ⟨p1, h⟩ := ck_some h
  obtain ⟨p2, h⟩ := ck_some h
  obtain rfl := Option.some.inj h
  exact Den.Spec.of_walk tab mixed Tryz.func21 (by kernel_rfl) [] [] [3, 11] (nd (by decide : (0 : Int) ≤ 60) (nd (rfl : (60 : Int) = (60 : Int)) (nd p1 (nd (by decide : (0 : Int) ≤ 10) (nd (rfl : (10 : Int) = (10 : Int)) (nd p2 trivial)))))) (by kernel_rfl)
def spec.ChipOk.l0.f (a0 : List ByteArray) (a1 : List Int) : Nat → Int → Option (Unit ⊕ Unit)
  | 0, _ => none
  | k + 1, v87_0 =>
    cond (decide (v87_0 < (a0.length : Int))) (ck (0 ≤ v87_0) (cond (decide (((a0.getD v87_0.toNat noVal).size : Int) > 800)) (some (.inl ())) (spec.ChipOk.l0.f a0 a1 k (w64 (v87_0 + 1))))) (some (.inr (())))
def spec.ChipOk.l0.s (a0 : List ByteArray) (a1 : List Int) (v87_0 : Int) : St := mkSt 43 [(1, one (.ptr 2 0 0)), (3, one (.int .i64 v87_0))] [some ⟨false, .strs a0⟩, some ⟨false, .ints .i64 a1⟩, some ⟨true, .cells [.sl 0 0 a0.length, .sl 1 0 a1.length]⟩]
def spec.ChipOk.l0.e0 (a0 : List ByteArray) (a1 : List Int) (o : Unit) : St := mkSt 43 [(2, one (.bool false))] [some ⟨false, .strs a0⟩, some ⟨false, .ints .i64 a1⟩]
def spec.ChipOk.l0.e1 (a0 : List ByteArray) (a1 : List Int) (o : Unit) : St := mkSt 43 [(1, one (.ptr 2 0 0))] [some ⟨false, .strs a0⟩, some ⟨false, .ints .i64 a1⟩, some ⟨true, .cells [.sl 0 0 a0.length, .sl 1 0 a1.length]⟩]
def spec.ChipOk.l0.x (a0 : List ByteArray) (a1 : List Int) : (Unit ⊕ Unit) → AExit × St := Sum.elim (fun o => (.ret, spec.ChipOk.l0.e0 a0 a1 o)) (fun o => (.exit 0, spec.ChipOk.l0.e1 a0 a1 o))
theorem spec.ChipOk.l0.spec (a0 : List ByteArray) (a1 : List Int) : ∀ (k : Nat) (v87_0 : Int) (o : Unit ⊕ Unit), spec.ChipOk.l0.f a0 a1 k v87_0 = some o → LoopSpec Tryz.prog 2 (loopN Tryz.f62 0) (spec.ChipOk.l0.s a0 a1 v87_0) (spec.ChipOk.l0.x a0 a1 o).1 (spec.ChipOk.l0.x a0 a1 o).2
  | 0, _, _, h => by cases h
  | k + 1, v87_0, o, h => by
    unfold spec.ChipOk.l0.f at h
    rcases br_cases h with ⟨c1, h⟩ | ⟨c1, h⟩
    · obtain ⟨p1, h⟩ := ck_some h
      rcases br_cases h with ⟨c2, h⟩ | ⟨c2, h⟩
      · obtain rfl := Option.some.inj h
        exact .of_done tab mixed [bT, bT] [] [2] [0, 1] rfl (nd c1 (nd p1 (nd (of_decide_eq_true c1) (nd (tn p1 (of_decide_eq_true c1)) (nd c2 trivial))))) (by kernel_rfl)
      · exact .of_step tab mixed [bT, bF] [] [1, 3] [0, 1, 2] (s1 := spec.ChipOk.l0.s a0 a1 (w64 (v87_0 + 1))) (nd c1 (nd p1 (nd (of_decide_eq_true c1) (nd (tn p1 (of_decide_eq_true c1)) (nd c2 trivial))))) (by kernel_rfl) (spec.ChipOk.l0.spec a0 a1 k (w64 (v87_0 + 1)) _ h)
    · obtain rfl := Option.some.inj h
      exact .of_done tab mixed [bF] [] [1] [0, 1, 2] rfl (nd c1 trivial) (by kernel_rfl)
def spec.ChipOk.l1.f (a0 : List ByteArray) (a1 : List Int) : Nat → Int → Option (Unit ⊕ Unit)
  | 0, _ => none
  | k + 1, v88_0 =>
    cond (decide (v88_0 < (a1.length : Int))) (ck (0 ≤ v88_0) (Option.bind (spec.l1In.f (a1.getD v88_0.toNat 0) 0 1000000000) fun x1 => cond (x1) (spec.ChipOk.l1.f a0 a1 k (w64 (v88_0 + 1))) (some (.inl ())))) (some (.inr (())))
def spec.ChipOk.l1.s (a0 : List ByteArray) (a1 : List Int) (v88_0 : Int) : St := mkSt 43 [(1, one (.ptr 2 0 0)), (4, one (.int .i64 v88_0))] [some ⟨false, .strs a0⟩, some ⟨false, .ints .i64 a1⟩, some ⟨true, .cells [.sl 0 0 a0.length, .sl 1 0 a1.length]⟩]
def spec.ChipOk.l1.e0 (a0 : List ByteArray) (a1 : List Int) (o : Unit) : St := mkSt 43 [(2, one (.bool false))] [some ⟨false, .strs a0⟩, some ⟨false, .ints .i64 a1⟩]
def spec.ChipOk.l1.e1 (a0 : List ByteArray) (a1 : List Int) (o : Unit) : St := mkSt 43 [] [some ⟨false, .strs a0⟩, some ⟨false, .ints .i64 a1⟩]
def spec.ChipOk.l1.x (a0 : List ByteArray) (a1 : List Int) : (Unit ⊕ Unit) → AExit × St := Sum.elim (fun o => (.ret, spec.ChipOk.l1.e0 a0 a1 o)) (fun o => (.exit 2, spec.ChipOk.l1.e1 a0 a1 o))
theorem spec.ChipOk.l1.spec (a0 : List ByteArray) (a1 : List Int) : ∀ (k : Nat) (v88_0 : Int) (o : Unit ⊕ Unit), spec.ChipOk.l1.f a0 a1 k v88_0 = some o → LoopSpec Tryz.prog 2 (loopN Tryz.f62 1) (spec.ChipOk.l1.s a0 a1 v88_0) (spec.ChipOk.l1.x a0 a1 o).1 (spec.ChipOk.l1.x a0 a1 o).2
  | 0, _, _, h => by cases h
  | k + 1, v88_0, o, h => by
    unfold spec.ChipOk.l1.f at h
    rcases br_cases h with ⟨c1, h⟩ | ⟨c1, h⟩
    · obtain ⟨p1, h⟩ := ck_some h
      obtain ⟨x1, e1, h⟩ := bind_some h
      rcases br_cases h with ⟨c2, h⟩ | ⟨c2, h⟩
      · exact .of_step tab mixed [bT, .call [] [] (one (.bool x1)) [], bF] [] [1, 4] [0, 1, 2] (s1 := spec.ChipOk.l1.s a0 a1 (w64 (v88_0 + 1))) (nd c1 (nd p1 (nd (of_decide_eq_true c1) (nd (tn p1 (of_decide_eq_true c1)) (nd (spec.l1In.spec (a1.getD v88_0.toNat 0) 0 1000000000 _ e1) (nd (nf c2) trivial)))))) (by kernel_rfl) (spec.ChipOk.l1.spec a0 a1 k (w64 (v88_0 + 1)) _ h)
      · obtain rfl := Option.some.inj h
        exact .of_done tab mixed [bT, .call [] [] (one (.bool x1)) [], bT] [] [2] [0, 1] rfl (nd c1 (nd p1 (nd (of_decide_eq_true c1) (nd (tn p1 (of_decide_eq_true c1)) (nd (spec.l1In.spec (a1.getD v88_0.toNat 0) 0 1000000000 _ e1) (nd (nt c2) trivial)))))) (by kernel_rfl)
    · obtain rfl := Option.some.inj h
      exact .of_done tab mixed [bF] [] [] [0, 1] rfl (nd c1 trivial) (by kernel_rfl)
def spec.ChipOk.f (K : Nat) (a0 : List ByteArray) (a1 : List Int) : Option (Bool) :=
  cond ((a0.length : Int) != 60) (some false) (cond ((a1.length : Int) != 10) (some false) (Option.bind (spec.ChipOk.l0.f a0 a1 K 0) fun x1 => (Sum.elim (fun x1 => some false) (fun x1 => Option.bind (spec.ChipOk.l1.f a0 a1 K 0) fun x2 => (Sum.elim (fun x2 => some false) (fun x2 => some true)) x2)) x1))
theorem spec.ChipOk.spec (K : Nat) (a0 : List ByteArray) (a1 : List Int) (o : Bool) (h : spec.ChipOk.f K a0 a1 = some o) : Den.Spec Tryz.prog 62 [.v (.agg [.sl 0 0 a0.length, .sl 1 0 a1.length])] [some ⟨false, .strs a0⟩, some ⟨false, .ints .i64 a1⟩] (one (.bool o)) [some ⟨false, .strs a0⟩, some ⟨false, .ints .i64 a1⟩] := by
  unfold spec.ChipOk.f at h
  rcases br_cases h with ⟨c1, h⟩ | ⟨c1, h⟩
  · obtain rfl := Option.some.inj h
    exact Den.Spec.of_walk tab mixed Tryz.func62 (by kernel_rfl) [bT, bT, bT, bT, bT, bT] [] [0, 1] (nd c1 (nd c1 (nd c1 (nd c1 (nd c1 (nd tt trivial)))))) (by kernel_rfl)
  · rcases br_cases h with ⟨c2, h⟩ | ⟨c2, h⟩
    · obtain rfl := Option.some.inj h
      exact Den.Spec.of_walk tab mixed Tryz.func62 (by kernel_rfl) [bF, bF, bF, bF, bF, bT] [] [0, 1] (nd c1 (nd c1 (nd c1 (nd c1 (nd c1 (nd c2 trivial)))))) (by kernel_rfl)
    · obtain ⟨x1, e1, h⟩ := bind_some h
      rcases x1 with x1 | x1
      · obtain rfl := Option.some.inj h
        exact Den.Spec.of_walk tab mixed Tryz.func62 (by kernel_rfl) [bF, bF, bF, bF, bF, bF, .loop [] [1, 3] [0, 1, 2] (.ret) (spec.ChipOk.l0.e0 a0 a1 x1)] [] [0, 1] (nd c1 (nd c1 (nd c1 (nd c1 (nd c1 (nd c2 (nd (spec.ChipOk.l0.spec a0 a1 K 0 _ e1) trivial))))))) (by kernel_rfl)
      · obtain ⟨x2, e2, h⟩ := bind_some h
        rcases x2 with x2 | x2
        · obtain rfl := Option.some.inj h
          exact Den.Spec.of_walk tab mixed Tryz.func62 (by kernel_rfl) [bF, bF, bF, bF, bF, bF, .loop [] [1, 3] [0, 1, 2] (.exit 0) (spec.ChipOk.l0.e1 a0 a1 x1), .loop [] [1, 4] [0, 1, 2] (.ret) (spec.ChipOk.l1.e0 a0 a1 x2)] [] [0, 1] (nd c1 (nd c1 (nd c1 (nd c1 (nd c1 (nd c2 (nd (spec.ChipOk.l0.spec a0 a1 K 0 _ e1) (nd (spec.ChipOk.l1.spec a0 a1 K 0 _ e2) trivial)))))))) (by kernel_rfl)
        · obtain rfl := Option.some.inj h
          exact Den.Spec.of_walk tab mixed Tryz.func62 (by kernel_rfl) [bF, bF, bF, bF, bF, bF, .loop [] [1, 3] [0, 1, 2] (.exit 0) (spec.ChipOk.l0.e1 a0 a1 x1), .loop [] [1, 4] [0, 1, 2] (.exit 2) (spec.ChipOk.l1.e1 a0 a1 x2)] [] [0, 1] (nd c1 (nd c1 (nd c1 (nd c1 (nd c1 (nd c2 (nd (spec.ChipOk.l0.spec a0 a1 K 0 _ e1) (nd (spec.ChipOk.l1.spec a0 a1 K 0 _ e2) trivial)))))))) (by kernel_rfl)
def spec.l2Copy.f (a0 : List ByteArray) (a1 : List Int) : Option (Unit) :=
  ck (([] ++ a0).length * 16 ≤ 70368744177664) (ck (([] ++ a1).length * 8 ≤ 70368744177664) (some ()))
theorem spec.l2Copy.spec (a0 : List ByteArray) (a1 : List Int) (o : Unit) (h : spec.l2Copy.f a0 a1 = some o) : Den.Spec Tryz.prog 63 [.v (.agg [.sl 0 0 a0.length, .sl 1 0 a1.length])] [some ⟨false, .strs a0⟩, some ⟨false, .ints .i64 a1⟩] (.v (.agg [.sl 2 0 (([] ++ a0).length), .sl 3 0 (([] ++ a1).length)])) [some ⟨false, .strs a0⟩, some ⟨false, .ints .i64 a1⟩, some ⟨true, .strs ([] ++ a0)⟩, some ⟨true, .ints .i64 ([] ++ a1)⟩] := by
  unfold spec.l2Copy.f at h
  obtain ⟨p1, h⟩ := ck_some h
  obtain ⟨p2, h⟩ := ck_some h
  obtain rfl := Option.some.inj h
  exact Den.Spec.of_walk tab mixed Tryz.func63 (by kernel_rfl) [bT, bT] [] [0, 1, 30, 62] (n0 (nn 0 (nd p1 (n0 (nl a0 (n0 (nn 0 (nd p2 (n0 (nl a1 trivial)))))))))) (by kernel_rfl)
def spec.Mount.l0.f (a0 : List ByteArray) (a1 : List Int) : Nat → (List Int) → Int → Option ((List Int))
  | 0, _, _ => none
  | k + 1, v98_0, v98_1 =>
    cond (decide (v98_1 < 26)) (ck ((v98_0 ++ [(-1)]).length * 8 ≤ 70368744177664) (spec.Mount.l0.f a0 a1 k (v98_0 ++ [(-1)]) (w64 (v98_1 + 1)))) (some v98_0)
def spec.Mount.l0.s (a0 : List ByteArray) (a1 : List Int) (v98_0 : List Int) (v98_1 : Int) : St := mkSt 73 [(1, one (.ptr 2 0 0)), (2, one (.ptr 3 0 0)), (3, one (.ptr 7 0 0)), (4, one (.sl 11 0 ((List.replicate 26 (0 : Int)).length))), (5, one (.int .i64 v98_1))] [some ⟨false, .strs a0⟩, some ⟨false, .ints .i64 a1⟩, some ⟨true, .cells [.sl 0 0 a0.length, .sl 1 0 a1.length]⟩, some ⟨true, .cells [.sl 4 0 0, .sl 5 0 0, .sl 6 0 0, .int .i64 0]⟩, some ⟨true, .strs []⟩, some ⟨true, .ints .i64 []⟩, some ⟨true, .ints .i64 []⟩, some ⟨true, .cells [.sl 8 0 (([] ++ a0).length), .sl 9 0 (([] ++ a1).length), .sl 10 0 v98_0.length, .int .i64 1]⟩, some ⟨true, .strs ([] ++ a0)⟩, some ⟨true, .ints .i64 ([] ++ a1)⟩, some ⟨true, .ints .i64 v98_0⟩, some ⟨true, .ints .i64 (List.replicate 26 (0 : Int))⟩]
def spec.Mount.l0.e0 (a0 : List ByteArray) (a1 : List Int) (o : (List Int)) : St := mkSt 73 [(1, one (.ptr 2 0 0)), (2, one (.ptr 3 0 0)), (3, one (.ptr 7 0 0)), (4, one (.sl 11 0 ((List.replicate 26 (0 : Int)).length)))] [some ⟨false, .strs a0⟩, some ⟨false, .ints .i64 a1⟩, some ⟨true, .cells [.sl 0 0 a0.length, .sl 1 0 a1.length]⟩, some ⟨true, .cells [.sl 4 0 0, .sl 5 0 0, .sl 6 0 0, .int .i64 0]⟩, some ⟨true, .strs []⟩, some ⟨true, .ints .i64 []⟩, some ⟨true, .ints .i64 []⟩, some ⟨true, .cells [.sl 8 0 (([] ++ a0).length), .sl 9 0 (([] ++ a1).length), .sl 10 0 o.length, .int .i64 1]⟩, some ⟨true, .strs ([] ++ a0)⟩, some ⟨true, .ints .i64 ([] ++ a1)⟩, some ⟨true, .ints .i64 o⟩, some ⟨true, .ints .i64 (List.replicate 26 (0 : Int))⟩]
def spec.Mount.l0.x (a0 : List ByteArray) (a1 : List Int) : ((List Int)) → AExit × St := fun o => (.exit 0, spec.Mount.l0.e0 a0 a1 o)
theorem spec.Mount.l0.spec (a0 : List ByteArray) (a1 : List Int) : ∀ (k : Nat) (v98_0 : List Int) (v98_1 : Int) (o : (List Int)), spec.Mount.l0.f a0 a1 k v98_0 v98_1 = some o → LoopSpec Tryz.prog 2 (loopN Tryz.f20 0) (spec.Mount.l0.s a0 a1 v98_0 v98_1) (spec.Mount.l0.x a0 a1 o).1 (spec.Mount.l0.x a0 a1 o).2
  | 0, _, _, _, h => by cases h
  | k + 1, v98_0, v98_1, o, h => by
    unfold spec.Mount.l0.f at h
    rcases br_cases h with ⟨c1, h⟩ | ⟨c1, h⟩
    · obtain ⟨p1, h⟩ := ck_some h
      exact .of_step tab mixed [bT, bT] [] [1, 2, 3, 4, 5] [0, 1, 2, 3, 4, 5, 6, 7, 8, 9, 13, 11] (s1 := spec.Mount.l0.s a0 a1 (v98_0 ++ [(-1)]) (w64 (v98_1 + 1))) (nd c1 (n0 (nl v98_0 (nd p1 (n0 (nn 1 trivial)))))) (by kernel_rfl) (spec.Mount.l0.spec a0 a1 k (v98_0 ++ [(-1)]) (w64 (v98_1 + 1)) _ h)
    · obtain rfl := Option.some.inj h
      exact .of_done tab mixed [bF] [] [1, 2, 3, 4] [0, 1, 2, 3, 4, 5, 6, 7, 8, 9, 10, 11] rfl (nd c1 trivial) (by kernel_rfl)
def spec.RecOk.f (a0 : Int) (a1 : Int) (a2 : ByteArray) : Option (Bool) :=
  Option.bind (spec.l1In.f a0 0 25) fun x1 => cond (x1) (Option.bind (spec.l1In.f a1 1 1000000000) fun x2 => cond (x2) (some (decide ((a2.size : Int) ≤ 400))) (some false)) (some false)
theorem spec.RecOk.spec (a0 : Int) (a1 : Int) (a2 : ByteArray) (o : Bool) (h : spec.RecOk.f a0 a1 a2 = some o) : Den.Spec Tryz.prog 105 [.v (.agg [.int .i64 a0, .int .i64 a1, .str a2])] [] (one (.bool o)) [] := by
  unfold spec.RecOk.f at h
  obtain ⟨x1, e1, h⟩ := bind_some h
  rcases br_cases h with ⟨c1, h⟩ | ⟨c1, h⟩
  · obtain ⟨x2, e2, h⟩ := bind_some h
    rcases br_cases h with ⟨c2, h⟩ | ⟨c2, h⟩
    · obtain rfl := Option.some.inj h
      exact Den.Spec.of_walk tab mixed Tryz.func105 (by kernel_rfl) [.call [] [] (one (.bool x1)) [], bT, bT, bT, .call [] [] (one (.bool x2)) [], bT, bT, bT, bT, bT, bT] [] [] (nd (spec.l1In.spec a0 0 25 _ e1) (nd c1 (nd c1 (nd c1 (nd (spec.l1In.spec a1 1 1000000000 _ e2) (nd c1 (nd c2 (nd c2 (nd c2 (nd c2 (nd c2 trivial))))))))))) (by kernel_rfl)
    · obtain rfl := Option.some.inj h
      exact Den.Spec.of_walk tab mixed Tryz.func105 (by kernel_rfl) [.call [] [] (one (.bool x1)) [], bT, bT, bT, .call [] [] (one (.bool x2)) [], bT, bF, bF, bF, bF, bF] [] [] (nd (spec.l1In.spec a0 0 25 _ e1) (nd c1 (nd c1 (nd c1 (nd (spec.l1In.spec a1 1 1000000000 _ e2) (nd c1 (nd c2 (nd c2 (nd c2 (nd c2 (nd c2 trivial))))))))))) (by kernel_rfl)
  · obtain rfl := Option.some.inj h
    exact Den.Spec.of_walk tab mixed Tryz.func105 (by kernel_rfl) [.call [] [] (one (.bool x1)) [], bF, bF, bF, bF, bF, bF, bF, bF, bF] [] [] (nd (spec.l1In.spec a0 0 25 _ e1) (nd c1 (nd c1 (nd c1 (nd c1 (nd ff (nd ff (nd ff (nd ff (nd ff trivial)))))))))) (by kernel_rfl)
def spec.RecText.f (K : Nat) (a0 : Int) (a1 : Int) (a2 : ByteArray) : Option (ByteArray) :=
  Option.bind (spec.RecOk.f a0 a1 a2) fun x1 => cond (x1) (Option.bind (spec.PutNum.f K a0) fun x2 => Option.bind (spec.PutNum.f K a1) fun x3 => ck ((x2 ++ x3).length * 1 ≤ 70368744177664) (Option.bind (spec.PutText.f K a2) fun x4 => ck (((x2 ++ x3) ++ x4).length * 1 ≤ 70368744177664) (Option.bind (spec.Sum.f K ((x2 ++ x3) ++ x4)) fun x5 => Option.bind (spec.PutNum.f K x5) fun x6 => ck ((x6 ++ ((x2 ++ x3) ++ x4)).length * 1 ≤ 70368744177664) (some (ofBytes (x6 ++ ((x2 ++ x3) ++ x4))))))) (some noVal)
theorem spec.RecText.spec (K : Nat) (a0 : Int) (a1 : Int) (a2 : ByteArray) (o : ByteArray) (h : spec.RecText.f K a0 a1 a2 = some o) : Den.Spec Tryz.prog 96 [.v (.agg [.int .i64 a0, .int .i64 a1, .str a2])] [] (one (.str o)) [] := by
  unfold spec.RecText.f at h
  obtain ⟨x1, e1, h⟩ := bind_some h
  rcases br_cases h with ⟨c1, h⟩ | ⟨c1, h⟩
  · obtain ⟨x2, e2, h⟩ := bind_some h
    obtain ⟨x3, e3, h⟩ := bind_some h
    obtain ⟨p1, h⟩ := ck_some h
    obtain ⟨x4, e4, h⟩ := bind_some h
    obtain ⟨p2, h⟩ := ck_some h
    obtain ⟨x5, e5, h⟩ := bind_some h
    obtain ⟨x6, e6, h⟩ := bind_some h
    obtain ⟨p3, h⟩ := ck_some h
    obtain rfl := Option.some.inj h
    exact Den.Spec.of_walk tab mixed Tryz.func96 (by kernel_rfl) [.call [] [] (one (.bool x1)) [], bF, .call [] [] (one (.sl 0 0 x2.length)) (iT x2), .call [] [] (one (.sl 0 0 x3.length)) (iT x3), bT, .call [] [] (one (.sl 0 0 x4.length)) (iT x4), bT, .call [] [(0, true)] (one (.int .i64 x5)) [some ⟨false, .ints .u8 ((x2 ++ x3) ++ x4)⟩], .call [] [] (one (.sl 0 0 x6.length)) (iT x6), bT, bT] [] [] (nd (spec.RecOk.spec a0 a1 a2 _ e1) (nd (nf c1) (nd (spec.PutNum.spec K a0 _ e2) (nd (spec.PutNum.spec K a1 _ e3) (n0 (nl x2 (nd p1 (n0 (nl x3 (nd (spec.PutText.spec K a2 _ e4) (n0 (nd (rfl : (x2 ++ x3).length = (x2 ++ x3).length) (nd p2 (n0 (nl x4 (nd (spec.Sum.spec K ((x2 ++ x3) ++ x4) _ e5) (n0 (nd (rfl : ((x2 ++ x3) ++ x4).length = ((x2 ++ x3) ++ x4).length) (nd (spec.PutNum.spec K x5 _ e6) (n0 (nl x6 (nd p3 (n0 (nd (rfl : ((x2 ++ x3) ++ x4).length = ((x2 ++ x3) ++ x4).length) (n0 (nd (rfl : (x6 ++ ((x2 ++ x3) ++ x4)).length = (x6 ++ ((x2 ++ x3) ++ x4)).length) trivial)))))))))))))))))))))))))) (by kernel_rfl)
  · obtain rfl := Option.some.inj h
    exact Den.Spec.of_walk tab mixed Tryz.func96 (by kernel_rfl) [.call [] [] (one (.bool x1)) [], bT] [] [] (nd (spec.RecOk.spec a0 a1 a2 _ e1) (nd (nt c1) trivial)) (by kernel_rfl)
def spec.RecRead.f (K : Nat) (a0 : ByteArray) : Option (Int × Int × ByteArray × Bool) :=
  Option.bind (spec.GetNum.f K (bytesL a0) 0) fun x1 => cond (x1.2.2) (Option.bind (spec.GetNum.f K (bytesL a0) x1.2.1) fun x2 => cond (x2.2.2) (Option.bind (spec.GetNum.f K (bytesL a0) x2.2.1) fun x3 => cond (x3.2.2) (Option.bind (spec.GetText.f K (bytesL a0) x3.2.1) fun x4 => cond (x4.2.2) (Option.bind (spec.RecText.f K x2.1 x3.1 x4.1) fun x5 => cond (strEq x5 a0) (some (x2.1, x3.1, x4.1, true)) (some (0, 0, noVal, false))) (some (0, 0, noVal, false))) (some (0, 0, noVal, false))) (some (0, 0, noVal, false))) (some (0, 0, noVal, false))
theorem spec.RecRead.spec (K : Nat) (a0 : ByteArray) (o : Int × Int × ByteArray × Bool) (h : spec.RecRead.f K a0 = some o) : Den.Spec Tryz.prog 64 [one (.str a0)] [] (.tup [.agg [.int .i64 o.1, .int .i64 o.2.1, .str o.2.2.1], .c (.bool o.2.2.2)]) [] := by
  unfold spec.RecRead.f at h
  obtain ⟨x1, e1, h⟩ := bind_some h
  rcases br_cases h with ⟨c1, h⟩ | ⟨c1, h⟩
  · obtain ⟨x2, e2, h⟩ := bind_some h
    rcases br_cases h with ⟨c2, h⟩ | ⟨c2, h⟩
    · obtain ⟨x3, e3, h⟩ := bind_some h
      rcases br_cases h with ⟨c3, h⟩ | ⟨c3, h⟩
      · obtain ⟨x4, e4, h⟩ := bind_some h
        rcases br_cases h with ⟨c4, h⟩ | ⟨c4, h⟩
        · obtain ⟨x5, e5, h⟩ := bind_some h
          rcases br_cases h with ⟨c5, h⟩ | ⟨c5, h⟩
          · obtain rfl := Option.some.inj h
            exact Den.Spec.of_walk tab mixed Tryz.func64 (by kernel_rfl) [.call [] [(0, true)] (.tup [.c (.int .i64 x1.1), .c (.int .i64 x1.2.1), .c (.bool x1.2.2)]) [some ⟨false, .ints .u8 (bytesL a0)⟩], bF, .call [] [(0, true)] (.tup [.c (.int .i64 x2.1), .c (.int .i64 x2.2.1), .c (.bool x2.2.2)]) [some ⟨false, .ints .u8 (bytesL a0)⟩], bF, .call [] [(0, true)] (.tup [.c (.int .i64 x3.1), .c (.int .i64 x3.2.1), .c (.bool x3.2.2)]) [some ⟨false, .ints .u8 (bytesL a0)⟩], bF, .call [] [(0, true)] (.tup [.c (.str x4.1), .c (.int .i64 x4.2.1), .c (.bool x4.2.2)]) [some ⟨false, .ints .u8 (bytesL a0)⟩], bF, bF, .call [] [] (one (.str x5)) [], bF, bF, bF, bF] [] [] (nd (spec.GetNum.spec K (bytesL a0) 0 _ e1) (n0 (nd (rfl : (bytesL a0).length = (bytesL a0).length) (nd (nf c1) (nd (spec.GetNum.spec K (bytesL a0) x1.2.1 _ e2) (n0 (nd (rfl : (bytesL a0).length = (bytesL a0).length) (nd (nf c2) (nd (spec.GetNum.spec K (bytesL a0) x2.2.1 _ e3) (n0 (nd (rfl : (bytesL a0).length = (bytesL a0).length) (nd (nf c3) (nd (spec.GetText.spec K (bytesL a0) x3.2.1 _ e4) (n0 (nd (rfl : (bytesL a0).length = (bytesL a0).length) (nd (nf c4) (nd (nf c4) (nd (spec.RecText.spec K x2.1 x3.1 x4.1 _ e5) (nd (nf c4) (nd (nf c4) (nd (nf c4) (nd (nf c5) trivial)))))))))))))))))))))) (by kernel_rfl)
          · obtain rfl := Option.some.inj h
            exact Den.Spec.of_walk tab mixed Tryz.func64 (by kernel_rfl) [.call [] [(0, true)] (.tup [.c (.int .i64 x1.1), .c (.int .i64 x1.2.1), .c (.bool x1.2.2)]) [some ⟨false, .ints .u8 (bytesL a0)⟩], bF, .call [] [(0, true)] (.tup [.c (.int .i64 x2.1), .c (.int .i64 x2.2.1), .c (.bool x2.2.2)]) [some ⟨false, .ints .u8 (bytesL a0)⟩], bF, .call [] [(0, true)] (.tup [.c (.int .i64 x3.1), .c (.int .i64 x3.2.1), .c (.bool x3.2.2)]) [some ⟨false, .ints .u8 (bytesL a0)⟩], bF, .call [] [(0, true)] (.tup [.c (.str x4.1), .c (.int .i64 x4.2.1), .c (.bool x4.2.2)]) [some ⟨false, .ints .u8 (bytesL a0)⟩], bF, bF, .call [] [] (one (.str x5)) [], bF, bF, bF, bT] [] [] (nd (spec.GetNum.spec K (bytesL a0) 0 _ e1) (n0 (nd (rfl : (bytesL a0).length = (bytesL a0).length) (nd (nf c1) (nd (spec.GetNum.spec K (bytesL a0) x1.2.1 _ e2) (n0 (nd (rfl : (bytesL a0).length = (bytesL a0).length) (nd (nf c2) (nd (spec.GetNum.spec K (bytesL a0) x2.2.1 _ e3) (n0 (nd (rfl : (bytesL a0).length = (bytesL a0).length) (nd (nf c3) (nd (spec.GetText.spec K (bytesL a0) x3.2.1 _ e4) (n0 (nd (rfl : (bytesL a0).length = (bytesL a0).length) (nd (nf c4) (nd (nf c4) (nd (spec.RecText.spec K x2.1 x3.1 x4.1 _ e5) (nd (nf c4) (nd (nf c4) (nd (nf c4) (nd (nt c5) trivial)))))))))))))))))))))) (by kernel_rfl)
        · obtain rfl := Option.some.inj h
          exact Den.Spec.of_walk tab mixed Tryz.func64 (by kernel_rfl) [.call [] [(0, true)] (.tup [.c (.int .i64 x1.1), .c (.int .i64 x1.2.1), .c (.bool x1.2.2)]) [some ⟨false, .ints .u8 (bytesL a0)⟩], bF, .call [] [(0, true)] (.tup [.c (.int .i64 x2.1), .c (.int .i64 x2.2.1), .c (.bool x2.2.2)]) [some ⟨false, .ints .u8 (bytesL a0)⟩], bF, .call [] [(0, true)] (.tup [.c (.int .i64 x3.1), .c (.int .i64 x3.2.1), .c (.bool x3.2.2)]) [some ⟨false, .ints .u8 (bytesL a0)⟩], bF, .call [] [(0, true)] (.tup [.c (.str x4.1), .c (.int .i64 x4.2.1), .c (.bool x4.2.2)]) [some ⟨false, .ints .u8 (bytesL a0)⟩], bT, bT, bT, bT, bT, bT] [] [] (nd (spec.GetNum.spec K (bytesL a0) 0 _ e1) (n0 (nd (rfl : (bytesL a0).length = (bytesL a0).length) (nd (nf c1) (nd (spec.GetNum.spec K (bytesL a0) x1.2.1 _ e2) (n0 (nd (rfl : (bytesL a0).length = (bytesL a0).length) (nd (nf c2) (nd (spec.GetNum.spec K (bytesL a0) x2.2.1 _ e3) (n0 (nd (rfl : (bytesL a0).length = (bytesL a0).length) (nd (nf c3) (nd (spec.GetText.spec K (bytesL a0) x3.2.1 _ e4) (n0 (nd (rfl : (bytesL a0).length = (bytesL a0).length) (nd (nt c4) (nd (nt c4) (nd (nt c4) (nd (nt c4) (nd (nt c4) (nd tt trivial))))))))))))))))))))) (by kernel_rfl)
      · obtain rfl := Option.some.inj h
        exact Den.Spec.of_walk tab mixed Tryz.func64 (by kernel_rfl) [.call [] [(0, true)] (.tup [.c (.int .i64 x1.1), .c (.int .i64 x1.2.1), .c (.bool x1.2.2)]) [some ⟨false, .ints .u8 (bytesL a0)⟩], bF, .call [] [(0, true)] (.tup [.c (.int .i64 x2.1), .c (.int .i64 x2.2.1), .c (.bool x2.2.2)]) [some ⟨false, .ints .u8 (bytesL a0)⟩], bF, .call [] [(0, true)] (.tup [.c (.int .i64 x3.1), .c (.int .i64 x3.2.1), .c (.bool x3.2.2)]) [some ⟨false, .ints .u8 (bytesL a0)⟩], bT] [] [] (nd (spec.GetNum.spec K (bytesL a0) 0 _ e1) (n0 (nd (rfl : (bytesL a0).length = (bytesL a0).length) (nd (nf c1) (nd (spec.GetNum.spec K (bytesL a0) x1.2.1 _ e2) (n0 (nd (rfl : (bytesL a0).length = (bytesL a0).length) (nd (nf c2) (nd (spec.GetNum.spec K (bytesL a0) x2.2.1 _ e3) (n0 (nd (rfl : (bytesL a0).length = (bytesL a0).length) (nd (nt c3) trivial)))))))))))) (by kernel_rfl)
    · obtain rfl := Option.some.inj h
      exact Den.Spec.of_walk tab mixed Tryz.func64 (by kernel_rfl) [.call [] [(0, true)] (.tup [.c (.int .i64 x1.1), .c (.int .i64 x1.2.1), .c (.bool x1.2.2)]) [some ⟨false, .ints .u8 (bytesL a0)⟩], bF, .call [] [(0, true)] (.tup [.c (.int .i64 x2.1), .c (.int .i64 x2.2.1), .c (.bool x2.2.2)]) [some ⟨false, .ints .u8 (bytesL a0)⟩], bT] [] [] (nd (spec.GetNum.spec K (bytesL a0) 0 _ e1) (n0 (nd (rfl : (bytesL a0).length = (bytesL a0).length) (nd (nf c1) (nd (spec.GetNum.spec K (bytesL a0) x1.2.1 _ e2) (n0 (nd (rfl : (bytesL a0).length = (bytesL a0).length) (nd (nt c2) trivial)))))))) (by kernel_rfl)
  · obtain rfl := Option.some.inj h
    exact Den.Spec.of_walk tab mixed Tryz.func64 (by kernel_rfl) [.call [] [(0, true)] (.tup [.c (.int .i64 x1.1), .c (.int .i64 x1.2.1), .c (.bool x1.2.2)]) [some ⟨false, .ints .u8 (bytesL a0)⟩], bT] [] [] (nd (spec.GetNum.spec K (bytesL a0) 0 _ e1) (n0 (nd (rfl : (bytesL a0).length = (bytesL a0).length) (nd (nt c1) trivial)))) (by kernel_rfl)
def spec.l1Max.f (a0 : Int) (a1 : Int) : Option (Int) :=
  cond (decide (a0 > a1)) (some a0) (some a1)
theorem spec.l1Max.spec (a0 : Int) (a1 : Int) (o : Int) (h : spec.l1Max.f a0 a1 = some o) : Den.Spec Tryz.prog 66 [one (.int .i64 a0), one (.int .i64 a1)] [] (one (.int .i64 o)) [] := by
  unfold spec.l1Max.f at h
  rcases br_cases h with ⟨c1, h⟩ | ⟨c1, h⟩
  · obtain rfl := Option.some.inj h
    exact Den.Spec.of_walk tab mixed Tryz.func66 (by kernel_rfl) [bT] [] [] (nd c1 trivial) (by kernel_rfl)
  · obtain rfl := Option.some.inj h
    exact Den.Spec.of_walk tab mixed Tryz.func66 (by kernel_rfl) [bF] [] [] (nd c1 trivial) (by kernel_rfl)
def spec.l1Min.f (a0 : Int) (a1 : Int) : Option (Int) :=
  cond (decide (a0 < a1)) (some a0) (some a1)
theorem spec.l1Min.spec (a0 : Int) (a1 : Int) (o : Int) (h : spec.l1Min.f a0 a1 = some o) : Den.Spec Tryz.prog 65 [one (.int .i64 a0), one (.int .i64 a1)] [] (one (.int .i64 o)) [] := by
  unfold spec.l1Min.f at h
  rcases br_cases h with ⟨c1, h⟩ | ⟨c1, h⟩
  · obtain rfl := Option.some.inj h
    exact Den.Spec.of_walk tab mixed Tryz.func65 (by kernel_rfl) [bT] [] [] (nd c1 trivial) (by kernel_rfl)
  · obtain rfl := Option.some.inj h
    exact Den.Spec.of_walk tab mixed Tryz.func65 (by kernel_rfl) [bF] [] [] (nd c1 trivial) (by kernel_rfl)
def spec.Mount.l1.f (K : Nat) (a0 : List ByteArray) (a1 : List Int) : Nat → (List Int) → Int → (List Int) → Int → Option ((List Int) × Int)
  | 0, _, _, _, _ => none
  | k + 1, v99_0, v99_1, v99_2, v99_3 =>
    cond (decide (v99_3 < (a0.length : Int))) (ck (0 ≤ v99_3) (Option.bind (spec.RecRead.f K (a0.getD v99_3.toNat noVal)) fun x1 => cond (x1.2.2.2) (ck (0 ≤ x1.1) (ck (x1.1 < (v99_2.length : Int)) (cond (decide (x1.2.1 > (v99_2.getD x1.1.toNat 0))) (ck (x1.1 < (v99_0.length : Int)) (Option.bind (spec.l1Max.f v99_1 (w64 (x1.2.1 + 1))) fun x2 => Option.bind (spec.l1Min.f x2 1000000000) fun x3 => spec.Mount.l1.f K a0 a1 k (v99_0.set x1.1.toNat v99_3) x3 (v99_2.set x1.1.toNat x1.2.1) (w64 (v99_3 + 1)))) (Option.bind (spec.l1Max.f v99_1 (w64 (x1.2.1 + 1))) fun x2 => Option.bind (spec.l1Min.f x2 1000000000) fun x3 => spec.Mount.l1.f K a0 a1 k v99_0 x3 v99_2 (w64 (v99_3 + 1)))))) (spec.Mount.l1.f K a0 a1 k v99_0 v99_1 v99_2 (w64 (v99_3 + 1))))) (some (v99_0, v99_1))
def spec.Mount.l1.s (K : Nat) (a0 : List ByteArray) (a1 : List Int) (v99_0 : List Int) (v99_1 : Int) (v99_2 : List Int) (v99_3 : Int) : St := mkSt 73 [(1, one (.ptr 2 0 0)), (2, one (.ptr 3 0 0)), (3, one (.ptr 7 0 0)), (4, one (.sl 11 0 v99_2.length)), (6, one (.int .i64 v99_3))] [some ⟨false, .strs a0⟩, some ⟨false, .ints .i64 a1⟩, some ⟨true, .cells [.sl 0 0 a0.length, .sl 1 0 a1.length]⟩, some ⟨true, .cells [.sl 4 0 0, .sl 5 0 0, .sl 6 0 0, .int .i64 0]⟩, some ⟨true, .strs []⟩, some ⟨true, .ints .i64 []⟩, some ⟨true, .ints .i64 []⟩, some ⟨true, .cells [.sl 8 0 (([] ++ a0).length), .sl 9 0 (([] ++ a1).length), .sl 10 0 v99_0.length, .int .i64 v99_1]⟩, some ⟨true, .strs ([] ++ a0)⟩, some ⟨true, .ints .i64 ([] ++ a1)⟩, some ⟨true, .ints .i64 v99_0⟩, some ⟨true, .ints .i64 v99_2⟩]
def spec.Mount.l1.e0 (K : Nat) (a0 : List ByteArray) (a1 : List Int) (o : (List Int) × Int) : St := mkSt 73 [(2, one (.ptr 2 0 0)), (3, one (.ptr 6 0 0))] [some ⟨false, .strs a0⟩, some ⟨false, .ints .i64 a1⟩, some ⟨true, .cells [.sl 3 0 0, .sl 4 0 0, .sl 5 0 0, .int .i64 0]⟩, some ⟨true, .strs []⟩, some ⟨true, .ints .i64 []⟩, some ⟨true, .ints .i64 []⟩, some ⟨true, .cells [.sl 7 0 (([] ++ a0).length), .sl 8 0 (([] ++ a1).length), .sl 9 0 o.1.length, .int .i64 o.2]⟩, some ⟨true, .strs ([] ++ a0)⟩, some ⟨true, .ints .i64 ([] ++ a1)⟩, some ⟨true, .ints .i64 o.1⟩]
def spec.Mount.l1.x (K : Nat) (a0 : List ByteArray) (a1 : List Int) : ((List Int) × Int) → AExit × St := fun o => (.exit 2, spec.Mount.l1.e0 K a0 a1 o)
theorem spec.Mount.l1.spec (K : Nat) (a0 : List ByteArray) (a1 : List Int) : ∀ (k : Nat) (v99_0 : List Int) (v99_1 : Int) (v99_2 : List Int) (v99_3 : Int) (o : (List Int) × Int), spec.Mount.l1.f K a0 a1 k v99_0 v99_1 v99_2 v99_3 = some o → LoopSpec Tryz.prog 2 (loopN Tryz.f20 1) (spec.Mount.l1.s K a0 a1 v99_0 v99_1 v99_2 v99_3) (spec.Mount.l1.x K a0 a1 o).1 (spec.Mount.l1.x K a0 a1 o).2
  | 0, _, _, _, _, _, h => by cases h
  | k + 1, v99_0, v99_1, v99_2, v99_3, o, h => by
    unfold spec.Mount.l1.f at h
    rcases br_cases h with ⟨c1, h⟩ | ⟨c1, h⟩
    · obtain ⟨p1, h⟩ := ck_some h
      obtain ⟨x1, e1, h⟩ := bind_some h
      rcases br_cases h with ⟨c2, h⟩ | ⟨c2, h⟩
      · obtain ⟨p2, h⟩ := ck_some h
        obtain ⟨p3, h⟩ := ck_some h
        rcases br_cases h with ⟨c3, h⟩ | ⟨c3, h⟩
        · obtain ⟨p4, h⟩ := ck_some h
          obtain ⟨x2, e2, h⟩ := bind_some h
          obtain ⟨x3, e3, h⟩ := bind_some h
          exact .of_step tab mixed [bT, .call [] [] (.tup [.agg [.int .i64 x1.1, .int .i64 x1.2.1, .str x1.2.2.1], .c (.bool x1.2.2.2)]) [], bF, bT, .call [] [] (one (.int .i64 x2)) [], .call [] [] (one (.int .i64 x3)) []] [] [1, 2, 3, 4, 6] [0, 1, 2, 3, 4, 5, 6, 7, 8, 9, 10, 11] (s1 := mkSt 73 [(1, one (.ptr 2 0 0)), (2, one (.ptr 3 0 0)), (3, one (.ptr 7 0 0)), (4, one (.sl 11 0 v99_2.length)), (6, one (.int .i64 (w64 (v99_3 + 1))))] [some ⟨false, .strs a0⟩, some ⟨false, .ints .i64 a1⟩, some ⟨true, .cells [.sl 0 0 a0.length, .sl 1 0 a1.length]⟩, some ⟨true, .cells [.sl 4 0 0, .sl 5 0 0, .sl 6 0 0, .int .i64 0]⟩, some ⟨true, .strs []⟩, some ⟨true, .ints .i64 []⟩, some ⟨true, .ints .i64 []⟩, some ⟨true, .cells [.sl 8 0 (([] ++ a0).length), .sl 9 0 (([] ++ a1).length), .sl 10 0 v99_0.length, .int .i64 x3]⟩, some ⟨true, .strs ([] ++ a0)⟩, some ⟨true, .ints .i64 ([] ++ a1)⟩, some ⟨true, .ints .i64 (v99_0.set x1.1.toNat v99_3)⟩, some ⟨true, .ints .i64 (v99_2.set x1.1.toNat x1.2.1)⟩]) (nd c1 (nd p1 (nd (of_decide_eq_true c1) (nd (tn p1 (of_decide_eq_true c1)) (nd (spec.RecRead.spec K (a0.getD v99_3.toNat noVal) _ e1) (nd (nf c2) (nd p2 (nd p3 (nd (tn p2 p3) (nd c3 (nd p2 (nd p3 (nd (tn p2 p3) (nd p2 (nd p4 (nd (tn p2 p4) (nd (spec.l1Max.spec v99_1 (w64 (x1.2.1 + 1)) _ e2) (nd (spec.l1Min.spec x2 1000000000 _ e3) trivial)))))))))))))))))) (by kernel_rfl) (LoopSpec.eqs (spec.Mount.l1.spec K a0 a1 k (v99_0.set x1.1.toNat v99_3) x3 (v99_2.set x1.1.toNat x1.2.1) (w64 (v99_3 + 1)) _ h) (by simp only [spec.Mount.l1.s, List.length_set, overL_length] : spec.Mount.l1.s K a0 a1 (v99_0.set x1.1.toNat v99_3) x3 (v99_2.set x1.1.toNat x1.2.1) (w64 (v99_3 + 1)) = mkSt 73 [(1, one (.ptr 2 0 0)), (2, one (.ptr 3 0 0)), (3, one (.ptr 7 0 0)), (4, one (.sl 11 0 v99_2.length)), (6, one (.int .i64 (w64 (v99_3 + 1))))] [some ⟨false, .strs a0⟩, some ⟨false, .ints .i64 a1⟩, some ⟨true, .cells [.sl 0 0 a0.length, .sl 1 0 a1.length]⟩, some ⟨true, .cells [.sl 4 0 0, .sl 5 0 0, .sl 6 0 0, .int .i64 0]⟩, some ⟨true, .strs []⟩, some ⟨true, .ints .i64 []⟩, some ⟨true, .ints .i64 []⟩, some ⟨true, .cells [.sl 8 0 (([] ++ a0).length), .sl 9 0 (([] ++ a1).length), .sl 10 0 v99_0.length, .int .i64 x3]⟩, some ⟨true, .strs ([] ++ a0)⟩, some ⟨true, .ints .i64 ([] ++ a1)⟩, some ⟨true, .ints .i64 (v99_0.set x1.1.toNat v99_3)⟩, some ⟨true, .ints .i64 (v99_2.set x1.1.toNat x1.2.1)⟩]))
        · obtain ⟨x2, e2, h⟩ := bind_some h
          obtain ⟨x3, e3, h⟩ := bind_some h
          exact .of_step tab mixed [bT, .call [] [] (.tup [.agg [.int .i64 x1.1, .int .i64 x1.2.1, .str x1.2.2.1], .c (.bool x1.2.2.2)]) [], bF, bF, .call [] [] (one (.int .i64 x2)) [], .call [] [] (one (.int .i64 x3)) []] [] [1, 2, 3, 4, 6] [0, 1, 2, 3, 4, 5, 6, 7, 8, 9, 10, 11] (s1 := spec.Mount.l1.s K a0 a1 v99_0 x3 v99_2 (w64 (v99_3 + 1))) (nd c1 (nd p1 (nd (of_decide_eq_true c1) (nd (tn p1 (of_decide_eq_true c1)) (nd (spec.RecRead.spec K (a0.getD v99_3.toNat noVal) _ e1) (nd (nf c2) (nd p2 (nd p3 (nd (tn p2 p3) (nd c3 (nd (spec.l1Max.spec v99_1 (w64 (x1.2.1 + 1)) _ e2) (nd (spec.l1Min.spec x2 1000000000 _ e3) trivial)))))))))))) (by kernel_rfl) (spec.Mount.l1.spec K a0 a1 k v99_0 x3 v99_2 (w64 (v99_3 + 1)) _ h)
      · exact .of_step tab mixed [bT, .call [] [] (.tup [.agg [.int .i64 x1.1, .int .i64 x1.2.1, .str x1.2.2.1], .c (.bool x1.2.2.2)]) [], bT] [] [1, 2, 3, 4, 6] [0, 1, 2, 3, 4, 5, 6, 7, 8, 9, 10, 11] (s1 := spec.Mount.l1.s K a0 a1 v99_0 v99_1 v99_2 (w64 (v99_3 + 1))) (nd c1 (nd p1 (nd (of_decide_eq_true c1) (nd (tn p1 (of_decide_eq_true c1)) (nd (spec.RecRead.spec K (a0.getD v99_3.toNat noVal) _ e1) (nd (nt c2) trivial)))))) (by kernel_rfl) (spec.Mount.l1.spec K a0 a1 k v99_0 v99_1 v99_2 (w64 (v99_3 + 1)) _ h)
    · obtain rfl := Option.some.inj h
      exact .of_done tab mixed [bF] [] [2, 3] [0, 1, 3, 4, 5, 6, 7, 8, 9, 10] rfl (nd c1 trivial) (by kernel_rfl)
def spec.Mount.f (K : Nat) (a0 : List ByteArray) (a1 : List Int) : Option ((List ByteArray) × (List Int) × (List Int) × Int) :=
  Option.bind (spec.ChipOk.f K a0 a1) fun x1 => cond (x1) (Option.bind (spec.l2Copy.f a0 a1) fun x2 => ck ((26 * (8 : Int)) ≤ 70368744177664) (Option.bind (spec.Mount.l0.f a0 a1 K [] 0) fun x3 => Option.bind (spec.Mount.l1.f K a0 a1 K x3 1 (List.replicate 26 (0 : Int)) 0) fun x4 => some ([] ++ a0, [] ++ a1, x4.1, x4.2))) (some ([], [], [], 0))
theorem spec.Mount.spec (K : Nat) (a0 : List ByteArray) (a1 : List Int) (o : (List ByteArray) × (List Int) × (List Int) × Int) (h : spec.Mount.f K a0 a1 = some o) : Den.Spec Tryz.prog 20 [.v (.agg [.sl 0 0 a0.length, .sl 1 0 a1.length])] [some ⟨false, .strs a0⟩, some ⟨false, .ints .i64 a1⟩] (.v (.agg [.sl 2 0 o.1.length, .sl 3 0 o.2.1.length, .sl 4 0 o.2.2.1.length, .int .i64 o.2.2.2])) [some ⟨false, .strs a0⟩, some ⟨false, .ints .i64 a1⟩, some ⟨true, .strs o.1⟩, some ⟨true, .ints .i64 o.2.1⟩, some ⟨true, .ints .i64 o.2.2.1⟩] := by
  unfold spec.Mount.f at h
  obtain ⟨x1, e1, h⟩ := bind_some h
  rcases br_cases h with ⟨c1, h⟩ | ⟨c1, h⟩
  · obtain ⟨x2, e2, h⟩ := bind_some h
    obtain ⟨p1, h⟩ := ck_some h
    obtain ⟨x3, e3, h⟩ := bind_some h
    obtain ⟨x4, e4, h⟩ := bind_some h
    obtain rfl := Option.some.inj h
    exact Den.Spec.of_walk tab mixed Tryz.func20 (by kernel_rfl) [.call [(0, false), (1, false)] [] (one (.bool x1)) [some ⟨false, .strs a0⟩, some ⟨false, .ints .i64 a1⟩], bF, .call [(0, false), (1, false)] [] (.v (.agg [.sl 2 0 (([] ++ a0).length), .sl 3 0 (([] ++ a1).length)])) [some ⟨false, .strs a0⟩, some ⟨false, .ints .i64 a1⟩, some ⟨true, .strs ([] ++ a0)⟩, some ⟨true, .ints .i64 ([] ++ a1)⟩], .loop [] [1, 2, 3, 4, 5] [0, 1, 2, 3, 4, 5, 6, 9, 7, 8, 13, 14] (.exit 0) (spec.Mount.l0.e0 a0 a1 x3), .loop [] [1, 2, 3, 4, 6] [0, 1, 2, 3, 4, 5, 6, 7, 8, 9, 10, 11] (.exit 2) (spec.Mount.l1.e0 K a0 a1 x4)] [] [0, 1, 7, 8, 9] (nd (spec.ChipOk.spec K a0 a1 _ e1) (nd (nf c1) (nd (spec.l2Copy.spec a0 a1 _ e2) (nd (by decide : (0 : Int) ≤ 26) (nd (rfl : (26 : Int) = (26 : Int)) (nd p1 (nd (spec.Mount.l0.spec a0 a1 K [] 0 _ e3) (nd (spec.Mount.l1.spec K a0 a1 K x3 1 (List.replicate 26 (0 : Int)) 0 _ e4) trivial)))))))) (by kernel_rfl)
  · obtain rfl := Option.some.inj h
    exact Den.Spec.of_walk tab mixed Tryz.func20 (by kernel_rfl) [.call [(0, false), (1, false)] [] (one (.bool x1)) [some ⟨false, .strs a0⟩, some ⟨false, .ints .i64 a1⟩], bT] [] [0, 1, 7, 8, 9] (nd (spec.ChipOk.spec K a0 a1 _ e1) (nd (nt c1) trivial)) (by kernel_rfl)
def spec.l1Once.f (a0 : List Int) (a1 : Int) (a2 : Int) (a3 : Int) : Option (Bool × Int × Int) :=
  Option.bind (spec.l1Below.f a0 a1 a2 a3) fun x1 => some (x1.1 == 0, x1.2.1, x1.2.2)
theorem spec.l1Once.spec (a0 : List Int) (a1 : Int) (a2 : Int) (a3 : Int) (o : Bool × Int × Int) (h : spec.l1Once.f a0 a1 a2 a3 = some o) : Den.Spec Tryz.prog 103 [one (.ptr 0 0 0), one (.int .i64 a3)] [some ⟨true, .cells [.sl 1 0 a0.length, .int .i64 a1, .int .i64 a2]⟩, some ⟨false, .ints .u8 a0⟩] (one (.bool o.1)) [some ⟨true, .cells [.sl 1 0 a0.length, .int .i64 o.2.1, .int .i64 o.2.2]⟩, some ⟨false, .ints .u8 a0⟩] := by
  unfold spec.l1Once.f at h
  obtain ⟨x1, e1, h⟩ := bind_some h
  obtain rfl := Option.some.inj h
  exact Den.Spec.of_walk tab mixed Tryz.func103 (by kernel_rfl) [.call [(0, true), (1, false)] [] (one (.int .i64 x1.1)) [some ⟨true, .cells [.sl 1 0 a0.length, .int .i64 x1.2.1, .int .i64 x1.2.2]⟩, some ⟨false, .ints .u8 a0⟩]] [] [0, 1] (nd (spec.l1Below.spec a0 a1 a2 a3 _ e1) trivial) (by kernel_rfl)
def spec.l4Ints.l0.f (a0 : List Int) (a1 : List Int) : Nat → Int → Option (Unit ⊕ Unit)
  | 0, _ => none
  | k + 1, v104_0 =>
    cond (decide (v104_0 < (a0.length : Int))) (cond (decide (v104_0 < (a1.length : Int))) (ck (0 ≤ v104_0) (cond ((a0.getD v104_0.toNat 0) != (a1.getD v104_0.toNat 0)) (some (.inl ())) (spec.l4Ints.l0.f a0 a1 k (w64 (v104_0 + 1))))) (some (.inr (())))) (some (.inr (())))
def spec.l4Ints.l0.s (a0 : List Int) (a1 : List Int) (v104_0 : Int) : St := mkSt 32 [(0, one (.sl 0 0 a0.length)), (1, one (.sl 1 0 a1.length)), (5, one (.int .i64 v104_0))] [some ⟨false, .ints .i64 a0⟩, some ⟨false, .ints .i64 a1⟩]
def spec.l4Ints.l0.e0 (a0 : List Int) (a1 : List Int) (o : Unit) : St := mkSt 32 [(4, one (.bool false))] [some ⟨false, .ints .i64 a0⟩, some ⟨false, .ints .i64 a1⟩]
def spec.l4Ints.l0.e1 (a0 : List Int) (a1 : List Int) (o : Unit) : St := mkSt 32 [(0, one (.sl 0 0 a0.length)), (1, one (.sl 1 0 a1.length))] [some ⟨false, .ints .i64 a0⟩, some ⟨false, .ints .i64 a1⟩]
def spec.l4Ints.l0.x (a0 : List Int) (a1 : List Int) : (Unit ⊕ Unit) → AExit × St := Sum.elim (fun o => (.ret, spec.l4Ints.l0.e0 a0 a1 o)) (fun o => (.exit 0, spec.l4Ints.l0.e1 a0 a1 o))
theorem spec.l4Ints.l0.spec (a0 : List Int) (a1 : List Int) : ∀ (k : Nat) (v104_0 : Int) (o : Unit ⊕ Unit), spec.l4Ints.l0.f a0 a1 k v104_0 = some o → LoopSpec Tryz.prog 2 (loopN Tryz.f88 0) (spec.l4Ints.l0.s a0 a1 v104_0) (spec.l4Ints.l0.x a0 a1 o).1 (spec.l4Ints.l0.x a0 a1 o).2
  | 0, _, _, h => by cases h
  | k + 1, v104_0, o, h => by
    unfold spec.l4Ints.l0.f at h
    rcases br_cases h with ⟨c1, h⟩ | ⟨c1, h⟩
    · rcases br_cases h with ⟨c2, h⟩ | ⟨c2, h⟩
      · obtain ⟨p1, h⟩ := ck_some h
        rcases br_cases h with ⟨c3, h⟩ | ⟨c3, h⟩
        · obtain rfl := Option.some.inj h
          exact .of_done tab mixed [bT, bT, bT, bT, bT, bT, bT] [] [4] [0, 1] rfl (nd c1 (nd c1 (nd c1 (nd c1 (nd c1 (nd c2 (nd p1 (nd (of_decide_eq_true c1) (nd (tn p1 (of_decide_eq_true c1)) (nd p1 (nd (of_decide_eq_true c2) (nd (tn p1 (of_decide_eq_true c2)) (nd c3 trivial))))))))))))) (by kernel_rfl)
        · exact .of_step tab mixed [bT, bT, bT, bT, bT, bT, bF] [] [0, 1, 5] [0, 1] (s1 := spec.l4Ints.l0.s a0 a1 (w64 (v104_0 + 1))) (nd c1 (nd c1 (nd c1 (nd c1 (nd c1 (nd c2 (nd p1 (nd (of_decide_eq_true c1) (nd (tn p1 (of_decide_eq_true c1)) (nd p1 (nd (of_decide_eq_true c2) (nd (tn p1 (of_decide_eq_true c2)) (nd c3 trivial))))))))))))) (by kernel_rfl) (spec.l4Ints.l0.spec a0 a1 k (w64 (v104_0 + 1)) _ h)
      · obtain rfl := Option.some.inj h
        exact .of_done tab mixed [bT, bT, bT, bT, bT, bF] [] [0, 1] [0, 1] rfl (nd c1 (nd c1 (nd c1 (nd c1 (nd c1 (nd c2 trivial)))))) (by kernel_rfl)
    · obtain rfl := Option.some.inj h
      exact .of_done tab mixed [bF, bF, bF, bF, bF, bF] [] [0, 1] [0, 1] rfl (nd c1 (nd c1 (nd c1 (nd c1 (nd c1 (nd ff trivial)))))) (by kernel_rfl)
def spec.l4Ints.f (K : Nat) (a0 : List Int) (a1 : List Int) : Option (Bool) :=
  Option.bind (spec.l4Ints.l0.f a0 a1 K 0) fun x1 => (Sum.elim (fun x1 => some false) (fun x1 => some ((a0.length : Int) == (a1.length : Int)))) x1
theorem spec.l4Ints.spec (K : Nat) (a0 : List Int) (a1 : List Int) (o : Bool) (h : spec.l4Ints.f K a0 a1 = some o) : Den.Spec Tryz.prog 88 [one (.sl 0 0 a0.length), one (.sl 1 0 a1.length)] [some ⟨false, .ints .i64 a0⟩, some ⟨false, .ints .i64 a1⟩] (one (.bool o)) [some ⟨false, .ints .i64 a0⟩, some ⟨false, .ints .i64 a1⟩] := by
  unfold spec.l4Ints.f at h
  obtain ⟨x1, e1, h⟩ := bind_some h
  rcases x1 with x1 | x1
  · obtain rfl := Option.some.inj h
    exact Den.Spec.of_walk tab mixed Tryz.func88 (by kernel_rfl) [.loop [] [0, 1, 5] [0, 1] (.ret) (spec.l4Ints.l0.e0 a0 a1 x1)] [] [0, 1] (nd (spec.l4Ints.l0.spec a0 a1 K 0 _ e1) trivial) (by kernel_rfl)
  · obtain rfl := Option.some.inj h
    exact Den.Spec.of_walk tab mixed Tryz.func88 (by kernel_rfl) [.loop [] [0, 1, 5] [0, 1] (.exit 0) (spec.l4Ints.l0.e1 a0 a1 x1)] [] [0, 1] (nd (spec.l4Ints.l0.spec a0 a1 K 0 _ e1) trivial) (by kernel_rfl)
def spec.FtlOk.f (K : Nat) (a0 : List ByteArray) (a1 : List Int) (a2 : List Int) (a3 : Int) : Option (Bool) :=
  Option.bind (spec.Mount.f K a0 a1) fun x1 => Option.bind (spec.ChipOk.f K a0 a1) fun x2 => cond (x2) (Option.bind (spec.l4Ints.f K x1.2.2.1 a2) fun x3 => cond (x3) (some (x1.2.2.2 == a3)) (some false)) (some false)
theorem spec.FtlOk.spec (K : Nat) (a0 : List ByteArray) (a1 : List Int) (a2 : List Int) (a3 : Int) (o : Bool) (h : spec.FtlOk.f K a0 a1 a2 a3 = some o) : Den.Spec Tryz.prog 58 [.v (.agg [.sl 0 0 a0.length, .sl 1 0 a1.length, .sl 2 0 a2.length, .int .i64 a3])] [some ⟨false, .strs a0⟩, some ⟨false, .ints .i64 a1⟩, some ⟨false, .ints .i64 a2⟩] (one (.bool o)) [some ⟨false, .strs a0⟩, some ⟨false, .ints .i64 a1⟩, some ⟨false, .ints .i64 a2⟩] := by
  unfold spec.FtlOk.f at h
  obtain ⟨x1, e1, h⟩ := bind_some h
  obtain ⟨x2, e2, h⟩ := bind_some h
  rcases br_cases h with ⟨c1, h⟩ | ⟨c1, h⟩
  · obtain ⟨x3, e3, h⟩ := bind_some h
    rcases br_cases h with ⟨c2, h⟩ | ⟨c2, h⟩
    · obtain rfl := Option.some.inj h
      exact Den.Spec.of_walk tab mixed Tryz.func58 (by kernel_rfl) [.call [(0, false), (1, false)] [] (.v (.agg [.sl 2 0 x1.1.length, .sl 3 0 x1.2.1.length, .sl 4 0 x1.2.2.1.length, .int .i64 x1.2.2.2])) [some ⟨false, .strs a0⟩, some ⟨false, .ints .i64 a1⟩, some ⟨true, .strs x1.1⟩, some ⟨true, .ints .i64 x1.2.1⟩, some ⟨true, .ints .i64 x1.2.2.1⟩], .call [(0, false), (1, false)] [] (one (.bool x2)) [some ⟨false, .strs a0⟩, some ⟨false, .ints .i64 a1⟩], bT, bT, bT, bT, bT, .call [] [(0, true), (1, true)] (one (.bool x3)) [some ⟨false, .ints .i64 x1.2.2.1⟩, some ⟨false, .ints .i64 a2⟩], bT, bT, bT, bT, bT, bT, bT] [] [0, 1, 2] (nd (spec.Mount.spec K a0 a1 _ e1) (nd (spec.ChipOk.spec K a0 a1 _ e2) (nd c1 (nd c1 (nd c1 (nd c1 (nd c1 (nd (spec.l4Ints.spec K x1.2.2.1 a2 _ e3) (n0 (nl x1.2.2.1 (n0 (nl a2 (nd c1 (nd c2 (nd c2 (nd c2 (nd c2 (nd c2 (nd c2 trivial))))))))))))))))))) (by kernel_rfl)
    · obtain rfl := Option.some.inj h
      exact Den.Spec.of_walk tab mixed Tryz.func58 (by kernel_rfl) [.call [(0, false), (1, false)] [] (.v (.agg [.sl 2 0 x1.1.length, .sl 3 0 x1.2.1.length, .sl 4 0 x1.2.2.1.length, .int .i64 x1.2.2.2])) [some ⟨false, .strs a0⟩, some ⟨false, .ints .i64 a1⟩, some ⟨true, .strs x1.1⟩, some ⟨true, .ints .i64 x1.2.1⟩, some ⟨true, .ints .i64 x1.2.2.1⟩], .call [(0, false), (1, false)] [] (one (.bool x2)) [some ⟨false, .strs a0⟩, some ⟨false, .ints .i64 a1⟩], bT, bT, bT, bT, bT, .call [] [(0, true), (1, true)] (one (.bool x3)) [some ⟨false, .ints .i64 x1.2.2.1⟩, some ⟨false, .ints .i64 a2⟩], bT, bF, bF, bF, bF, bF, bF] [] [0, 1, 2] (nd (spec.Mount.spec K a0 a1 _ e1) (nd (spec.ChipOk.spec K a0 a1 _ e2) (nd c1 (nd c1 (nd c1 (nd c1 (nd c1 (nd (spec.l4Ints.spec K x1.2.2.1 a2 _ e3) (n0 (nl x1.2.2.1 (n0 (nl a2 (nd c1 (nd c2 (nd c2 (nd c2 (nd c2 (nd c2 (nd c2 trivial))))))))))))))))))) (by kernel_rfl)
  · obtain rfl := Option.some.inj h
    exact Den.Spec.of_walk tab mixed Tryz.func58 (by kernel_rfl) [.call [(0, false), (1, false)] [] (.v (.agg [.sl 2 0 x1.1.length, .sl 3 0 x1.2.1.length, .sl 4 0 x1.2.2.1.length, .int .i64 x1.2.2.2])) [some ⟨false, .strs a0⟩, some ⟨false, .ints .i64 a1⟩, some ⟨true, .strs x1.1⟩, some ⟨true, .ints .i64 x1.2.1⟩, some ⟨true, .ints .i64 x1.2.2.1⟩], .call [(0, false), (1, false)] [] (one (.bool x2)) [some ⟨false, .strs a0⟩, some ⟨false, .ints .i64 a1⟩], bF, bF, bF, bF, bF, bF, bF, bF, bF, bF, bF, bF] [] [0, 1, 2] (nd (spec.Mount.spec K a0 a1 _ e1) (nd (spec.ChipOk.spec K a0 a1 _ e2) (nd c1 (nd c1 (nd c1 (nd c1 (nd c1 (nd c1 (nd ff (nd ff (nd ff (nd ff (nd ff (nd ff trivial)))))))))))))) (by kernel_rfl)
def spec.l4Copy.f (a0 : List ByteArray) (a1 : List Int) (a2 : List Int) (a3 : Int) : Option (Unit) :=
  Option.bind (spec.l2Copy.f a0 a1) fun x1 => ck (([] ++ a2).length * 8 ≤ 70368744177664) (some ())
theorem spec.l4Copy.spec (a0 : List ByteArray) (a1 : List Int) (a2 : List Int) (a3 : Int) (o : Unit) (h : spec.l4Copy.f a0 a1 a2 a3 = some o) : Den.Spec Tryz.prog 74 [.v (.agg [.sl 0 0 a0.length, .sl 1 0 a1.length, .sl 2 0 a2.length, .int .i64 a3])] [some ⟨false, .strs a0⟩, some ⟨false, .ints .i64 a1⟩, some ⟨false, .ints .i64 a2⟩] (.v (.agg [.sl 3 0 (([] ++ a0).length), .sl 4 0 (([] ++ a1).length), .sl 5 0 (([] ++ a2).length), .int .i64 a3])) [some ⟨false, .strs a0⟩, some ⟨false, .ints .i64 a1⟩, some ⟨false, .ints .i64 a2⟩, some ⟨true, .strs ([] ++ a0)⟩, some ⟨true, .ints .i64 ([] ++ a1)⟩, some ⟨true, .ints .i64 ([] ++ a2)⟩] := by
  unfold spec.l4Copy.f at h
  obtain ⟨x1, e1, h⟩ := bind_some h
  obtain ⟨p1, h⟩ := ck_some h
  obtain rfl := Option.some.inj h
  exact Den.Spec.of_walk tab mixed Tryz.func74 (by kernel_rfl) [.call [(0, false), (1, false)] [] (.v (.agg [.sl 2 0 (([] ++ a0).length), .sl 3 0 (([] ++ a1).length)])) [some ⟨false, .strs a0⟩, some ⟨false, .ints .i64 a1⟩, some ⟨true, .strs ([] ++ a0)⟩, some ⟨true, .ints .i64 ([] ++ a1)⟩], bT] [] [0, 1, 2, 24, 25, 56] (nd (spec.l2Copy.spec a0 a1 _ e1) (n0 (nn 0 (nd p1 (n0 (nl a2 trivial)))))) (by kernel_rfl)
def spec.l4Clear.l0.f (a0 : List ByteArray) (a1 : List Int) (a2 : Int) : Nat → Int → Int → Int → Option (Int × Int)
  | 0, _, _, _ => none
  | k + 1, v111_0, v111_1, v111_2 =>
    cond (decide (v111_2 < 6)) (ck (0 ≤ (w64 ((w64 (a2 * 6)) + v111_2))) (ck ((w64 ((w64 (a2 * 6)) + v111_2)) < (a0.length : Int)) (cond (strEq (a0.getD ((w64 ((w64 (a2 * 6)) + v111_2)).toNat) noVal) noVal) (spec.l4Clear.l0.f a0 a1 a2 k (w64 (v111_0 + 1)) (w64 (v111_1 + 1)) (w64 (v111_2 + 1))) (spec.l4Clear.l0.f a0 a1 a2 k v111_0 0 (w64 (v111_2 + 1)))))) (some (v111_0, v111_1))
def spec.l4Clear.l0.s (a0 : List ByteArray) (a1 : List Int) (a2 : Int) (v111_0 : Int) (v111_1 : Int) (v111_2 : Int) : St := mkSt 28 [(1, one (.int .i64 a2)), (2, one (.ptr 2 0 0)), (6, one (.int .i64 v111_0)), (7, one (.int .i64 v111_1)), (8, one (.int .i64 v111_2))] [some ⟨false, .strs a0⟩, some ⟨false, .ints .i64 a1⟩, some ⟨true, .cells [.sl 0 0 a0.length, .sl 1 0 a1.length]⟩]
def spec.l4Clear.l0.e0 (a0 : List ByteArray) (a1 : List Int) (a2 : Int) (o : Int × Int) : St := mkSt 28 [(6, one (.int .i64 o.1)), (7, one (.int .i64 o.2))] [some ⟨false, .strs a0⟩, some ⟨false, .ints .i64 a1⟩]
def spec.l4Clear.l0.x (a0 : List ByteArray) (a1 : List Int) (a2 : Int) : (Int × Int) → AExit × St := fun o => (.exit 0, spec.l4Clear.l0.e0 a0 a1 a2 o)
theorem spec.l4Clear.l0.spec (a0 : List ByteArray) (a1 : List Int) (a2 : Int) : ∀ (k : Nat) (v111_0 : Int) (v111_1 : Int) (v111_2 : Int) (o : Int × Int), spec.l4Clear.l0.f a0 a1 a2 k v111_0 v111_1 v111_2 = some o → LoopSpec Tryz.prog 2 (loopN Tryz.f145 0) (spec.l4Clear.l0.s a0 a1 a2 v111_0 v111_1 v111_2) (spec.l4Clear.l0.x a0 a1 a2 o).1 (spec.l4Clear.l0.x a0 a1 a2 o).2
  | 0, _, _, _, _, h => by cases h
  | k + 1, v111_0, v111_1, v111_2, o, h => by
    unfold spec.l4Clear.l0.f at h
    rcases br_cases h with ⟨c1, h⟩ | ⟨c1, h⟩
    · obtain ⟨p1, h⟩ := ck_some h
      obtain ⟨p2, h⟩ := ck_some h
      rcases br_cases h with ⟨c2, h⟩ | ⟨c2, h⟩
      · exact .of_step tab mixed [bT, bT] [] [1, 2, 6, 7, 8] [0, 1, 2] (s1 := spec.l4Clear.l0.s a0 a1 a2 (w64 (v111_0 + 1)) (w64 (v111_1 + 1)) (w64 (v111_2 + 1))) (nd c1 (nd p1 (nd p2 (nd (tn p1 p2) (nd c2 trivial))))) (by kernel_rfl) (spec.l4Clear.l0.spec a0 a1 a2 k (w64 (v111_0 + 1)) (w64 (v111_1 + 1)) (w64 (v111_2 + 1)) _ h)
      · exact .of_step tab mixed [bT, bF] [] [1, 2, 6, 7, 8] [0, 1, 2] (s1 := spec.l4Clear.l0.s a0 a1 a2 v111_0 0 (w64 (v111_2 + 1))) (nd c1 (nd p1 (nd p2 (nd (tn p1 p2) (nd c2 trivial))))) (by kernel_rfl) (spec.l4Clear.l0.spec a0 a1 a2 k v111_0 0 (w64 (v111_2 + 1)) _ h)
    · obtain rfl := Option.some.inj h
      exact .of_done tab mixed [bF] [] [6, 7] [0, 1] rfl (nd c1 trivial) (by kernel_rfl)
def spec.l4Clear.f (K : Nat) (a0 : List ByteArray) (a1 : List Int) (a2 : Int) : Option (Int × Int) :=
  Option.bind (spec.l4Clear.l0.f a0 a1 a2 K 0 0 0) fun x1 => some (x1.1, x1.2)
theorem spec.l4Clear.spec (K : Nat) (a0 : List ByteArray) (a1 : List Int) (a2 : Int) (o : Int × Int) (h : spec.l4Clear.f K a0 a1 a2 = some o) : Den.Spec Tryz.prog 145 [.v (.agg [.sl 0 0 a0.length, .sl 1 0 a1.length]), one (.int .i64 a2)] [some ⟨false, .strs a0⟩, some ⟨false, .ints .i64 a1⟩] (.tup [.c (.int .i64 o.1), .c (.int .i64 o.2)]) [some ⟨false, .strs a0⟩, some ⟨false, .ints .i64 a1⟩] := by
  unfold spec.l4Clear.f at h
  obtain ⟨x1, e1, h⟩ := bind_some h
  obtain rfl := Option.some.inj h
  exact Den.Spec.of_walk tab mixed Tryz.func145 (by kernel_rfl) [.loop [] [1, 2, 6, 7, 8] [0, 1, 2] (.exit 0) (spec.l4Clear.l0.e0 a0 a1 a2 x1)] [] [0, 1] (nd (spec.l4Clear.l0.spec a0 a1 a2 K 0 0 0 _ e1) trivial) (by kernel_rfl)
def spec.FreeBlocks.l0.f (K : Nat) (a0 : List ByteArray) (a1 : List Int) : Nat → (List Int) → Int → Option ((List Int))
  | 0, _, _ => none
  | k + 1, v113_0, v113_1 =>
    cond (decide (v113_1 < 10)) (Option.bind (spec.ChipOk.f K a0 a1) fun x1 => cond (x1) (Option.bind (spec.l4Clear.f K a0 a1 v113_1) fun x2 => cond (x2.1 == 6) (ck ((v113_0 ++ [v113_1]).length * 8 ≤ 70368744177664) (spec.FreeBlocks.l0.f K a0 a1 k (v113_0 ++ [v113_1]) (w64 (v113_1 + 1)))) (spec.FreeBlocks.l0.f K a0 a1 k v113_0 (w64 (v113_1 + 1)))) (some v113_0)) (some v113_0)
def spec.FreeBlocks.l0.s (K : Nat) (a0 : List ByteArray) (a1 : List Int) (v113_0 : List Int) (v113_1 : Int) : St := mkSt 29 [(1, one (.ptr 2 0 0)), (3, one (.sl 3 0 v113_0.length)), (4, one (.int .i64 v113_1))] [some ⟨false, .strs a0⟩, some ⟨false, .ints .i64 a1⟩, some ⟨true, .cells [.sl 0 0 a0.length, .sl 1 0 a1.length]⟩, some ⟨true, .ints .i64 v113_0⟩]
def spec.FreeBlocks.l0.e0 (K : Nat) (a0 : List ByteArray) (a1 : List Int) (o : (List Int)) : St := mkSt 29 [(3, one (.sl 2 0 o.length))] [some ⟨false, .strs a0⟩, some ⟨false, .ints .i64 a1⟩, some ⟨true, .ints .i64 o⟩]
def spec.FreeBlocks.l0.x (K : Nat) (a0 : List ByteArray) (a1 : List Int) : ((List Int)) → AExit × St := fun o => (.exit 0, spec.FreeBlocks.l0.e0 K a0 a1 o)
theorem spec.FreeBlocks.l0.spec (K : Nat) (a0 : List ByteArray) (a1 : List Int) : ∀ (k : Nat) (v113_0 : List Int) (v113_1 : Int) (o : (List Int)), spec.FreeBlocks.l0.f K a0 a1 k v113_0 v113_1 = some o → LoopSpec Tryz.prog 2 (loopN Tryz.f130 0) (spec.FreeBlocks.l0.s K a0 a1 v113_0 v113_1) (spec.FreeBlocks.l0.x K a0 a1 o).1 (spec.FreeBlocks.l0.x K a0 a1 o).2
  | 0, _, _, _, h => by cases h
  | k + 1, v113_0, v113_1, o, h => by
    unfold spec.FreeBlocks.l0.f at h
    rcases br_cases h with ⟨c1, h⟩ | ⟨c1, h⟩
    · obtain ⟨x1, e1, h⟩ := bind_some h
      rcases br_cases h with ⟨c2, h⟩ | ⟨c2, h⟩
      · obtain ⟨x2, e2, h⟩ := bind_some h
        rcases br_cases h with ⟨c3, h⟩ | ⟨c3, h⟩
        · obtain ⟨p1, h⟩ := ck_some h
          exact .of_step tab mixed [bT, bT, .call [(0, false), (1, false)] [] (one (.bool x1)) [some ⟨false, .strs a0⟩, some ⟨false, .ints .i64 a1⟩], bT, bT, .call [(0, false), (1, false)] [] (.tup [.c (.int .i64 x2.1), .c (.int .i64 x2.2)]) [some ⟨false, .strs a0⟩, some ⟨false, .ints .i64 a1⟩], bT, bT] [] [1, 3, 4] [0, 1, 2, 5] (s1 := spec.FreeBlocks.l0.s K a0 a1 (v113_0 ++ [v113_1]) (w64 (v113_1 + 1))) (nd c1 (nd c1 (nd (spec.ChipOk.spec K a0 a1 _ e1) (nd c1 (nd c2 (nd (spec.l4Clear.spec K a0 a1 v113_1 _ e2) (nd c3 (n0 (nl v113_0 (nd p1 (n0 (nn 1 trivial)))))))))))) (by kernel_rfl) (spec.FreeBlocks.l0.spec K a0 a1 k (v113_0 ++ [v113_1]) (w64 (v113_1 + 1)) _ h)
        · exact .of_step tab mixed [bT, bT, .call [(0, false), (1, false)] [] (one (.bool x1)) [some ⟨false, .strs a0⟩, some ⟨false, .ints .i64 a1⟩], bT, bT, .call [(0, false), (1, false)] [] (.tup [.c (.int .i64 x2.1), .c (.int .i64 x2.2)]) [some ⟨false, .strs a0⟩, some ⟨false, .ints .i64 a1⟩], bF] [] [1, 3, 4] [0, 1, 2, 3] (s1 := spec.FreeBlocks.l0.s K a0 a1 v113_0 (w64 (v113_1 + 1))) (nd c1 (nd c1 (nd (spec.ChipOk.spec K a0 a1 _ e1) (nd c1 (nd c2 (nd (spec.l4Clear.spec K a0 a1 v113_1 _ e2) (nd c3 trivial))))))) (by kernel_rfl) (spec.FreeBlocks.l0.spec K a0 a1 k v113_0 (w64 (v113_1 + 1)) _ h)
      · obtain rfl := Option.some.inj h
        exact .of_done tab mixed [bT, bT, .call [(0, false), (1, false)] [] (one (.bool x1)) [some ⟨false, .strs a0⟩, some ⟨false, .ints .i64 a1⟩], bT, bF] [] [3] [0, 1, 3] rfl (nd c1 (nd c1 (nd (spec.ChipOk.spec K a0 a1 _ e1) (nd c1 (nd c2 trivial))))) (by kernel_rfl)
    · obtain rfl := Option.some.inj h
      exact .of_done tab mixed [bF, bF, bF, bF] [] [3] [0, 1, 3] rfl (nd c1 (nd c1 (nd c1 (nd ff trivial)))) (by kernel_rfl)
def spec.FreeBlocks.f (K : Nat) (a0 : List ByteArray) (a1 : List Int) : Option ((List Int)) :=
  Option.bind (spec.FreeBlocks.l0.f K a0 a1 K [] 0) fun x1 => some x1
theorem spec.FreeBlocks.spec (K : Nat) (a0 : List ByteArray) (a1 : List Int) (o : (List Int)) (h : spec.FreeBlocks.f K a0 a1 = some o) : Den.Spec Tryz.prog 130 [.v (.agg [.sl 0 0 a0.length, .sl 1 0 a1.length])] [some ⟨false, .strs a0⟩, some ⟨false, .ints .i64 a1⟩] (one (.sl 2 0 o.length)) [some ⟨false, .strs a0⟩, some ⟨false, .ints .i64 a1⟩, some ⟨true, .ints .i64 o⟩] := by
  unfold spec.FreeBlocks.f at h
  obtain ⟨x1, e1, h⟩ := bind_some h
  obtain rfl := Option.some.inj h
  exact Den.Spec.of_walk tab mixed Tryz.func130 (by kernel_rfl) [.loop [] [1, 3, 4] [0, 1, 2, 3] (.exit 0) (spec.FreeBlocks.l0.e0 K a0 a1 x1)] [] [0, 1, 2] (nd (spec.FreeBlocks.l0.spec K a0 a1 K [] 0 _ e1) trivial) (by kernel_rfl)
def spec.l4Next.l0.f (K : Nat) (a0 : List ByteArray) (a1 : List Int) : Nat → Int → Int → Option (Int ⊕ Int)
  | 0, _, _ => none
  | k + 1, v116_0, v116_1 =>
    cond (decide (v116_1 < 10)) (Option.bind (spec.l4Clear.f K a0 a1 v116_1) fun x1 => cond (decide (x1.1 > 0)) (cond (decide (x1.1 < 6)) (cond (x1.2 == x1.1) (some (.inl (w64 ((w64 ((w64 (v116_1 * 6)) + 6)) - x1.1)))) (cond (x1.1 == 6) (cond (decide (v116_0 < 0)) (spec.l4Next.l0.f K a0 a1 k v116_1 (w64 (v116_1 + 1))) (ck (0 ≤ v116_1) (ck (v116_1 < (a1.length : Int)) (ck (v116_0 < (a1.length : Int)) (cond (decide ((a1.getD v116_1.toNat 0) < (a1.getD v116_0.toNat 0))) (spec.l4Next.l0.f K a0 a1 k v116_1 (w64 (v116_1 + 1))) (spec.l4Next.l0.f K a0 a1 k v116_0 (w64 (v116_1 + 1)))))))) (spec.l4Next.l0.f K a0 a1 k v116_0 (w64 (v116_1 + 1))))) (cond (x1.1 == 6) (cond (decide (v116_0 < 0)) (spec.l4Next.l0.f K a0 a1 k v116_1 (w64 (v116_1 + 1))) (ck (0 ≤ v116_1) (ck (v116_1 < (a1.length : Int)) (ck (v116_0 < (a1.length : Int)) (cond (decide ((a1.getD v116_1.toNat 0) < (a1.getD v116_0.toNat 0))) (spec.l4Next.l0.f K a0 a1 k v116_1 (w64 (v116_1 + 1))) (spec.l4Next.l0.f K a0 a1 k v116_0 (w64 (v116_1 + 1)))))))) (spec.l4Next.l0.f K a0 a1 k v116_0 (w64 (v116_1 + 1))))) (cond (x1.1 == 6) (cond (decide (v116_0 < 0)) (spec.l4Next.l0.f K a0 a1 k v116_1 (w64 (v116_1 + 1))) (ck (0 ≤ v116_1) (ck (v116_1 < (a1.length : Int)) (ck (v116_0 < (a1.length : Int)) (cond (decide ((a1.getD v116_1.toNat 0) < (a1.getD v116_0.toNat 0))) (spec.l4Next.l0.f K a0 a1 k v116_1 (w64 (v116_1 + 1))) (spec.l4Next.l0.f K a0 a1 k v116_0 (w64 (v116_1 + 1)))))))) (spec.l4Next.l0.f K a0 a1 k v116_0 (w64 (v116_1 + 1))))) (some (.inr (v116_0)))
def spec.l4Next.l0.s (K : Nat) (a0 : List ByteArray) (a1 : List Int) (v116_0 : Int) (v116_1 : Int) : St := mkSt 57 [(1, one (.ptr 2 0 0)), (3, one (.int .i64 v116_0)), (4, one (.int .i64 v116_1))] [some ⟨false, .strs a0⟩, some ⟨false, .ints .i64 a1⟩, some ⟨true, .cells [.sl 0 0 a0.length, .sl 1 0 a1.length]⟩]
def spec.l4Next.l0.e0 (K : Nat) (a0 : List ByteArray) (a1 : List Int) (o : Int) : St := mkSt 57 [(2, one (.int .i64 o))] [some ⟨false, .strs a0⟩, some ⟨false, .ints .i64 a1⟩]
def spec.l4Next.l0.e1 (K : Nat) (a0 : List ByteArray) (a1 : List Int) (o : Int) : St := mkSt 57 [(3, one (.int .i64 o))] [some ⟨false, .strs a0⟩, some ⟨false, .ints .i64 a1⟩]
def spec.l4Next.l0.x (K : Nat) (a0 : List ByteArray) (a1 : List Int) : (Int ⊕ Int) → AExit × St := Sum.elim (fun o => (.ret, spec.l4Next.l0.e0 K a0 a1 o)) (fun o => (.exit 0, spec.l4Next.l0.e1 K a0 a1 o))
theorem spec.l4Next.l0.spec (K : Nat) (a0 : List ByteArray) (a1 : List Int) : ∀ (k : Nat) (v116_0 : Int) (v116_1 : Int) (o : Int ⊕ Int), spec.l4Next.l0.f K a0 a1 k v116_0 v116_1 = some o → LoopSpec Tryz.prog 2 (loopN Tryz.f134 0) (spec.l4Next.l0.s K a0 a1 v116_0 v116_1) (spec.l4Next.l0.x K a0 a1 o).1 (spec.l4Next.l0.x K a0 a1 o).2
  | 0, _, _, _, h => by cases h
  | k + 1, v116_0, v116_1, o, h => by
    unfold spec.l4Next.l0.f at h
    rcases br_cases h with ⟨c1, h⟩ | ⟨c1, h⟩
    · obtain ⟨x1, e1, h⟩ := bind_some h
      rcases br_cases h with ⟨c2, h⟩ | ⟨c2, h⟩
      · rcases br_cases h with ⟨c3, h⟩ | ⟨c3, h⟩
        · rcases br_cases h with ⟨c4, h⟩ | ⟨c4, h⟩
          · obtain rfl := Option.some.inj h
            exact .of_done tab mixed [bT, .call [(0, false), (1, false)] [] (.tup [.c (.int .i64 x1.1), .c (.int .i64 x1.2)]) [some ⟨false, .strs a0⟩, some ⟨false, .ints .i64 a1⟩], bT, bT, bT, bT, bT, bT, bT, bT] [] [2] [0, 1] rfl (nd c1 (nd (spec.l4Clear.spec K a0 a1 v116_1 _ e1) (nd c2 (nd c2 (nd c2 (nd c3 (nd c3 (nd c3 (nd c3 (nd c4 trivial)))))))))) (by kernel_rfl)
          · rcases br_cases h with ⟨c5, h⟩ | ⟨c5, h⟩
            · rcases br_cases h with ⟨c6, h⟩ | ⟨c6, h⟩
              · exact .of_step tab mixed [bT, .call [(0, false), (1, false)] [] (.tup [.c (.int .i64 x1.1), .c (.int .i64 x1.2)]) [some ⟨false, .strs a0⟩, some ⟨false, .ints .i64 a1⟩], bT, bT, bT, bT, bT, bT, bT, bF, bT, bT, bT, bT, bT, bT, bT, bT, bT, bT, bT, bT, bT, bT, bT, bT, bT, bT] [] [1, 3, 4] [0, 1, 2] (s1 := spec.l4Next.l0.s K a0 a1 v116_1 (w64 (v116_1 + 1))) (nd c1 (nd (spec.l4Clear.spec K a0 a1 v116_1 _ e1) (nd c2 (nd c2 (nd c2 (nd c3 (nd c3 (nd c3 (nd c3 (nd c4 (nd c5 (nd c5 (nd c5 (nd c6 (nd c6 (nd c6 (nd c6 (nd c6 (nd c6 (nd c6 (nd c6 (nd c6 (nd c6 (nd c6 (nd c5 (nd c6 (nd c5 (nd tt trivial)))))))))))))))))))))))))))) (by kernel_rfl) (spec.l4Next.l0.spec K a0 a1 k v116_1 (w64 (v116_1 + 1)) _ h)
              · obtain ⟨p1, h⟩ := ck_some h
                obtain ⟨p2, h⟩ := ck_some h
                obtain ⟨p3, h⟩ := ck_some h
                rcases br_cases h with ⟨c7, h⟩ | ⟨c7, h⟩
                · exact .of_step tab mixed [bT, .call [(0, false), (1, false)] [] (.tup [.c (.int .i64 x1.1), .c (.int .i64 x1.2)]) [some ⟨false, .strs a0⟩, some ⟨false, .ints .i64 a1⟩], bT, bT, bT, bT, bT, bT, bT, bF, bT, bT, bT, bF, bF, bF, bF, bF, bF, bF, bF, bF, bF, bF, bT, bF, bT, bT] [] [1, 3, 4] [0, 1, 2] (s1 := spec.l4Next.l0.s K a0 a1 v116_1 (w64 (v116_1 + 1))) (nd c1 (nd (spec.l4Clear.spec K a0 a1 v116_1 _ e1) (nd c2 (nd c2 (nd c2 (nd c3 (nd c3 (nd c3 (nd c3 (nd c4 (nd c5 (nd c5 (nd c5 (nd c6 (nd c6 (nd c6 (nd c6 (nd p1 (nd p2 (nd c6 (nd (tn p1 p2) (nd c6 (nd c6 (nd c6 (nd c6 (nd (Int.not_lt.1 (of_decide_eq_false c6)) (nd p3 (nd c6 (nd (tn (Int.not_lt.1 (of_decide_eq_false c6)) p3) (nd c6 (nd c5 (nd c6 (nd c5 (nd c7 trivial)))))))))))))))))))))))))))))))))) (by kernel_rfl) (spec.l4Next.l0.spec K a0 a1 k v116_1 (w64 (v116_1 + 1)) _ h)
                · exact .of_step tab mixed [bT, .call [(0, false), (1, false)] [] (.tup [.c (.int .i64 x1.1), .c (.int .i64 x1.2)]) [some ⟨false, .strs a0⟩, some ⟨false, .ints .i64 a1⟩], bT, bT, bT, bT, bT, bT, bT, bF, bT, bT, bT, bF, bF, bF, bF, bF, bF, bF, bF, bF, bF, bF, bT, bF, bT, bF] [] [1, 3, 4] [0, 1, 2] (s1 := spec.l4Next.l0.s K a0 a1 v116_0 (w64 (v116_1 + 1))) (nd c1 (nd (spec.l4Clear.spec K a0 a1 v116_1 _ e1) (nd c2 (nd c2 (nd c2 (nd c3 (nd c3 (nd c3 (nd c3 (nd c4 (nd c5 (nd c5 (nd c5 (nd c6 (nd c6 (nd c6 (nd c6 (nd p1 (nd p2 (nd c6 (nd (tn p1 p2) (nd c6 (nd c6 (nd c6 (nd c6 (nd (Int.not_lt.1 (of_decide_eq_false c6)) (nd p3 (nd c6 (nd (tn (Int.not_lt.1 (of_decide_eq_false c6)) p3) (nd c6 (nd c5 (nd c6 (nd c5 (nd c7 trivial)))))))))))))))))))))))))))))))))) (by kernel_rfl) (spec.l4Next.l0.spec K a0 a1 k v116_0 (w64 (v116_1 + 1)) _ h)
            · exact .of_step tab mixed [bT, .call [(0, false), (1, false)] [] (.tup [.c (.int .i64 x1.1), .c (.int .i64 x1.2)]) [some ⟨false, .strs a0⟩, some ⟨false, .ints .i64 a1⟩], bT, bT, bT, bT, bT, bT, bT, bF, bF, bF, bF, bF, bF, bF] [] [1, 3, 4] [0, 1, 2] (s1 := spec.l4Next.l0.s K a0 a1 v116_0 (w64 (v116_1 + 1))) (nd c1 (nd (spec.l4Clear.spec K a0 a1 v116_1 _ e1) (nd c2 (nd c2 (nd c2 (nd c3 (nd c3 (nd c3 (nd c3 (nd c4 (nd c5 (nd c5 (nd c5 (nd c5 (nd c5 (nd ff trivial)))))))))))))))) (by kernel_rfl) (spec.l4Next.l0.spec K a0 a1 k v116_0 (w64 (v116_1 + 1)) _ h)
        · rcases br_cases h with ⟨c4, h⟩ | ⟨c4, h⟩
          · rcases br_cases h with ⟨c5, h⟩ | ⟨c5, h⟩
            · exact .of_step tab mixed [bT, .call [(0, false), (1, false)] [] (.tup [.c (.int .i64 x1.1), .c (.int .i64 x1.2)]) [some ⟨false, .strs a0⟩, some ⟨false, .ints .i64 a1⟩], bT, bT, bT, bF, bF, bF, bF, bF, bT, bT, bT, bT, bT, bT, bT, bT, bT, bT, bT, bT, bT, bT, bT, bT, bT, bT] [] [1, 3, 4] [0, 1, 2] (s1 := spec.l4Next.l0.s K a0 a1 v116_1 (w64 (v116_1 + 1))) (nd c1 (nd (spec.l4Clear.spec K a0 a1 v116_1 _ e1) (nd c2 (nd c2 (nd c2 (nd c3 (nd c3 (nd c3 (nd c3 (nd ff (nd c4 (nd c4 (nd c4 (nd c5 (nd c5 (nd c5 (nd c5 (nd c5 (nd c5 (nd c5 (nd c5 (nd c5 (nd c5 (nd c5 (nd c4 (nd c5 (nd c4 (nd tt trivial)))))))))))))))))))))))))))) (by kernel_rfl) (spec.l4Next.l0.spec K a0 a1 k v116_1 (w64 (v116_1 + 1)) _ h)
            · obtain ⟨p1, h⟩ := ck_some h
              obtain ⟨p2, h⟩ := ck_some h
              obtain ⟨p3, h⟩ := ck_some h
              rcases br_cases h with ⟨c6, h⟩ | ⟨c6, h⟩
              · exact .of_step tab mixed [bT, .call [(0, false), (1, false)] [] (.tup [.c (.int .i64 x1.1), .c (.int .i64 x1.2)]) [some ⟨false, .strs a0⟩, some ⟨false, .ints .i64 a1⟩], bT, bT, bT, bF, bF, bF, bF, bF, bT, bT, bT, bF, bF, bF, bF, bF, bF, bF, bF, bF, bF, bF, bT, bF, bT, bT] [] [1, 3, 4] [0, 1, 2] (s1 := spec.l4Next.l0.s K a0 a1 v116_1 (w64 (v116_1 + 1))) (nd c1 (nd (spec.l4Clear.spec K a0 a1 v116_1 _ e1) (nd c2 (nd c2 (nd c2 (nd c3 (nd c3 (nd c3 (nd c3 (nd ff (nd c4 (nd c4 (nd c4 (nd c5 (nd c5 (nd c5 (nd c5 (nd p1 (nd p2 (nd c5 (nd (tn p1 p2) (nd c5 (nd c5 (nd c5 (nd c5 (nd (Int.not_lt.1 (of_decide_eq_false c5)) (nd p3 (nd c5 (nd (tn (Int.not_lt.1 (of_decide_eq_false c5)) p3) (nd c5 (nd c4 (nd c5 (nd c4 (nd c6 trivial)))))))))))))))))))))))))))))))))) (by kernel_rfl) (spec.l4Next.l0.spec K a0 a1 k v116_1 (w64 (v116_1 + 1)) _ h)
              · exact .of_step tab mixed [bT, .call [(0, false), (1, false)] [] (.tup [.c (.int .i64 x1.1), .c (.int .i64 x1.2)]) [some ⟨false, .strs a0⟩, some ⟨false, .ints .i64 a1⟩], bT, bT, bT, bF, bF, bF, bF, bF, bT, bT, bT, bF, bF, bF, bF, bF, bF, bF, bF, bF, bF, bF, bT, bF, bT, bF] [] [1, 3, 4] [0, 1, 2] (s1 := spec.l4Next.l0.s K a0 a1 v116_0 (w64 (v116_1 + 1))) (nd c1 (nd (spec.l4Clear.spec K a0 a1 v116_1 _ e1) (nd c2 (nd c2 (nd c2 (nd c3 (nd c3 (nd c3 (nd c3 (nd ff (nd c4 (nd c4 (nd c4 (nd c5 (nd c5 (nd c5 (nd c5 (nd p1 (nd p2 (nd c5 (nd (tn p1 p2) (nd c5 (nd c5 (nd c5 (nd c5 (nd (Int.not_lt.1 (of_decide_eq_false c5)) (nd p3 (nd c5 (nd (tn (Int.not_lt.1 (of_decide_eq_false c5)) p3) (nd c5 (nd c4 (nd c5 (nd c4 (nd c6 trivial)))))))))))))))))))))))))))))))))) (by kernel_rfl) (spec.l4Next.l0.spec K a0 a1 k v116_0 (w64 (v116_1 + 1)) _ h)
          · exact .of_step tab mixed [bT, .call [(0, false), (1, false)] [] (.tup [.c (.int .i64 x1.1), .c (.int .i64 x1.2)]) [some ⟨false, .strs a0⟩, some ⟨false, .ints .i64 a1⟩], bT, bT, bT, bF, bF, bF, bF, bF, bF, bF, bF, bF, bF, bF] [] [1, 3, 4] [0, 1, 2] (s1 := spec.l4Next.l0.s K a0 a1 v116_0 (w64 (v116_1 + 1))) (nd c1 (nd (spec.l4Clear.spec K a0 a1 v116_1 _ e1) (nd c2 (nd c2 (nd c2 (nd c3 (nd c3 (nd c3 (nd c3 (nd ff (nd c4 (nd c4 (nd c4 (nd c4 (nd c4 (nd ff trivial)))))))))))))))) (by kernel_rfl) (spec.l4Next.l0.spec K a0 a1 k v116_0 (w64 (v116_1 + 1)) _ h)
      · rcases br_cases h with ⟨c3, h⟩ | ⟨c3, h⟩
        · rcases br_cases h with ⟨c4, h⟩ | ⟨c4, h⟩
          · exact .of_step tab mixed [bT, .call [(0, false), (1, false)] [] (.tup [.c (.int .i64 x1.1), .c (.int .i64 x1.2)]) [some ⟨false, .strs a0⟩, some ⟨false, .ints .i64 a1⟩], bF, bF, bF, bF, bF, bF, bF, bF, bT, bT, bT, bT, bT, bT, bT, bT, bT, bT, bT, bT, bT, bT, bT, bT, bT, bT] [] [1, 3, 4] [0, 1, 2] (s1 := spec.l4Next.l0.s K a0 a1 v116_1 (w64 (v116_1 + 1))) (nd c1 (nd (spec.l4Clear.spec K a0 a1 v116_1 _ e1) (nd c2 (nd c2 (nd c2 (nd ff (nd ff (nd ff (nd ff (nd ff (nd c3 (nd c3 (nd c3 (nd c4 (nd c4 (nd c4 (nd c4 (nd c4 (nd c4 (nd c4 (nd c4 (nd c4 (nd c4 (nd c4 (nd c3 (nd c4 (nd c3 (nd tt trivial)))))))))))))))))))))))))))) (by kernel_rfl) (spec.l4Next.l0.spec K a0 a1 k v116_1 (w64 (v116_1 + 1)) _ h)
          · obtain ⟨p1, h⟩ := ck_some h
            obtain ⟨p2, h⟩ := ck_some h
            obtain ⟨p3, h⟩ := ck_some h
            rcases br_cases h with ⟨c5, h⟩ | ⟨c5, h⟩
            · exact .of_step tab mixed [bT, .call [(0, false), (1, false)] [] (.tup [.c (.int .i64 x1.1), .c (.int .i64 x1.2)]) [some ⟨false, .strs a0⟩, some ⟨false, .ints .i64 a1⟩], bF, bF, bF, bF, bF, bF, bF, bF, bT, bT, bT, bF, bF, bF, bF, bF, bF, bF, bF, bF, bF, bF, bT, bF, bT, bT] [] [1, 3, 4] [0, 1, 2] (s1 := spec.l4Next.l0.s K a0 a1 v116_1 (w64 (v116_1 + 1))) (nd c1 (nd (spec.l4Clear.spec K a0 a1 v116_1 _ e1) (nd c2 (nd c2 (nd c2 (nd ff (nd ff (nd ff (nd ff (nd ff (nd c3 (nd c3 (nd c3 (nd c4 (nd c4 (nd c4 (nd c4 (nd p1 (nd p2 (nd c4 (nd (tn p1 p2) (nd c4 (nd c4 (nd c4 (nd c4 (nd (Int.not_lt.1 (of_decide_eq_false c4)) (nd p3 (nd c4 (nd (tn (Int.not_lt.1 (of_decide_eq_false c4)) p3) (nd c4 (nd c3 (nd c4 (nd c3 (nd c5 trivial)))))))))))))))))))))))))))))))))) (by kernel_rfl) (spec.l4Next.l0.spec K a0 a1 k v116_1 (w64 (v116_1 + 1)) _ h)
            · exact .of_step tab mixed [bT, .call [(0, false), (1, false)] [] (.tup [.c (.int .i64 x1.1), .c (.int .i64 x1.2)]) [some ⟨false, .strs a0⟩, some ⟨false, .ints .i64 a1⟩], bF, bF, bF, bF, bF, bF, bF, bF, bT, bT, bT, bF, bF, bF, bF, bF, bF, bF, bF, bF, bF, bF, bT, bF, bT, bF] [] [1, 3, 4] [0, 1, 2] (s1 := spec.l4Next.l0.s K a0 a1 v116_0 (w64 (v116_1 + 1))) (nd c1 (nd (spec.l4Clear.spec K a0 a1 v116_1 _ e1) (nd c2 (nd c2 (nd c2 (nd ff (nd ff (nd ff (nd ff (nd ff (nd c3 (nd c3 (nd c3 (nd c4 (nd c4 (nd c4 (nd c4 (nd p1 (nd p2 (nd c4 (nd (tn p1 p2) (nd c4 (nd c4 (nd c4 (nd c4 (nd (Int.not_lt.1 (of_decide_eq_false c4)) (nd p3 (nd c4 (nd (tn (Int.not_lt.1 (of_decide_eq_false c4)) p3) (nd c4 (nd c3 (nd c4 (nd c3 (nd c5 trivial)))))))))))))))))))))))))))))))))) (by kernel_rfl) (spec.l4Next.l0.spec K a0 a1 k v116_0 (w64 (v116_1 + 1)) _ h)
        · exact .of_step tab mixed [bT, .call [(0, false), (1, false)] [] (.tup [.c (.int .i64 x1.1), .c (.int .i64 x1.2)]) [some ⟨false, .strs a0⟩, some ⟨false, .ints .i64 a1⟩], bF, bF, bF, bF, bF, bF, bF, bF, bF, bF, bF, bF, bF, bF] [] [1, 3, 4] [0, 1, 2] (s1 := spec.l4Next.l0.s K a0 a1 v116_0 (w64 (v116_1 + 1))) (nd c1 (nd (spec.l4Clear.spec K a0 a1 v116_1 _ e1) (nd c2 (nd c2 (nd c2 (nd ff (nd ff (nd ff (nd ff (nd ff (nd c3 (nd c3 (nd c3 (nd c3 (nd c3 (nd ff trivial)))))))))))))))) (by kernel_rfl) (spec.l4Next.l0.spec K a0 a1 k v116_0 (w64 (v116_1 + 1)) _ h)
    · obtain rfl := Option.some.inj h
      exact .of_done tab mixed [bF] [] [3] [0, 1] rfl (nd c1 trivial) (by kernel_rfl)
def spec.l4Next.f (K : Nat) (a0 : List ByteArray) (a1 : List Int) : Option (Int) :=
  Option.bind (spec.l4Next.l0.f K a0 a1 K (-1) 0) fun x1 => (Sum.elim (fun x1 => some x1) (fun x1 => cond (decide (x1 < 0)) (some (-1)) (some (w64 (x1 * 6))))) x1
theorem spec.l4Next.spec (K : Nat) (a0 : List ByteArray) (a1 : List Int) (o : Int) (h : spec.l4Next.f K a0 a1 = some o) : Den.Spec Tryz.prog 134 [.v (.agg [.sl 0 0 a0.length, .sl 1 0 a1.length])] [some ⟨false, .strs a0⟩, some ⟨false, .ints .i64 a1⟩] (one (.int .i64 o)) [some ⟨false, .strs a0⟩, some ⟨false, .ints .i64 a1⟩] := by
  unfold spec.l4Next.f at h
  obtain ⟨x1, e1, h⟩ := bind_some h
  rcases x1 with x1 | x1
  · obtain rfl := Option.some.inj h
    exact Den.Spec.of_walk tab mixed Tryz.func134 (by kernel_rfl) [.loop [] [1, 3, 4] [0, 1, 2] (.ret) (spec.l4Next.l0.e0 K a0 a1 x1)] [] [0, 1] (nd (spec.l4Next.l0.spec K a0 a1 K (-1) 0 _ e1) trivial) (by kernel_rfl)
  · rcases br_cases h with ⟨c1, h⟩ | ⟨c1, h⟩
    · obtain rfl := Option.some.inj h
      exact Den.Spec.of_walk tab mixed Tryz.func134 (by kernel_rfl) [.loop [] [1, 3, 4] [0, 1, 2] (.exit 0) (spec.l4Next.l0.e1 K a0 a1 x1), bT] [] [0, 1] (nd (spec.l4Next.l0.spec K a0 a1 K (-1) 0 _ e1) (nd c1 trivial)) (by kernel_rfl)
    · obtain rfl := Option.some.inj h
      exact Den.Spec.of_walk tab mixed Tryz.func134 (by kernel_rfl) [.loop [] [1, 3, 4] [0, 1, 2] (.exit 0) (spec.l4Next.l0.e1 K a0 a1 x1), bF] [] [0, 1] (nd (spec.l4Next.l0.spec K a0 a1 K (-1) 0 _ e1) (nd c1 trivial)) (by kernel_rfl)
def spec.l5Open.f (K : Nat) (a0 : List ByteArray) (a1 : List Int) : Option (Int) :=
  Option.bind (spec.l4Next.f K a0 a1) fun x1 => cond (decide (x1 < 0)) (some (-1)) (cond ((x1.tmod 6) == 0) (some (-1)) (some (w64 (x1.tdiv 6))))
theorem spec.l5Open.spec (K : Nat) (a0 : List ByteArray) (a1 : List Int) (o : Int) (h : spec.l5Open.f K a0 a1 = some o) : Den.Spec Tryz.prog 131 [.v (.agg [.sl 0 0 a0.length, .sl 1 0 a1.length])] [some ⟨false, .strs a0⟩, some ⟨false, .ints .i64 a1⟩] (one (.int .i64 o)) [some ⟨false, .strs a0⟩, some ⟨false, .ints .i64 a1⟩] := by
  unfold spec.l5Open.f at h
  obtain ⟨x1, e1, h⟩ := bind_some h
  rcases br_cases h with ⟨c1, h⟩ | ⟨c1, h⟩
  · obtain rfl := Option.some.inj h
    exact Den.Spec.of_walk tab mixed Tryz.func131 (by kernel_rfl) [.call [(0, false), (1, false)] [] (one (.int .i64 x1)) [some ⟨false, .strs a0⟩, some ⟨false, .ints .i64 a1⟩], bT, bT, bT, bT, bT] [] [0, 1] (nd (spec.l4Next.spec K a0 a1 _ e1) (nd c1 (nd c1 (nd c1 (nd c1 (nd tt trivial)))))) (by kernel_rfl)
  · rcases br_cases h with ⟨c2, h⟩ | ⟨c2, h⟩
    · obtain rfl := Option.some.inj h
      exact Den.Spec.of_walk tab mixed Tryz.func131 (by kernel_rfl) [.call [(0, false), (1, false)] [] (one (.int .i64 x1)) [some ⟨false, .strs a0⟩, some ⟨false, .ints .i64 a1⟩], bF, bF, bF, bF, bT] [] [0, 1] (nd (spec.l4Next.spec K a0 a1 _ e1) (nd c1 (nd c1 (nd (by decide : (6 : Int) ≠ 0) (nd c1 (nd c1 (nd c2 trivial))))))) (by kernel_rfl)
    · obtain rfl := Option.some.inj h
      exact Den.Spec.of_walk tab mixed Tryz.func131 (by kernel_rfl) [.call [(0, false), (1, false)] [] (one (.int .i64 x1)) [some ⟨false, .strs a0⟩, some ⟨false, .ints .i64 a1⟩], bF, bF, bF, bF, bF] [] [0, 1] (nd (spec.l4Next.spec K a0 a1 _ e1) (nd c1 (nd c1 (nd (by decide : (6 : Int) ≠ 0) (nd c1 (nd c1 (nd c2 (nd (by decide : (6 : Int) ≠ 0) trivial)))))))) (by kernel_rfl)
def spec.l4Lives.l1.f (a0 : List ByteArray) (a1 : List Int) (a2 : List Int) (a3 : Int) (a4 : Int) (v123_1 : Int) : Nat → (List Int) → Int → Option ((List Int))
  | 0, _, _ => none
  | k + 1, v125_0, v125_1 =>
    cond (decide (v125_1 < (a2.length : Int))) (ck (0 ≤ v125_1) (cond ((a2.getD v125_1.toNat 0) == (w64 ((w64 (a4 * 6)) + v123_1))) (ck ((v125_0 ++ [w64 ((w64 (a4 * 6)) + v123_1)]).length * 8 ≤ 70368744177664) (spec.l4Lives.l1.f a0 a1 a2 a3 a4 v123_1 k (v125_0 ++ [w64 ((w64 (a4 * 6)) + v123_1)]) (w64 (v125_1 + 1)))) (spec.l4Lives.l1.f a0 a1 a2 a3 a4 v123_1 k v125_0 (w64 (v125_1 + 1))))) (some v125_0)
def spec.l4Lives.l1.s (a0 : List ByteArray) (a1 : List Int) (a2 : List Int) (a3 : Int) (a4 : Int) (v123_1 : Int) (v125_0 : List Int) (v125_1 : Int) : St := mkSt 38 [(1, one (.int .i64 a4)), (2, one (.ptr 3 0 0)), (5, one (.sl 4 0 v125_0.length)), (6, one (.int .i64 v123_1)), (7, one (.int .i64 v125_1))] [some ⟨false, .strs a0⟩, some ⟨false, .ints .i64 a1⟩, some ⟨false, .ints .i64 a2⟩, some ⟨true, .cells [.sl 0 0 a0.length, .sl 1 0 a1.length, .sl 2 0 a2.length, .int .i64 a3]⟩, some ⟨true, .ints .i64 v125_0⟩]
def spec.l4Lives.l1.e0 (a0 : List ByteArray) (a1 : List Int) (a2 : List Int) (a3 : Int) (a4 : Int) (v123_1 : Int) (o : (List Int)) : St := mkSt 38 [(1, one (.int .i64 a4)), (2, one (.ptr 3 0 0)), (5, one (.sl 4 0 o.length)), (6, one (.int .i64 v123_1))] [some ⟨false, .strs a0⟩, some ⟨false, .ints .i64 a1⟩, some ⟨false, .ints .i64 a2⟩, some ⟨true, .cells [.sl 0 0 a0.length, .sl 1 0 a1.length, .sl 2 0 a2.length, .int .i64 a3]⟩, some ⟨true, .ints .i64 o⟩]
def spec.l4Lives.l1.x (a0 : List ByteArray) (a1 : List Int) (a2 : List Int) (a3 : Int) (a4 : Int) (v123_1 : Int) : ((List Int)) → AExit × St := fun o => (.exit 2, spec.l4Lives.l1.e0 a0 a1 a2 a3 a4 v123_1 o)
theorem spec.l4Lives.l1.spec (a0 : List ByteArray) (a1 : List Int) (a2 : List Int) (a3 : Int) (a4 : Int) (v123_1 : Int) : ∀ (k : Nat) (v125_0 : List Int) (v125_1 : Int) (o : (List Int)), spec.l4Lives.l1.f a0 a1 a2 a3 a4 v123_1 k v125_0 v125_1 = some o → LoopSpec Tryz.prog 3 (loopN Tryz.f146 1) (spec.l4Lives.l1.s a0 a1 a2 a3 a4 v123_1 v125_0 v125_1) (spec.l4Lives.l1.x a0 a1 a2 a3 a4 v123_1 o).1 (spec.l4Lives.l1.x a0 a1 a2 a3 a4 v123_1 o).2
  | 0, _, _, _, h => by cases h
  | k + 1, v125_0, v125_1, o, h => by
    unfold spec.l4Lives.l1.f at h
    rcases br_cases h with ⟨c1, h⟩ | ⟨c1, h⟩
    · obtain ⟨p1, h⟩ := ck_some h
      rcases br_cases h with ⟨c2, h⟩ | ⟨c2, h⟩
      · obtain ⟨p2, h⟩ := ck_some h
        exact .of_step tab mixed [bT, bT, bT] [] [1, 2, 5, 6, 7] [0, 1, 2, 3, 6] (s1 := spec.l4Lives.l1.s a0 a1 a2 a3 a4 v123_1 (v125_0 ++ [w64 ((w64 (a4 * 6)) + v123_1)]) (w64 (v125_1 + 1))) (nd c1 (nd p1 (nd (of_decide_eq_true c1) (nd (tn p1 (of_decide_eq_true c1)) (nd c2 (n0 (nl v125_0 (nd p2 (n0 (nn 1 trivial)))))))))) (by kernel_rfl) (spec.l4Lives.l1.spec a0 a1 a2 a3 a4 v123_1 k (v125_0 ++ [w64 ((w64 (a4 * 6)) + v123_1)]) (w64 (v125_1 + 1)) _ h)
      · exact .of_step tab mixed [bT, bF] [] [1, 2, 5, 6, 7] [0, 1, 2, 3, 4] (s1 := spec.l4Lives.l1.s a0 a1 a2 a3 a4 v123_1 v125_0 (w64 (v125_1 + 1))) (nd c1 (nd p1 (nd (of_decide_eq_true c1) (nd (tn p1 (of_decide_eq_true c1)) (nd c2 trivial))))) (by kernel_rfl) (spec.l4Lives.l1.spec a0 a1 a2 a3 a4 v123_1 k v125_0 (w64 (v125_1 + 1)) _ h)
    · obtain rfl := Option.some.inj h
      exact .of_done tab mixed [bF] [] [1, 2, 5, 6] [0, 1, 2, 3, 4] rfl (nd c1 trivial) (by kernel_rfl)
def spec.l4Lives.l0.f (K : Nat) (a0 : List ByteArray) (a1 : List Int) (a2 : List Int) (a3 : Int) (a4 : Int) : Nat → (List Int) → Int → Option ((List Int))
  | 0, _, _ => none
  | k + 1, v123_0, v123_1 =>
    cond (decide (v123_1 < 6)) (Option.bind (spec.l4Lives.l1.f a0 a1 a2 a3 a4 v123_1 K v123_0 0) fun x1 => spec.l4Lives.l0.f K a0 a1 a2 a3 a4 k x1 (w64 (v123_1 + 1))) (some v123_0)
def spec.l4Lives.l0.s (K : Nat) (a0 : List ByteArray) (a1 : List Int) (a2 : List Int) (a3 : Int) (a4 : Int) (v123_0 : List Int) (v123_1 : Int) : St := mkSt 38 [(1, one (.int .i64 a4)), (2, one (.ptr 3 0 0)), (5, one (.sl 4 0 v123_0.length)), (6, one (.int .i64 v123_1))] [some ⟨false, .strs a0⟩, some ⟨false, .ints .i64 a1⟩, some ⟨false, .ints .i64 a2⟩, some ⟨true, .cells [.sl 0 0 a0.length, .sl 1 0 a1.length, .sl 2 0 a2.length, .int .i64 a3]⟩, some ⟨true, .ints .i64 v123_0⟩]
def spec.l4Lives.l0.e0 (K : Nat) (a0 : List ByteArray) (a1 : List Int) (a2 : List Int) (a3 : Int) (a4 : Int) (o : (List Int)) : St := mkSt 38 [(5, one (.sl 3 0 o.length))] [some ⟨false, .strs a0⟩, some ⟨false, .ints .i64 a1⟩, some ⟨false, .ints .i64 a2⟩, some ⟨true, .ints .i64 o⟩]
def spec.l4Lives.l0.x (K : Nat) (a0 : List ByteArray) (a1 : List Int) (a2 : List Int) (a3 : Int) (a4 : Int) : ((List Int)) → AExit × St := fun o => (.exit 0, spec.l4Lives.l0.e0 K a0 a1 a2 a3 a4 o)
theorem spec.l4Lives.l0.spec (K : Nat) (a0 : List ByteArray) (a1 : List Int) (a2 : List Int) (a3 : Int) (a4 : Int) : ∀ (k : Nat) (v123_0 : List Int) (v123_1 : Int) (o : (List Int)), spec.l4Lives.l0.f K a0 a1 a2 a3 a4 k v123_0 v123_1 = some o → LoopSpec Tryz.prog 3 (loopN Tryz.f146 0) (spec.l4Lives.l0.s K a0 a1 a2 a3 a4 v123_0 v123_1) (spec.l4Lives.l0.x K a0 a1 a2 a3 a4 o).1 (spec.l4Lives.l0.x K a0 a1 a2 a3 a4 o).2
  | 0, _, _, _, h => by cases h
  | k + 1, v123_0, v123_1, o, h => by
    unfold spec.l4Lives.l0.f at h
    rcases br_cases h with ⟨c1, h⟩ | ⟨c1, h⟩
    · obtain ⟨x1, e1, h⟩ := bind_some h
      exact .of_step tab mixed [bT, .loop [] [1, 2, 5, 6, 7] [0, 1, 2, 3, 4] (.exit 2) (spec.l4Lives.l1.e0 a0 a1 a2 a3 a4 v123_1 x1)] [] [1, 2, 5, 6] [0, 1, 2, 3, 4] (s1 := spec.l4Lives.l0.s K a0 a1 a2 a3 a4 x1 (w64 (v123_1 + 1))) (nd c1 (nd (spec.l4Lives.l1.spec a0 a1 a2 a3 a4 v123_1 K v123_0 0 _ e1) trivial)) (by kernel_rfl) (spec.l4Lives.l0.spec K a0 a1 a2 a3 a4 k x1 (w64 (v123_1 + 1)) _ h)
    · obtain rfl := Option.some.inj h
      exact .of_done tab mixed [bF] [] [5] [0, 1, 2, 4] rfl (nd c1 trivial) (by kernel_rfl)
def spec.l4Lives.f (K : Nat) (a0 : List ByteArray) (a1 : List Int) (a2 : List Int) (a3 : Int) (a4 : Int) : Option ((List Int)) :=
  Option.bind (spec.l4Lives.l0.f K a0 a1 a2 a3 a4 K [] 0) fun x1 => some x1
theorem spec.l4Lives.spec (K : Nat) (a0 : List ByteArray) (a1 : List Int) (a2 : List Int) (a3 : Int) (a4 : Int) (o : (List Int)) (h : spec.l4Lives.f K a0 a1 a2 a3 a4 = some o) : Den.Spec Tryz.prog 146 [.v (.agg [.sl 0 0 a0.length, .sl 1 0 a1.length, .sl 2 0 a2.length, .int .i64 a3]), one (.int .i64 a4)] [some ⟨false, .strs a0⟩, some ⟨false, .ints .i64 a1⟩, some ⟨false, .ints .i64 a2⟩] (one (.sl 3 0 o.length)) [some ⟨false, .strs a0⟩, some ⟨false, .ints .i64 a1⟩, some ⟨false, .ints .i64 a2⟩, some ⟨true, .ints .i64 o⟩] := by
  unfold spec.l4Lives.f at h
  obtain ⟨x1, e1, h⟩ := bind_some h
  obtain rfl := Option.some.inj h
  exact Den.Spec.of_walk tab mixed Tryz.func146 (by kernel_rfl) [.loop [] [1, 2, 5, 6] [0, 1, 2, 3, 4] (.exit 0) (spec.l4Lives.l0.e0 K a0 a1 a2 a3 a4 x1)] [] [0, 1, 2, 3] (nd (spec.l4Lives.l0.spec K a0 a1 a2 a3 a4 K [] 0 _ e1) trivial) (by kernel_rfl)
def spec.Worst.l0.f (K : Nat) (a0 : List ByteArray) (a1 : List Int) (a2 : List Int) (a3 : Int) : Nat → Int → Int → Int → Int → Option (Int × Int)
  | 0, _, _, _, _ => none
  | k + 1, v127_0, v127_1, v127_2, v127_3 =>
    cond (decide (v127_3 < 10)) (Option.bind (spec.l4Clear.f K a0 a1 v127_3) fun x1 => Option.bind (spec.l4Lives.f K a0 a1 a2 a3 v127_3) fun x2 => cond (x1.1 == 6) (spec.Worst.l0.f K a0 a1 a2 a3 k v127_0 v127_1 v127_2 (w64 (v127_3 + 1))) (cond (v127_3 == v127_2) (spec.Worst.l0.f K a0 a1 a2 a3 k v127_0 v127_1 v127_2 (w64 (v127_3 + 1))) (cond (decide (v127_0 < 0)) (spec.Worst.l0.f K a0 a1 a2 a3 k v127_3 (x2.length : Int) v127_2 (w64 (v127_3 + 1))) (cond (decide ((x2.length : Int) < v127_1)) (spec.Worst.l0.f K a0 a1 a2 a3 k v127_3 (x2.length : Int) v127_2 (w64 (v127_3 + 1))) (cond ((x2.length : Int) == v127_1) (ck (0 ≤ v127_3) (ck (v127_3 < (a1.length : Int)) (ck (v127_0 < (a1.length : Int)) (cond (decide ((a1.getD v127_3.toNat 0) < (a1.getD v127_0.toNat 0))) (spec.Worst.l0.f K a0 a1 a2 a3 k v127_3 (x2.length : Int) v127_2 (w64 (v127_3 + 1))) (spec.Worst.l0.f K a0 a1 a2 a3 k v127_0 v127_1 v127_2 (w64 (v127_3 + 1))))))) (spec.Worst.l0.f K a0 a1 a2 a3 k v127_0 v127_1 v127_2 (w64 (v127_3 + 1)))))))) (some (v127_0, v127_1))
def spec.Worst.l0.s (K : Nat) (a0 : List ByteArray) (a1 : List Int) (a2 : List Int) (a3 : Int) (v127_0 : Int) (v127_1 : Int) (v127_2 : Int) (v127_3 : Int) : St := mkSt 70 [(1, one (.ptr 3 0 0)), (3, one (.int .i64 v127_0)), (4, one (.int .i64 v127_1)), (5, one (.int .i64 v127_2)), (6, one (.int .i64 v127_3))] [some ⟨false, .strs a0⟩, some ⟨false, .ints .i64 a1⟩, some ⟨false, .ints .i64 a2⟩, some ⟨true, .cells [.sl 0 0 a0.length, .sl 1 0 a1.length, .sl 2 0 a2.length, .int .i64 a3]⟩]
def spec.Worst.l0.e0 (K : Nat) (a0 : List ByteArray) (a1 : List Int) (a2 : List Int) (a3 : Int) (o : Int × Int) : St := mkSt 70 [(3, one (.int .i64 o.1)), (4, one (.int .i64 o.2))] [some ⟨false, .strs a0⟩, some ⟨false, .ints .i64 a1⟩, some ⟨false, .ints .i64 a2⟩]
def spec.Worst.l0.x (K : Nat) (a0 : List ByteArray) (a1 : List Int) (a2 : List Int) (a3 : Int) : (Int × Int) → AExit × St := fun o => (.exit 0, spec.Worst.l0.e0 K a0 a1 a2 a3 o)
theorem spec.Worst.l0.spec (K : Nat) (a0 : List ByteArray) (a1 : List Int) (a2 : List Int) (a3 : Int) : ∀ (k : Nat) (v127_0 : Int) (v127_1 : Int) (v127_2 : Int) (v127_3 : Int) (o : Int × Int), spec.Worst.l0.f K a0 a1 a2 a3 k v127_0 v127_1 v127_2 v127_3 = some o → LoopSpec Tryz.prog 3 (loopN Tryz.f132 0) (spec.Worst.l0.s K a0 a1 a2 a3 v127_0 v127_1 v127_2 v127_3) (spec.Worst.l0.x K a0 a1 a2 a3 o).1 (spec.Worst.l0.x K a0 a1 a2 a3 o).2
  | 0, _, _, _, _, _, h => by cases h
  | k + 1, v127_0, v127_1, v127_2, v127_3, o, h => by
    unfold spec.Worst.l0.f at h
    rcases br_cases h with ⟨c1, h⟩ | ⟨c1, h⟩
    · obtain ⟨x1, e1, h⟩ := bind_some h
      obtain ⟨x2, e2, h⟩ := bind_some h
      rcases br_cases h with ⟨c2, h⟩ | ⟨c2, h⟩
      · exact .of_step tab mixed [bT, .call [(0, false), (1, false)] [] (.tup [.c (.int .i64 x1.1), .c (.int .i64 x1.2)]) [some ⟨false, .strs a0⟩, some ⟨false, .ints .i64 a1⟩], .call [(0, false), (1, false), (2, false)] [] (one (.sl 3 0 x2.length)) [some ⟨false, .strs a0⟩, some ⟨false, .ints .i64 a1⟩, some ⟨false, .ints .i64 a2⟩, some ⟨true, .ints .i64 x2⟩], bT, bT, bT, bT, bT] [] [1, 3, 4, 5, 6] [0, 1, 2, 3] (s1 := spec.Worst.l0.s K a0 a1 a2 a3 v127_0 v127_1 v127_2 (w64 (v127_3 + 1))) (nd c1 (nd (spec.l4Clear.spec K a0 a1 v127_3 _ e1) (nd (spec.l4Lives.spec K a0 a1 a2 a3 v127_3 _ e2) (nd c2 (nd c2 (nd c2 (nd c2 (nd tt trivial)))))))) (by kernel_rfl) (spec.Worst.l0.spec K a0 a1 a2 a3 k v127_0 v127_1 v127_2 (w64 (v127_3 + 1)) _ h)
      · rcases br_cases h with ⟨c3, h⟩ | ⟨c3, h⟩
        · exact .of_step tab mixed [bT, .call [(0, false), (1, false)] [] (.tup [.c (.int .i64 x1.1), .c (.int .i64 x1.2)]) [some ⟨false, .strs a0⟩, some ⟨false, .ints .i64 a1⟩], .call [(0, false), (1, false), (2, false)] [] (one (.sl 3 0 x2.length)) [some ⟨false, .strs a0⟩, some ⟨false, .ints .i64 a1⟩, some ⟨false, .ints .i64 a2⟩, some ⟨true, .ints .i64 x2⟩], bF, bF, bF, bF, bT] [] [1, 3, 4, 5, 6] [0, 1, 2, 3] (s1 := spec.Worst.l0.s K a0 a1 a2 a3 v127_0 v127_1 v127_2 (w64 (v127_3 + 1))) (nd c1 (nd (spec.l4Clear.spec K a0 a1 v127_3 _ e1) (nd (spec.l4Lives.spec K a0 a1 a2 a3 v127_3 _ e2) (nd c2 (nd c2 (nd c2 (nd c2 (nd c3 trivial)))))))) (by kernel_rfl) (spec.Worst.l0.spec K a0 a1 a2 a3 k v127_0 v127_1 v127_2 (w64 (v127_3 + 1)) _ h)
        · rcases br_cases h with ⟨c4, h⟩ | ⟨c4, h⟩
          · exact .of_step tab mixed [bT, .call [(0, false), (1, false)] [] (.tup [.c (.int .i64 x1.1), .c (.int .i64 x1.2)]) [some ⟨false, .strs a0⟩, some ⟨false, .ints .i64 a1⟩], .call [(0, false), (1, false), (2, false)] [] (one (.sl 3 0 x2.length)) [some ⟨false, .strs a0⟩, some ⟨false, .ints .i64 a1⟩, some ⟨false, .ints .i64 a2⟩, some ⟨true, .ints .i64 x2⟩], bF, bF, bF, bF, bF, bT, bT, bT, bT, bT, bT, bT, bT, bT, bT, bT] [] [1, 3, 4, 5, 6] [0, 1, 2, 3] (s1 := spec.Worst.l0.s K a0 a1 a2 a3 v127_3 (x2.length : Int) v127_2 (w64 (v127_3 + 1))) (nd c1 (nd (spec.l4Clear.spec K a0 a1 v127_3 _ e1) (nd (spec.l4Lives.spec K a0 a1 a2 a3 v127_3 _ e2) (nd c2 (nd c2 (nd c2 (nd c2 (nd c3 (nd c4 (nd c4 (nd c4 (nd c4 (nd tt (nd tt (nd tt (nd tt (nd tt (nd tt (nd tt trivial))))))))))))))))))) (by kernel_rfl) (spec.Worst.l0.spec K a0 a1 a2 a3 k v127_3 (x2.length : Int) v127_2 (w64 (v127_3 + 1)) _ h)
          · rcases br_cases h with ⟨c5, h⟩ | ⟨c5, h⟩
            · exact .of_step tab mixed [bT, .call [(0, false), (1, false)] [] (.tup [.c (.int .i64 x1.1), .c (.int .i64 x1.2)]) [some ⟨false, .strs a0⟩, some ⟨false, .ints .i64 a1⟩], .call [(0, false), (1, false), (2, false)] [] (one (.sl 3 0 x2.length)) [some ⟨false, .strs a0⟩, some ⟨false, .ints .i64 a1⟩, some ⟨false, .ints .i64 a2⟩, some ⟨true, .ints .i64 x2⟩], bF, bF, bF, bF, bF, bF, bF, bF, bF, bT, bT, bT, bT, bT, bT, bT] [] [1, 3, 4, 5, 6] [0, 1, 2, 3] (s1 := spec.Worst.l0.s K a0 a1 a2 a3 v127_3 (x2.length : Int) v127_2 (w64 (v127_3 + 1))) (nd c1 (nd (spec.l4Clear.spec K a0 a1 v127_3 _ e1) (nd (spec.l4Lives.spec K a0 a1 a2 a3 v127_3 _ e2) (nd c2 (nd c2 (nd c2 (nd c2 (nd c3 (nd c4 (nd c4 (nd c4 (nd c4 (nd c5 (nd c5 (nd c5 (nd c5 (nd c5 (nd c5 (nd tt trivial))))))))))))))))))) (by kernel_rfl) (spec.Worst.l0.spec K a0 a1 a2 a3 k v127_3 (x2.length : Int) v127_2 (w64 (v127_3 + 1)) _ h)
            · rcases br_cases h with ⟨c6, h⟩ | ⟨c6, h⟩
              · obtain ⟨p1, h⟩ := ck_some h
                obtain ⟨p2, h⟩ := ck_some h
                obtain ⟨p3, h⟩ := ck_some h
                rcases br_cases h with ⟨c7, h⟩ | ⟨c7, h⟩
                · exact .of_step tab mixed [bT, .call [(0, false), (1, false)] [] (.tup [.c (.int .i64 x1.1), .c (.int .i64 x1.2)]) [some ⟨false, .strs a0⟩, some ⟨false, .ints .i64 a1⟩], .call [(0, false), (1, false), (2, false)] [] (one (.sl 3 0 x2.length)) [some ⟨false, .strs a0⟩, some ⟨false, .ints .i64 a1⟩, some ⟨false, .ints .i64 a2⟩, some ⟨true, .ints .i64 x2⟩], bF, bF, bF, bF, bF, bF, bF, bF, bF, bF, bF, bF, bF, bT, bT, bT, bT, bT, bT, bT, bT, bT, bT, bT, bT, bT, bF, bT, bF, bT] [] [1, 3, 4, 5, 6] [0, 1, 2, 3] (s1 := spec.Worst.l0.s K a0 a1 a2 a3 v127_3 (x2.length : Int) v127_2 (w64 (v127_3 + 1))) (nd c1 (nd (spec.l4Clear.spec K a0 a1 v127_3 _ e1) (nd (spec.l4Lives.spec K a0 a1 a2 a3 v127_3 _ e2) (nd c2 (nd c2 (nd c2 (nd c2 (nd c3 (nd c4 (nd c4 (nd c4 (nd c4 (nd c5 (nd c5 (nd c5 (nd c5 (nd c6 (nd c6 (nd c6 (nd c6 (nd c6 (nd p1 (nd p2 (nd c6 (nd (tn p1 p2) (nd c6 (nd c6 (nd c6 (nd c6 (nd c6 (nd (Int.not_lt.1 (of_decide_eq_false c4)) (nd p3 (nd c6 (nd (tn (Int.not_lt.1 (of_decide_eq_false c4)) p3) (nd c6 (nd c5 (nd c6 (nd c5 (nd c7 trivial))))))))))))))))))))))))))))))))))))))) (by kernel_rfl) (spec.Worst.l0.spec K a0 a1 a2 a3 k v127_3 (x2.length : Int) v127_2 (w64 (v127_3 + 1)) _ h)
                · exact .of_step tab mixed [bT, .call [(0, false), (1, false)] [] (.tup [.c (.int .i64 x1.1), .c (.int .i64 x1.2)]) [some ⟨false, .strs a0⟩, some ⟨false, .ints .i64 a1⟩], .call [(0, false), (1, false), (2, false)] [] (one (.sl 3 0 x2.length)) [some ⟨false, .strs a0⟩, some ⟨false, .ints .i64 a1⟩, some ⟨false, .ints .i64 a2⟩, some ⟨true, .ints .i64 x2⟩], bF, bF, bF, bF, bF, bF, bF, bF, bF, bF, bF, bF, bF, bT, bT, bT, bT, bT, bT, bT, bT, bT, bT, bT, bT, bT, bF, bT, bF, bF] [] [1, 3, 4, 5, 6] [0, 1, 2, 3] (s1 := spec.Worst.l0.s K a0 a1 a2 a3 v127_0 v127_1 v127_2 (w64 (v127_3 + 1))) (nd c1 (nd (spec.l4Clear.spec K a0 a1 v127_3 _ e1) (nd (spec.l4Lives.spec K a0 a1 a2 a3 v127_3 _ e2) (nd c2 (nd c2 (nd c2 (nd c2 (nd c3 (nd c4 (nd c4 (nd c4 (nd c4 (nd c5 (nd c5 (nd c5 (nd c5 (nd c6 (nd c6 (nd c6 (nd c6 (nd c6 (nd p1 (nd p2 (nd c6 (nd (tn p1 p2) (nd c6 (nd c6 (nd c6 (nd c6 (nd c6 (nd (Int.not_lt.1 (of_decide_eq_false c4)) (nd p3 (nd c6 (nd (tn (Int.not_lt.1 (of_decide_eq_false c4)) p3) (nd c6 (nd c5 (nd c6 (nd c5 (nd c7 trivial))))))))))))))))))))))))))))))))))))))) (by kernel_rfl) (spec.Worst.l0.spec K a0 a1 a2 a3 k v127_0 v127_1 v127_2 (w64 (v127_3 + 1)) _ h)
              · exact .of_step tab mixed [bT, .call [(0, false), (1, false)] [] (.tup [.c (.int .i64 x1.1), .c (.int .i64 x1.2)]) [some ⟨false, .strs a0⟩, some ⟨false, .ints .i64 a1⟩], .call [(0, false), (1, false), (2, false)] [] (one (.sl 3 0 x2.length)) [some ⟨false, .strs a0⟩, some ⟨false, .ints .i64 a1⟩, some ⟨false, .ints .i64 a2⟩, some ⟨true, .ints .i64 x2⟩], bF, bF, bF, bF, bF, bF, bF, bF, bF, bF, bF, bF, bF, bF, bF, bF, bF, bF, bF, bF, bF, bF, bF, bF, bF, bF, bF, bF, bF, bF] [] [1, 3, 4, 5, 6] [0, 1, 2, 3] (s1 := spec.Worst.l0.s K a0 a1 a2 a3 v127_0 v127_1 v127_2 (w64 (v127_3 + 1))) (nd c1 (nd (spec.l4Clear.spec K a0 a1 v127_3 _ e1) (nd (spec.l4Lives.spec K a0 a1 a2 a3 v127_3 _ e2) (nd c2 (nd c2 (nd c2 (nd c2 (nd c3 (nd c4 (nd c4 (nd c4 (nd c4 (nd c5 (nd c5 (nd c5 (nd c5 (nd c6 (nd c6 (nd c6 (nd c6 (nd c6 (nd c6 (nd c6 (nd c6 (nd c6 (nd c6 (nd c6 (nd c6 (nd c6 (nd c5 (nd c6 (nd c5 (nd ff trivial))))))))))))))))))))))))))))))))) (by kernel_rfl) (spec.Worst.l0.spec K a0 a1 a2 a3 k v127_0 v127_1 v127_2 (w64 (v127_3 + 1)) _ h)
    · obtain rfl := Option.some.inj h
      exact .of_done tab mixed [bF] [] [3, 4] [0, 1, 2] rfl (nd c1 trivial) (by kernel_rfl)
def spec.Worst.f (K : Nat) (a0 : List ByteArray) (a1 : List Int) (a2 : List Int) (a3 : Int) : Option (Int) :=
  Option.bind (spec.FtlOk.f K a0 a1 a2 a3) fun x1 => cond (x1) (Option.bind (spec.l5Open.f K a0 a1) fun x2 => Option.bind (spec.Worst.l0.f K a0 a1 a2 a3 K (-1) 0 x2 0) fun x3 => cond (x3.2 == 6) (some (-1)) (some x3.1)) (some (-1))
theorem spec.Worst.spec (K : Nat) (a0 : List ByteArray) (a1 : List Int) (a2 : List Int) (a3 : Int) (o : Int) (h : spec.Worst.f K a0 a1 a2 a3 = some o) : Den.Spec Tryz.prog 132 [.v (.agg [.sl 0 0 a0.length, .sl 1 0 a1.length, .sl 2 0 a2.length, .int .i64 a3])] [some ⟨false, .strs a0⟩, some ⟨false, .ints .i64 a1⟩, some ⟨false, .ints .i64 a2⟩] (one (.int .i64 o)) [some ⟨false, .strs a0⟩, some ⟨false, .ints .i64 a1⟩, some ⟨false, .ints .i64 a2⟩] := by
  unfold spec.Worst.f at h
  obtain ⟨x1, e1, h⟩ := bind_some h
  rcases br_cases h with ⟨c1, h⟩ | ⟨c1, h⟩
  · obtain ⟨x2, e2, h⟩ := bind_some h
    obtain ⟨x3, e3, h⟩ := bind_some h
    rcases br_cases h with ⟨c2, h⟩ | ⟨c2, h⟩
    · obtain rfl := Option.some.inj h
      exact Den.Spec.of_walk tab mixed Tryz.func132 (by kernel_rfl) [.call [(0, false), (1, false), (2, false)] [] (one (.bool x1)) [some ⟨false, .strs a0⟩, some ⟨false, .ints .i64 a1⟩, some ⟨false, .ints .i64 a2⟩], bF, .call [(0, false), (1, false)] [] (one (.int .i64 x2)) [some ⟨false, .strs a0⟩, some ⟨false, .ints .i64 a1⟩], .loop [] [1, 3, 4, 5, 6] [0, 1, 2, 3] (.exit 0) (spec.Worst.l0.e0 K a0 a1 a2 a3 x3), bT] [] [0, 1, 2] (nd (spec.FtlOk.spec K a0 a1 a2 a3 _ e1) (nd (nf c1) (nd (spec.l5Open.spec K a0 a1 _ e2) (nd (spec.Worst.l0.spec K a0 a1 a2 a3 K (-1) 0 x2 0 _ e3) (nd c2 trivial))))) (by kernel_rfl)
    · obtain rfl := Option.some.inj h
      exact Den.Spec.of_walk tab mixed Tryz.func132 (by kernel_rfl) [.call [(0, false), (1, false), (2, false)] [] (one (.bool x1)) [some ⟨false, .strs a0⟩, some ⟨false, .ints .i64 a1⟩, some ⟨false, .ints .i64 a2⟩], bF, .call [(0, false), (1, false)] [] (one (.int .i64 x2)) [some ⟨false, .strs a0⟩, some ⟨false, .ints .i64 a1⟩], .loop [] [1, 3, 4, 5, 6] [0, 1, 2, 3] (.exit 0) (spec.Worst.l0.e0 K a0 a1 a2 a3 x3), bF] [] [0, 1, 2] (nd (spec.FtlOk.spec K a0 a1 a2 a3 _ e1) (nd (nf c1) (nd (spec.l5Open.spec K a0 a1 _ e2) (nd (spec.Worst.l0.spec K a0 a1 a2 a3 K (-1) 0 x2 0 _ e3) (nd c2 trivial))))) (by kernel_rfl)
  · obtain rfl := Option.some.inj h
    exact Den.Spec.of_walk tab mixed Tryz.func132 (by kernel_rfl) [.call [(0, false), (1, false), (2, false)] [] (one (.bool x1)) [some ⟨false, .strs a0⟩, some ⟨false, .ints .i64 a1⟩, some ⟨false, .ints .i64 a2⟩], bT] [] [0, 1, 2] (nd (spec.FtlOk.spec K a0 a1 a2 a3 _ e1) (nd (nt c1) trivial)) (by kernel_rfl)
end Go.Proofs.YtmodnnokcmabhaaGreat.GFnLog
