import Derived.Test.YthneilmhnbboeaaDenZ
import Derived.Test.YthneilmhnbboeaaProg
namespace Go.Proofs.Ythneilmhnbboeaa.GFnExactLogRead
open Go Go.RowKit Go.Proofs Go.Proofs.Ythneilmhnbboeaa.Den
set_option linter.unusedVariables false
def tyL : List (Nat × Ty) := [(3, ⟨1, 8, false, [.int .i64 0], .ints .i64, .int .i64, []⟩),
  (4, ⟨1, 1, false, [.bool false], .bools, .bool, []⟩),
  (5, ⟨1, 1, false, [.int .u8 0], .ints .u8, .int .u8, []⟩),
  (9, ⟨1, 16, false, [.str ⟨#[]⟩], .strs, .str, []⟩),
  (28, ⟨1, 24, false, [.nil], .refs, .sl 5, [.ints .u8]⟩),
  (55, ⟨1, 24, false, [.nil], .refs, .sl 100, [.puts]⟩),
  (100, ⟨2, 24, true, [.int .i64 0, .str ⟨#[]⟩], .puts, .st [(0, 1), (1, 1)], []⟩),
  (105, ⟨3, 40, true, [.nil, .int .i64 0, .bool false], .none, .st [(0, 1), (1, 1), (2, 1)], [.ints .u8, .none, .none]⟩),
  (127, ⟨1, 24, false, [.nil], .none, .sl 28, []⟩)]
def tb : TypeId → Option Ty := tbOf tyL
theorem tab : TabOk Try.prog tb := TabOk.of ⟨.of (by kernel_rfl) rfl rfl (by kernel_rfl) (by show _ = _; kernel_rfl),
  .of (by kernel_rfl) rfl rfl (by kernel_rfl) (by show _ = _; kernel_rfl),
  .of (by kernel_rfl) rfl rfl (by kernel_rfl) (by show _ = _; kernel_rfl),
  .of (by kernel_rfl) rfl rfl (by kernel_rfl) (by show _ = _; kernel_rfl),
  .of (by kernel_rfl) rfl rfl (by kernel_rfl) (by show _ = _; kernel_rfl),
  .of (by kernel_rfl) rfl rfl (by kernel_rfl) (by show _ = _; kernel_rfl),
  .of (by kernel_rfl) rfl rfl (by kernel_rfl) (by show _ = _; kernel_rfl),
  .of (by kernel_rfl) rfl rfl (by kernel_rfl) (by show _ = _; kernel_rfl),
  .of (by kernel_rfl) rfl rfl (by kernel_rfl) (by show _ = _; kernel_rfl), trivial⟩
theorem mixed : Try.prog.follows .mixedOrders = true := by kernel_rfl
def spec.GetNum.l0.f (a0 : List Int) (a1 : Int) : Nat → Int → Int → Option ((Int × Int × Bool) ⊕ Unit)
  | 0, _, _ => none
  | k + 1, v2_0, v2_1 =>
    cond (decide (v2_1 < 5)) (cond (decide (a1 < 0)) (some (.inl (0, 0, false))) (cond (decide (a1 ≥ (w64 ((a0.length : Int) - v2_1)))) (some (.inl (0, 0, false))) (ck (0 ≤ (w64 (a1 + v2_1))) (ck ((w64 (a1 + v2_1)) < (a0.length : Int)) (ck (0 ≤ (w64 (7 * v2_1))) (cond (decide ((w64 (a0.getD ((w64 (a1 + v2_1)).toNat) 0)) < 128)) (cond (decide (v2_1 > 0)) (cond ((w64 (a0.getD ((w64 (a1 + v2_1)).toNat) 0)) == 0) (some (.inl (0, 0, false))) (cond (decide ((bits2 .i64 (· ||| ·) v2_0 (w64 (((w64 (a0.getD ((w64 (a1 + v2_1)).toNat) 0)).tmod 128) * 2 ^ (min (w64 (7 * v2_1)).toNat 64)))) > 1000000000)) (some (.inl (0, 0, false))) (some (.inl (bits2 .i64 (· ||| ·) v2_0 (w64 (((w64 (a0.getD ((w64 (a1 + v2_1)).toNat) 0)).tmod 128) * 2 ^ (min (w64 (7 * v2_1)).toNat 64))), w64 ((w64 (a1 + v2_1)) + 1), true))))) (cond (decide ((bits2 .i64 (· ||| ·) v2_0 (w64 (((w64 (a0.getD ((w64 (a1 + v2_1)).toNat) 0)).tmod 128) * 2 ^ (min (w64 (7 * v2_1)).toNat 64)))) > 1000000000)) (some (.inl (0, 0, false))) (some (.inl (bits2 .i64 (· ||| ·) v2_0 (w64 (((w64 (a0.getD ((w64 (a1 + v2_1)).toNat) 0)).tmod 128) * 2 ^ (min (w64 (7 * v2_1)).toNat 64))), w64 ((w64 (a1 + v2_1)) + 1), true))))) (spec.GetNum.l0.f a0 a1 k (bits2 .i64 (· ||| ·) v2_0 (w64 (((w64 (a0.getD ((w64 (a1 + v2_1)).toNat) 0)).tmod 128) * 2 ^ (min (w64 (7 * v2_1)).toNat 64)))) (w64 (v2_1 + 1))))))))) (some (.inr (())))
def spec.GetNum.l0.s (a0 : List Int) (a1 : Int) (v2_0 : Int) (v2_1 : Int) : St := mkSt 55 [(0, one (.sl 0 0 a0.length)), (1, one (.int .i64 a1)), (7, one (.int .i64 v2_0)), (8, one (.int .i64 v2_1))] [some ⟨false, .ints .u8 a0⟩]
def spec.GetNum.l0.e0 (a0 : List Int) (a1 : Int) (o : Int × Int × Bool) : St := mkSt 55 [(4, one (.int .i64 o.1)), (5, one (.int .i64 o.2.1)), (6, one (.bool o.2.2))] [some ⟨false, .ints .u8 a0⟩]
def spec.GetNum.l0.e1 (a0 : List Int) (a1 : Int) (o : Unit) : St := mkSt 55 [] [some ⟨false, .ints .u8 a0⟩]
def spec.GetNum.l0.x (a0 : List Int) (a1 : Int) : ((Int × Int × Bool) ⊕ Unit) → AExit × St := Sum.elim (fun o => (.ret, spec.GetNum.l0.e0 a0 a1 o)) (fun o => (.exit 0, spec.GetNum.l0.e1 a0 a1 o))
theorem spec.GetNum.l0.spec (a0 : List Int) (a1 : Int) : ∀ (k : Nat) (v2_0 : Int) (v2_1 : Int) (o : (Int × Int × Bool) ⊕ Unit), spec.GetNum.l0.f a0 a1 k v2_0 v2_1 = some o → LoopSpec Try.prog 1 (loopN Try.f25 0) (spec.GetNum.l0.s a0 a1 v2_0 v2_1) (spec.GetNum.l0.x a0 a1 o).1 (spec.GetNum.l0.x a0 a1 o).2
  | 0, _, _, _, h => by cases h
  | k + 1, v2_0, v2_1, o, h => by
    unfold spec.GetNum.l0.f at h
    rcases br_cases h with ⟨c1, h⟩ | ⟨c1, h⟩
    · rcases br_cases h with ⟨c2, h⟩ | ⟨c2, h⟩
      · obtain rfl := Option.some.inj h
        exact .of_done tab mixed [.br true, .br true, .br true, .br true, .br true, .br true, .br true, .br true, .br true] [] [4, 5, 6] [0] rfl (nd c1 (nd c2 (nd c2 (nd c2 (nd c2 (nd c2 (nd c2 (nd c2 (nd tt trivial))))))))) (by kernel_rfl)
      · rcases br_cases h with ⟨c3, h⟩ | ⟨c3, h⟩
        · obtain rfl := Option.some.inj h
          exact .of_done tab mixed [.br true, .br false, .br false, .br false, .br false, .br false, .br false, .br false, .br true] [] [4, 5, 6] [0] rfl (nd c1 (nd c2 (nd c2 (nd c2 (nd c2 (nd c2 (nd c2 (nd c2 (nd c3 trivial))))))))) (by kernel_rfl)
        · obtain ⟨p1, h⟩ := ck_some h
          obtain ⟨p2, h⟩ := ck_some h
          obtain ⟨p3, h⟩ := ck_some h
          rcases br_cases h with ⟨c4, h⟩ | ⟨c4, h⟩
          · rcases br_cases h with ⟨c5, h⟩ | ⟨c5, h⟩
            · rcases br_cases h with ⟨c6, h⟩ | ⟨c6, h⟩
              · obtain rfl := Option.some.inj h
                exact .of_done tab mixed [.br true, .br false, .br false, .br false, .br false, .br false, .br false, .br false, .br false, .br true, .br true, .br true, .br true, .br true, .br true, .br true, .br true] [] [4, 5, 6] [0] rfl (nd c1 (nd c2 (nd c2 (nd c2 (nd c2 (nd c2 (nd c2 (nd c2 (nd c3 (nd p1 (nd p2 (nd (tn p1 p2) (nd (by decide : (128 : Int) ≠ 0) (nd p3 (nd c4 (nd c5 (nd c5 (nd c5 (nd c6 (nd c6 (nd c6 (nd tt trivial)))))))))))))))))))))) (by kernel_rfl)
              · rcases br_cases h with ⟨c7, h⟩ | ⟨c7, h⟩
                · obtain rfl := Option.some.inj h
                  exact .of_done tab mixed [.br true, .br false, .br false, .br false, .br false, .br false, .br false, .br false, .br false, .br true, .br true, .br true, .br true, .br false, .br false, .br false, .br true] [] [4, 5, 6] [0] rfl (nd c1 (nd c2 (nd c2 (nd c2 (nd c2 (nd c2 (nd c2 (nd c2 (nd c3 (nd p1 (nd p2 (nd (tn p1 p2) (nd (by decide : (128 : Int) ≠ 0) (nd p3 (nd c4 (nd c5 (nd c5 (nd c5 (nd c6 (nd c6 (nd c6 (nd c7 trivial)))))))))))))))))))))) (by kernel_rfl)
                · obtain rfl := Option.some.inj h
                  exact .of_done tab mixed [.br true, .br false, .br false, .br false, .br false, .br false, .br false, .br false, .br false, .br true, .br true, .br true, .br true, .br false, .br false, .br false, .br false] [] [4, 5, 6] [0] rfl (nd c1 (nd c2 (nd c2 (nd c2 (nd c2 (nd c2 (nd c2 (nd c2 (nd c3 (nd p1 (nd p2 (nd (tn p1 p2) (nd (by decide : (128 : Int) ≠ 0) (nd p3 (nd c4 (nd c5 (nd c5 (nd c5 (nd c6 (nd c6 (nd c6 (nd c7 trivial)))))))))))))))))))))) (by kernel_rfl)
            · rcases br_cases h with ⟨c6, h⟩ | ⟨c6, h⟩
              · obtain rfl := Option.some.inj h
                exact .of_done tab mixed [.br true, .br false, .br false, .br false, .br false, .br false, .br false, .br false, .br false, .br true, .br false, .br false, .br false, .br false, .br false, .br false, .br true] [] [4, 5, 6] [0] rfl (nd c1 (nd c2 (nd c2 (nd c2 (nd c2 (nd c2 (nd c2 (nd c2 (nd c3 (nd p1 (nd p2 (nd (tn p1 p2) (nd (by decide : (128 : Int) ≠ 0) (nd p3 (nd c4 (nd c5 (nd c5 (nd c5 (nd ff (nd ff (nd ff (nd c6 trivial)))))))))))))))))))))) (by kernel_rfl)
              · obtain rfl := Option.some.inj h
                exact .of_done tab mixed [.br true, .br false, .br false, .br false, .br false, .br false, .br false, .br false, .br false, .br true, .br false, .br false, .br false, .br false, .br false, .br false, .br false] [] [4, 5, 6] [0] rfl (nd c1 (nd c2 (nd c2 (nd c2 (nd c2 (nd c2 (nd c2 (nd c2 (nd c3 (nd p1 (nd p2 (nd (tn p1 p2) (nd (by decide : (128 : Int) ≠ 0) (nd p3 (nd c4 (nd c5 (nd c5 (nd c5 (nd ff (nd ff (nd ff (nd c6 trivial)))))))))))))))))))))) (by kernel_rfl)
          · exact .of_step tab mixed [.br true, .br false, .br false, .br false, .br false, .br false, .br false, .br false, .br false, .br false] [] [0, 1, 7, 8] [0] (s1 := spec.GetNum.l0.s a0 a1 (bits2 .i64 (· ||| ·) v2_0 (w64 (((w64 (a0.getD ((w64 (a1 + v2_1)).toNat) 0)).tmod 128) * 2 ^ (min (w64 (7 * v2_1)).toNat 64)))) (w64 (v2_1 + 1))) (nd c1 (nd c2 (nd c2 (nd c2 (nd c2 (nd c2 (nd c2 (nd c2 (nd c3 (nd p1 (nd p2 (nd (tn p1 p2) (nd (by decide : (128 : Int) ≠ 0) (nd p3 (nd c4 trivial))))))))))))))) (by kernel_rfl) (spec.GetNum.l0.spec a0 a1 k (bits2 .i64 (· ||| ·) v2_0 (w64 (((w64 (a0.getD ((w64 (a1 + v2_1)).toNat) 0)).tmod 128) * 2 ^ (min (w64 (7 * v2_1)).toNat 64)))) (w64 (v2_1 + 1)) _ h)
    · obtain rfl := Option.some.inj h
      exact .of_done tab mixed [.br false] [] [] [0] rfl (nd c1 trivial) (by kernel_rfl)
def spec.GetNum.f (K : Nat) (a0 : List Int) (a1 : Int) : Option (Int × Int × Bool) :=
  Option.bind (spec.GetNum.l0.f a0 a1 K 0 0) fun x1 => (Sum.elim (fun x1 => some (x1.1, x1.2.1, x1.2.2)) (fun x1 => some (0, 0, false))) x1
theorem spec.GetNum.spec (K : Nat) (a0 : List Int) (a1 : Int) (o : Int × Int × Bool) (h : spec.GetNum.f K a0 a1 = some o) : Den.Spec Try.prog 25 [one (.sl 0 0 a0.length), one (.int .i64 a1)] [some ⟨false, .ints .u8 a0⟩] (.tup [.c (.int .i64 o.1), .c (.int .i64 o.2.1), .c (.bool o.2.2)]) [some ⟨false, .ints .u8 a0⟩] := by
  unfold spec.GetNum.f at h
  obtain ⟨x1, e1, h⟩ := bind_some h
  rcases x1 with x1 | x1
  · obtain rfl := Option.some.inj h
    exact Den.Spec.of_walk tab mixed Try.func25 (by kernel_rfl) [.loop [] [0, 1, 7, 8] [0] (.ret) (spec.GetNum.l0.e0 a0 a1 x1)] [] [0] (nd (spec.GetNum.l0.spec a0 a1 K 0 0 _ e1) trivial) (by kernel_rfl)
  · obtain rfl := Option.some.inj h
    exact Den.Spec.of_walk tab mixed Try.func25 (by kernel_rfl) [.loop [] [0, 1, 7, 8] [0] (.exit 0) (spec.GetNum.l0.e1 a0 a1 x1)] [] [0] (nd (spec.GetNum.l0.spec a0 a1 K 0 0 _ e1) trivial) (by kernel_rfl)
def spec.GetText.f (K : Nat) (a0 : List Int) (a1 : Int) : Option (ByteArray × Int × Bool) :=
  Option.bind (spec.GetNum.f K a0 a1) fun x1 => cond (x1.2.2) (cond (decide (x1.1 > 400)) (some (noVal, 0, false)) (cond (decide (x1.1 > (w64 ((a0.length : Int) - x1.2.1)))) (some (noVal, 0, false)) (ck (0 ≤ x1.2.1) (ck (x1.2.1 ≤ (w64 (x1.2.1 + x1.1))) (ck ((w64 (x1.2.1 + x1.1)) ≤ (a0.length : Int)) (ck (x1.2.1.toNat + ((w64 (x1.2.1 + x1.1)).toNat - x1.2.1.toNat) ≤ a0.length) (some (ofBytes ((a0.drop x1.2.1.toNat).take ((w64 (x1.2.1 + x1.1)).toNat - x1.2.1.toNat)), w64 (x1.2.1 + x1.1), true)))))))) (some (noVal, 0, false))
theorem spec.GetText.spec (K : Nat) (a0 : List Int) (a1 : Int) (o : ByteArray × Int × Bool) (h : spec.GetText.f K a0 a1 = some o) : Den.Spec Try.prog 31 [one (.sl 0 0 a0.length), one (.int .i64 a1)] [some ⟨false, .ints .u8 a0⟩] (.tup [.c (.str o.1), .c (.int .i64 o.2.1), .c (.bool o.2.2)]) [some ⟨false, .ints .u8 a0⟩] := by
  unfold spec.GetText.f at h
  obtain ⟨x1, e1, h⟩ := bind_some h
  rcases br_cases h with ⟨c1, h⟩ | ⟨c1, h⟩
  · rcases br_cases h with ⟨c2, h⟩ | ⟨c2, h⟩
    · obtain rfl := Option.some.inj h
      exact Den.Spec.of_walk tab mixed Try.func31 (by kernel_rfl) [.call [] [(0, true)] (.tup [.c (.int .i64 x1.1), .c (.int .i64 x1.2.1), .c (.bool x1.2.2)]) [some ⟨false, .ints .u8 a0⟩], .br false, .br false, .br false, .br true, .br true, .br true, .br true, .br true, .br true, .br true, .br true] [] [0] (nd (spec.GetNum.spec K a0 a1 _ e1) (nd (rfl : (0 : Nat) = 0) (nd (rfl : a0.length = a0.length) (nd (nf c1) (nd (nf c1) (nd (nf c1) (nd c2 (nd c2 (nd c2 (nd c2 (nd c2 (nd c2 (nd c2 (nd tt trivial)))))))))))))) (by kernel_rfl)
    · rcases br_cases h with ⟨c3, h⟩ | ⟨c3, h⟩
      · obtain rfl := Option.some.inj h
        exact Den.Spec.of_walk tab mixed Try.func31 (by kernel_rfl) [.call [] [(0, true)] (.tup [.c (.int .i64 x1.1), .c (.int .i64 x1.2.1), .c (.bool x1.2.2)]) [some ⟨false, .ints .u8 a0⟩], .br false, .br false, .br false, .br false, .br false, .br false, .br false, .br false, .br false, .br false, .br true] [] [0] (nd (spec.GetNum.spec K a0 a1 _ e1) (nd (rfl : (0 : Nat) = 0) (nd (rfl : a0.length = a0.length) (nd (nf c1) (nd (nf c1) (nd (nf c1) (nd c2 (nd c2 (nd c2 (nd c2 (nd c2 (nd c2 (nd c2 (nd c3 trivial)))))))))))))) (by kernel_rfl)
      · obtain ⟨p1, h⟩ := ck_some h
        obtain ⟨p2, h⟩ := ck_some h
        obtain ⟨p3, h⟩ := ck_some h
        obtain ⟨p4, h⟩ := ck_some h
        obtain rfl := Option.some.inj h
        exact Den.Spec.of_walk tab mixed Try.func31 (by kernel_rfl) [.call [] [(0, true)] (.tup [.c (.int .i64 x1.1), .c (.int .i64 x1.2.1), .c (.bool x1.2.2)]) [some ⟨false, .ints .u8 a0⟩], .br false, .br false, .br false, .br false, .br false, .br false, .br false, .br false, .br false, .br false, .br false, .br false] [] [0] (nd (spec.GetNum.spec K a0 a1 _ e1) (nd (rfl : (0 : Nat) = 0) (nd (rfl : a0.length = a0.length) (nd (nf c1) (nd (nf c1) (nd (nf c1) (nd c2 (nd c2 (nd c2 (nd c2 (nd c2 (nd c2 (nd c2 (nd c3 (nd p1 (nd p2 (nd p3 (nd p4 trivial)))))))))))))))))) (by kernel_rfl)
  · obtain rfl := Option.some.inj h
    exact Den.Spec.of_walk tab mixed Try.func31 (by kernel_rfl) [.call [] [(0, true)] (.tup [.c (.int .i64 x1.1), .c (.int .i64 x1.2.1), .c (.bool x1.2.2)]) [some ⟨false, .ints .u8 a0⟩], .br true, .br true, .br true, .br true, .br true, .br true, .br true, .br true, .br true, .br true, .br true] [] [0] (nd (spec.GetNum.spec K a0 a1 _ e1) (nd (rfl : (0 : Nat) = 0) (nd (rfl : a0.length = a0.length) (nd (nt c1) (nd (nt c1) (nd (nt c1) (nd tt (nd tt (nd tt (nd tt (nd tt (nd tt (nd tt (nd tt trivial)))))))))))))) (by kernel_rfl)
def spec.LogRead.l0.f (K : Nat) (a0 : ByteArray) : Nat → Int → Int → (List (Int × ByteArray)) → Int → Option (Unit ⊕ (List (Int × ByteArray)))
  | 0, _, _, _, _ => none
  | k + 1, v24_0, v24_1, v24_2, v24_3 =>
    cond (decide (v24_3 < v24_0)) (Option.bind (spec.GetNum.f K (bytesL a0) v24_1) fun x1 => cond (x1.2.2) (Option.bind (spec.GetText.f K (bytesL a0) x1.2.1) fun x2 => cond (x2.2.2) (ck ((v24_2 ++ [(x1.1, x2.1)]).length * 24 ≤ 70368744177664) (spec.LogRead.l0.f K a0 k v24_0 x2.2.1 (v24_2 ++ [(x1.1, x2.1)]) (w64 (v24_3 + 1)))) (some (.inl ()))) (some (.inl ()))) (some (.inr (v24_2)))
def spec.LogRead.l0.s (K : Nat) (a0 : ByteArray) (v24_0 : Int) (v24_1 : Int) (v24_2 : List (Int × ByteArray)) (v24_3 : Int) : St := mkSt 89 [(0, one (.str a0)), (4, one (.sl 0 0 0)), (5, one (.sl 1 0 ((bytesL a0).length))), (9, one (.int .i64 v24_0)), (10, one (.int .i64 v24_1)), (12, one (.sl 2 0 v24_2.length)), (13, one (.int .i64 v24_3))] [some ⟨true, .puts []⟩, some ⟨true, .ints .u8 (bytesL a0)⟩, some ⟨true, .puts v24_2⟩]
def spec.LogRead.l0.e0 (K : Nat) (a0 : ByteArray) (o : Unit) : St := mkSt 89 [(2, one (.sl 0 0 0)), (3, one (.bool false))] [some ⟨true, .puts []⟩]
def spec.LogRead.l0.e1 (K : Nat) (a0 : ByteArray) (o : (List (Int × ByteArray))) : St := mkSt 89 [(0, one (.str a0)), (4, one (.sl 0 0 0)), (12, one (.sl 1 0 o.length))] [some ⟨true, .puts []⟩, some ⟨true, .puts o⟩]
def spec.LogRead.l0.x (K : Nat) (a0 : ByteArray) : (Unit ⊕ (List (Int × ByteArray))) → AExit × St := Sum.elim (fun o => (.ret, spec.LogRead.l0.e0 K a0 o)) (fun o => (.exit 0, spec.LogRead.l0.e1 K a0 o))
theorem spec.LogRead.l0.spec (K : Nat) (a0 : ByteArray) : ∀ (k : Nat) (v24_0 : Int) (v24_1 : Int) (v24_2 : List (Int × ByteArray)) (v24_3 : Int) (o : Unit ⊕ (List (Int × ByteArray))), spec.LogRead.l0.f K a0 k v24_0 v24_1 v24_2 v24_3 = some o → LoopSpec Try.prog 0 (loopN Try.f45 0) (spec.LogRead.l0.s K a0 v24_0 v24_1 v24_2 v24_3) (spec.LogRead.l0.x K a0 o).1 (spec.LogRead.l0.x K a0 o).2
  | 0, _, _, _, _, _, h => by cases h
  | k + 1, v24_0, v24_1, v24_2, v24_3, o, h => by
    unfold spec.LogRead.l0.f at h
    rcases br_cases h with ⟨c1, h⟩ | ⟨c1, h⟩
    · obtain ⟨x1, e1, h⟩ := bind_some h
      rcases br_cases h with ⟨c2, h⟩ | ⟨c2, h⟩
      · obtain ⟨x2, e2, h⟩ := bind_some h
        rcases br_cases h with ⟨c3, h⟩ | ⟨c3, h⟩
        · obtain ⟨p1, h⟩ := ck_some h
          exact .of_step tab mixed [.br true, .call [] [(0, true)] (.tup [.c (.int .i64 x1.1), .c (.int .i64 x1.2.1), .c (.bool x1.2.2)]) [some ⟨false, .ints .u8 (bytesL a0)⟩], .br false, .call [] [(0, true)] (.tup [.c (.str x2.1), .c (.int .i64 x2.2.1), .c (.bool x2.2.2)]) [some ⟨false, .ints .u8 (bytesL a0)⟩], .br false, .br true] [] [0, 4, 5, 9, 10, 12, 13] [0, 1, 4] (s1 := spec.LogRead.l0.s K a0 v24_0 x2.2.1 (v24_2 ++ [(x1.1, x2.1)]) (w64 (v24_3 + 1))) (nd c1 (nd (spec.GetNum.spec K (bytesL a0) v24_1 _ e1) (nd (rfl : (0 : Nat) = 0) (nd (rfl : (bytesL a0).length = (bytesL a0).length) (nd (nf c2) (nd (spec.GetText.spec K (bytesL a0) x1.2.1 _ e2) (nd (rfl : (0 : Nat) = 0) (nd (rfl : (bytesL a0).length = (bytesL a0).length) (nd (nf c3) (nd (rfl : (0 : Nat) = 0) (nd (rfl : v24_2.length = v24_2.length) (nd p1 (nd (rfl : (0 : Nat) = 0) (nd (rfl : 1 = 1) trivial)))))))))))))) (by kernel_rfl) (spec.LogRead.l0.spec K a0 k v24_0 x2.2.1 (v24_2 ++ [(x1.1, x2.1)]) (w64 (v24_3 + 1)) _ h)
        · obtain rfl := Option.some.inj h
          exact .of_done tab mixed [.br true, .call [] [(0, true)] (.tup [.c (.int .i64 x1.1), .c (.int .i64 x1.2.1), .c (.bool x1.2.2)]) [some ⟨false, .ints .u8 (bytesL a0)⟩], .br false, .call [] [(0, true)] (.tup [.c (.str x2.1), .c (.int .i64 x2.2.1), .c (.bool x2.2.2)]) [some ⟨false, .ints .u8 (bytesL a0)⟩], .br true] [] [2, 3] [0] rfl (nd c1 (nd (spec.GetNum.spec K (bytesL a0) v24_1 _ e1) (nd (rfl : (0 : Nat) = 0) (nd (rfl : (bytesL a0).length = (bytesL a0).length) (nd (nf c2) (nd (spec.GetText.spec K (bytesL a0) x1.2.1 _ e2) (nd (rfl : (0 : Nat) = 0) (nd (rfl : (bytesL a0).length = (bytesL a0).length) (nd (nt c3) trivial))))))))) (by kernel_rfl)
      · obtain rfl := Option.some.inj h
        exact .of_done tab mixed [.br true, .call [] [(0, true)] (.tup [.c (.int .i64 x1.1), .c (.int .i64 x1.2.1), .c (.bool x1.2.2)]) [some ⟨false, .ints .u8 (bytesL a0)⟩], .br true] [] [2, 3] [0] rfl (nd c1 (nd (spec.GetNum.spec K (bytesL a0) v24_1 _ e1) (nd (rfl : (0 : Nat) = 0) (nd (rfl : (bytesL a0).length = (bytesL a0).length) (nd (nt c2) trivial))))) (by kernel_rfl)
    · obtain rfl := Option.some.inj h
      exact .of_done tab mixed [.br false] [] [0, 4, 12] [0, 2] rfl (nd c1 trivial) (by kernel_rfl)
def spec.l1In.f (a0 : Int) (a1 : Int) (a2 : Int) : Option (Bool) :=
  cond (decide (a0 ≥ a1)) (some (decide (a0 ≤ a2))) (some false)
theorem spec.l1In.spec (a0 : Int) (a1 : Int) (a2 : Int) (o : Bool) (h : spec.l1In.f a0 a1 a2 = some o) : Den.Spec Try.prog 88 [one (.int .i64 a0), one (.int .i64 a1), one (.int .i64 a2)] [] (one (.bool o)) [] := by
  unfold spec.l1In.f at h
  rcases br_cases h with ⟨c1, h⟩ | ⟨c1, h⟩
  · obtain rfl := Option.some.inj h
    exact Den.Spec.of_walk tab mixed Try.func88 (by kernel_rfl) [.br true, .br true, .br true, .br true] [] [] (nd c1 (nd c1 (nd c1 (nd c1 trivial)))) (by kernel_rfl)
  · obtain rfl := Option.some.inj h
    exact Den.Spec.of_walk tab mixed Try.func88 (by kernel_rfl) [.br false, .br false, .br false, .br false] [] [] (nd c1 (nd c1 (nd c1 (nd c1 trivial)))) (by kernel_rfl)
def spec.l7Batch.l1.f (a0 : List (Int × ByteArray)) (v10_0 : Int) : Nat → Int → Option (Unit ⊕ Unit)
  | 0, _ => none
  | k + 1, v12_0 =>
    cond (decide (v12_0 < v10_0)) (ck (0 ≤ v12_0) (ck (v12_0 < (a0.length : Int)) (ck (0 ≤ v10_0) (ck (v10_0 < (a0.length : Int)) (cond (((a0.getD v12_0.toNat (0, noVal)).1) == ((a0.getD v10_0.toNat (0, noVal)).1)) (some (.inl ())) (spec.l7Batch.l1.f a0 v10_0 k (w64 (v12_0 + 1)))))))) (some (.inr (())))
def spec.l7Batch.l1.s (a0 : List (Int × ByteArray)) (v10_0 : Int) (v12_0 : Int) : St := mkSt 46 [(0, one (.sl 0 0 a0.length)), (3, one (.int .i64 v10_0)), (4, one (.int .i64 v12_0)), (19, one (.sl 0 0 a0.length)), (20, one (.int .i64 v10_0)), (21, one (.ptr 0 v10_0.toNat 0)), (22, one (.ptr 0 v10_0.toNat 1)), (23, one (.str ((a0.getD v10_0.toNat (0, noVal)).2))), (24, one (.int .i64 (((a0.getD v10_0.toNat (0, noVal)).2).size : Int))), (25, one (.bool (decide ((((a0.getD v10_0.toNat (0, noVal)).2).size : Int) > 400))))] [some ⟨false, .puts a0⟩]
def spec.l7Batch.l1.e0 (a0 : List (Int × ByteArray)) (v10_0 : Int) (o : Unit) : St := mkSt 46 [(2, one (.bool false))] [some ⟨false, .puts a0⟩]
def spec.l7Batch.l1.e1 (a0 : List (Int × ByteArray)) (v10_0 : Int) (o : Unit) : St := mkSt 46 [(0, one (.sl 0 0 a0.length)), (3, one (.int .i64 v10_0)), (19, one (.sl 0 0 a0.length)), (20, one (.int .i64 v10_0)), (21, one (.ptr 0 v10_0.toNat 0)), (22, one (.ptr 0 v10_0.toNat 1)), (23, one (.str ((a0.getD v10_0.toNat (0, noVal)).2))), (24, one (.int .i64 (((a0.getD v10_0.toNat (0, noVal)).2).size : Int))), (25, one (.bool (decide ((((a0.getD v10_0.toNat (0, noVal)).2).size : Int) > 400))))] [some ⟨false, .puts a0⟩]
def spec.l7Batch.l1.x (a0 : List (Int × ByteArray)) (v10_0 : Int) : (Unit ⊕ Unit) → AExit × St := Sum.elim (fun o => (.ret, spec.l7Batch.l1.e0 a0 v10_0 o)) (fun o => (.exit 2, spec.l7Batch.l1.e1 a0 v10_0 o))
theorem spec.l7Batch.l1.spec (a0 : List (Int × ByteArray)) (v10_0 : Int) : ∀ (k : Nat) (v12_0 : Int) (o : Unit ⊕ Unit), spec.l7Batch.l1.f a0 v10_0 k v12_0 = some o → LoopSpec Try.prog 1 (loopN Try.f98 1) (spec.l7Batch.l1.s a0 v10_0 v12_0) (spec.l7Batch.l1.x a0 v10_0 o).1 (spec.l7Batch.l1.x a0 v10_0 o).2
  | 0, _, _, h => by cases h
  | k + 1, v12_0, o, h => by
    unfold spec.l7Batch.l1.f at h
    rcases br_cases h with ⟨c1, h⟩ | ⟨c1, h⟩
    · obtain ⟨p1, h⟩ := ck_some h
      obtain ⟨p2, h⟩ := ck_some h
      obtain ⟨p3, h⟩ := ck_some h
      obtain ⟨p4, h⟩ := ck_some h
      rcases br_cases h with ⟨c2, h⟩ | ⟨c2, h⟩
      · obtain rfl := Option.some.inj h
        exact .of_done tab mixed [.br true, .br true] [] [2] [0] rfl (nd c1 (nd p1 (nd p2 (nd (tn p1 p2) (nd p3 (nd p4 (nd (tn p3 p4) (nd c2 trivial)))))))) (by kernel_rfl)
      · exact .of_step tab mixed [.br true, .br false] [] [0, 3, 4, 19, 20, 21, 22, 23, 24, 25] [0] (s1 := spec.l7Batch.l1.s a0 v10_0 (w64 (v12_0 + 1))) (nd c1 (nd p1 (nd p2 (nd (tn p1 p2) (nd p3 (nd p4 (nd (tn p3 p4) (nd c2 trivial)))))))) (by kernel_rfl) (spec.l7Batch.l1.spec a0 v10_0 k (w64 (v12_0 + 1)) _ h)
    · obtain rfl := Option.some.inj h
      exact .of_done tab mixed [.br false] [] [0, 3, 19, 20, 21, 22, 23, 24, 25] [0] rfl (nd c1 trivial) (by kernel_rfl)
def spec.l7Batch.l0.f (K : Nat) (a0 : List (Int × ByteArray)) : Nat → Int → Option (Unit ⊕ Unit)
  | 0, _ => none
  | k + 1, v10_0 =>
    cond (decide (v10_0 < (a0.length : Int))) (ck (0 ≤ v10_0) (Option.bind (spec.l1In.f ((a0.getD v10_0.toNat (0, noVal)).1) 0 23) fun x1 => cond (x1) (cond (decide ((((a0.getD v10_0.toNat (0, noVal)).2).size : Int) > 400)) (some (.inl ())) (Option.bind (spec.l7Batch.l1.f a0 v10_0 K 0) fun x2 => (Sum.elim (fun x2 => some (.inl ())) (fun x2 => spec.l7Batch.l0.f K a0 k (w64 (v10_0 + 1)))) x2)) (some (.inl ())))) (some (.inr (())))
def spec.l7Batch.l0.s (K : Nat) (a0 : List (Int × ByteArray)) (v10_0 : Int) : St := mkSt 46 [(0, one (.sl 0 0 a0.length)), (3, one (.int .i64 v10_0))] [some ⟨false, .puts a0⟩]
def spec.l7Batch.l0.e0 (K : Nat) (a0 : List (Int × ByteArray)) (o : Unit) : St := mkSt 46 [(2, one (.bool false))] [some ⟨false, .puts a0⟩]
def spec.l7Batch.l0.e1 (K : Nat) (a0 : List (Int × ByteArray)) (o : Unit) : St := mkSt 46 [(0, one (.sl 0 0 a0.length))] [some ⟨false, .puts a0⟩]
def spec.l7Batch.l0.x (K : Nat) (a0 : List (Int × ByteArray)) : (Unit ⊕ Unit) → AExit × St := Sum.elim (fun o => (.ret, spec.l7Batch.l0.e0 K a0 o)) (fun o => (.exit 0, spec.l7Batch.l0.e1 K a0 o))
theorem spec.l7Batch.l0.spec (K : Nat) (a0 : List (Int × ByteArray)) : ∀ (k : Nat) (v10_0 : Int) (o : Unit ⊕ Unit), spec.l7Batch.l0.f K a0 k v10_0 = some o → LoopSpec Try.prog 1 (loopN Try.f98 0) (spec.l7Batch.l0.s K a0 v10_0) (spec.l7Batch.l0.x K a0 o).1 (spec.l7Batch.l0.x K a0 o).2
  | 0, _, _, h => by cases h
  | k + 1, v10_0, o, h => by
    unfold spec.l7Batch.l0.f at h
    rcases br_cases h with ⟨c1, h⟩ | ⟨c1, h⟩
    · obtain ⟨p1, h⟩ := ck_some h
      obtain ⟨x1, e1, h⟩ := bind_some h
      rcases br_cases h with ⟨c2, h⟩ | ⟨c2, h⟩
      · rcases br_cases h with ⟨c3, h⟩ | ⟨c3, h⟩
        · obtain rfl := Option.some.inj h
          exact .of_done tab mixed [.br true, .call [] [] (one (.bool x1)) [], .br false, .br false, .br false, .br false, .br false, .br false, .br false, .br false, .br true] [] [2] [0] rfl (nd c1 (nd p1 (nd (of_decide_eq_true c1) (nd (tn p1 (of_decide_eq_true c1)) (nd (spec.l1In.spec ((a0.getD v10_0.toNat (0, noVal)).1) 0 23 _ e1) (nd (nf c2) (nd (nf c2) (nd (nf c2) (nd p1 (nd (of_decide_eq_true c1) (nd (nf c2) (nd (nf c2) (nd (tn p1 (of_decide_eq_true c1)) (nd (nf c2) (nd (nf c2) (nd (nf c2) (nd c3 trivial))))))))))))))))) (by kernel_rfl)
        · obtain ⟨x2, e2, h⟩ := bind_some h
          rcases x2 with x2 | x2
          · obtain rfl := Option.some.inj h
            exact .of_done tab mixed [.br true, .call [] [] (one (.bool x1)) [], .br false, .br false, .br false, .br false, .br false, .br false, .br false, .br false, .br false, .loop [] [0, 3, 4, 19, 20, 21, 22, 23, 24, 25] [0] (.ret) (spec.l7Batch.l1.e0 a0 v10_0 x2)] [] [2] [0] rfl (nd c1 (nd p1 (nd (of_decide_eq_true c1) (nd (tn p1 (of_decide_eq_true c1)) (nd (spec.l1In.spec ((a0.getD v10_0.toNat (0, noVal)).1) 0 23 _ e1) (nd (nf c2) (nd (nf c2) (nd (nf c2) (nd p1 (nd (of_decide_eq_true c1) (nd (nf c2) (nd (nf c2) (nd (tn p1 (of_decide_eq_true c1)) (nd (nf c2) (nd (nf c2) (nd (nf c2) (nd c3 (nd (spec.l7Batch.l1.spec a0 v10_0 K 0 _ e2) trivial)))))))))))))))))) (by kernel_rfl)
          · exact .of_step tab mixed [.br true, .call [] [] (one (.bool x1)) [], .br false, .br false, .br false, .br false, .br false, .br false, .br false, .br false, .br false, .loop [] [0, 3, 4, 19, 20, 21, 22, 23, 24, 25] [0] (.exit 2) (spec.l7Batch.l1.e1 a0 v10_0 x2)] [] [0, 3] [0] (s1 := spec.l7Batch.l0.s K a0 (w64 (v10_0 + 1))) (nd c1 (nd p1 (nd (of_decide_eq_true c1) (nd (tn p1 (of_decide_eq_true c1)) (nd (spec.l1In.spec ((a0.getD v10_0.toNat (0, noVal)).1) 0 23 _ e1) (nd (nf c2) (nd (nf c2) (nd (nf c2) (nd p1 (nd (of_decide_eq_true c1) (nd (nf c2) (nd (nf c2) (nd (tn p1 (of_decide_eq_true c1)) (nd (nf c2) (nd (nf c2) (nd (nf c2) (nd c3 (nd (spec.l7Batch.l1.spec a0 v10_0 K 0 _ e2) trivial)))))))))))))))))) (by kernel_rfl) (spec.l7Batch.l0.spec K a0 k (w64 (v10_0 + 1)) _ h)
      · obtain rfl := Option.some.inj h
        exact .of_done tab mixed [.br true, .call [] [] (one (.bool x1)) [], .br true, .br true, .br true, .br true, .br true, .br true, .br true, .br true, .br true] [] [2] [0] rfl (nd c1 (nd p1 (nd (of_decide_eq_true c1) (nd (tn p1 (of_decide_eq_true c1)) (nd (spec.l1In.spec ((a0.getD v10_0.toNat (0, noVal)).1) 0 23 _ e1) (nd (nt c2) (nd (nt c2) (nd (nt c2) (nd (nt c2) (nd (nt c2) (nd (nt c2) (nd (nt c2) (nd (nt c2) (nd tt trivial)))))))))))))) (by kernel_rfl)
    · obtain rfl := Option.some.inj h
      exact .of_done tab mixed [.br false] [] [0] [0] rfl (nd c1 trivial) (by kernel_rfl)
def spec.l7Batch.f (K : Nat) (a0 : List (Int × ByteArray)) : Option (Bool) :=
  Option.bind (spec.l7Batch.l0.f K a0 K 0) fun x1 => (Sum.elim (fun x1 => some false) (fun x1 => some (decide ((a0.length : Int) ≤ 3)))) x1
theorem spec.l7Batch.spec (K : Nat) (a0 : List (Int × ByteArray)) (o : Bool) (h : spec.l7Batch.f K a0 = some o) : Den.Spec Try.prog 98 [one (.sl 0 0 a0.length)] [some ⟨false, .puts a0⟩] (one (.bool o)) [some ⟨false, .puts a0⟩] := by
  unfold spec.l7Batch.f at h
  obtain ⟨x1, e1, h⟩ := bind_some h
  rcases x1 with x1 | x1
  · obtain rfl := Option.some.inj h
    exact Den.Spec.of_walk tab mixed Try.func98 (by kernel_rfl) [.loop [] [0, 3] [0] (.ret) (spec.l7Batch.l0.e0 K a0 x1)] [] [0] (nd (spec.l7Batch.l0.spec K a0 K 0 _ e1) trivial) (by kernel_rfl)
  · obtain rfl := Option.some.inj h
    exact Den.Spec.of_walk tab mixed Try.func98 (by kernel_rfl) [.loop [] [0, 3] [0] (.exit 0) (spec.l7Batch.l0.e1 K a0 x1)] [] [0] (nd (spec.l7Batch.l0.spec K a0 K 0 _ e1) trivial) (by kernel_rfl)
def spec.PutNum.l0.f : Nat → Int → (List Int) → Option (Int × (List Int))
  | 0, _, _ => none
  | k + 1, v15_0, v15_1 =>
    cond (decide (v15_0 > 127)) (ck ((v15_1 ++ [IntKind.u8.wrap (w64 ((v15_0.tmod 128) + 128))]).length * 1 ≤ 70368744177664) (spec.PutNum.l0.f k (w64 (v15_0.tdiv 128)) (v15_1 ++ [IntKind.u8.wrap (w64 ((v15_0.tmod 128) + 128))]))) (some (v15_0, v15_1))
def spec.PutNum.l0.s (v15_0 : Int) (v15_1 : List Int) : St := mkSt 25 [(0, one (.int .i64 v15_0)), (3, one (.sl 0 0 v15_1.length))] [some ⟨true, .ints .u8 v15_1⟩]
def spec.PutNum.l0.e0 (o : Int × (List Int)) : St := mkSt 25 [(0, one (.int .i64 o.1)), (3, one (.sl 0 0 o.2.length))] [some ⟨true, .ints .u8 o.2⟩]
def spec.PutNum.l0.x : (Int × (List Int)) → AExit × St := fun o => (.exit 0, spec.PutNum.l0.e0 o)
theorem spec.PutNum.l0.spec : ∀ (k : Nat) (v15_0 : Int) (v15_1 : List Int) (o : Int × (List Int)), spec.PutNum.l0.f k v15_0 v15_1 = some o → LoopSpec Try.prog 0 (loopN Try.f21 0) (spec.PutNum.l0.s v15_0 v15_1) (spec.PutNum.l0.x o).1 (spec.PutNum.l0.x o).2
  | 0, _, _, _, h => by cases h
  | k + 1, v15_0, v15_1, o, h => by
    unfold spec.PutNum.l0.f at h
    rcases br_cases h with ⟨c1, h⟩ | ⟨c1, h⟩
    · obtain ⟨p1, h⟩ := ck_some h
      exact .of_step tab mixed [.br true, .br true] [] [0, 3] [2] (s1 := spec.PutNum.l0.s (w64 (v15_0.tdiv 128)) (v15_1 ++ [IntKind.u8.wrap (w64 ((v15_0.tmod 128) + 128))])) (nd c1 (nd (by decide : (128 : Int) ≠ 0) (nd (rfl : (0 : Nat) = 0) (nd (rfl : v15_1.length = v15_1.length) (nd p1 (nd (rfl : (0 : Nat) = 0) (nd (rfl : 1 = 1) (nd (by decide : (128 : Int) ≠ 0) trivial)))))))) (by kernel_rfl) (spec.PutNum.l0.spec k (w64 (v15_0.tdiv 128)) (v15_1 ++ [IntKind.u8.wrap (w64 ((v15_0.tmod 128) + 128))]) _ h)
    · obtain rfl := Option.some.inj h
      exact .of_done tab mixed [.br false] [] [0, 3] [0] rfl (nd c1 trivial) (by kernel_rfl)
def spec.PutNum.f (K : Nat) (a0 : Int) : Option ((List Int)) :=
  Option.bind (spec.l1In.f a0 0 1000000000) fun x1 => cond (x1) (Option.bind (spec.PutNum.l0.f K a0 []) fun x2 => ck ((x2.2 ++ [IntKind.u8.wrap x2.1]).length * 1 ≤ 70368744177664) (some (x2.2 ++ [IntKind.u8.wrap x2.1]))) (some [])
theorem spec.PutNum.spec (K : Nat) (a0 : Int) (o : (List Int)) (h : spec.PutNum.f K a0 = some o) : Den.Spec Try.prog 21 [one (.int .i64 a0)] [] (one (.sl 0 0 o.length)) [some ⟨true, .ints .u8 o⟩] := by
  unfold spec.PutNum.f at h
  obtain ⟨x1, e1, h⟩ := bind_some h
  rcases br_cases h with ⟨c1, h⟩ | ⟨c1, h⟩
  · obtain ⟨x2, e2, h⟩ := bind_some h
    obtain ⟨p1, h⟩ := ck_some h
    obtain rfl := Option.some.inj h
    exact Den.Spec.of_walk tab mixed Try.func21 (by kernel_rfl) [.call [] [] (one (.bool x1)) [], .br false, .loop [] [0, 3] [0] (.exit 0) (spec.PutNum.l0.e0 x2), .br true] [] [2] (nd (spec.l1In.spec a0 0 1000000000 _ e1) (nd (nf c1) (nd (spec.PutNum.l0.spec K a0 [] _ e2) (nd (rfl : (0 : Nat) = 0) (nd (rfl : x2.2.length = x2.2.length) (nd p1 (nd (rfl : (0 : Nat) = 0) (nd (rfl : 1 = 1) trivial)))))))) (by kernel_rfl)
  · obtain rfl := Option.some.inj h
    exact Den.Spec.of_walk tab mixed Try.func21 (by kernel_rfl) [.call [] [] (one (.bool x1)) [], .br true] [] [0] (nd (spec.l1In.spec a0 0 1000000000 _ e1) (nd (nt c1) trivial)) (by kernel_rfl)
def spec.PutText.f (K : Nat) (a0 : ByteArray) : Option ((List Int)) :=
  cond (decide ((a0.size : Int) > 400)) (some []) (Option.bind (spec.PutNum.f K (a0.size : Int)) fun x1 => ck ((x1 ++ (bytesL a0)).length * 1 ≤ 70368744177664) (some (x1 ++ (bytesL a0))))
theorem spec.PutText.spec (K : Nat) (a0 : ByteArray) (o : (List Int)) (h : spec.PutText.f K a0 = some o) : Den.Spec Try.prog 29 [one (.str a0)] [] (one (.sl 0 0 o.length)) [some ⟨true, .ints .u8 o⟩] := by
  unfold spec.PutText.f at h
  rcases br_cases h with ⟨c1, h⟩ | ⟨c1, h⟩
  · obtain rfl := Option.some.inj h
    exact Den.Spec.of_walk tab mixed Try.func29 (by kernel_rfl) [.br true] [] [0] (nd c1 trivial) (by kernel_rfl)
  · obtain ⟨x1, e1, h⟩ := bind_some h
    obtain ⟨p1, h⟩ := ck_some h
    obtain rfl := Option.some.inj h
    exact Den.Spec.of_walk tab mixed Try.func29 (by kernel_rfl) [.br false, .call [] [] (one (.sl 0 0 x1.length)) [some ⟨true, .ints .u8 x1⟩], .br true] [] [2] (nd c1 (nd (spec.PutNum.spec K (a0.size : Int) _ e1) (nd (rfl : (0 : Nat) = 0) (nd (rfl : x1.length = x1.length) (nd p1 (nd (rfl : (0 : Nat) = 0) (nd (rfl : (bytesL a0).length = (bytesL a0).length) trivial))))))) (by kernel_rfl)
def spec.LogText.l0.f (K : Nat) (a0 : List (Int × ByteArray)) : Nat → (List Int) → Int → Option ((List Int))
  | 0, _, _ => none
  | k + 1, v22_0, v22_1 =>
    cond (decide (v22_1 < (a0.length : Int))) (ck (0 ≤ v22_1) (Option.bind (spec.PutNum.f K ((a0.getD v22_1.toNat (0, noVal)).1)) fun x1 => ck ((v22_0 ++ x1).length * 1 ≤ 70368744177664) (Option.bind (spec.PutText.f K ((a0.getD v22_1.toNat (0, noVal)).2)) fun x2 => ck (((v22_0 ++ x1) ++ x2).length * 1 ≤ 70368744177664) (spec.LogText.l0.f K a0 k ((v22_0 ++ x1) ++ x2) (w64 (v22_1 + 1)))))) (some v22_0)
def spec.LogText.l0.s (K : Nat) (a0 : List (Int × ByteArray)) (v22_0 : List Int) (v22_1 : Int) : St := mkSt 49 [(0, one (.sl 0 0 a0.length)), (3, one (.sl 1 0 v22_0.length)), (4, one (.int .i64 v22_1))] [some ⟨false, .puts a0⟩, some ⟨true, .ints .u8 v22_0⟩]
def spec.LogText.l0.e0 (K : Nat) (a0 : List (Int × ByteArray)) (o : (List Int)) : St := mkSt 49 [(3, one (.sl 1 0 o.length))] [some ⟨false, .puts a0⟩, some ⟨true, .ints .u8 o⟩]
def spec.LogText.l0.x (K : Nat) (a0 : List (Int × ByteArray)) : ((List Int)) → AExit × St := fun o => (.exit 0, spec.LogText.l0.e0 K a0 o)
theorem spec.LogText.l0.spec (K : Nat) (a0 : List (Int × ByteArray)) : ∀ (k : Nat) (v22_0 : List Int) (v22_1 : Int) (o : (List Int)), spec.LogText.l0.f K a0 k v22_0 v22_1 = some o → LoopSpec Try.prog 1 (loopN Try.f41 0) (spec.LogText.l0.s K a0 v22_0 v22_1) (spec.LogText.l0.x K a0 o).1 (spec.LogText.l0.x K a0 o).2
  | 0, _, _, _, h => by cases h
  | k + 1, v22_0, v22_1, o, h => by
    unfold spec.LogText.l0.f at h
    rcases br_cases h with ⟨c1, h⟩ | ⟨c1, h⟩
    · obtain ⟨p1, h⟩ := ck_some h
      obtain ⟨x1, e1, h⟩ := bind_some h
      obtain ⟨p2, h⟩ := ck_some h
      obtain ⟨x2, e2, h⟩ := bind_some h
      obtain ⟨p3, h⟩ := ck_some h
      exact .of_step tab mixed [.br true, .call [] [] (one (.sl 0 0 x1.length)) [some ⟨true, .ints .u8 x1⟩], .br true, .call [] [] (one (.sl 0 0 x2.length)) [some ⟨true, .ints .u8 x2⟩], .br true] [] [0, 3, 4] [0, 5] (s1 := spec.LogText.l0.s K a0 ((v22_0 ++ x1) ++ x2) (w64 (v22_1 + 1))) (nd c1 (nd p1 (nd (of_decide_eq_true c1) (nd (tn p1 (of_decide_eq_true c1)) (nd (spec.PutNum.spec K ((a0.getD v22_1.toNat (0, noVal)).1) _ e1) (nd (rfl : (0 : Nat) = 0) (nd (rfl : v22_0.length = v22_0.length) (nd p2 (nd (rfl : (0 : Nat) = 0) (nd (rfl : x1.length = x1.length) (nd p1 (nd (of_decide_eq_true c1) (nd (tn p1 (of_decide_eq_true c1)) (nd (spec.PutText.spec K ((a0.getD v22_1.toNat (0, noVal)).2) _ e2) (nd (rfl : (0 : Nat) = 0) (nd (rfl : (v22_0 ++ x1).length = (v22_0 ++ x1).length) (nd p3 (nd (rfl : (0 : Nat) = 0) (nd (rfl : x2.length = x2.length) trivial))))))))))))))))))) (by kernel_rfl) (spec.LogText.l0.spec K a0 k ((v22_0 ++ x1) ++ x2) (w64 (v22_1 + 1)) _ h)
    · obtain rfl := Option.some.inj h
      exact .of_done tab mixed [.br false] [] [3] [0, 1] rfl (nd c1 trivial) (by kernel_rfl)
def spec.Sum.l0.f (a0 : List Int) : Nat → Int → Int → Option (Int)
  | 0, _, _ => none
  | k + 1, v20_0, v20_1 =>
    cond (decide (v20_1 < (a0.length : Int))) (ck (0 ≤ v20_1) (spec.Sum.l0.f a0 k ((w64 ((w64 (31 * v20_0)) + (w64 (a0.getD v20_1.toNat 0)))).tmod 1000003) (w64 (v20_1 + 1)))) (some v20_0)
def spec.Sum.l0.s (a0 : List Int) (v20_0 : Int) (v20_1 : Int) : St := mkSt 21 [(0, one (.sl 0 0 a0.length)), (3, one (.int .i64 v20_0)), (4, one (.int .i64 v20_1))] [some ⟨false, .ints .u8 a0⟩]
def spec.Sum.l0.e0 (a0 : List Int) (o : Int) : St := mkSt 21 [(3, one (.int .i64 o))] [some ⟨false, .ints .u8 a0⟩]
def spec.Sum.l0.x (a0 : List Int) : (Int) → AExit × St := fun o => (.exit 0, spec.Sum.l0.e0 a0 o)
theorem spec.Sum.l0.spec (a0 : List Int) : ∀ (k : Nat) (v20_0 : Int) (v20_1 : Int) (o : Int), spec.Sum.l0.f a0 k v20_0 v20_1 = some o → LoopSpec Try.prog 1 (loopN Try.f34 0) (spec.Sum.l0.s a0 v20_0 v20_1) (spec.Sum.l0.x a0 o).1 (spec.Sum.l0.x a0 o).2
  | 0, _, _, _, h => by cases h
  | k + 1, v20_0, v20_1, o, h => by
    unfold spec.Sum.l0.f at h
    rcases br_cases h with ⟨c1, h⟩ | ⟨c1, h⟩
    · obtain ⟨p1, h⟩ := ck_some h
      exact .of_step tab mixed [.br true] [] [0, 3, 4] [0] (s1 := spec.Sum.l0.s a0 ((w64 ((w64 (31 * v20_0)) + (w64 (a0.getD v20_1.toNat 0)))).tmod 1000003) (w64 (v20_1 + 1))) (nd c1 (nd p1 (nd (of_decide_eq_true c1) (nd (tn p1 (of_decide_eq_true c1)) (nd (by decide : (1000003 : Int) ≠ 0) trivial))))) (by kernel_rfl) (spec.Sum.l0.spec a0 k ((w64 ((w64 (31 * v20_0)) + (w64 (a0.getD v20_1.toNat 0)))).tmod 1000003) (w64 (v20_1 + 1)) _ h)
    · obtain rfl := Option.some.inj h
      exact .of_done tab mixed [.br false] [] [3] [0] rfl (nd c1 trivial) (by kernel_rfl)
def spec.Sum.f (K : Nat) (a0 : List Int) : Option (Int) :=
  Option.bind (spec.Sum.l0.f a0 K 7 0) fun x1 => some x1
theorem spec.Sum.spec (K : Nat) (a0 : List Int) (o : Int) (h : spec.Sum.f K a0 = some o) : Den.Spec Try.prog 34 [one (.sl 0 0 a0.length)] [some ⟨false, .ints .u8 a0⟩] (one (.int .i64 o)) [some ⟨false, .ints .u8 a0⟩] := by
  unfold spec.Sum.f at h
  obtain ⟨x1, e1, h⟩ := bind_some h
  obtain rfl := Option.some.inj h
  exact Den.Spec.of_walk tab mixed Try.func34 (by kernel_rfl) [.loop [] [0, 3, 4] [0] (.exit 0) (spec.Sum.l0.e0 a0 x1)] [] [0] (nd (spec.Sum.l0.spec a0 K 7 0 _ e1) trivial) (by kernel_rfl)
def spec.LogText.f (K : Nat) (a0 : List (Int × ByteArray)) : Option (ByteArray) :=
  Option.bind (spec.l7Batch.f K a0) fun x1 => cond (x1) (cond ((a0.length : Int) == 0) (some noVal) (Option.bind (spec.PutNum.f K (a0.length : Int)) fun x2 => Option.bind (spec.LogText.l0.f K a0 K x2 0) fun x3 => Option.bind (spec.Sum.f K x3) fun x4 => Option.bind (spec.PutNum.f K x4) fun x5 => ck ((x5 ++ x3).length * 1 ≤ 70368744177664) (cond (decide (((x5 ++ x3).length : Int) > 400)) (some noVal) (some (ofBytes (x5 ++ x3)))))) (some noVal)
theorem spec.LogText.spec (K : Nat) (a0 : List (Int × ByteArray)) (o : ByteArray) (h : spec.LogText.f K a0 = some o) : Den.Spec Try.prog 41 [one (.sl 0 0 a0.length)] [some ⟨false, .puts a0⟩] (one (.str o)) [some ⟨false, .puts a0⟩] := by
  unfold spec.LogText.f at h
  obtain ⟨x1, e1, h⟩ := bind_some h
  rcases br_cases h with ⟨c1, h⟩ | ⟨c1, h⟩
  · rcases br_cases h with ⟨c2, h⟩ | ⟨c2, h⟩
    · obtain rfl := Option.some.inj h
      exact Den.Spec.of_walk tab mixed Try.func41 (by kernel_rfl) [.call [] [(0, true)] (one (.bool x1)) [some ⟨false, .puts a0⟩], .br false, .br false, .br false, .br false, .br true] [] [0] (nd (spec.l7Batch.spec K a0 _ e1) (nd (rfl : (0 : Nat) = 0) (nd (rfl : a0.length = a0.length) (nd (nf c1) (nd (nf c1) (nd (nf c1) (nd (nf c1) (nd c2 trivial)))))))) (by kernel_rfl)
    · obtain ⟨x2, e2, h⟩ := bind_some h
      obtain ⟨x3, e3, h⟩ := bind_some h
      obtain ⟨x4, e4, h⟩ := bind_some h
      obtain ⟨x5, e5, h⟩ := bind_some h
      obtain ⟨p1, h⟩ := ck_some h
      rcases br_cases h with ⟨c3, h⟩ | ⟨c3, h⟩
      · obtain rfl := Option.some.inj h
        exact Den.Spec.of_walk tab mixed Try.func41 (by kernel_rfl) [.call [] [(0, true)] (one (.bool x1)) [some ⟨false, .puts a0⟩], .br false, .br false, .br false, .br false, .br false, .call [] [] (one (.sl 0 0 x2.length)) [some ⟨true, .ints .u8 x2⟩], .loop [] [0, 3, 4] [0, 1] (.exit 0) (spec.LogText.l0.e0 K a0 x3), .call [] [(0, true)] (one (.int .i64 x4)) [some ⟨false, .ints .u8 x3⟩], .call [] [] (one (.sl 0 0 x5.length)) [some ⟨true, .ints .u8 x5⟩], .br true, .br true] [] [0] (nd (spec.l7Batch.spec K a0 _ e1) (nd (rfl : (0 : Nat) = 0) (nd (rfl : a0.length = a0.length) (nd (nf c1) (nd (nf c1) (nd (nf c1) (nd (nf c1) (nd c2 (nd (spec.PutNum.spec K (a0.length : Int) _ e2) (nd (spec.LogText.l0.spec K a0 K x2 0 _ e3) (nd (spec.Sum.spec K x3 _ e4) (nd (rfl : (0 : Nat) = 0) (nd (rfl : x3.length = x3.length) (nd (spec.PutNum.spec K x4 _ e5) (nd (rfl : (0 : Nat) = 0) (nd (rfl : x5.length = x5.length) (nd p1 (nd (rfl : (0 : Nat) = 0) (nd (rfl : x3.length = x3.length) (nd c3 trivial)))))))))))))))))))) (by kernel_rfl)
      · obtain rfl := Option.some.inj h
        exact Den.Spec.of_walk tab mixed Try.func41 (by kernel_rfl) [.call [] [(0, true)] (one (.bool x1)) [some ⟨false, .puts a0⟩], .br false, .br false, .br false, .br false, .br false, .call [] [] (one (.sl 0 0 x2.length)) [some ⟨true, .ints .u8 x2⟩], .loop [] [0, 3, 4] [0, 1] (.exit 0) (spec.LogText.l0.e0 K a0 x3), .call [] [(0, true)] (one (.int .i64 x4)) [some ⟨false, .ints .u8 x3⟩], .call [] [] (one (.sl 0 0 x5.length)) [some ⟨true, .ints .u8 x5⟩], .br true, .br false, .br true] [] [0] (nd (spec.l7Batch.spec K a0 _ e1) (nd (rfl : (0 : Nat) = 0) (nd (rfl : a0.length = a0.length) (nd (nf c1) (nd (nf c1) (nd (nf c1) (nd (nf c1) (nd c2 (nd (spec.PutNum.spec K (a0.length : Int) _ e2) (nd (spec.LogText.l0.spec K a0 K x2 0 _ e3) (nd (spec.Sum.spec K x3 _ e4) (nd (rfl : (0 : Nat) = 0) (nd (rfl : x3.length = x3.length) (nd (spec.PutNum.spec K x4 _ e5) (nd (rfl : (0 : Nat) = 0) (nd (rfl : x5.length = x5.length) (nd p1 (nd (rfl : (0 : Nat) = 0) (nd (rfl : x3.length = x3.length) (nd c3 (nd (rfl : (0 : Nat) = 0) (nd (rfl : (x5 ++ x3).length = (x5 ++ x3).length) trivial)))))))))))))))))))))) (by kernel_rfl)
  · obtain rfl := Option.some.inj h
    exact Den.Spec.of_walk tab mixed Try.func41 (by kernel_rfl) [.call [] [(0, true)] (one (.bool x1)) [some ⟨false, .puts a0⟩], .br true, .br true, .br true, .br true, .br true] [] [0] (nd (spec.l7Batch.spec K a0 _ e1) (nd (rfl : (0 : Nat) = 0) (nd (rfl : a0.length = a0.length) (nd (nt c1) (nd (nt c1) (nd (nt c1) (nd (nt c1) (nd tt trivial)))))))) (by kernel_rfl)
def spec.LogRead.f (K : Nat) (a0 : ByteArray) : Option ((List (Int × ByteArray)) × Bool) :=
  Option.bind (spec.GetNum.f K (bytesL a0) 0) fun x1 => cond (x1.2.2) (Option.bind (spec.GetNum.f K (bytesL a0) x1.2.1) fun x2 => cond (x2.2.2) (cond (decide (x2.1 > 3)) (some ([], false)) (Option.bind (spec.LogRead.l0.f K a0 K x2.1 x2.2.1 [] 0) fun x3 => (Sum.elim (fun x3 => some ([], false)) (fun x3 => cond (strEq a0 noVal) (some ([], false)) (Option.bind (spec.LogText.f K x3) fun x4 => cond (strEq x4 a0) (some (x3, true)) (some ([], false))))) x3)) (some ([], false))) (some ([], false))
theorem spec.LogRead.spec (K : Nat) (a0 : ByteArray) (o : (List (Int × ByteArray)) × Bool) (h : spec.LogRead.f K a0 = some o) : Den.Spec Try.prog 45 [one (.str a0)] [] (.tup [.c (.sl 0 0 o.1.length), .c (.bool o.2)]) [some ⟨true, .puts o.1⟩] := by
  unfold spec.LogRead.f at h
  obtain ⟨x1, e1, h⟩ := bind_some h
  rcases br_cases h with ⟨c1, h⟩ | ⟨c1, h⟩
  · obtain ⟨x2, e2, h⟩ := bind_some h
    rcases br_cases h with ⟨c2, h⟩ | ⟨c2, h⟩
    · rcases br_cases h with ⟨c3, h⟩ | ⟨c3, h⟩
      · obtain rfl := Option.some.inj h
        exact Den.Spec.of_walk tab mixed Try.func45 (by kernel_rfl) [.call [] [(0, true)] (.tup [.c (.int .i64 x1.1), .c (.int .i64 x1.2.1), .c (.bool x1.2.2)]) [some ⟨false, .ints .u8 (bytesL a0)⟩], .br false, .call [] [(0, true)] (.tup [.c (.int .i64 x2.1), .c (.int .i64 x2.2.1), .c (.bool x2.2.2)]) [some ⟨false, .ints .u8 (bytesL a0)⟩], .br false, .br false, .br false, .br true] [] [0] (nd (spec.GetNum.spec K (bytesL a0) 0 _ e1) (nd (rfl : (0 : Nat) = 0) (nd (rfl : (bytesL a0).length = (bytesL a0).length) (nd (nf c1) (nd (spec.GetNum.spec K (bytesL a0) x1.2.1 _ e2) (nd (rfl : (0 : Nat) = 0) (nd (rfl : (bytesL a0).length = (bytesL a0).length) (nd (nf c2) (nd (nf c2) (nd (nf c2) (nd c3 trivial))))))))))) (by kernel_rfl)
      · obtain ⟨x3, e3, h⟩ := bind_some h
        rcases x3 with x3 | x3
        · obtain rfl := Option.some.inj h
          exact Den.Spec.of_walk tab mixed Try.func45 (by kernel_rfl) [.call [] [(0, true)] (.tup [.c (.int .i64 x1.1), .c (.int .i64 x1.2.1), .c (.bool x1.2.2)]) [some ⟨false, .ints .u8 (bytesL a0)⟩], .br false, .call [] [(0, true)] (.tup [.c (.int .i64 x2.1), .c (.int .i64 x2.2.1), .c (.bool x2.2.2)]) [some ⟨false, .ints .u8 (bytesL a0)⟩], .br false, .br false, .br false, .br false, .loop [] [0, 4, 5, 9, 10, 12, 13] [0, 1, 2] (.ret) (spec.LogRead.l0.e0 K a0 x3)] [] [0] (nd (spec.GetNum.spec K (bytesL a0) 0 _ e1) (nd (rfl : (0 : Nat) = 0) (nd (rfl : (bytesL a0).length = (bytesL a0).length) (nd (nf c1) (nd (spec.GetNum.spec K (bytesL a0) x1.2.1 _ e2) (nd (rfl : (0 : Nat) = 0) (nd (rfl : (bytesL a0).length = (bytesL a0).length) (nd (nf c2) (nd (nf c2) (nd (nf c2) (nd c3 (nd (spec.LogRead.l0.spec K a0 K x2.1 x2.2.1 [] 0 _ e3) trivial)))))))))))) (by kernel_rfl)
        · rcases br_cases h with ⟨c4, h⟩ | ⟨c4, h⟩
          · obtain rfl := Option.some.inj h
            exact Den.Spec.of_walk tab mixed Try.func45 (by kernel_rfl) [.call [] [(0, true)] (.tup [.c (.int .i64 x1.1), .c (.int .i64 x1.2.1), .c (.bool x1.2.2)]) [some ⟨false, .ints .u8 (bytesL a0)⟩], .br false, .call [] [(0, true)] (.tup [.c (.int .i64 x2.1), .c (.int .i64 x2.2.1), .c (.bool x2.2.2)]) [some ⟨false, .ints .u8 (bytesL a0)⟩], .br false, .br false, .br false, .br false, .loop [] [0, 4, 5, 9, 10, 12, 13] [0, 1, 2] (.exit 0) (spec.LogRead.l0.e1 K a0 x3), .br true, .br true, .br true, .br true, .br true, .br true] [] [0] (nd (spec.GetNum.spec K (bytesL a0) 0 _ e1) (nd (rfl : (0 : Nat) = 0) (nd (rfl : (bytesL a0).length = (bytesL a0).length) (nd (nf c1) (nd (spec.GetNum.spec K (bytesL a0) x1.2.1 _ e2) (nd (rfl : (0 : Nat) = 0) (nd (rfl : (bytesL a0).length = (bytesL a0).length) (nd (nf c2) (nd (nf c2) (nd (nf c2) (nd c3 (nd (spec.LogRead.l0.spec K a0 K x2.1 x2.2.1 [] 0 _ e3) (nd c4 (nd c4 (nd c4 (nd c4 (nd c4 (nd tt trivial)))))))))))))))))) (by kernel_rfl)
          · obtain ⟨x4, e4, h⟩ := bind_some h
            rcases br_cases h with ⟨c5, h⟩ | ⟨c5, h⟩
            · obtain rfl := Option.some.inj h
              exact Den.Spec.of_walk tab mixed Try.func45 (by kernel_rfl) [.call [] [(0, true)] (.tup [.c (.int .i64 x1.1), .c (.int .i64 x1.2.1), .c (.bool x1.2.2)]) [some ⟨false, .ints .u8 (bytesL a0)⟩], .br false, .call [] [(0, true)] (.tup [.c (.int .i64 x2.1), .c (.int .i64 x2.2.1), .c (.bool x2.2.2)]) [some ⟨false, .ints .u8 (bytesL a0)⟩], .br false, .br false, .br false, .br false, .loop [] [0, 4, 5, 9, 10, 12, 13] [0, 1, 2] (.exit 0) (spec.LogRead.l0.e1 K a0 x3), .br false, .br false, .call [] [(0, true)] (one (.str x4)) [some ⟨false, .puts x3⟩], .br false, .br false, .br false, .br false] [] [1] (nd (spec.GetNum.spec K (bytesL a0) 0 _ e1) (nd (rfl : (0 : Nat) = 0) (nd (rfl : (bytesL a0).length = (bytesL a0).length) (nd (nf c1) (nd (spec.GetNum.spec K (bytesL a0) x1.2.1 _ e2) (nd (rfl : (0 : Nat) = 0) (nd (rfl : (bytesL a0).length = (bytesL a0).length) (nd (nf c2) (nd (nf c2) (nd (nf c2) (nd c3 (nd (spec.LogRead.l0.spec K a0 K x2.1 x2.2.1 [] 0 _ e3) (nd c4 (nd c4 (nd (spec.LogText.spec K x3 _ e4) (nd (rfl : (0 : Nat) = 0) (nd (rfl : x3.length = x3.length) (nd c4 (nd c4 (nd c4 (nd (nf c5) trivial))))))))))))))))))))) (by kernel_rfl)
            · obtain rfl := Option.some.inj h
              exact Den.Spec.of_walk tab mixed Try.func45 (by kernel_rfl) [.call [] [(0, true)] (.tup [.c (.int .i64 x1.1), .c (.int .i64 x1.2.1), .c (.bool x1.2.2)]) [some ⟨false, .ints .u8 (bytesL a0)⟩], .br false, .call [] [(0, true)] (.tup [.c (.int .i64 x2.1), .c (.int .i64 x2.2.1), .c (.bool x2.2.2)]) [some ⟨false, .ints .u8 (bytesL a0)⟩], .br false, .br false, .br false, .br false, .loop [] [0, 4, 5, 9, 10, 12, 13] [0, 1, 2] (.exit 0) (spec.LogRead.l0.e1 K a0 x3), .br false, .br false, .call [] [(0, true)] (one (.str x4)) [some ⟨false, .puts x3⟩], .br false, .br false, .br false, .br true] [] [0] (nd (spec.GetNum.spec K (bytesL a0) 0 _ e1) (nd (rfl : (0 : Nat) = 0) (nd (rfl : (bytesL a0).length = (bytesL a0).length) (nd (nf c1) (nd (spec.GetNum.spec K (bytesL a0) x1.2.1 _ e2) (nd (rfl : (0 : Nat) = 0) (nd (rfl : (bytesL a0).length = (bytesL a0).length) (nd (nf c2) (nd (nf c2) (nd (nf c2) (nd c3 (nd (spec.LogRead.l0.spec K a0 K x2.1 x2.2.1 [] 0 _ e3) (nd c4 (nd c4 (nd (spec.LogText.spec K x3 _ e4) (nd (rfl : (0 : Nat) = 0) (nd (rfl : x3.length = x3.length) (nd c4 (nd c4 (nd c4 (nd (nt c5) trivial))))))))))))))))))))) (by kernel_rfl)
    · obtain rfl := Option.some.inj h
      exact Den.Spec.of_walk tab mixed Try.func45 (by kernel_rfl) [.call [] [(0, true)] (.tup [.c (.int .i64 x1.1), .c (.int .i64 x1.2.1), .c (.bool x1.2.2)]) [some ⟨false, .ints .u8 (bytesL a0)⟩], .br false, .call [] [(0, true)] (.tup [.c (.int .i64 x2.1), .c (.int .i64 x2.2.1), .c (.bool x2.2.2)]) [some ⟨false, .ints .u8 (bytesL a0)⟩], .br true, .br true, .br true, .br true] [] [0] (nd (spec.GetNum.spec K (bytesL a0) 0 _ e1) (nd (rfl : (0 : Nat) = 0) (nd (rfl : (bytesL a0).length = (bytesL a0).length) (nd (nf c1) (nd (spec.GetNum.spec K (bytesL a0) x1.2.1 _ e2) (nd (rfl : (0 : Nat) = 0) (nd (rfl : (bytesL a0).length = (bytesL a0).length) (nd (nt c2) (nd (nt c2) (nd (nt c2) (nd tt trivial))))))))))) (by kernel_rfl)
  · obtain rfl := Option.some.inj h
    exact Den.Spec.of_walk tab mixed Try.func45 (by kernel_rfl) [.call [] [(0, true)] (.tup [.c (.int .i64 x1.1), .c (.int .i64 x1.2.1), .c (.bool x1.2.2)]) [some ⟨false, .ints .u8 (bytesL a0)⟩], .br true] [] [0] (nd (spec.GetNum.spec K (bytesL a0) 0 _ e1) (nd (rfl : (0 : Nat) = 0) (nd (rfl : (bytesL a0).length = (bytesL a0).length) (nd (nt c1) trivial)))) (by kernel_rfl)
def impl.in_.f (a0 : Int) (a1 : Int) (a2 : Int) : Option (Bool) :=
  cond (decide (a0 ≥ a1)) (some (decide (a0 ≤ a2))) (some false)
theorem impl.in_.spec (a0 : Int) (a1 : Int) (a2 : Int) (o : Bool) (h : impl.in_.f a0 a1 a2 = some o) : Den.Spec Try.prog 87 [one (.int .i64 a0), one (.int .i64 a1), one (.int .i64 a2)] [] (one (.bool o)) [] := by
  unfold impl.in_.f at h
  rcases br_cases h with ⟨c1, h⟩ | ⟨c1, h⟩
  · obtain rfl := Option.some.inj h
    exact Den.Spec.of_walk tab mixed Try.func87 (by kernel_rfl) [.br true, .br true, .br true, .br true] [] [] (nd c1 (nd c1 (nd c1 (nd c1 trivial)))) (by kernel_rfl)
  · obtain rfl := Option.some.inj h
    exact Den.Spec.of_walk tab mixed Try.func87 (by kernel_rfl) [.br false, .br false, .br false, .br false] [] [] (nd c1 (nd c1 (nd c1 (nd c1 trivial)))) (by kernel_rfl)
def impl.GetNum.l0.f (a0 : List Int) (a1 : Int) : Nat → Int → Int → Option ((Int × Int × Bool) ⊕ Unit)
  | 0, _, _ => none
  | k + 1, v28_0, v28_1 =>
    cond (decide (v28_1 < 5)) (cond (decide ((w64 (a1 + v28_1)) < (a0.length : Int))) (ck (0 ≤ (w64 (a1 + v28_1))) (ck (0 ≤ (w64 (7 * v28_1))) (cond (decide ((w64 (a0.getD ((w64 (a1 + v28_1)).toNat) 0)) > 127)) (impl.GetNum.l0.f a0 a1 k (bits2 .i64 (· ||| ·) v28_0 (w64 ((bits2 .i64 (· &&& ·) (w64 (a0.getD ((w64 (a1 + v28_1)).toNat) 0)) 127) * 2 ^ (min (w64 (7 * v28_1)).toNat 64)))) (w64 (v28_1 + 1))) (cond ((w64 (a0.getD ((w64 (a1 + v28_1)).toNat) 0)) == 0) (cond (decide (v28_1 > 0)) (some (.inl (0, 0, false))) (cond (decide ((bits2 .i64 (· ||| ·) v28_0 (w64 ((bits2 .i64 (· &&& ·) (w64 (a0.getD ((w64 (a1 + v28_1)).toNat) 0)) 127) * 2 ^ (min (w64 (7 * v28_1)).toNat 64)))) > 1000000000)) (some (.inl (0, 0, false))) (some (.inl (bits2 .i64 (· ||| ·) v28_0 (w64 ((bits2 .i64 (· &&& ·) (w64 (a0.getD ((w64 (a1 + v28_1)).toNat) 0)) 127) * 2 ^ (min (w64 (7 * v28_1)).toNat 64))), w64 ((w64 (a1 + v28_1)) + 1), true))))) (cond (decide ((bits2 .i64 (· ||| ·) v28_0 (w64 ((bits2 .i64 (· &&& ·) (w64 (a0.getD ((w64 (a1 + v28_1)).toNat) 0)) 127) * 2 ^ (min (w64 (7 * v28_1)).toNat 64)))) > 1000000000)) (some (.inl (0, 0, false))) (some (.inl (bits2 .i64 (· ||| ·) v28_0 (w64 ((bits2 .i64 (· &&& ·) (w64 (a0.getD ((w64 (a1 + v28_1)).toNat) 0)) 127) * 2 ^ (min (w64 (7 * v28_1)).toNat 64))), w64 ((w64 (a1 + v28_1)) + 1), true)))))))) (some (.inr (())))) (some (.inr (())))
def impl.GetNum.l0.s (a0 : List Int) (a1 : Int) (v28_0 : Int) (v28_1 : Int) : St := mkSt 58 [(0, one (.sl 0 0 a0.length)), (1, one (.int .i64 a1)), (7, one (.int .i64 v28_0)), (8, one (.int .i64 v28_1))] [some ⟨false, .ints .u8 a0⟩]
def impl.GetNum.l0.e0 (a0 : List Int) (a1 : Int) (o : Int × Int × Bool) : St := mkSt 58 [(4, one (.int .i64 o.1)), (5, one (.int .i64 o.2.1)), (6, one (.bool o.2.2))] [some ⟨false, .ints .u8 a0⟩]
def impl.GetNum.l0.e1 (a0 : List Int) (a1 : Int) (o : Unit) : St := mkSt 58 [] [some ⟨false, .ints .u8 a0⟩]
def impl.GetNum.l0.x (a0 : List Int) (a1 : Int) : ((Int × Int × Bool) ⊕ Unit) → AExit × St := Sum.elim (fun o => (.ret, impl.GetNum.l0.e0 a0 a1 o)) (fun o => (.exit 0, impl.GetNum.l0.e1 a0 a1 o))
theorem impl.GetNum.l0.spec (a0 : List Int) (a1 : Int) : ∀ (k : Nat) (v28_0 : Int) (v28_1 : Int) (o : (Int × Int × Bool) ⊕ Unit), impl.GetNum.l0.f a0 a1 k v28_0 v28_1 = some o → LoopSpec Try.prog 1 (loopN Try.f22 0) (impl.GetNum.l0.s a0 a1 v28_0 v28_1) (impl.GetNum.l0.x a0 a1 o).1 (impl.GetNum.l0.x a0 a1 o).2
  | 0, _, _, _, h => by cases h
  | k + 1, v28_0, v28_1, o, h => by
    unfold impl.GetNum.l0.f at h
    rcases br_cases h with ⟨c1, h⟩ | ⟨c1, h⟩
    · rcases br_cases h with ⟨c2, h⟩ | ⟨c2, h⟩
      · obtain ⟨p1, h⟩ := ck_some h
        obtain ⟨p2, h⟩ := ck_some h
        rcases br_cases h with ⟨c3, h⟩ | ⟨c3, h⟩
        · exact .of_step tab mixed [.br true, .br true, .br true, .br true, .br true, .br true, .br true, .br true, .br true] [] [0, 1, 7, 8] [0] (s1 := impl.GetNum.l0.s a0 a1 (bits2 .i64 (· ||| ·) v28_0 (w64 ((bits2 .i64 (· &&& ·) (w64 (a0.getD ((w64 (a1 + v28_1)).toNat) 0)) 127) * 2 ^ (min (w64 (7 * v28_1)).toNat 64)))) (w64 (v28_1 + 1))) (nd c1 (nd c1 (nd c1 (nd c1 (nd c1 (nd c1 (nd c1 (nd c2 (nd p1 (nd (of_decide_eq_true c2) (nd (tn p1 (of_decide_eq_true c2)) (nd p2 (nd c3 trivial))))))))))))) (by kernel_rfl) (impl.GetNum.l0.spec a0 a1 k (bits2 .i64 (· ||| ·) v28_0 (w64 ((bits2 .i64 (· &&& ·) (w64 (a0.getD ((w64 (a1 + v28_1)).toNat) 0)) 127) * 2 ^ (min (w64 (7 * v28_1)).toNat 64)))) (w64 (v28_1 + 1)) _ h)
        · rcases br_cases h with ⟨c4, h⟩ | ⟨c4, h⟩
          · rcases br_cases h with ⟨c5, h⟩ | ⟨c5, h⟩
            · obtain rfl := Option.some.inj h
              exact .of_done tab mixed [.br true, .br true, .br true, .br true, .br true, .br true, .br true, .br true, .br false, .br true, .br true, .br true, .br true, .br true, .br true, .br true] [] [4, 5, 6] [0] rfl (nd c1 (nd c1 (nd c1 (nd c1 (nd c1 (nd c1 (nd c1 (nd c2 (nd p1 (nd (of_decide_eq_true c2) (nd (tn p1 (of_decide_eq_true c2)) (nd p2 (nd c3 (nd c4 (nd c4 (nd c4 (nd c5 (nd c5 (nd c5 (nd tt trivial)))))))))))))))))))) (by kernel_rfl)
            · rcases br_cases h with ⟨c6, h⟩ | ⟨c6, h⟩
              · obtain rfl := Option.some.inj h
                exact .of_done tab mixed [.br true, .br true, .br true, .br true, .br true, .br true, .br true, .br true, .br false, .br true, .br true, .br true, .br false, .br false, .br false, .br true] [] [4, 5, 6] [0] rfl (nd c1 (nd c1 (nd c1 (nd c1 (nd c1 (nd c1 (nd c1 (nd c2 (nd p1 (nd (of_decide_eq_true c2) (nd (tn p1 (of_decide_eq_true c2)) (nd p2 (nd c3 (nd c4 (nd c4 (nd c4 (nd c5 (nd c5 (nd c5 (nd c6 trivial)))))))))))))))))))) (by kernel_rfl)
              · obtain rfl := Option.some.inj h
                exact .of_done tab mixed [.br true, .br true, .br true, .br true, .br true, .br true, .br true, .br true, .br false, .br true, .br true, .br true, .br false, .br false, .br false, .br false] [] [4, 5, 6] [0] rfl (nd c1 (nd c1 (nd c1 (nd c1 (nd c1 (nd c1 (nd c1 (nd c2 (nd p1 (nd (of_decide_eq_true c2) (nd (tn p1 (of_decide_eq_true c2)) (nd p2 (nd c3 (nd c4 (nd c4 (nd c4 (nd c5 (nd c5 (nd c5 (nd c6 trivial)))))))))))))))))))) (by kernel_rfl)
          · rcases br_cases h with ⟨c5, h⟩ | ⟨c5, h⟩
            · obtain rfl := Option.some.inj h
              exact .of_done tab mixed [.br true, .br true, .br true, .br true, .br true, .br true, .br true, .br true, .br false, .br false, .br false, .br false, .br false, .br false, .br false, .br true] [] [4, 5, 6] [0] rfl (nd c1 (nd c1 (nd c1 (nd c1 (nd c1 (nd c1 (nd c1 (nd c2 (nd p1 (nd (of_decide_eq_true c2) (nd (tn p1 (of_decide_eq_true c2)) (nd p2 (nd c3 (nd c4 (nd c4 (nd c4 (nd ff (nd ff (nd ff (nd c5 trivial)))))))))))))))))))) (by kernel_rfl)
            · obtain rfl := Option.some.inj h
              exact .of_done tab mixed [.br true, .br true, .br true, .br true, .br true, .br true, .br true, .br true, .br false, .br false, .br false, .br false, .br false, .br false, .br false, .br false] [] [4, 5, 6] [0] rfl (nd c1 (nd c1 (nd c1 (nd c1 (nd c1 (nd c1 (nd c1 (nd c2 (nd p1 (nd (of_decide_eq_true c2) (nd (tn p1 (of_decide_eq_true c2)) (nd p2 (nd c3 (nd c4 (nd c4 (nd c4 (nd ff (nd ff (nd ff (nd c5 trivial)))))))))))))))))))) (by kernel_rfl)
      · obtain rfl := Option.some.inj h
        exact .of_done tab mixed [.br true, .br true, .br true, .br true, .br true, .br true, .br true, .br false] [] [] [0] rfl (nd c1 (nd c1 (nd c1 (nd c1 (nd c1 (nd c1 (nd c1 (nd c2 trivial)))))))) (by kernel_rfl)
    · obtain rfl := Option.some.inj h
      exact .of_done tab mixed [.br false, .br false, .br false, .br false, .br false, .br false, .br false, .br false] [] [] [0] rfl (nd c1 (nd c1 (nd c1 (nd c1 (nd c1 (nd c1 (nd c1 (nd ff trivial)))))))) (by kernel_rfl)
def impl.GetNum.f (K : Nat) (a0 : List Int) (a1 : Int) : Option (Int × Int × Bool) :=
  Option.bind (impl.in_.f a1 0 (a0.length : Int)) fun x1 => cond (x1) (Option.bind (impl.GetNum.l0.f a0 a1 K 0 0) fun x2 => (Sum.elim (fun x2 => some (x2.1, x2.2.1, x2.2.2)) (fun x2 => some (0, 0, false))) x2) (some (0, 0, false))
theorem impl.GetNum.spec (K : Nat) (a0 : List Int) (a1 : Int) (o : Int × Int × Bool) (h : impl.GetNum.f K a0 a1 = some o) : Den.Spec Try.prog 22 [one (.sl 0 0 a0.length), one (.int .i64 a1)] [some ⟨false, .ints .u8 a0⟩] (.tup [.c (.int .i64 o.1), .c (.int .i64 o.2.1), .c (.bool o.2.2)]) [some ⟨false, .ints .u8 a0⟩] := by
  unfold impl.GetNum.f at h
  obtain ⟨x1, e1, h⟩ := bind_some h
  rcases br_cases h with ⟨c1, h⟩ | ⟨c1, h⟩
  · obtain ⟨x2, e2, h⟩ := bind_some h
    rcases x2 with x2 | x2
    · obtain rfl := Option.some.inj h
      exact Den.Spec.of_walk tab mixed Try.func22 (by kernel_rfl) [.call [] [] (one (.bool x1)) [], .br false, .loop [] [0, 1, 7, 8] [0] (.ret) (impl.GetNum.l0.e0 a0 a1 x2)] [] [0] (nd (impl.in_.spec a1 0 (a0.length : Int) _ e1) (nd (nf c1) (nd (impl.GetNum.l0.spec a0 a1 K 0 0 _ e2) trivial))) (by kernel_rfl)
    · obtain rfl := Option.some.inj h
      exact Den.Spec.of_walk tab mixed Try.func22 (by kernel_rfl) [.call [] [] (one (.bool x1)) [], .br false, .loop [] [0, 1, 7, 8] [0] (.exit 0) (impl.GetNum.l0.e1 a0 a1 x2)] [] [0] (nd (impl.in_.spec a1 0 (a0.length : Int) _ e1) (nd (nf c1) (nd (impl.GetNum.l0.spec a0 a1 K 0 0 _ e2) trivial))) (by kernel_rfl)
  · obtain rfl := Option.some.inj h
    exact Den.Spec.of_walk tab mixed Try.func22 (by kernel_rfl) [.call [] [] (one (.bool x1)) [], .br true] [] [0] (nd (impl.in_.spec a1 0 (a0.length : Int) _ e1) (nd (nt c1) trivial)) (by kernel_rfl)
def impl.reader.number.f (K : Nat) (a0 : List Int) (a1 : Int) (a2 : Bool) : Option (Int × Int × Bool) :=
  Option.bind (impl.GetNum.f K a0 a1) fun x1 => cond (a2) (some (0, a1, true)) (cond (x1.2.2) (some (x1.1, x1.2.1, a2)) (some (0, a1, true)))
theorem impl.reader.number.spec (K : Nat) (a0 : List Int) (a1 : Int) (a2 : Bool) (o : Int × Int × Bool) (h : impl.reader.number.f K a0 a1 a2 = some o) : Den.Spec Try.prog 82 [one (.ptr 0 0 0)] [some ⟨true, .cells [.sl 1 0 a0.length, .int .i64 a1, .bool a2]⟩, some ⟨true, .ints .u8 a0⟩] (one (.int .i64 o.1)) [some ⟨true, .cells [.sl 1 0 a0.length, .int .i64 o.2.1, .bool o.2.2]⟩, some ⟨true, .ints .u8 a0⟩] := by
  unfold impl.reader.number.f at h
  obtain ⟨x1, e1, h⟩ := bind_some h
  rcases br_cases h with ⟨c1, h⟩ | ⟨c1, h⟩
  · obtain rfl := Option.some.inj h
    exact Den.Spec.of_walk tab mixed Try.func82 (by kernel_rfl) [.call [] [(0, true)] (.tup [.c (.int .i64 x1.1), .c (.int .i64 x1.2.1), .c (.bool x1.2.2)]) [some ⟨false, .ints .u8 a0⟩], .br true, .br true, .br true, .br true] [] [0, 1] (nd (impl.GetNum.spec K a0 a1 _ e1) (nd (rfl : (0 : Nat) = 0) (nd (rfl : a0.length = a0.length) (nd c1 (nd c1 (nd c1 (nd tt trivial))))))) (by kernel_rfl)
  · rcases br_cases h with ⟨c2, h⟩ | ⟨c2, h⟩
    · obtain rfl := Option.some.inj h
      exact Den.Spec.of_walk tab mixed Try.func82 (by kernel_rfl) [.call [] [(0, true)] (.tup [.c (.int .i64 x1.1), .c (.int .i64 x1.2.1), .c (.bool x1.2.2)]) [some ⟨false, .ints .u8 a0⟩], .br false, .br false, .br false, .br false] [] [0, 1] (nd (impl.GetNum.spec K a0 a1 _ e1) (nd (rfl : (0 : Nat) = 0) (nd (rfl : a0.length = a0.length) (nd c1 (nd c1 (nd c1 (nd (nf c2) trivial))))))) (by kernel_rfl)
    · obtain rfl := Option.some.inj h
      exact Den.Spec.of_walk tab mixed Try.func82 (by kernel_rfl) [.call [] [(0, true)] (.tup [.c (.int .i64 x1.1), .c (.int .i64 x1.2.1), .c (.bool x1.2.2)]) [some ⟨false, .ints .u8 a0⟩], .br false, .br false, .br false, .br true] [] [0, 1] (nd (impl.GetNum.spec K a0 a1 _ e1) (nd (rfl : (0 : Nat) = 0) (nd (rfl : a0.length = a0.length) (nd c1 (nd c1 (nd c1 (nd (nt c2) trivial))))))) (by kernel_rfl)
def impl.Sum.l0.f (a0 : List Int) : Nat → Int → Int → Option (Int)
  | 0, _, _ => none
  | k + 1, v32_0, v32_1 =>
    cond (decide (v32_1 < (a0.length : Int))) (ck (0 ≤ v32_1) (impl.Sum.l0.f a0 k ((w64 ((w64 (31 * v32_0)) + (w64 (a0.getD v32_1.toNat 0)))).tmod 1000003) (w64 (v32_1 + 1)))) (some v32_0)
def impl.Sum.l0.s (a0 : List Int) (v32_0 : Int) (v32_1 : Int) : St := mkSt 20 [(3, one (.int .i64 v32_0)), (6, one (.sl 0 0 a0.length)), (7, one (.int .i64 (a0.length : Int))), (8, one (.int .i64 v32_1))] [some ⟨false, .ints .u8 a0⟩]
def impl.Sum.l0.e0 (a0 : List Int) (o : Int) : St := mkSt 20 [(3, one (.int .i64 o))] [some ⟨false, .ints .u8 a0⟩]
def impl.Sum.l0.x (a0 : List Int) : (Int) → AExit × St := fun o => (.exit 0, impl.Sum.l0.e0 a0 o)
theorem impl.Sum.l0.spec (a0 : List Int) : ∀ (k : Nat) (v32_0 : Int) (v32_1 : Int) (o : Int), impl.Sum.l0.f a0 k v32_0 v32_1 = some o → LoopSpec Try.prog 1 (loopN Try.f33 0) (impl.Sum.l0.s a0 v32_0 v32_1) (impl.Sum.l0.x a0 o).1 (impl.Sum.l0.x a0 o).2
  | 0, _, _, _, h => by cases h
  | k + 1, v32_0, v32_1, o, h => by
    unfold impl.Sum.l0.f at h
    rcases br_cases h with ⟨c1, h⟩ | ⟨c1, h⟩
    · obtain ⟨p1, h⟩ := ck_some h
      exact .of_step tab mixed [.br true] [] [3, 6, 7, 8] [0] (s1 := impl.Sum.l0.s a0 ((w64 ((w64 (31 * v32_0)) + (w64 (a0.getD v32_1.toNat 0)))).tmod 1000003) (w64 (v32_1 + 1))) (nd c1 (nd p1 (nd (of_decide_eq_true c1) (nd (tn p1 (of_decide_eq_true c1)) (nd (by decide : (1000003 : Int) ≠ 0) trivial))))) (by kernel_rfl) (impl.Sum.l0.spec a0 k ((w64 ((w64 (31 * v32_0)) + (w64 (a0.getD v32_1.toNat 0)))).tmod 1000003) (w64 (v32_1 + 1)) _ h)
    · obtain rfl := Option.some.inj h
      exact .of_done tab mixed [.br false] [] [3] [0] rfl (nd c1 trivial) (by kernel_rfl)
def impl.Sum.f (K : Nat) (a0 : List Int) : Option (Int) :=
  Option.bind (impl.Sum.l0.f a0 K 7 0) fun x1 => some x1
theorem impl.Sum.spec (K : Nat) (a0 : List Int) (o : Int) (h : impl.Sum.f K a0 = some o) : Den.Spec Try.prog 33 [one (.sl 0 0 a0.length)] [some ⟨false, .ints .u8 a0⟩] (one (.int .i64 o)) [some ⟨false, .ints .u8 a0⟩] := by
  unfold impl.Sum.f at h
  obtain ⟨x1, e1, h⟩ := bind_some h
  obtain rfl := Option.some.inj h
  exact Den.Spec.of_walk tab mixed Try.func33 (by kernel_rfl) [.loop [] [3, 6, 7, 8] [0] (.exit 0) (impl.Sum.l0.e0 a0 x1)] [] [0] (nd (impl.Sum.l0.spec a0 K 7 0 _ e1) trivial) (by kernel_rfl)
def impl.unsummed.f (K : Nat) (a0 : ByteArray) : Option (Int × Bool) :=
  Option.bind (impl.reader.number.f K (bytesL a0) 0 false) fun x1 => cond (x1.2.2) (some (x1.2.1, true)) (ck (0 ≤ x1.2.1) (ck (x1.2.1 ≤ ((bytesL a0).length : Int)) (Option.bind (impl.Sum.f K (((bytesL a0).drop x1.2.1.toNat).take ((bytesL a0).length - x1.2.1.toNat))) fun x2 => ck (x1.2.1.toNat + ((bytesL a0).length - x1.2.1.toNat) ≤ (bytesL a0).length) (some (x1.2.1, x1.1 != x2)))))
theorem impl.unsummed.spec (K : Nat) (a0 : ByteArray) (o : Int × Bool) (h : impl.unsummed.f K a0 = some o) : Den.Spec Try.prog 81 [one (.str a0)] [] (one (.ptr 0 0 0)) [some ⟨true, .cells [.sl 1 0 ((bytesL a0).length), .int .i64 o.1, .bool o.2]⟩, some ⟨true, .ints .u8 (bytesL a0)⟩] := by
  unfold impl.unsummed.f at h
  obtain ⟨x1, e1, h⟩ := bind_some h
  rcases br_cases h with ⟨c1, h⟩ | ⟨c1, h⟩
  · obtain rfl := Option.some.inj h
    exact Den.Spec.of_walk tab mixed Try.func81 (by kernel_rfl) [.call [(1, true), (0, true)] [] (one (.int .i64 x1.1)) [some ⟨true, .cells [.sl 1 0 ((bytesL a0).length), .int .i64 x1.2.1, .bool x1.2.2]⟩, some ⟨true, .ints .u8 (bytesL a0)⟩], .br true, .br true, .br true, .br true, .br true, .br true, .br true, .br true, .br true, .br true, .br true, .br true, .br true] [] [1, 0] (nd (impl.reader.number.spec K (bytesL a0) 0 false _ e1) (nd c1 (nd c1 (nd c1 (nd c1 (nd c1 (nd c1 (nd c1 (nd c1 (nd c1 (nd c1 (nd c1 (nd c1 (nd c1 trivial)))))))))))))) (by kernel_rfl)
  · obtain ⟨p1, h⟩ := ck_some h
    obtain ⟨p2, h⟩ := ck_some h
    obtain ⟨x2, e2, h⟩ := bind_some h
    obtain ⟨p3, h⟩ := ck_some h
    obtain rfl := Option.some.inj h
    exact Den.Spec.of_walk tab mixed Try.func81 (by kernel_rfl) [.call [(1, true), (0, true)] [] (one (.int .i64 x1.1)) [some ⟨true, .cells [.sl 1 0 ((bytesL a0).length), .int .i64 x1.2.1, .bool x1.2.2]⟩, some ⟨true, .ints .u8 (bytesL a0)⟩], .br false, .br false, .br false, .br false, .br false, .br false, .br false, .br false, .br false, .br false, .br false, .call [] [(0, false)] (one (.int .i64 x2)) [some ⟨false, .ints .u8 (((bytesL a0).drop x1.2.1.toNat).take ((bytesL a0).length - x1.2.1.toNat))⟩], .br false, .br false] [] [1, 0] (nd (impl.reader.number.spec K (bytesL a0) 0 false _ e1) (nd c1 (nd c1 (nd c1 (nd c1 (nd c1 (nd c1 (nd c1 (nd c1 (nd c1 (nd c1 (nd p1 (nd p2 (nd (Int.le_refl ((bytesL a0).length : Int)) (nd c1 (nd ((impl.Sum.spec K (((bytesL a0).drop x1.2.1.toNat).take ((bytesL a0).length - x1.2.1.toNat)) _ e2).args (congrArg (fun n => ([one (.sl 0 0 n)] : List AV)) (win_len p3))) (nd c1 (nd c1 trivial)))))))))))))))))) (by kernel_rfl)
def impl.GetText.f (K : Nat) (a0 : List Int) (a1 : Int) : Option (ByteArray × Int × Bool) :=
  Option.bind (impl.GetNum.f K a0 a1) fun x1 => cond (x1.2.2) (cond (decide (x1.1 > 400)) (some (noVal, 0, false)) (cond (decide (x1.1 > (w64 ((a0.length : Int) - x1.2.1)))) (some (noVal, 0, false)) (ck (0 ≤ x1.2.1) (ck (x1.2.1 ≤ (w64 (x1.2.1 + x1.1))) (ck ((w64 (x1.2.1 + x1.1)) ≤ (a0.length : Int)) (ck (x1.2.1.toNat + ((w64 (x1.2.1 + x1.1)).toNat - x1.2.1.toNat) ≤ a0.length) (some (ofBytes ((a0.drop x1.2.1.toNat).take ((w64 (x1.2.1 + x1.1)).toNat - x1.2.1.toNat)), w64 (x1.2.1 + x1.1), true)))))))) (some (noVal, 0, false))
theorem impl.GetText.spec (K : Nat) (a0 : List Int) (a1 : Int) (o : ByteArray × Int × Bool) (h : impl.GetText.f K a0 a1 = some o) : Den.Spec Try.prog 28 [one (.sl 0 0 a0.length), one (.int .i64 a1)] [some ⟨false, .ints .u8 a0⟩] (.tup [.c (.str o.1), .c (.int .i64 o.2.1), .c (.bool o.2.2)]) [some ⟨false, .ints .u8 a0⟩] := by
  unfold impl.GetText.f at h
  obtain ⟨x1, e1, h⟩ := bind_some h
  rcases br_cases h with ⟨c1, h⟩ | ⟨c1, h⟩
  · rcases br_cases h with ⟨c2, h⟩ | ⟨c2, h⟩
    · obtain rfl := Option.some.inj h
      exact Den.Spec.of_walk tab mixed Try.func28 (by kernel_rfl) [.call [] [(0, true)] (.tup [.c (.int .i64 x1.1), .c (.int .i64 x1.2.1), .c (.bool x1.2.2)]) [some ⟨false, .ints .u8 a0⟩], .br false, .br false, .br false, .br true, .br true, .br true, .br true, .br true, .br true, .br true, .br true] [] [0] (nd (impl.GetNum.spec K a0 a1 _ e1) (nd (rfl : (0 : Nat) = 0) (nd (rfl : a0.length = a0.length) (nd (nf c1) (nd (nf c1) (nd (nf c1) (nd c2 (nd c2 (nd c2 (nd c2 (nd c2 (nd c2 (nd c2 (nd tt trivial)))))))))))))) (by kernel_rfl)
    · rcases br_cases h with ⟨c3, h⟩ | ⟨c3, h⟩
      · obtain rfl := Option.some.inj h
        exact Den.Spec.of_walk tab mixed Try.func28 (by kernel_rfl) [.call [] [(0, true)] (.tup [.c (.int .i64 x1.1), .c (.int .i64 x1.2.1), .c (.bool x1.2.2)]) [some ⟨false, .ints .u8 a0⟩], .br false, .br false, .br false, .br false, .br false, .br false, .br false, .br false, .br false, .br false, .br true] [] [0] (nd (impl.GetNum.spec K a0 a1 _ e1) (nd (rfl : (0 : Nat) = 0) (nd (rfl : a0.length = a0.length) (nd (nf c1) (nd (nf c1) (nd (nf c1) (nd c2 (nd c2 (nd c2 (nd c2 (nd c2 (nd c2 (nd c2 (nd c3 trivial)))))))))))))) (by kernel_rfl)
      · obtain ⟨p1, h⟩ := ck_some h
        obtain ⟨p2, h⟩ := ck_some h
        obtain ⟨p3, h⟩ := ck_some h
        obtain ⟨p4, h⟩ := ck_some h
        obtain rfl := Option.some.inj h
        exact Den.Spec.of_walk tab mixed Try.func28 (by kernel_rfl) [.call [] [(0, true)] (.tup [.c (.int .i64 x1.1), .c (.int .i64 x1.2.1), .c (.bool x1.2.2)]) [some ⟨false, .ints .u8 a0⟩], .br false, .br false, .br false, .br false, .br false, .br false, .br false, .br false, .br false, .br false, .br false, .br false] [] [0] (nd (impl.GetNum.spec K a0 a1 _ e1) (nd (rfl : (0 : Nat) = 0) (nd (rfl : a0.length = a0.length) (nd (nf c1) (nd (nf c1) (nd (nf c1) (nd c2 (nd c2 (nd c2 (nd c2 (nd c2 (nd c2 (nd c2 (nd c3 (nd p1 (nd p2 (nd p3 (nd p4 trivial)))))))))))))))))) (by kernel_rfl)
  · obtain rfl := Option.some.inj h
    exact Den.Spec.of_walk tab mixed Try.func28 (by kernel_rfl) [.call [] [(0, true)] (.tup [.c (.int .i64 x1.1), .c (.int .i64 x1.2.1), .c (.bool x1.2.2)]) [some ⟨false, .ints .u8 a0⟩], .br true, .br true, .br true, .br true, .br true, .br true, .br true, .br true, .br true, .br true, .br true] [] [0] (nd (impl.GetNum.spec K a0 a1 _ e1) (nd (rfl : (0 : Nat) = 0) (nd (rfl : a0.length = a0.length) (nd (nt c1) (nd (nt c1) (nd (nt c1) (nd tt (nd tt (nd tt (nd tt (nd tt (nd tt (nd tt (nd tt trivial)))))))))))))) (by kernel_rfl)
def impl.reader.text.f (K : Nat) (a0 : List Int) (a1 : Int) (a2 : Bool) : Option (ByteArray × Int × Bool) :=
  Option.bind (impl.GetText.f K a0 a1) fun x1 => cond (a2) (some (noVal, a1, true)) (cond (x1.2.2) (some (x1.1, x1.2.1, a2)) (some (noVal, a1, true)))
theorem impl.reader.text.spec (K : Nat) (a0 : List Int) (a1 : Int) (a2 : Bool) (o : ByteArray × Int × Bool) (h : impl.reader.text.f K a0 a1 a2 = some o) : Den.Spec Try.prog 83 [one (.ptr 0 0 0)] [some ⟨true, .cells [.sl 1 0 a0.length, .int .i64 a1, .bool a2]⟩, some ⟨true, .ints .u8 a0⟩] (one (.str o.1)) [some ⟨true, .cells [.sl 1 0 a0.length, .int .i64 o.2.1, .bool o.2.2]⟩, some ⟨true, .ints .u8 a0⟩] := by
  unfold impl.reader.text.f at h
  obtain ⟨x1, e1, h⟩ := bind_some h
  rcases br_cases h with ⟨c1, h⟩ | ⟨c1, h⟩
  · obtain rfl := Option.some.inj h
    exact Den.Spec.of_walk tab mixed Try.func83 (by kernel_rfl) [.call [] [(0, true)] (.tup [.c (.str x1.1), .c (.int .i64 x1.2.1), .c (.bool x1.2.2)]) [some ⟨false, .ints .u8 a0⟩], .br true, .br true, .br true, .br true] [] [0, 1] (nd (impl.GetText.spec K a0 a1 _ e1) (nd (rfl : (0 : Nat) = 0) (nd (rfl : a0.length = a0.length) (nd c1 (nd c1 (nd c1 (nd tt trivial))))))) (by kernel_rfl)
  · rcases br_cases h with ⟨c2, h⟩ | ⟨c2, h⟩
    · obtain rfl := Option.some.inj h
      exact Den.Spec.of_walk tab mixed Try.func83 (by kernel_rfl) [.call [] [(0, true)] (.tup [.c (.str x1.1), .c (.int .i64 x1.2.1), .c (.bool x1.2.2)]) [some ⟨false, .ints .u8 a0⟩], .br false, .br false, .br false, .br false] [] [0, 1] (nd (impl.GetText.spec K a0 a1 _ e1) (nd (rfl : (0 : Nat) = 0) (nd (rfl : a0.length = a0.length) (nd c1 (nd c1 (nd c1 (nd (nf c2) trivial))))))) (by kernel_rfl)
    · obtain rfl := Option.some.inj h
      exact Den.Spec.of_walk tab mixed Try.func83 (by kernel_rfl) [.call [] [(0, true)] (.tup [.c (.str x1.1), .c (.int .i64 x1.2.1), .c (.bool x1.2.2)]) [some ⟨false, .ints .u8 a0⟩], .br false, .br false, .br false, .br true] [] [0, 1] (nd (impl.GetText.spec K a0 a1 _ e1) (nd (rfl : (0 : Nat) = 0) (nd (rfl : a0.length = a0.length) (nd c1 (nd c1 (nd c1 (nd (nt c2) trivial))))))) (by kernel_rfl)
def impl.LogRead.l0.f (K : Nat) (a0 : ByteArray) : Nat → Int → Bool → (List (Int × ByteArray)) → Int → Option (Int × Bool × (List (Int × ByteArray)))
  | 0, _, _, _, _ => none
  | k + 1, v58_0, v58_1, v58_2, v58_3 =>
    cond (decide (v58_3 > 0)) (cond (v58_1) (some (v58_0, v58_1, v58_2)) (Option.bind (impl.reader.number.f K (bytesL a0) v58_0 v58_1) fun x1 => Option.bind (impl.reader.text.f K (bytesL a0) x1.2.1 x1.2.2) fun x2 => ck ((v58_2 ++ [(x1.1, x2.1)]).length * 24 ≤ 70368744177664) (impl.LogRead.l0.f K a0 k x2.2.1 x2.2.2 (v58_2 ++ [(x1.1, x2.1)]) (w64 (v58_3 - 1))))) (some (v58_0, v58_1, v58_2))
def impl.LogRead.l0.s (K : Nat) (a0 : ByteArray) (v58_0 : Int) (v58_1 : Bool) (v58_2 : List (Int × ByteArray)) (v58_3 : Int) : St := mkSt 48 [(0, one (.str a0)), (4, one (.ptr 0 0 0)), (5, one (.sl 2 0 v58_2.length)), (6, one (.int .i64 v58_3))] [some ⟨true, .cells [.sl 1 0 ((bytesL a0).length), .int .i64 v58_0, .bool v58_1]⟩, some ⟨true, .ints .u8 (bytesL a0)⟩, some ⟨true, .puts v58_2⟩]
def impl.LogRead.l0.e0 (K : Nat) (a0 : ByteArray) (o : Int × Bool × (List (Int × ByteArray))) : St := mkSt 48 [(0, one (.str a0)), (4, one (.ptr 0 0 0)), (5, one (.sl 2 0 o.2.2.length))] [some ⟨true, .cells [.sl 1 0 ((bytesL a0).length), .int .i64 o.1, .bool o.2.1]⟩, some ⟨true, .ints .u8 (bytesL a0)⟩, some ⟨true, .puts o.2.2⟩]
def impl.LogRead.l0.x (K : Nat) (a0 : ByteArray) : (Int × Bool × (List (Int × ByteArray))) → AExit × St := fun o => (.exit 0, impl.LogRead.l0.e0 K a0 o)
theorem impl.LogRead.l0.spec (K : Nat) (a0 : ByteArray) : ∀ (k : Nat) (v58_0 : Int) (v58_1 : Bool) (v58_2 : List (Int × ByteArray)) (v58_3 : Int) (o : Int × Bool × (List (Int × ByteArray))), impl.LogRead.l0.f K a0 k v58_0 v58_1 v58_2 v58_3 = some o → LoopSpec Try.prog 0 (loopN Try.f46 0) (impl.LogRead.l0.s K a0 v58_0 v58_1 v58_2 v58_3) (impl.LogRead.l0.x K a0 o).1 (impl.LogRead.l0.x K a0 o).2
  | 0, _, _, _, _, _, h => by cases h
  | k + 1, v58_0, v58_1, v58_2, v58_3, o, h => by
    unfold impl.LogRead.l0.f at h
    rcases br_cases h with ⟨c1, h⟩ | ⟨c1, h⟩
    · rcases br_cases h with ⟨c2, h⟩ | ⟨c2, h⟩
      · obtain rfl := Option.some.inj h
        exact .of_done tab mixed [.br true, .br true, .br true, .br true, .br true, .br true, .br false] [] [0, 4, 5] [0, 1, 2] rfl (nd c1 (nd c1 (nd c1 (nd c1 (nd c1 (nd c1 (nd (nf c2) trivial))))))) (by kernel_rfl)
      · obtain ⟨x1, e1, h⟩ := bind_some h
        obtain ⟨x2, e2, h⟩ := bind_some h
        obtain ⟨p1, h⟩ := ck_some h
        exact .of_step tab mixed [.br true, .br true, .br true, .br true, .br true, .br true, .br true, .call [(0, true), (1, true)] [] (one (.int .i64 x1.1)) [some ⟨true, .cells [.sl 1 0 ((bytesL a0).length), .int .i64 x1.2.1, .bool x1.2.2]⟩, some ⟨true, .ints .u8 (bytesL a0)⟩], .call [(0, true), (1, true)] [] (one (.str x2.1)) [some ⟨true, .cells [.sl 1 0 ((bytesL a0).length), .int .i64 x2.2.1, .bool x2.2.2]⟩, some ⟨true, .ints .u8 (bytesL a0)⟩], .br true] [] [0, 4, 5, 6] [0, 1, 5] (s1 := impl.LogRead.l0.s K a0 x2.2.1 x2.2.2 (v58_2 ++ [(x1.1, x2.1)]) (w64 (v58_3 - 1))) (nd c1 (nd c1 (nd c1 (nd c1 (nd c1 (nd c1 (nd (nt c2) (nd (impl.reader.number.spec K (bytesL a0) v58_0 v58_1 _ e1) (nd (impl.reader.text.spec K (bytesL a0) x1.2.1 x1.2.2 _ e2) (nd (rfl : (0 : Nat) = 0) (nd (rfl : v58_2.length = v58_2.length) (nd p1 (nd (rfl : (0 : Nat) = 0) (nd (rfl : 1 = 1) trivial)))))))))))))) (by kernel_rfl) (impl.LogRead.l0.spec K a0 k x2.2.1 x2.2.2 (v58_2 ++ [(x1.1, x2.1)]) (w64 (v58_3 - 1)) _ h)
    · obtain rfl := Option.some.inj h
      exact .of_done tab mixed [.br false, .br false, .br false, .br false, .br false, .br false, .br false] [] [0, 4, 5] [0, 1, 2] rfl (nd c1 (nd c1 (nd c1 (nd c1 (nd c1 (nd c1 (nd ff trivial))))))) (by kernel_rfl)
def impl.reader.done.f (a0 : List Int) (a1 : Int) (a2 : Bool) : Option (Bool) :=
  cond (a2) (some false) (some (a1 == (a0.length : Int)))
theorem impl.reader.done.spec (a0 : List Int) (a1 : Int) (a2 : Bool) (o : Bool) (h : impl.reader.done.f a0 a1 a2 = some o) : Den.Spec Try.prog 84 [one (.ptr 0 0 0)] [some ⟨false, .cells [.sl 1 0 a0.length, .int .i64 a1, .bool a2]⟩, some ⟨false, .ints .u8 a0⟩] (one (.bool o)) [some ⟨false, .cells [.sl 1 0 a0.length, .int .i64 a1, .bool a2]⟩, some ⟨false, .ints .u8 a0⟩] := by
  unfold impl.reader.done.f at h
  rcases br_cases h with ⟨c1, h⟩ | ⟨c1, h⟩
  · obtain rfl := Option.some.inj h
    exact Den.Spec.of_walk tab mixed Try.func84 (by kernel_rfl) [.br false, .br false, .br false, .br false, .br false, .br false, .br false, .br false, .br false, .br false, .br false] [] [0, 1] (nd (nf c1) (nd (nf c1) (nd (nf c1) (nd (nf c1) (nd (nf c1) (nd (nf c1) (nd (nf c1) (nd (nf c1) (nd (nf c1) (nd (nf c1) (nd (nf c1) trivial))))))))))) (by kernel_rfl)
  · obtain rfl := Option.some.inj h
    exact Den.Spec.of_walk tab mixed Try.func84 (by kernel_rfl) [.br true, .br true, .br true, .br true, .br true, .br true, .br true, .br true, .br true, .br true, .br true] [] [0, 1] (nd (nt c1) (nd (nt c1) (nd (nt c1) (nd (nt c1) (nd (nt c1) (nd (nt c1) (nd (nt c1) (nd (nt c1) (nd (nt c1) (nd (nt c1) (nd (nt c1) trivial))))))))))) (by kernel_rfl)
def impl.isBatch_1.f (a0 : Int) (a1 : ByteArray) (a2 : Int) (a3 : ByteArray) : Option (Unit) :=
  some ()
theorem impl.isBatch_1.spec (a0 : Int) (a1 : ByteArray) (a2 : Int) (a3 : ByteArray) (o : Unit) (h : impl.isBatch_1.f a0 a1 a2 a3 = some o) : Den.Spec Try.prog 123 [.v (.agg [.int .i64 a0, .str a1]), one (.ptr 0 0 0)] [some ⟨false, .cells [.int .i64 a2, .str a3]⟩] (one (.bool (a0 == a2))) [some ⟨false, .cells [.int .i64 a2, .str a3]⟩] := by
  unfold impl.isBatch_1.f at h
  obtain rfl := Option.some.inj h
  exact Den.Spec.of_walk tab mixed Try.func123 (by kernel_rfl) [] [] [0] trivial (by kernel_rfl)
def slices.IndexFunc_impl.Put_impl.Put.l0.f (a0 : List (Int × ByteArray)) (a1 : Int) (a2 : ByteArray) : Nat → Int → Option (Int ⊕ Unit)
  | 0, _ => none
  | k + 1, v42_0 =>
    cond (decide (v42_0 < (a0.length : Int))) (ck (0 ≤ v42_0) (Option.bind (impl.isBatch_1.f ((a0.getD v42_0.toNat (0, noVal)).1) ((a0.getD v42_0.toNat (0, noVal)).2) a1 a2) fun x1 => cond (((a0.getD v42_0.toNat (0, noVal)).1) == a1) (some (.inl v42_0)) (slices.IndexFunc_impl.Put_impl.Put.l0.f a0 a1 a2 k (w64 (v42_0 + 1))))) (some (.inr (())))
def slices.IndexFunc_impl.Put_impl.Put.l0.s (a0 : List (Int × ByteArray)) (a1 : Int) (a2 : ByteArray) (v42_0 : Int) : St := mkSt 19 [(0, one (.sl 1 0 a0.length)), (1, one (.fn 123 [(0, 0, 0)])), (7, one (.int .i64 (a0.length : Int))), (8, one (.int .i64 v42_0))] [some ⟨false, .cells [.int .i64 a1, .str a2]⟩, some ⟨false, .puts a0⟩]
def slices.IndexFunc_impl.Put_impl.Put.l0.e0 (a0 : List (Int × ByteArray)) (a1 : Int) (a2 : ByteArray) (o : Int) : St := mkSt 19 [(4, one (.int .i64 o))] [some ⟨false, .cells [.int .i64 a1, .str a2]⟩, some ⟨false, .puts a0⟩]
def slices.IndexFunc_impl.Put_impl.Put.l0.e1 (a0 : List (Int × ByteArray)) (a1 : Int) (a2 : ByteArray) (o : Unit) : St := mkSt 19 [] [some ⟨false, .cells [.int .i64 a1, .str a2]⟩, some ⟨false, .puts a0⟩]
def slices.IndexFunc_impl.Put_impl.Put.l0.x (a0 : List (Int × ByteArray)) (a1 : Int) (a2 : ByteArray) : (Int ⊕ Unit) → AExit × St := Sum.elim (fun o => (.ret, slices.IndexFunc_impl.Put_impl.Put.l0.e0 a0 a1 a2 o)) (fun o => (.exit 0, slices.IndexFunc_impl.Put_impl.Put.l0.e1 a0 a1 a2 o))
theorem slices.IndexFunc_impl.Put_impl.Put.l0.spec (a0 : List (Int × ByteArray)) (a1 : Int) (a2 : ByteArray) : ∀ (k : Nat) (v42_0 : Int) (o : Int ⊕ Unit), slices.IndexFunc_impl.Put_impl.Put.l0.f a0 a1 a2 k v42_0 = some o → LoopSpec Try.prog 2 (loopN Try.f129 0) (slices.IndexFunc_impl.Put_impl.Put.l0.s a0 a1 a2 v42_0) (slices.IndexFunc_impl.Put_impl.Put.l0.x a0 a1 a2 o).1 (slices.IndexFunc_impl.Put_impl.Put.l0.x a0 a1 a2 o).2
  | 0, _, _, h => by cases h
  | k + 1, v42_0, o, h => by
    unfold slices.IndexFunc_impl.Put_impl.Put.l0.f at h
    rcases br_cases h with ⟨c1, h⟩ | ⟨c1, h⟩
    · obtain ⟨p1, h⟩ := ck_some h
      obtain ⟨x1, e1, h⟩ := bind_some h
      rcases br_cases h with ⟨c2, h⟩ | ⟨c2, h⟩
      · obtain rfl := Option.some.inj h
        exact .of_done tab mixed [.br true, .call [(0, false)] [] (one (.bool (((a0.getD v42_0.toNat (0, noVal)).1) == a1))) [some ⟨false, .cells [.int .i64 a1, .str a2]⟩], .br true] [] [4] [0, 1] rfl (nd c1 (nd p1 (nd (of_decide_eq_true c1) (nd (tn p1 (of_decide_eq_true c1)) (nd (impl.isBatch_1.spec ((a0.getD v42_0.toNat (0, noVal)).1) ((a0.getD v42_0.toNat (0, noVal)).2) a1 a2 _ e1) (nd c2 trivial)))))) (by kernel_rfl)
      · exact .of_step tab mixed [.br true, .call [(0, false)] [] (one (.bool (((a0.getD v42_0.toNat (0, noVal)).1) == a1))) [some ⟨false, .cells [.int .i64 a1, .str a2]⟩], .br false] [] [0, 1, 7, 8] [0, 1] (s1 := slices.IndexFunc_impl.Put_impl.Put.l0.s a0 a1 a2 (w64 (v42_0 + 1))) (nd c1 (nd p1 (nd (of_decide_eq_true c1) (nd (tn p1 (of_decide_eq_true c1)) (nd (impl.isBatch_1.spec ((a0.getD v42_0.toNat (0, noVal)).1) ((a0.getD v42_0.toNat (0, noVal)).2) a1 a2 _ e1) (nd c2 trivial)))))) (by kernel_rfl) (slices.IndexFunc_impl.Put_impl.Put.l0.spec a0 a1 a2 k (w64 (v42_0 + 1)) _ h)
    · obtain rfl := Option.some.inj h
      exact .of_done tab mixed [.br false] [] [] [0, 1] rfl (nd c1 trivial) (by kernel_rfl)
def slices.IndexFunc_impl.Put_impl.Put.f (K : Nat) (a0 : List (Int × ByteArray)) (a1 : Int) (a2 : ByteArray) : Option (Int) :=
  Option.bind (slices.IndexFunc_impl.Put_impl.Put.l0.f a0 a1 a2 K 0) fun x1 => (Sum.elim (fun x1 => some x1) (fun x1 => some (-1))) x1
theorem slices.IndexFunc_impl.Put_impl.Put.spec (K : Nat) (a0 : List (Int × ByteArray)) (a1 : Int) (a2 : ByteArray) (o : Int) (h : slices.IndexFunc_impl.Put_impl.Put.f K a0 a1 a2 = some o) : Den.Spec Try.prog 129 [one (.sl 1 0 a0.length), one (.fn 123 [(0, 0, 0)])] [some ⟨false, .cells [.int .i64 a1, .str a2]⟩, some ⟨false, .puts a0⟩] (one (.int .i64 o)) [some ⟨false, .cells [.int .i64 a1, .str a2]⟩, some ⟨false, .puts a0⟩] := by
  unfold slices.IndexFunc_impl.Put_impl.Put.f at h
  obtain ⟨x1, e1, h⟩ := bind_some h
  rcases x1 with x1 | x1
  · obtain rfl := Option.some.inj h
    exact Den.Spec.of_walk tab mixed Try.func129 (by kernel_rfl) [.loop [] [0, 1, 7, 8] [0, 1] (.ret) (slices.IndexFunc_impl.Put_impl.Put.l0.e0 a0 a1 a2 x1)] [] [0, 1] (nd (slices.IndexFunc_impl.Put_impl.Put.l0.spec a0 a1 a2 K 0 _ e1) trivial) (by kernel_rfl)
  · obtain rfl := Option.some.inj h
    exact Den.Spec.of_walk tab mixed Try.func129 (by kernel_rfl) [.loop [] [0, 1, 7, 8] [0, 1] (.exit 0) (slices.IndexFunc_impl.Put_impl.Put.l0.e1 a0 a1 a2 x1)] [] [0, 1] (nd (slices.IndexFunc_impl.Put_impl.Put.l0.spec a0 a1 a2 K 0 _ e1) trivial) (by kernel_rfl)
def slices.ContainsFunc_impl.Put_impl.Put.f (K : Nat) (a0 : List (Int × ByteArray)) (a1 : Int) (a2 : ByteArray) : Option (Bool) :=
  Option.bind (slices.IndexFunc_impl.Put_impl.Put.f K a0 a1 a2) fun x1 => some (decide (x1 ≥ 0))
theorem slices.ContainsFunc_impl.Put_impl.Put.spec (K : Nat) (a0 : List (Int × ByteArray)) (a1 : Int) (a2 : ByteArray) (o : Bool) (h : slices.ContainsFunc_impl.Put_impl.Put.f K a0 a1 a2 = some o) : Den.Spec Try.prog 122 [one (.sl 1 0 a0.length), one (.fn 123 [(0, 0, 0)])] [some ⟨false, .cells [.int .i64 a1, .str a2]⟩, some ⟨false, .puts a0⟩] (one (.bool o)) [some ⟨false, .cells [.int .i64 a1, .str a2]⟩, some ⟨false, .puts a0⟩] := by
  unfold slices.ContainsFunc_impl.Put_impl.Put.f at h
  obtain ⟨x1, e1, h⟩ := bind_some h
  obtain rfl := Option.some.inj h
  exact Den.Spec.of_walk tab mixed Try.func122 (by kernel_rfl) [.call [(0, false)] [(0, true)] (one (.int .i64 x1)) [some ⟨false, .cells [.int .i64 a1, .str a2]⟩, some ⟨false, .puts a0⟩]] [] [0, 1] (nd (slices.IndexFunc_impl.Put_impl.Put.spec K a0 a1 a2 _ e1) (nd (rfl : (0 : Nat) = 0) (nd (rfl : a0.length = a0.length) trivial))) (by kernel_rfl)
def impl.isBatch.l0.f (K : Nat) (a0 : List (Int × ByteArray)) : Nat → Int → Option (Unit ⊕ Unit)
  | 0, _ => none
  | k + 1, v45_0 =>
    cond (decide (v45_0 < (a0.length : Int))) (ck (0 ≤ v45_0) (Option.bind (impl.in_.f ((a0.getD v45_0.toNat (0, noVal)).1) 0 23) fun x1 => cond (x1) (cond (decide ((((a0.getD v45_0.toNat (0, noVal)).2).size : Int) > 400)) (some (.inl ())) (ck (v45_0 ≤ (a0.length : Int)) (Option.bind (slices.ContainsFunc_impl.Put_impl.Put.f K ((a0.drop 0).take v45_0.toNat) ((a0.getD v45_0.toNat (0, noVal)).1) ((a0.getD v45_0.toNat (0, noVal)).2)) fun x2 => ck (0 + v45_0.toNat ≤ a0.length) (cond (x2) (some (.inl ())) (impl.isBatch.l0.f K a0 k (w64 (v45_0 + 1))))))) (some (.inl ())))) (some (.inr (())))
def impl.isBatch.l0.s (K : Nat) (a0 : List (Int × ByteArray)) (v45_0 : Int) : St := mkSt 33 [(0, one (.sl 0 0 a0.length)), (5, one (.sl 0 0 a0.length)), (6, one (.int .i64 (a0.length : Int))), (7, one (.int .i64 v45_0))] [some ⟨false, .puts a0⟩]
def impl.isBatch.l0.e0 (K : Nat) (a0 : List (Int × ByteArray)) (o : Unit) : St := mkSt 33 [(2, one (.bool false))] [some ⟨false, .puts a0⟩]
def impl.isBatch.l0.e1 (K : Nat) (a0 : List (Int × ByteArray)) (o : Unit) : St := mkSt 33 [(0, one (.sl 0 0 a0.length))] [some ⟨false, .puts a0⟩]
def impl.isBatch.l0.x (K : Nat) (a0 : List (Int × ByteArray)) : (Unit ⊕ Unit) → AExit × St := Sum.elim (fun o => (.ret, impl.isBatch.l0.e0 K a0 o)) (fun o => (.exit 0, impl.isBatch.l0.e1 K a0 o))
theorem impl.isBatch.l0.spec (K : Nat) (a0 : List (Int × ByteArray)) : ∀ (k : Nat) (v45_0 : Int) (o : Unit ⊕ Unit), impl.isBatch.l0.f K a0 k v45_0 = some o → LoopSpec Try.prog 1 (loopN Try.f100 0) (impl.isBatch.l0.s K a0 v45_0) (impl.isBatch.l0.x K a0 o).1 (impl.isBatch.l0.x K a0 o).2
  | 0, _, _, h => by cases h
  | k + 1, v45_0, o, h => by
    unfold impl.isBatch.l0.f at h
    rcases br_cases h with ⟨c1, h⟩ | ⟨c1, h⟩
    · obtain ⟨p1, h⟩ := ck_some h
      obtain ⟨x1, e1, h⟩ := bind_some h
      rcases br_cases h with ⟨c2, h⟩ | ⟨c2, h⟩
      · rcases br_cases h with ⟨c3, h⟩ | ⟨c3, h⟩
        · obtain rfl := Option.some.inj h
          exact .of_done tab mixed [.br true, .call [] [] (one (.bool x1)) [], .br false, .br false, .br false, .br false, .br false, .br true, .br true, .br true, .br true, .br true, .br true, .br true] [] [2] [0] rfl (nd c1 (nd p1 (nd (of_decide_eq_true c1) (nd (tn p1 (of_decide_eq_true c1)) (nd (impl.in_.spec ((a0.getD v45_0.toNat (0, noVal)).1) 0 23 _ e1) (nd (nf c2) (nd (nf c2) (nd (nf c2) (nd (nf c2) (nd (nf c2) (nd c3 (nd c3 (nd c3 (nd c3 (nd c3 (nd c3 (nd tt trivial))))))))))))))))) (by kernel_rfl)
        · obtain ⟨p2, h⟩ := ck_some h
          obtain ⟨x2, e2, h⟩ := bind_some h
          obtain ⟨p3, h⟩ := ck_some h
          rcases br_cases h with ⟨c4, h⟩ | ⟨c4, h⟩
          · obtain rfl := Option.some.inj h
            exact .of_done tab mixed [.br true, .call [] [] (one (.bool x1)) [], .br false, .br false, .br false, .br false, .br false, .br false, .br false, .br false, .br false, .br false, .call [(1, false)] [(0, false)] (one (.bool x2)) [some ⟨false, .cells [.int .i64 ((a0.getD v45_0.toNat (0, noVal)).1), .str ((a0.getD v45_0.toNat (0, noVal)).2)]⟩, some ⟨false, .puts ((a0.drop 0).take v45_0.toNat)⟩], .br false, .br true] [] [2] [0] rfl (nd c1 (nd p1 (nd (of_decide_eq_true c1) (nd (tn p1 (of_decide_eq_true c1)) (nd (impl.in_.spec ((a0.getD v45_0.toNat (0, noVal)).1) 0 23 _ e1) (nd (nf c2) (nd (nf c2) (nd (nf c2) (nd (nf c2) (nd (nf c2) (nd c3 (nd c3 (nd c3 (nd (Int.le_refl 0) (nd p1 (nd p2 (nd c3 (nd c3 (nd ((slices.ContainsFunc_impl.Put_impl.Put.spec K ((a0.drop 0).take v45_0.toNat) ((a0.getD v45_0.toNat (0, noVal)).1) ((a0.getD v45_0.toNat (0, noVal)).2) _ e2).args (congrArg (fun n => ([one (.sl 1 0 n), one (.fn 123 [(0, 0, 0)])] : List AV)) (win_len p3))) (nd c3 (nd c4 trivial))))))))))))))))))))) (by kernel_rfl)
          · exact .of_step tab mixed [.br true, .call [] [] (one (.bool x1)) [], .br false, .br false, .br false, .br false, .br false, .br false, .br false, .br false, .br false, .br false, .call [(1, false)] [(0, false)] (one (.bool x2)) [some ⟨false, .cells [.int .i64 ((a0.getD v45_0.toNat (0, noVal)).1), .str ((a0.getD v45_0.toNat (0, noVal)).2)]⟩, some ⟨false, .puts ((a0.drop 0).take v45_0.toNat)⟩], .br false, .br false] [] [0, 5, 6, 7] [0] (s1 := impl.isBatch.l0.s K a0 (w64 (v45_0 + 1))) (nd c1 (nd p1 (nd (of_decide_eq_true c1) (nd (tn p1 (of_decide_eq_true c1)) (nd (impl.in_.spec ((a0.getD v45_0.toNat (0, noVal)).1) 0 23 _ e1) (nd (nf c2) (nd (nf c2) (nd (nf c2) (nd (nf c2) (nd (nf c2) (nd c3 (nd c3 (nd c3 (nd (Int.le_refl 0) (nd p1 (nd p2 (nd c3 (nd c3 (nd ((slices.ContainsFunc_impl.Put_impl.Put.spec K ((a0.drop 0).take v45_0.toNat) ((a0.getD v45_0.toNat (0, noVal)).1) ((a0.getD v45_0.toNat (0, noVal)).2) _ e2).args (congrArg (fun n => ([one (.sl 1 0 n), one (.fn 123 [(0, 0, 0)])] : List AV)) (win_len p3))) (nd c3 (nd c4 trivial))))))))))))))))))))) (by kernel_rfl) (impl.isBatch.l0.spec K a0 k (w64 (v45_0 + 1)) _ h)
      · obtain rfl := Option.some.inj h
        exact .of_done tab mixed [.br true, .call [] [] (one (.bool x1)) [], .br true, .br true, .br true, .br true, .br true, .br true, .br true, .br true, .br true, .br true, .br true, .br true] [] [2] [0] rfl (nd c1 (nd p1 (nd (of_decide_eq_true c1) (nd (tn p1 (of_decide_eq_true c1)) (nd (impl.in_.spec ((a0.getD v45_0.toNat (0, noVal)).1) 0 23 _ e1) (nd (nt c2) (nd (nt c2) (nd (nt c2) (nd (nt c2) (nd (nt c2) (nd tt (nd tt (nd tt (nd tt (nd tt (nd tt (nd tt trivial))))))))))))))))) (by kernel_rfl)
    · obtain rfl := Option.some.inj h
      exact .of_done tab mixed [.br false] [] [0] [0] rfl (nd c1 trivial) (by kernel_rfl)
def impl.isBatch.f (K : Nat) (a0 : List (Int × ByteArray)) : Option (Bool) :=
  Option.bind (impl.isBatch.l0.f K a0 K 0) fun x1 => (Sum.elim (fun x1 => some false) (fun x1 => some (decide ((a0.length : Int) ≤ 3)))) x1
theorem impl.isBatch.spec (K : Nat) (a0 : List (Int × ByteArray)) (o : Bool) (h : impl.isBatch.f K a0 = some o) : Den.Spec Try.prog 100 [one (.sl 0 0 a0.length)] [some ⟨false, .puts a0⟩] (one (.bool o)) [some ⟨false, .puts a0⟩] := by
  unfold impl.isBatch.f at h
  obtain ⟨x1, e1, h⟩ := bind_some h
  rcases x1 with x1 | x1
  · obtain rfl := Option.some.inj h
    exact Den.Spec.of_walk tab mixed Try.func100 (by kernel_rfl) [.loop [] [0, 5, 6, 7] [0] (.ret) (impl.isBatch.l0.e0 K a0 x1)] [] [0] (nd (impl.isBatch.l0.spec K a0 K 0 _ e1) trivial) (by kernel_rfl)
  · obtain rfl := Option.some.inj h
    exact Den.Spec.of_walk tab mixed Try.func100 (by kernel_rfl) [.loop [] [0, 5, 6, 7] [0] (.exit 0) (impl.isBatch.l0.e1 K a0 x1)] [] [0] (nd (impl.isBatch.l0.spec K a0 K 0 _ e1) trivial) (by kernel_rfl)
def impl.PutNum.l0.f : Nat → Int → (List Int) → Option (Int × (List Int))
  | 0, _, _ => none
  | k + 1, v48_0, v48_1 =>
    cond (decide (v48_0 > 127)) (ck ((v48_1 ++ [IntKind.u8.wrap (bits2 .i64 (· ||| ·) (bits2 .i64 (· &&& ·) v48_0 127) 128)]).length * 1 ≤ 70368744177664) (impl.PutNum.l0.f k (v48_0.fdiv (2 ^ 7)) (v48_1 ++ [IntKind.u8.wrap (bits2 .i64 (· ||| ·) (bits2 .i64 (· &&& ·) v48_0 127) 128)]))) (some (v48_0, v48_1))
def impl.PutNum.l0.s (v48_0 : Int) (v48_1 : List Int) : St := mkSt 24 [(0, one (.int .i64 v48_0)), (3, one (.sl 0 0 v48_1.length))] [some ⟨true, .ints .u8 v48_1⟩]
def impl.PutNum.l0.e0 (o : Int × (List Int)) : St := mkSt 24 [(0, one (.int .i64 o.1)), (3, one (.sl 0 0 o.2.length))] [some ⟨true, .ints .u8 o.2⟩]
def impl.PutNum.l0.x : (Int × (List Int)) → AExit × St := fun o => (.exit 0, impl.PutNum.l0.e0 o)
theorem impl.PutNum.l0.spec : ∀ (k : Nat) (v48_0 : Int) (v48_1 : List Int) (o : Int × (List Int)), impl.PutNum.l0.f k v48_0 v48_1 = some o → LoopSpec Try.prog 0 (loopN Try.f20 0) (impl.PutNum.l0.s v48_0 v48_1) (impl.PutNum.l0.x o).1 (impl.PutNum.l0.x o).2
  | 0, _, _, _, h => by cases h
  | k + 1, v48_0, v48_1, o, h => by
    unfold impl.PutNum.l0.f at h
    rcases br_cases h with ⟨c1, h⟩ | ⟨c1, h⟩
    · obtain ⟨p1, h⟩ := ck_some h
      exact .of_step tab mixed [.br true, .br true] [] [0, 3] [2] (s1 := impl.PutNum.l0.s (v48_0.fdiv (2 ^ 7)) (v48_1 ++ [IntKind.u8.wrap (bits2 .i64 (· ||| ·) (bits2 .i64 (· &&& ·) v48_0 127) 128)])) (nd c1 (nd (rfl : (0 : Nat) = 0) (nd (rfl : v48_1.length = v48_1.length) (nd p1 (nd (rfl : (0 : Nat) = 0) (nd (rfl : 1 = 1) (nd (by decide : (0 : Int) ≤ 7) trivial))))))) (by kernel_rfl) (impl.PutNum.l0.spec k (v48_0.fdiv (2 ^ 7)) (v48_1 ++ [IntKind.u8.wrap (bits2 .i64 (· ||| ·) (bits2 .i64 (· &&& ·) v48_0 127) 128)]) _ h)
    · obtain rfl := Option.some.inj h
      exact .of_done tab mixed [.br false] [] [0, 3] [0] rfl (nd c1 trivial) (by kernel_rfl)
def impl.PutNum.f (K : Nat) (a0 : Int) : Option ((List Int)) :=
  Option.bind (impl.in_.f a0 0 1000000000) fun x1 => cond (x1) (Option.bind (impl.PutNum.l0.f K a0 []) fun x2 => ck ((x2.2 ++ [IntKind.u8.wrap x2.1]).length * 1 ≤ 70368744177664) (some (x2.2 ++ [IntKind.u8.wrap x2.1]))) (some [])
theorem impl.PutNum.spec (K : Nat) (a0 : Int) (o : (List Int)) (h : impl.PutNum.f K a0 = some o) : Den.Spec Try.prog 20 [one (.int .i64 a0)] [] (one (.sl 0 0 o.length)) [some ⟨true, .ints .u8 o⟩] := by
  unfold impl.PutNum.f at h
  obtain ⟨x1, e1, h⟩ := bind_some h
  rcases br_cases h with ⟨c1, h⟩ | ⟨c1, h⟩
  · obtain ⟨x2, e2, h⟩ := bind_some h
    obtain ⟨p1, h⟩ := ck_some h
    obtain rfl := Option.some.inj h
    exact Den.Spec.of_walk tab mixed Try.func20 (by kernel_rfl) [.call [] [] (one (.bool x1)) [], .br false, .loop [] [0, 3] [0] (.exit 0) (impl.PutNum.l0.e0 x2), .br true] [] [2] (nd (impl.in_.spec a0 0 1000000000 _ e1) (nd (nf c1) (nd (impl.PutNum.l0.spec K a0 [] _ e2) (nd (rfl : (0 : Nat) = 0) (nd (rfl : x2.2.length = x2.2.length) (nd p1 (nd (rfl : (0 : Nat) = 0) (nd (rfl : 1 = 1) trivial)))))))) (by kernel_rfl)
  · obtain rfl := Option.some.inj h
    exact Den.Spec.of_walk tab mixed Try.func20 (by kernel_rfl) [.call [] [] (one (.bool x1)) [], .br true] [(2, [.ints .u8])] [0] (nd (impl.in_.spec a0 0 1000000000 _ e1) (nd (nt c1) trivial)) (by kernel_rfl)
def impl.PutText.f (K : Nat) (a0 : ByteArray) : Option ((List Int)) :=
  cond (decide ((a0.size : Int) > 400)) (some []) (Option.bind (impl.PutNum.f K (a0.size : Int)) fun x1 => ck ((x1 ++ (bytesL a0)).length * 1 ≤ 70368744177664) (some (x1 ++ (bytesL a0))))
theorem impl.PutText.spec (K : Nat) (a0 : ByteArray) (o : (List Int)) (h : impl.PutText.f K a0 = some o) : Den.Spec Try.prog 27 [one (.str a0)] [] (one (.sl 0 0 o.length)) [some ⟨true, .ints .u8 o⟩] := by
  unfold impl.PutText.f at h
  rcases br_cases h with ⟨c1, h⟩ | ⟨c1, h⟩
  · obtain rfl := Option.some.inj h
    exact Den.Spec.of_walk tab mixed Try.func27 (by kernel_rfl) [.br true] [(2, [.ints .u8])] [0] (nd c1 trivial) (by kernel_rfl)
  · obtain ⟨x1, e1, h⟩ := bind_some h
    obtain ⟨p1, h⟩ := ck_some h
    obtain rfl := Option.some.inj h
    exact Den.Spec.of_walk tab mixed Try.func27 (by kernel_rfl) [.br false, .call [] [] (one (.sl 0 0 x1.length)) [some ⟨true, .ints .u8 x1⟩]] [] [1] (nd c1 (nd (impl.PutNum.spec K (a0.size : Int) _ e1) (nd (rfl : (0 : Nat) = 0) (nd (rfl : x1.length = x1.length) (nd p1 trivial))))) (by kernel_rfl)
def slices.Grow_byte_byte.f (a0 : Int) : Option ((List Int) × Nat) :=
  cond (decide (a0 < 0)) (none) (cond (decide ((w64 (a0 - 0)) > 0)) (ck (((w64 (a0 - 0)) * (1 : Int)) ≤ 70368744177664) (some (List.replicate (w64 (a0 - 0)).toNat (0 : Int), 0))) (some ([], 0)))
theorem slices.Grow_byte_byte.spec (a0 : Int) (o : (List Int) × Nat) (h : slices.Grow_byte_byte.f a0 = some o) : Den.Spec Try.prog 124 [one (.nil), one (.int .i64 a0)] [] (one (.sl 0 0 o.2)) [some ⟨true, .ints .u8 o.1⟩] := by
  unfold slices.Grow_byte_byte.f at h
  rcases br_cases h with ⟨c1, h⟩ | ⟨c1, h⟩
  · cases h
  · rcases br_cases h with ⟨c2, h⟩ | ⟨c2, h⟩
    · obtain ⟨p1, h⟩ := ck_some h
      obtain rfl := Option.some.inj h
      exact Den.Spec.of_walk tab mixed Try.func124 (by kernel_rfl) [.br false, .br true] [] [0] (nd c1 (nd c2 (nd (rfl : (0 : Int) = 0) (nd (rfl : (0 : Int) = 0) (nd (of_decide_eq_true c2) (nd p1 (nd (Int.le_refl 0) (nd (Int.le_refl 0) (nd (Int.natCast_nonneg ((List.replicate (w64 (a0 - 0)).toNat (0 : Int)).length)) trivial))))))))) (by kernel_rfl)
    · obtain rfl := Option.some.inj h
      exact Den.Spec.of_walk tab mixed Try.func124 (by kernel_rfl) [.br false, .br false] [(4, [.ints .u8])] [0] (nd c1 (nd c2 trivial)) (by kernel_rfl)
def slices.Concat_byte_byte.f (a0 : List Int) (a1 : List Int) (a2 : List Int) : Option ((List Int)) :=
  ck (0 < (3 : Int)) (cond (decide ((w64 (0 + (a0.length : Int))) < 0)) (none) (ck (1 < (3 : Int)) (cond (decide ((w64 ((w64 (0 + (a0.length : Int))) + (a1.length : Int))) < 0)) (none) (ck (2 < (3 : Int)) (cond (decide ((w64 ((w64 ((w64 (0 + (a0.length : Int))) + (a1.length : Int))) + (a2.length : Int))) < 0)) (none) (Option.bind (slices.Grow_byte_byte.f (w64 ((w64 ((w64 (0 + (a0.length : Int))) + (a1.length : Int))) + (a2.length : Int)))) fun x1 => ck (x1.2 ≤ x1.1.length) (ck ((((x1.1.drop 0).take x1.2) ++ a0).length * 1 ≤ 70368744177664) (ck (((((x1.1.drop 0).take x1.2) ++ a0) ++ a1).length * 1 ≤ 70368744177664) (ck ((((((x1.1.drop 0).take x1.2) ++ a0) ++ a1) ++ a2).length * 1 ≤ 70368744177664) (some (((((x1.1.drop 0).take x1.2) ++ a0) ++ a1) ++ a2)))))))))))
theorem slices.Concat_byte_byte.spec (a0 : List Int) (a1 : List Int) (a2 : List Int) (o : (List Int)) (h : slices.Concat_byte_byte.f a0 a1 a2 = some o) : Den.Spec Try.prog 101 [one (.sl 0 0 3)] [some ⟨false, .refs [.sl 1 0 a0.length, .sl 2 0 a1.length, .sl 3 0 a2.length]⟩, some ⟨false, .ints .u8 a0⟩, some ⟨false, .ints .u8 a1⟩, some ⟨false, .ints .u8 a2⟩] (one (.sl 4 0 o.length)) [some ⟨false, .refs [.sl 1 0 a0.length, .sl 2 0 a1.length, .sl 3 0 a2.length]⟩, some ⟨false, .ints .u8 a0⟩, some ⟨false, .ints .u8 a1⟩, some ⟨false, .ints .u8 a2⟩, some ⟨true, .ints .u8 o⟩] := by
  unfold slices.Concat_byte_byte.f at h
  obtain ⟨p1, h⟩ := ck_some h
  rcases br_cases h with ⟨c1, h⟩ | ⟨c1, h⟩
  · cases h
  · obtain ⟨p2, h⟩ := ck_some h
    rcases br_cases h with ⟨c2, h⟩ | ⟨c2, h⟩
    · cases h
    · obtain ⟨p3, h⟩ := ck_some h
      rcases br_cases h with ⟨c3, h⟩ | ⟨c3, h⟩
      · cases h
      · obtain ⟨x1, e1, h⟩ := bind_some h
        obtain ⟨p4, h⟩ := ck_some h
        obtain ⟨p5, h⟩ := ck_some h
        obtain ⟨p6, h⟩ := ck_some h
        obtain ⟨p7, h⟩ := ck_some h
        obtain rfl := Option.some.inj h
        exact Den.Spec.of_walk tab mixed Try.func101 (by kernel_rfl) [.loop [] [0, 3, 9, 10, 11] [0, 1, 2, 3] (.exit 0) (mkSt 36 [(0, one (.sl 0 0 3)), (3, one (.int .i64 (w64 ((w64 ((w64 (0 + (a0.length : Int))) + (a1.length : Int))) + (a2.length : Int)))))] [some ⟨false, .refs [.sl 1 0 a0.length, .sl 2 0 a1.length, .sl 3 0 a2.length]⟩, some ⟨false, .ints .u8 a0⟩, some ⟨false, .ints .u8 a1⟩, some ⟨false, .ints .u8 a2⟩]), .asis, .call [] [] (one (.sl 0 0 x1.2)) [some ⟨true, .ints .u8 x1.1⟩], .loop [] [6, 25, 26, 27] [0, 1, 2, 3, 4] (.exit 2) (mkSt 36 [(6, one (.sl 4 0 ((((((x1.1.drop 0).take x1.2) ++ a0) ++ a1) ++ a2).length)))] [some ⟨false, .refs [.sl 1 0 a0.length, .sl 2 0 a1.length, .sl 3 0 a2.length]⟩, some ⟨false, .ints .u8 a0⟩, some ⟨false, .ints .u8 a1⟩, some ⟨false, .ints .u8 a2⟩, some ⟨true, .ints .u8 (((((x1.1.drop 0).take x1.2) ++ a0) ++ a1) ++ a2)⟩])] [] [0, 1, 2, 3, 4] (nd (LoopSpec.of_step tab mixed [.br true, .br false] [] [0, 3, 9, 10, 11] [0, 1, 2, 3] (s1 := mkSt 36 [(0, one (.sl 0 0 3)), (3, one (.int .i64 (w64 (0 + (a0.length : Int))))), (9, one (.sl 0 0 3)), (10, one (.int .i64 3)), (11, one (.int .i64 1))] [some ⟨false, .refs [.sl 1 0 a0.length, .sl 2 0 a1.length, .sl 3 0 a2.length]⟩, some ⟨false, .ints .u8 a0⟩, some ⟨false, .ints .u8 a1⟩, some ⟨false, .ints .u8 a2⟩]) (nd tt (nd (Int.le_refl 0) (nd p1 (nd c1 trivial)))) (by kernel_rfl) (LoopSpec.of_step tab mixed [.br true, .br false] [] [0, 3, 9, 10, 11] [0, 1, 2, 3] (s1 := mkSt 36 [(0, one (.sl 0 0 3)), (3, one (.int .i64 (w64 ((w64 (0 + (a0.length : Int))) + (a1.length : Int))))), (9, one (.sl 0 0 3)), (10, one (.int .i64 3)), (11, one (.int .i64 2))] [some ⟨false, .refs [.sl 1 0 a0.length, .sl 2 0 a1.length, .sl 3 0 a2.length]⟩, some ⟨false, .ints .u8 a0⟩, some ⟨false, .ints .u8 a1⟩, some ⟨false, .ints .u8 a2⟩]) (nd tt (nd (by decide : (0 : Int) ≤ 1) (nd p2 (nd c2 trivial)))) (by kernel_rfl) (LoopSpec.of_step tab mixed [.br true, .br false] [] [0, 3, 9, 10, 11] [0, 1, 2, 3] (s1 := mkSt 36 [(0, one (.sl 0 0 3)), (3, one (.int .i64 (w64 ((w64 ((w64 (0 + (a0.length : Int))) + (a1.length : Int))) + (a2.length : Int))))), (9, one (.sl 0 0 3)), (10, one (.int .i64 3)), (11, one (.int .i64 3))] [some ⟨false, .refs [.sl 1 0 a0.length, .sl 2 0 a1.length, .sl 3 0 a2.length]⟩, some ⟨false, .ints .u8 a0⟩, some ⟨false, .ints .u8 a1⟩, some ⟨false, .ints .u8 a2⟩]) (nd tt (nd (by decide : (0 : Int) ≤ 2) (nd p3 (nd c3 trivial)))) (by kernel_rfl) (LoopSpec.of_done tab mixed [.br false] [] [0, 3] [0, 1, 2, 3] rfl (nd ff trivial) (by kernel_rfl) : LoopSpec Try.prog 4 (loopN Try.f101 0) (mkSt 36 [(0, one (.sl 0 0 3)), (3, one (.int .i64 (w64 ((w64 ((w64 (0 + (a0.length : Int))) + (a1.length : Int))) + (a2.length : Int))))), (9, one (.sl 0 0 3)), (10, one (.int .i64 3)), (11, one (.int .i64 3))] [some ⟨false, .refs [.sl 1 0 a0.length, .sl 2 0 a1.length, .sl 3 0 a2.length]⟩, some ⟨false, .ints .u8 a0⟩, some ⟨false, .ints .u8 a1⟩, some ⟨false, .ints .u8 a2⟩]) (.exit 0) (mkSt 36 [(0, one (.sl 0 0 3)), (3, one (.int .i64 (w64 ((w64 ((w64 (0 + (a0.length : Int))) + (a1.length : Int))) + (a2.length : Int)))))] [some ⟨false, .refs [.sl 1 0 a0.length, .sl 2 0 a1.length, .sl 3 0 a2.length]⟩, some ⟨false, .ints .u8 a0⟩, some ⟨false, .ints .u8 a1⟩, some ⟨false, .ints .u8 a2⟩])) : LoopSpec Try.prog 4 (loopN Try.f101 0) (mkSt 36 [(0, one (.sl 0 0 3)), (3, one (.int .i64 (w64 ((w64 (0 + (a0.length : Int))) + (a1.length : Int))))), (9, one (.sl 0 0 3)), (10, one (.int .i64 3)), (11, one (.int .i64 2))] [some ⟨false, .refs [.sl 1 0 a0.length, .sl 2 0 a1.length, .sl 3 0 a2.length]⟩, some ⟨false, .ints .u8 a0⟩, some ⟨false, .ints .u8 a1⟩, some ⟨false, .ints .u8 a2⟩]) (.exit 0) (mkSt 36 [(0, one (.sl 0 0 3)), (3, one (.int .i64 (w64 ((w64 ((w64 (0 + (a0.length : Int))) + (a1.length : Int))) + (a2.length : Int)))))] [some ⟨false, .refs [.sl 1 0 a0.length, .sl 2 0 a1.length, .sl 3 0 a2.length]⟩, some ⟨false, .ints .u8 a0⟩, some ⟨false, .ints .u8 a1⟩, some ⟨false, .ints .u8 a2⟩])) : LoopSpec Try.prog 4 (loopN Try.f101 0) (mkSt 36 [(0, one (.sl 0 0 3)), (3, one (.int .i64 (w64 (0 + (a0.length : Int))))), (9, one (.sl 0 0 3)), (10, one (.int .i64 3)), (11, one (.int .i64 1))] [some ⟨false, .refs [.sl 1 0 a0.length, .sl 2 0 a1.length, .sl 3 0 a2.length]⟩, some ⟨false, .ints .u8 a0⟩, some ⟨false, .ints .u8 a1⟩, some ⟨false, .ints .u8 a2⟩]) (.exit 0) (mkSt 36 [(0, one (.sl 0 0 3)), (3, one (.int .i64 (w64 ((w64 ((w64 (0 + (a0.length : Int))) + (a1.length : Int))) + (a2.length : Int)))))] [some ⟨false, .refs [.sl 1 0 a0.length, .sl 2 0 a1.length, .sl 3 0 a2.length]⟩, some ⟨false, .ints .u8 a0⟩, some ⟨false, .ints .u8 a1⟩, some ⟨false, .ints .u8 a2⟩])) : LoopSpec Try.prog 4 (loopN Try.f101 0) (mkSt 36 [(0, one (.sl 0 0 3)), (3, one (.int .i64 0)), (9, one (.sl 0 0 3)), (10, one (.int .i64 3)), (11, one (.int .i64 0))] [some ⟨false, .refs [.sl 1 0 a0.length, .sl 2 0 a1.length, .sl 3 0 a2.length]⟩, some ⟨false, .ints .u8 a0⟩, some ⟨false, .ints .u8 a1⟩, some ⟨false, .ints .u8 a2⟩]) (.exit 0) (mkSt 36 [(0, one (.sl 0 0 3)), (3, one (.int .i64 (w64 ((w64 ((w64 (0 + (a0.length : Int))) + (a1.length : Int))) + (a2.length : Int)))))] [some ⟨false, .refs [.sl 1 0 a0.length, .sl 2 0 a1.length, .sl 3 0 a2.length]⟩, some ⟨false, .ints .u8 a0⟩, some ⟨false, .ints .u8 a1⟩, some ⟨false, .ints .u8 a2⟩])) (nd (slices.Grow_byte_byte.spec (w64 ((w64 ((w64 (0 + (a0.length : Int))) + (a1.length : Int))) + (a2.length : Int))) _ e1) (nd (LoopSpec.of_step tab mixed [.br true, .br true, .cut] [] [6, 25, 26, 27] [0, 1, 2, 3, 5] (s1 := mkSt 36 [(6, one (.sl 4 0 ((((x1.1.drop 0).take x1.2) ++ a0).length))), (25, one (.sl 0 0 3)), (26, one (.int .i64 3)), (27, one (.int .i64 1))] [some ⟨false, .refs [.sl 1 0 a0.length, .sl 2 0 a1.length, .sl 3 0 a2.length]⟩, some ⟨false, .ints .u8 a0⟩, some ⟨false, .ints .u8 a1⟩, some ⟨false, .ints .u8 a2⟩, some ⟨true, .ints .u8 (((x1.1.drop 0).take x1.2) ++ a0)⟩]) (nd tt (nd (Int.le_refl 0) (nd p1 (nd (rfl : (0 : Nat) = 0) (nd p4 (nd p5 (nd (rfl : (0 : Nat) = 0) (nd (rfl : a0.length = a0.length) trivial)))))))) (by kernel_rfl) (LoopSpec.of_step tab mixed [.br true, .br true] [] [6, 25, 26, 27] [0, 1, 2, 3, 5] (s1 := mkSt 36 [(6, one (.sl 4 0 (((((x1.1.drop 0).take x1.2) ++ a0) ++ a1).length))), (25, one (.sl 0 0 3)), (26, one (.int .i64 3)), (27, one (.int .i64 2))] [some ⟨false, .refs [.sl 1 0 a0.length, .sl 2 0 a1.length, .sl 3 0 a2.length]⟩, some ⟨false, .ints .u8 a0⟩, some ⟨false, .ints .u8 a1⟩, some ⟨false, .ints .u8 a2⟩, some ⟨true, .ints .u8 ((((x1.1.drop 0).take x1.2) ++ a0) ++ a1)⟩]) (nd tt (nd (by decide : (0 : Int) ≤ 1) (nd p2 (nd (rfl : (0 : Nat) = 0) (nd (rfl : (((x1.1.drop 0).take x1.2) ++ a0).length = (((x1.1.drop 0).take x1.2) ++ a0).length) (nd p6 (nd (rfl : (0 : Nat) = 0) (nd (rfl : a1.length = a1.length) trivial)))))))) (by kernel_rfl) (LoopSpec.of_step tab mixed [.br true, .br true] [] [6, 25, 26, 27] [0, 1, 2, 3, 5] (s1 := mkSt 36 [(6, one (.sl 4 0 ((((((x1.1.drop 0).take x1.2) ++ a0) ++ a1) ++ a2).length))), (25, one (.sl 0 0 3)), (26, one (.int .i64 3)), (27, one (.int .i64 3))] [some ⟨false, .refs [.sl 1 0 a0.length, .sl 2 0 a1.length, .sl 3 0 a2.length]⟩, some ⟨false, .ints .u8 a0⟩, some ⟨false, .ints .u8 a1⟩, some ⟨false, .ints .u8 a2⟩, some ⟨true, .ints .u8 (((((x1.1.drop 0).take x1.2) ++ a0) ++ a1) ++ a2)⟩]) (nd tt (nd (by decide : (0 : Int) ≤ 2) (nd p3 (nd (rfl : (0 : Nat) = 0) (nd (rfl : ((((x1.1.drop 0).take x1.2) ++ a0) ++ a1).length = ((((x1.1.drop 0).take x1.2) ++ a0) ++ a1).length) (nd p7 (nd (rfl : (0 : Nat) = 0) (nd (rfl : a2.length = a2.length) trivial)))))))) (by kernel_rfl) (LoopSpec.of_done tab mixed [.br false] [] [6] [0, 1, 2, 3, 4] rfl (nd ff trivial) (by kernel_rfl) : LoopSpec Try.prog 4 (loopN Try.f101 1) (mkSt 36 [(6, one (.sl 4 0 ((((((x1.1.drop 0).take x1.2) ++ a0) ++ a1) ++ a2).length))), (25, one (.sl 0 0 3)), (26, one (.int .i64 3)), (27, one (.int .i64 3))] [some ⟨false, .refs [.sl 1 0 a0.length, .sl 2 0 a1.length, .sl 3 0 a2.length]⟩, some ⟨false, .ints .u8 a0⟩, some ⟨false, .ints .u8 a1⟩, some ⟨false, .ints .u8 a2⟩, some ⟨true, .ints .u8 (((((x1.1.drop 0).take x1.2) ++ a0) ++ a1) ++ a2)⟩]) (.exit 2) (mkSt 36 [(6, one (.sl 4 0 ((((((x1.1.drop 0).take x1.2) ++ a0) ++ a1) ++ a2).length)))] [some ⟨false, .refs [.sl 1 0 a0.length, .sl 2 0 a1.length, .sl 3 0 a2.length]⟩, some ⟨false, .ints .u8 a0⟩, some ⟨false, .ints .u8 a1⟩, some ⟨false, .ints .u8 a2⟩, some ⟨true, .ints .u8 (((((x1.1.drop 0).take x1.2) ++ a0) ++ a1) ++ a2)⟩])) : LoopSpec Try.prog 4 (loopN Try.f101 1) (mkSt 36 [(6, one (.sl 4 0 (((((x1.1.drop 0).take x1.2) ++ a0) ++ a1).length))), (25, one (.sl 0 0 3)), (26, one (.int .i64 3)), (27, one (.int .i64 2))] [some ⟨false, .refs [.sl 1 0 a0.length, .sl 2 0 a1.length, .sl 3 0 a2.length]⟩, some ⟨false, .ints .u8 a0⟩, some ⟨false, .ints .u8 a1⟩, some ⟨false, .ints .u8 a2⟩, some ⟨true, .ints .u8 ((((x1.1.drop 0).take x1.2) ++ a0) ++ a1)⟩]) (.exit 2) (mkSt 36 [(6, one (.sl 4 0 ((((((x1.1.drop 0).take x1.2) ++ a0) ++ a1) ++ a2).length)))] [some ⟨false, .refs [.sl 1 0 a0.length, .sl 2 0 a1.length, .sl 3 0 a2.length]⟩, some ⟨false, .ints .u8 a0⟩, some ⟨false, .ints .u8 a1⟩, some ⟨false, .ints .u8 a2⟩, some ⟨true, .ints .u8 (((((x1.1.drop 0).take x1.2) ++ a0) ++ a1) ++ a2)⟩])) : LoopSpec Try.prog 4 (loopN Try.f101 1) (mkSt 36 [(6, one (.sl 4 0 ((((x1.1.drop 0).take x1.2) ++ a0).length))), (25, one (.sl 0 0 3)), (26, one (.int .i64 3)), (27, one (.int .i64 1))] [some ⟨false, .refs [.sl 1 0 a0.length, .sl 2 0 a1.length, .sl 3 0 a2.length]⟩, some ⟨false, .ints .u8 a0⟩, some ⟨false, .ints .u8 a1⟩, some ⟨false, .ints .u8 a2⟩, some ⟨true, .ints .u8 (((x1.1.drop 0).take x1.2) ++ a0)⟩]) (.exit 2) (mkSt 36 [(6, one (.sl 4 0 ((((((x1.1.drop 0).take x1.2) ++ a0) ++ a1) ++ a2).length)))] [some ⟨false, .refs [.sl 1 0 a0.length, .sl 2 0 a1.length, .sl 3 0 a2.length]⟩, some ⟨false, .ints .u8 a0⟩, some ⟨false, .ints .u8 a1⟩, some ⟨false, .ints .u8 a2⟩, some ⟨true, .ints .u8 (((((x1.1.drop 0).take x1.2) ++ a0) ++ a1) ++ a2)⟩])) : LoopSpec Try.prog 4 (loopN Try.f101 1) (mkSt 36 [(6, one (.sl 4 0 x1.2)), (25, one (.sl 0 0 3)), (26, one (.int .i64 3)), (27, one (.int .i64 0))] [some ⟨false, .refs [.sl 1 0 a0.length, .sl 2 0 a1.length, .sl 3 0 a2.length]⟩, some ⟨false, .ints .u8 a0⟩, some ⟨false, .ints .u8 a1⟩, some ⟨false, .ints .u8 a2⟩, some ⟨true, .ints .u8 x1.1⟩]) (.exit 2) (mkSt 36 [(6, one (.sl 4 0 ((((((x1.1.drop 0).take x1.2) ++ a0) ++ a1) ++ a2).length)))] [some ⟨false, .refs [.sl 1 0 a0.length, .sl 2 0 a1.length, .sl 3 0 a2.length]⟩, some ⟨false, .ints .u8 a0⟩, some ⟨false, .ints .u8 a1⟩, some ⟨false, .ints .u8 a2⟩, some ⟨true, .ints .u8 (((((x1.1.drop 0).take x1.2) ++ a0) ++ a1) ++ a2)⟩])) trivial))) (by kernel_rfl)
def impl.LogText.l0.f (K : Nat) (a0 : List (Int × ByteArray)) : Nat → (List Int) → Int → Option ((List Int))
  | 0, _, _ => none
  | k + 1, v56_0, v56_1 =>
    cond (decide (v56_1 < (a0.length : Int))) (ck (0 ≤ v56_1) (Option.bind (impl.PutNum.f K ((a0.getD v56_1.toNat (0, noVal)).1)) fun x1 => Option.bind (impl.PutText.f K ((a0.getD v56_1.toNat (0, noVal)).2)) fun x2 => Option.bind (slices.Concat_byte_byte.f v56_0 x1 x2) fun x3 => impl.LogText.l0.f K a0 k x3 (w64 (v56_1 + 1)))) (some v56_0)
def impl.LogText.l0.s (K : Nat) (a0 : List (Int × ByteArray)) (v56_0 : List Int) (v56_1 : Int) : St := mkSt 40 [(3, one (.sl 1 0 v56_0.length)), (18, one (.sl 0 0 a0.length)), (19, one (.int .i64 (a0.length : Int))), (20, one (.int .i64 v56_1))] [some ⟨false, .puts a0⟩, some ⟨true, .ints .u8 v56_0⟩]
def impl.LogText.l0.e0 (K : Nat) (a0 : List (Int × ByteArray)) (o : (List Int)) : St := mkSt 40 [(3, one (.sl 1 0 o.length))] [some ⟨false, .puts a0⟩, some ⟨true, .ints .u8 o⟩]
def impl.LogText.l0.x (K : Nat) (a0 : List (Int × ByteArray)) : ((List Int)) → AExit × St := fun o => (.exit 0, impl.LogText.l0.e0 K a0 o)
theorem impl.LogText.l0.spec (K : Nat) (a0 : List (Int × ByteArray)) : ∀ (k : Nat) (v56_0 : List Int) (v56_1 : Int) (o : (List Int)), impl.LogText.l0.f K a0 k v56_0 v56_1 = some o → LoopSpec Try.prog 1 (loopN Try.f43 0) (impl.LogText.l0.s K a0 v56_0 v56_1) (impl.LogText.l0.x K a0 o).1 (impl.LogText.l0.x K a0 o).2
  | 0, _, _, _, h => by cases h
  | k + 1, v56_0, v56_1, o, h => by
    unfold impl.LogText.l0.f at h
    rcases br_cases h with ⟨c1, h⟩ | ⟨c1, h⟩
    · obtain ⟨p1, h⟩ := ck_some h
      obtain ⟨x1, e1, h⟩ := bind_some h
      obtain ⟨x2, e2, h⟩ := bind_some h
      obtain ⟨x3, e3, h⟩ := bind_some h
      exact .of_step tab mixed [.br true, .call [] [] (one (.sl 0 0 x1.length)) [some ⟨true, .ints .u8 x1⟩], .call [] [] (one (.sl 0 0 x2.length)) [some ⟨true, .ints .u8 x2⟩], .call [(59, false), (1, false), (27, false), (51, false)] [] (one (.sl 4 0 x3.length)) [some ⟨false, .refs [.sl 1 0 v56_0.length, .sl 2 0 x1.length, .sl 3 0 x2.length]⟩, some ⟨false, .ints .u8 v56_0⟩, some ⟨false, .ints .u8 x1⟩, some ⟨false, .ints .u8 x2⟩, some ⟨true, .ints .u8 x3⟩]] [] [3, 18, 19, 20] [0, 67] (s1 := impl.LogText.l0.s K a0 x3 (w64 (v56_1 + 1))) (nd c1 (nd p1 (nd (of_decide_eq_true c1) (nd (tn p1 (of_decide_eq_true c1)) (nd (impl.PutNum.spec K ((a0.getD v56_1.toNat (0, noVal)).1) _ e1) (nd (impl.PutText.spec K ((a0.getD v56_1.toNat (0, noVal)).2) _ e2) (nd (slices.Concat_byte_byte.spec v56_0 x1 x2 _ e3) trivial))))))) (by kernel_rfl) (impl.LogText.l0.spec K a0 k x3 (w64 (v56_1 + 1)) _ h)
    · obtain rfl := Option.some.inj h
      exact .of_done tab mixed [.br false] [] [3] [0, 1] rfl (nd c1 trivial) (by kernel_rfl)
def slices.Concat_byte_byte_1.f (a0 : List Int) (a1 : List Int) : Option ((List Int)) :=
  ck (0 < (2 : Int)) (cond (decide ((w64 (0 + (a0.length : Int))) < 0)) (none) (ck (1 < (2 : Int)) (cond (decide ((w64 ((w64 (0 + (a0.length : Int))) + (a1.length : Int))) < 0)) (none) (Option.bind (slices.Grow_byte_byte.f (w64 ((w64 (0 + (a0.length : Int))) + (a1.length : Int)))) fun x1 => ck (x1.2 ≤ x1.1.length) (ck ((((x1.1.drop 0).take x1.2) ++ a0).length * 1 ≤ 70368744177664) (ck (((((x1.1.drop 0).take x1.2) ++ a0) ++ a1).length * 1 ≤ 70368744177664) (some ((((x1.1.drop 0).take x1.2) ++ a0) ++ a1))))))))
theorem slices.Concat_byte_byte_1.spec (a0 : List Int) (a1 : List Int) (o : (List Int)) (h : slices.Concat_byte_byte_1.f a0 a1 = some o) : Den.Spec Try.prog 101 [one (.sl 0 0 2)] [some ⟨false, .refs [.sl 1 0 a0.length, .sl 2 0 a1.length]⟩, some ⟨false, .ints .u8 a0⟩, some ⟨false, .ints .u8 a1⟩] (one (.sl 3 0 o.length)) [some ⟨false, .refs [.sl 1 0 a0.length, .sl 2 0 a1.length]⟩, some ⟨false, .ints .u8 a0⟩, some ⟨false, .ints .u8 a1⟩, some ⟨true, .ints .u8 o⟩] := by
  unfold slices.Concat_byte_byte_1.f at h
  obtain ⟨p1, h⟩ := ck_some h
  rcases br_cases h with ⟨c1, h⟩ | ⟨c1, h⟩
  · cases h
  · obtain ⟨p2, h⟩ := ck_some h
    rcases br_cases h with ⟨c2, h⟩ | ⟨c2, h⟩
    · cases h
    · obtain ⟨x1, e1, h⟩ := bind_some h
      obtain ⟨p3, h⟩ := ck_some h
      obtain ⟨p4, h⟩ := ck_some h
      obtain ⟨p5, h⟩ := ck_some h
      obtain rfl := Option.some.inj h
      exact Den.Spec.of_walk tab mixed Try.func101 (by kernel_rfl) [.loop [] [0, 3, 9, 10, 11] [0, 1, 2] (.exit 0) (mkSt 36 [(0, one (.sl 0 0 2)), (3, one (.int .i64 (w64 ((w64 (0 + (a0.length : Int))) + (a1.length : Int)))))] [some ⟨false, .refs [.sl 1 0 a0.length, .sl 2 0 a1.length]⟩, some ⟨false, .ints .u8 a0⟩, some ⟨false, .ints .u8 a1⟩]), .asis, .call [] [] (one (.sl 0 0 x1.2)) [some ⟨true, .ints .u8 x1.1⟩], .loop [] [6, 25, 26, 27] [0, 1, 2, 3] (.exit 2) (mkSt 36 [(6, one (.sl 3 0 (((((x1.1.drop 0).take x1.2) ++ a0) ++ a1).length)))] [some ⟨false, .refs [.sl 1 0 a0.length, .sl 2 0 a1.length]⟩, some ⟨false, .ints .u8 a0⟩, some ⟨false, .ints .u8 a1⟩, some ⟨true, .ints .u8 ((((x1.1.drop 0).take x1.2) ++ a0) ++ a1)⟩])] [] [0, 1, 2, 3] (nd (LoopSpec.of_step tab mixed [.br true, .br false] [] [0, 3, 9, 10, 11] [0, 1, 2] (s1 := mkSt 36 [(0, one (.sl 0 0 2)), (3, one (.int .i64 (w64 (0 + (a0.length : Int))))), (9, one (.sl 0 0 2)), (10, one (.int .i64 2)), (11, one (.int .i64 1))] [some ⟨false, .refs [.sl 1 0 a0.length, .sl 2 0 a1.length]⟩, some ⟨false, .ints .u8 a0⟩, some ⟨false, .ints .u8 a1⟩]) (nd tt (nd (Int.le_refl 0) (nd p1 (nd c1 trivial)))) (by kernel_rfl) (LoopSpec.of_step tab mixed [.br true, .br false] [] [0, 3, 9, 10, 11] [0, 1, 2] (s1 := mkSt 36 [(0, one (.sl 0 0 2)), (3, one (.int .i64 (w64 ((w64 (0 + (a0.length : Int))) + (a1.length : Int))))), (9, one (.sl 0 0 2)), (10, one (.int .i64 2)), (11, one (.int .i64 2))] [some ⟨false, .refs [.sl 1 0 a0.length, .sl 2 0 a1.length]⟩, some ⟨false, .ints .u8 a0⟩, some ⟨false, .ints .u8 a1⟩]) (nd tt (nd (by decide : (0 : Int) ≤ 1) (nd p2 (nd c2 trivial)))) (by kernel_rfl) (LoopSpec.of_done tab mixed [.br false] [] [0, 3] [0, 1, 2] rfl (nd ff trivial) (by kernel_rfl) : LoopSpec Try.prog 3 (loopN Try.f101 0) (mkSt 36 [(0, one (.sl 0 0 2)), (3, one (.int .i64 (w64 ((w64 (0 + (a0.length : Int))) + (a1.length : Int))))), (9, one (.sl 0 0 2)), (10, one (.int .i64 2)), (11, one (.int .i64 2))] [some ⟨false, .refs [.sl 1 0 a0.length, .sl 2 0 a1.length]⟩, some ⟨false, .ints .u8 a0⟩, some ⟨false, .ints .u8 a1⟩]) (.exit 0) (mkSt 36 [(0, one (.sl 0 0 2)), (3, one (.int .i64 (w64 ((w64 (0 + (a0.length : Int))) + (a1.length : Int)))))] [some ⟨false, .refs [.sl 1 0 a0.length, .sl 2 0 a1.length]⟩, some ⟨false, .ints .u8 a0⟩, some ⟨false, .ints .u8 a1⟩])) : LoopSpec Try.prog 3 (loopN Try.f101 0) (mkSt 36 [(0, one (.sl 0 0 2)), (3, one (.int .i64 (w64 (0 + (a0.length : Int))))), (9, one (.sl 0 0 2)), (10, one (.int .i64 2)), (11, one (.int .i64 1))] [some ⟨false, .refs [.sl 1 0 a0.length, .sl 2 0 a1.length]⟩, some ⟨false, .ints .u8 a0⟩, some ⟨false, .ints .u8 a1⟩]) (.exit 0) (mkSt 36 [(0, one (.sl 0 0 2)), (3, one (.int .i64 (w64 ((w64 (0 + (a0.length : Int))) + (a1.length : Int)))))] [some ⟨false, .refs [.sl 1 0 a0.length, .sl 2 0 a1.length]⟩, some ⟨false, .ints .u8 a0⟩, some ⟨false, .ints .u8 a1⟩])) : LoopSpec Try.prog 3 (loopN Try.f101 0) (mkSt 36 [(0, one (.sl 0 0 2)), (3, one (.int .i64 0)), (9, one (.sl 0 0 2)), (10, one (.int .i64 2)), (11, one (.int .i64 0))] [some ⟨false, .refs [.sl 1 0 a0.length, .sl 2 0 a1.length]⟩, some ⟨false, .ints .u8 a0⟩, some ⟨false, .ints .u8 a1⟩]) (.exit 0) (mkSt 36 [(0, one (.sl 0 0 2)), (3, one (.int .i64 (w64 ((w64 (0 + (a0.length : Int))) + (a1.length : Int)))))] [some ⟨false, .refs [.sl 1 0 a0.length, .sl 2 0 a1.length]⟩, some ⟨false, .ints .u8 a0⟩, some ⟨false, .ints .u8 a1⟩])) (nd (slices.Grow_byte_byte.spec (w64 ((w64 (0 + (a0.length : Int))) + (a1.length : Int))) _ e1) (nd (LoopSpec.of_step tab mixed [.br true, .br true, .cut] [] [6, 25, 26, 27] [0, 1, 2, 4] (s1 := mkSt 36 [(6, one (.sl 3 0 ((((x1.1.drop 0).take x1.2) ++ a0).length))), (25, one (.sl 0 0 2)), (26, one (.int .i64 2)), (27, one (.int .i64 1))] [some ⟨false, .refs [.sl 1 0 a0.length, .sl 2 0 a1.length]⟩, some ⟨false, .ints .u8 a0⟩, some ⟨false, .ints .u8 a1⟩, some ⟨true, .ints .u8 (((x1.1.drop 0).take x1.2) ++ a0)⟩]) (nd tt (nd (Int.le_refl 0) (nd p1 (nd (rfl : (0 : Nat) = 0) (nd p3 (nd p4 (nd (rfl : (0 : Nat) = 0) (nd (rfl : a0.length = a0.length) trivial)))))))) (by kernel_rfl) (LoopSpec.of_step tab mixed [.br true, .br true] [] [6, 25, 26, 27] [0, 1, 2, 4] (s1 := mkSt 36 [(6, one (.sl 3 0 (((((x1.1.drop 0).take x1.2) ++ a0) ++ a1).length))), (25, one (.sl 0 0 2)), (26, one (.int .i64 2)), (27, one (.int .i64 2))] [some ⟨false, .refs [.sl 1 0 a0.length, .sl 2 0 a1.length]⟩, some ⟨false, .ints .u8 a0⟩, some ⟨false, .ints .u8 a1⟩, some ⟨true, .ints .u8 ((((x1.1.drop 0).take x1.2) ++ a0) ++ a1)⟩]) (nd tt (nd (by decide : (0 : Int) ≤ 1) (nd p2 (nd (rfl : (0 : Nat) = 0) (nd (rfl : (((x1.1.drop 0).take x1.2) ++ a0).length = (((x1.1.drop 0).take x1.2) ++ a0).length) (nd p5 (nd (rfl : (0 : Nat) = 0) (nd (rfl : a1.length = a1.length) trivial)))))))) (by kernel_rfl) (LoopSpec.of_done tab mixed [.br false] [] [6] [0, 1, 2, 3] rfl (nd ff trivial) (by kernel_rfl) : LoopSpec Try.prog 3 (loopN Try.f101 1) (mkSt 36 [(6, one (.sl 3 0 (((((x1.1.drop 0).take x1.2) ++ a0) ++ a1).length))), (25, one (.sl 0 0 2)), (26, one (.int .i64 2)), (27, one (.int .i64 2))] [some ⟨false, .refs [.sl 1 0 a0.length, .sl 2 0 a1.length]⟩, some ⟨false, .ints .u8 a0⟩, some ⟨false, .ints .u8 a1⟩, some ⟨true, .ints .u8 ((((x1.1.drop 0).take x1.2) ++ a0) ++ a1)⟩]) (.exit 2) (mkSt 36 [(6, one (.sl 3 0 (((((x1.1.drop 0).take x1.2) ++ a0) ++ a1).length)))] [some ⟨false, .refs [.sl 1 0 a0.length, .sl 2 0 a1.length]⟩, some ⟨false, .ints .u8 a0⟩, some ⟨false, .ints .u8 a1⟩, some ⟨true, .ints .u8 ((((x1.1.drop 0).take x1.2) ++ a0) ++ a1)⟩])) : LoopSpec Try.prog 3 (loopN Try.f101 1) (mkSt 36 [(6, one (.sl 3 0 ((((x1.1.drop 0).take x1.2) ++ a0).length))), (25, one (.sl 0 0 2)), (26, one (.int .i64 2)), (27, one (.int .i64 1))] [some ⟨false, .refs [.sl 1 0 a0.length, .sl 2 0 a1.length]⟩, some ⟨false, .ints .u8 a0⟩, some ⟨false, .ints .u8 a1⟩, some ⟨true, .ints .u8 (((x1.1.drop 0).take x1.2) ++ a0)⟩]) (.exit 2) (mkSt 36 [(6, one (.sl 3 0 (((((x1.1.drop 0).take x1.2) ++ a0) ++ a1).length)))] [some ⟨false, .refs [.sl 1 0 a0.length, .sl 2 0 a1.length]⟩, some ⟨false, .ints .u8 a0⟩, some ⟨false, .ints .u8 a1⟩, some ⟨true, .ints .u8 ((((x1.1.drop 0).take x1.2) ++ a0) ++ a1)⟩])) : LoopSpec Try.prog 3 (loopN Try.f101 1) (mkSt 36 [(6, one (.sl 3 0 x1.2)), (25, one (.sl 0 0 2)), (26, one (.int .i64 2)), (27, one (.int .i64 0))] [some ⟨false, .refs [.sl 1 0 a0.length, .sl 2 0 a1.length]⟩, some ⟨false, .ints .u8 a0⟩, some ⟨false, .ints .u8 a1⟩, some ⟨true, .ints .u8 x1.1⟩]) (.exit 2) (mkSt 36 [(6, one (.sl 3 0 (((((x1.1.drop 0).take x1.2) ++ a0) ++ a1).length)))] [some ⟨false, .refs [.sl 1 0 a0.length, .sl 2 0 a1.length]⟩, some ⟨false, .ints .u8 a0⟩, some ⟨false, .ints .u8 a1⟩, some ⟨true, .ints .u8 ((((x1.1.drop 0).take x1.2) ++ a0) ++ a1)⟩])) trivial))) (by kernel_rfl)
def impl.summed.f (K : Nat) (a0 : List Int) : Option (ByteArray) :=
  Option.bind (impl.Sum.f K a0) fun x1 => Option.bind (impl.PutNum.f K x1) fun x2 => Option.bind (slices.Concat_byte_byte_1.f x2 a0) fun x3 => some (ofBytes x3)
theorem impl.summed.spec (K : Nat) (a0 : List Int) (o : ByteArray) (h : impl.summed.f K a0 = some o) : Den.Spec Try.prog 102 [one (.sl 0 0 a0.length)] [some ⟨false, .ints .u8 a0⟩] (one (.str o)) [some ⟨false, .ints .u8 a0⟩] := by
  unfold impl.summed.f at h
  obtain ⟨x1, e1, h⟩ := bind_some h
  obtain ⟨x2, e2, h⟩ := bind_some h
  obtain ⟨x3, e3, h⟩ := bind_some h
  obtain rfl := Option.some.inj h
  exact Den.Spec.of_walk tab mixed Try.func102 (by kernel_rfl) [.call [] [(0, true)] (one (.int .i64 x1)) [some ⟨false, .ints .u8 a0⟩], .call [] [] (one (.sl 0 0 x2.length)) [some ⟨true, .ints .u8 x2⟩], .call [(2, false), (1, false), (0, false)] [] (one (.sl 3 0 x3.length)) [some ⟨false, .refs [.sl 1 0 x2.length, .sl 2 0 a0.length]⟩, some ⟨false, .ints .u8 x2⟩, some ⟨false, .ints .u8 a0⟩, some ⟨true, .ints .u8 x3⟩], .br true] [] [0] (nd (impl.Sum.spec K a0 _ e1) (nd (rfl : (0 : Nat) = 0) (nd (rfl : a0.length = a0.length) (nd (impl.PutNum.spec K x1 _ e2) (nd (slices.Concat_byte_byte_1.spec x2 a0 _ e3) (nd (rfl : (0 : Nat) = 0) (nd (rfl : x3.length = x3.length) trivial))))))) (by kernel_rfl)
def impl.LogText.f (K : Nat) (a0 : List (Int × ByteArray)) : Option (ByteArray) :=
  Option.bind (impl.isBatch.f K a0) fun x1 => cond (x1) (cond ((a0.length : Int) == 0) (some noVal) (Option.bind (impl.PutNum.f K (a0.length : Int)) fun x2 => Option.bind (impl.LogText.l0.f K a0 K x2 0) fun x3 => Option.bind (impl.summed.f K x3) fun x4 => cond (decide ((x4.size : Int) > 400)) (some noVal) (some x4))) (some noVal)
theorem impl.LogText.spec (K : Nat) (a0 : List (Int × ByteArray)) (o : ByteArray) (h : impl.LogText.f K a0 = some o) : Den.Spec Try.prog 43 [one (.sl 0 0 a0.length)] [some ⟨false, .puts a0⟩] (one (.str o)) [some ⟨false, .puts a0⟩] := by
  unfold impl.LogText.f at h
  obtain ⟨x1, e1, h⟩ := bind_some h
  rcases br_cases h with ⟨c1, h⟩ | ⟨c1, h⟩
  · rcases br_cases h with ⟨c2, h⟩ | ⟨c2, h⟩
    · obtain rfl := Option.some.inj h
      exact Den.Spec.of_walk tab mixed Try.func43 (by kernel_rfl) [.call [] [(0, true)] (one (.bool x1)) [some ⟨false, .puts a0⟩], .br false, .br false, .br false, .br false, .br true] [] [0] (nd (impl.isBatch.spec K a0 _ e1) (nd (rfl : (0 : Nat) = 0) (nd (rfl : a0.length = a0.length) (nd (nf c1) (nd (nf c1) (nd (nf c1) (nd (nf c1) (nd c2 trivial)))))))) (by kernel_rfl)
    · obtain ⟨x2, e2, h⟩ := bind_some h
      obtain ⟨x3, e3, h⟩ := bind_some h
      obtain ⟨x4, e4, h⟩ := bind_some h
      rcases br_cases h with ⟨c3, h⟩ | ⟨c3, h⟩
      · obtain rfl := Option.some.inj h
        exact Den.Spec.of_walk tab mixed Try.func43 (by kernel_rfl) [.call [] [(0, true)] (one (.bool x1)) [some ⟨false, .puts a0⟩], .br false, .br false, .br false, .br false, .br false, .call [] [] (one (.sl 0 0 x2.length)) [some ⟨true, .ints .u8 x2⟩], .loop [] [3, 18, 19, 20] [0, 1] (.exit 0) (impl.LogText.l0.e0 K a0 x3), .call [] [(0, true)] (one (.str x4)) [some ⟨false, .ints .u8 x3⟩], .br true] [] [0] (nd (impl.isBatch.spec K a0 _ e1) (nd (rfl : (0 : Nat) = 0) (nd (rfl : a0.length = a0.length) (nd (nf c1) (nd (nf c1) (nd (nf c1) (nd (nf c1) (nd c2 (nd (impl.PutNum.spec K (a0.length : Int) _ e2) (nd (impl.LogText.l0.spec K a0 K x2 0 _ e3) (nd (impl.summed.spec K x3 _ e4) (nd (rfl : (0 : Nat) = 0) (nd (rfl : x3.length = x3.length) (nd c3 trivial)))))))))))))) (by kernel_rfl)
      · obtain rfl := Option.some.inj h
        exact Den.Spec.of_walk tab mixed Try.func43 (by kernel_rfl) [.call [] [(0, true)] (one (.bool x1)) [some ⟨false, .puts a0⟩], .br false, .br false, .br false, .br false, .br false, .call [] [] (one (.sl 0 0 x2.length)) [some ⟨true, .ints .u8 x2⟩], .loop [] [3, 18, 19, 20] [0, 1] (.exit 0) (impl.LogText.l0.e0 K a0 x3), .call [] [(0, true)] (one (.str x4)) [some ⟨false, .ints .u8 x3⟩], .br false] [] [0] (nd (impl.isBatch.spec K a0 _ e1) (nd (rfl : (0 : Nat) = 0) (nd (rfl : a0.length = a0.length) (nd (nf c1) (nd (nf c1) (nd (nf c1) (nd (nf c1) (nd c2 (nd (impl.PutNum.spec K (a0.length : Int) _ e2) (nd (impl.LogText.l0.spec K a0 K x2 0 _ e3) (nd (impl.summed.spec K x3 _ e4) (nd (rfl : (0 : Nat) = 0) (nd (rfl : x3.length = x3.length) (nd c3 trivial)))))))))))))) (by kernel_rfl)
  · obtain rfl := Option.some.inj h
    exact Den.Spec.of_walk tab mixed Try.func43 (by kernel_rfl) [.call [] [(0, true)] (one (.bool x1)) [some ⟨false, .puts a0⟩], .br true, .br true, .br true, .br true, .br true] [] [0] (nd (impl.isBatch.spec K a0 _ e1) (nd (rfl : (0 : Nat) = 0) (nd (rfl : a0.length = a0.length) (nd (nt c1) (nd (nt c1) (nd (nt c1) (nd (nt c1) (nd tt trivial)))))))) (by kernel_rfl)
def impl.LogRead.f (K : Nat) (a0 : ByteArray) : Option ((List (Int × ByteArray)) × Bool) :=
  Option.bind (impl.unsummed.f K a0) fun x1 => Option.bind (impl.reader.number.f K (bytesL a0) x1.1 x1.2) fun x2 => Option.bind (impl.LogRead.l0.f K a0 K x2.2.1 x2.2.2 [] x2.1) fun x3 => Option.bind (impl.reader.done.f (bytesL a0) x3.1 x3.2.1) fun x4 => cond (x4) (cond (strEq a0 noVal) (some ([], false)) (Option.bind (impl.LogText.f K x3.2.2) fun x5 => cond (strEq x5 a0) (some (x3.2.2, true)) (some ([], false)))) (some ([], false))
theorem impl.LogRead.spec (K : Nat) (a0 : ByteArray) (o : (List (Int × ByteArray)) × Bool) (h : impl.LogRead.f K a0 = some o) : Den.Spec Try.prog 46 [one (.str a0)] [] (.tup [.c (.sl 0 0 o.1.length), .c (.bool o.2)]) [some ⟨true, .puts o.1⟩] := by
  unfold impl.LogRead.f at h
  obtain ⟨x1, e1, h⟩ := bind_some h
  obtain ⟨x2, e2, h⟩ := bind_some h
  obtain ⟨x3, e3, h⟩ := bind_some h
  obtain ⟨x4, e4, h⟩ := bind_some h
  rcases br_cases h with ⟨c1, h⟩ | ⟨c1, h⟩
  · rcases br_cases h with ⟨c2, h⟩ | ⟨c2, h⟩
    · obtain rfl := Option.some.inj h
      exact Den.Spec.of_walk tab mixed Try.func46 (by kernel_rfl) [.call [] [] (one (.ptr 0 0 0)) [some ⟨true, .cells [.sl 1 0 ((bytesL a0).length), .int .i64 x1.1, .bool x1.2]⟩, some ⟨true, .ints .u8 (bytesL a0)⟩], .call [(0, true), (1, true)] [] (one (.int .i64 x2.1)) [some ⟨true, .cells [.sl 1 0 ((bytesL a0).length), .int .i64 x2.2.1, .bool x2.2.2]⟩, some ⟨true, .ints .u8 (bytesL a0)⟩], .loop [] [0, 4, 5, 6] [0, 1, 2] (.exit 0) (impl.LogRead.l0.e0 K a0 x3), .call [(0, false), (1, false)] [] (one (.bool x4)) [some ⟨false, .cells [.sl 1 0 ((bytesL a0).length), .int .i64 x3.1, .bool x3.2.1]⟩, some ⟨false, .ints .u8 (bytesL a0)⟩], .br false, .br false, .br false, .br true, .br true, .br true, .br true, .br true, .br true] [(2, [.puts])] [3] (nd (impl.unsummed.spec K a0 _ e1) (nd (impl.reader.number.spec K (bytesL a0) x1.1 x1.2 _ e2) (nd (impl.LogRead.l0.spec K a0 K x2.2.1 x2.2.2 [] x2.1 _ e3) (nd (impl.reader.done.spec (bytesL a0) x3.1 x3.2.1 _ e4) (nd (nf c1) (nd (nf c1) (nd (nf c1) (nd c2 (nd c2 (nd c2 (nd c2 (nd c2 (nd tt trivial))))))))))))) (by kernel_rfl)
    · obtain ⟨x5, e5, h⟩ := bind_some h
      rcases br_cases h with ⟨c3, h⟩ | ⟨c3, h⟩
      · obtain rfl := Option.some.inj h
        exact Den.Spec.of_walk tab mixed Try.func46 (by kernel_rfl) [.call [] [] (one (.ptr 0 0 0)) [some ⟨true, .cells [.sl 1 0 ((bytesL a0).length), .int .i64 x1.1, .bool x1.2]⟩, some ⟨true, .ints .u8 (bytesL a0)⟩], .call [(0, true), (1, true)] [] (one (.int .i64 x2.1)) [some ⟨true, .cells [.sl 1 0 ((bytesL a0).length), .int .i64 x2.2.1, .bool x2.2.2]⟩, some ⟨true, .ints .u8 (bytesL a0)⟩], .loop [] [0, 4, 5, 6] [0, 1, 2] (.exit 0) (impl.LogRead.l0.e0 K a0 x3), .call [(0, false), (1, false)] [] (one (.bool x4)) [some ⟨false, .cells [.sl 1 0 ((bytesL a0).length), .int .i64 x3.1, .bool x3.2.1]⟩, some ⟨false, .ints .u8 (bytesL a0)⟩], .br false, .br false, .br false, .br false, .br false, .call [] [(0, true)] (one (.str x5)) [some ⟨false, .puts x3.2.2⟩], .br false, .br false, .br false, .br false] [] [2] (nd (impl.unsummed.spec K a0 _ e1) (nd (impl.reader.number.spec K (bytesL a0) x1.1 x1.2 _ e2) (nd (impl.LogRead.l0.spec K a0 K x2.2.1 x2.2.2 [] x2.1 _ e3) (nd (impl.reader.done.spec (bytesL a0) x3.1 x3.2.1 _ e4) (nd (nf c1) (nd (nf c1) (nd (nf c1) (nd c2 (nd c2 (nd (impl.LogText.spec K x3.2.2 _ e5) (nd (rfl : (0 : Nat) = 0) (nd (rfl : x3.2.2.length = x3.2.2.length) (nd c2 (nd c2 (nd c2 (nd (nf c3) trivial)))))))))))))))) (by kernel_rfl)
      · obtain rfl := Option.some.inj h
        exact Den.Spec.of_walk tab mixed Try.func46 (by kernel_rfl) [.call [] [] (one (.ptr 0 0 0)) [some ⟨true, .cells [.sl 1 0 ((bytesL a0).length), .int .i64 x1.1, .bool x1.2]⟩, some ⟨true, .ints .u8 (bytesL a0)⟩], .call [(0, true), (1, true)] [] (one (.int .i64 x2.1)) [some ⟨true, .cells [.sl 1 0 ((bytesL a0).length), .int .i64 x2.2.1, .bool x2.2.2]⟩, some ⟨true, .ints .u8 (bytesL a0)⟩], .loop [] [0, 4, 5, 6] [0, 1, 2] (.exit 0) (impl.LogRead.l0.e0 K a0 x3), .call [(0, false), (1, false)] [] (one (.bool x4)) [some ⟨false, .cells [.sl 1 0 ((bytesL a0).length), .int .i64 x3.1, .bool x3.2.1]⟩, some ⟨false, .ints .u8 (bytesL a0)⟩], .br false, .br false, .br false, .br false, .br false, .call [] [(0, true)] (one (.str x5)) [some ⟨false, .puts x3.2.2⟩], .br false, .br false, .br false, .br true] [(2, [.puts])] [3] (nd (impl.unsummed.spec K a0 _ e1) (nd (impl.reader.number.spec K (bytesL a0) x1.1 x1.2 _ e2) (nd (impl.LogRead.l0.spec K a0 K x2.2.1 x2.2.2 [] x2.1 _ e3) (nd (impl.reader.done.spec (bytesL a0) x3.1 x3.2.1 _ e4) (nd (nf c1) (nd (nf c1) (nd (nf c1) (nd c2 (nd c2 (nd (impl.LogText.spec K x3.2.2 _ e5) (nd (rfl : (0 : Nat) = 0) (nd (rfl : x3.2.2.length = x3.2.2.length) (nd c2 (nd c2 (nd c2 (nd (nt c3) trivial)))))))))))))))) (by kernel_rfl)
  · obtain rfl := Option.some.inj h
    exact Den.Spec.of_walk tab mixed Try.func46 (by kernel_rfl) [.call [] [] (one (.ptr 0 0 0)) [some ⟨true, .cells [.sl 1 0 ((bytesL a0).length), .int .i64 x1.1, .bool x1.2]⟩, some ⟨true, .ints .u8 (bytesL a0)⟩], .call [(0, true), (1, true)] [] (one (.int .i64 x2.1)) [some ⟨true, .cells [.sl 1 0 ((bytesL a0).length), .int .i64 x2.2.1, .bool x2.2.2]⟩, some ⟨true, .ints .u8 (bytesL a0)⟩], .loop [] [0, 4, 5, 6] [0, 1, 2] (.exit 0) (impl.LogRead.l0.e0 K a0 x3), .call [(0, false), (1, false)] [] (one (.bool x4)) [some ⟨false, .cells [.sl 1 0 ((bytesL a0).length), .int .i64 x3.1, .bool x3.2.1]⟩, some ⟨false, .ints .u8 (bytesL a0)⟩], .br true, .br true, .br true, .br true, .br true, .br true, .br true, .br true, .br true] [(2, [.puts])] [3] (nd (impl.unsummed.spec K a0 _ e1) (nd (impl.reader.number.spec K (bytesL a0) x1.1 x1.2 _ e2) (nd (impl.LogRead.l0.spec K a0 K x2.2.1 x2.2.2 [] x2.1 _ e3) (nd (impl.reader.done.spec (bytesL a0) x3.1 x3.2.1 _ e4) (nd (nt c1) (nd (nt c1) (nd (nt c1) (nd tt (nd tt (nd tt (nd tt (nd tt (nd tt trivial))))))))))))) (by kernel_rfl)
def laws.eqPut.f (a0 : Int) (a1 : ByteArray) (a2 : Int) (a3 : ByteArray) : Option (Bool) :=
  cond (a0 != a2) (some false) (cond (strEq a1 a3) (some true) (some false))
theorem laws.eqPut.spec (a0 : Int) (a1 : ByteArray) (a2 : Int) (a3 : ByteArray) (o : Bool) (h : laws.eqPut.f a0 a1 a2 a3 = some o) : Den.Spec Try.prog 103 [.v (.agg [.int .i64 a0, .str a1]), .v (.agg [.int .i64 a2, .str a3])] [] (one (.bool o)) [] := by
  unfold laws.eqPut.f at h
  rcases br_cases h with ⟨c1, h⟩ | ⟨c1, h⟩
  · obtain rfl := Option.some.inj h
    exact Den.Spec.of_walk tab mixed Try.func103 (by kernel_rfl) [.br true] [] [] (nd c1 trivial) (by kernel_rfl)
  · rcases br_cases h with ⟨c2, h⟩ | ⟨c2, h⟩
    · obtain rfl := Option.some.inj h
      exact Den.Spec.of_walk tab mixed Try.func103 (by kernel_rfl) [.br false, .br false] [] [] (nd c1 (nd (nf c2) trivial)) (by kernel_rfl)
    · obtain rfl := Option.some.inj h
      exact Den.Spec.of_walk tab mixed Try.func103 (by kernel_rfl) [.br false, .br true] [] [] (nd c1 (nd (nt c2) trivial)) (by kernel_rfl)
def laws.eqPutS.l0.f (a0 : List (Int × ByteArray)) (a1 : List (Int × ByteArray)) : Nat → Int → Option (Unit ⊕ Unit)
  | 0, _ => none
  | k + 1, v62_0 =>
    cond (decide (v62_0 < (a0.length : Int))) (ck (0 ≤ v62_0) (ck (v62_0 < (a1.length : Int)) (Option.bind (laws.eqPut.f ((a0.getD v62_0.toNat (0, noVal)).1) ((a0.getD v62_0.toNat (0, noVal)).2) ((a1.getD v62_0.toNat (0, noVal)).1) ((a1.getD v62_0.toNat (0, noVal)).2)) fun x1 => cond (x1) (laws.eqPutS.l0.f a0 a1 k (w64 (v62_0 + 1))) (some (.inl ()))))) (some (.inr (())))
def laws.eqPutS.l0.s (a0 : List (Int × ByteArray)) (a1 : List (Int × ByteArray)) (v62_0 : Int) : St := mkSt 27 [(0, one (.sl 0 0 a0.length)), (1, one (.sl 1 0 a1.length)), (5, one (.int .i64 v62_0))] [some ⟨false, .puts a0⟩, some ⟨false, .puts a1⟩]
def laws.eqPutS.l0.e0 (a0 : List (Int × ByteArray)) (a1 : List (Int × ByteArray)) (o : Unit) : St := mkSt 27 [(4, one (.bool false))] [some ⟨false, .puts a0⟩, some ⟨false, .puts a1⟩]
def laws.eqPutS.l0.e1 (a0 : List (Int × ByteArray)) (a1 : List (Int × ByteArray)) (o : Unit) : St := mkSt 27 [] [some ⟨false, .puts a0⟩, some ⟨false, .puts a1⟩]
def laws.eqPutS.l0.x (a0 : List (Int × ByteArray)) (a1 : List (Int × ByteArray)) : (Unit ⊕ Unit) → AExit × St := Sum.elim (fun o => (.ret, laws.eqPutS.l0.e0 a0 a1 o)) (fun o => (.exit 0, laws.eqPutS.l0.e1 a0 a1 o))
theorem laws.eqPutS.l0.spec (a0 : List (Int × ByteArray)) (a1 : List (Int × ByteArray)) : ∀ (k : Nat) (v62_0 : Int) (o : Unit ⊕ Unit), laws.eqPutS.l0.f a0 a1 k v62_0 = some o → LoopSpec Try.prog 2 (loopN Try.f44 0) (laws.eqPutS.l0.s a0 a1 v62_0) (laws.eqPutS.l0.x a0 a1 o).1 (laws.eqPutS.l0.x a0 a1 o).2
  | 0, _, _, h => by cases h
  | k + 1, v62_0, o, h => by
    unfold laws.eqPutS.l0.f at h
    rcases br_cases h with ⟨c1, h⟩ | ⟨c1, h⟩
    · obtain ⟨p1, h⟩ := ck_some h
      obtain ⟨p2, h⟩ := ck_some h
      obtain ⟨x1, e1, h⟩ := bind_some h
      rcases br_cases h with ⟨c2, h⟩ | ⟨c2, h⟩
      · exact .of_step tab mixed [.br true, .call [] [] (one (.bool x1)) [], .br false] [] [0, 1, 5] [0, 1] (s1 := laws.eqPutS.l0.s a0 a1 (w64 (v62_0 + 1))) (nd c1 (nd p1 (nd (of_decide_eq_true c1) (nd (tn p1 (of_decide_eq_true c1)) (nd p1 (nd p2 (nd (tn p1 p2) (nd (laws.eqPut.spec ((a0.getD v62_0.toNat (0, noVal)).1) ((a0.getD v62_0.toNat (0, noVal)).2) ((a1.getD v62_0.toNat (0, noVal)).1) ((a1.getD v62_0.toNat (0, noVal)).2) _ e1) (nd (nf c2) trivial))))))))) (by kernel_rfl) (laws.eqPutS.l0.spec a0 a1 k (w64 (v62_0 + 1)) _ h)
      · obtain rfl := Option.some.inj h
        exact .of_done tab mixed [.br true, .call [] [] (one (.bool x1)) [], .br true] [] [4] [0, 1] rfl (nd c1 (nd p1 (nd (of_decide_eq_true c1) (nd (tn p1 (of_decide_eq_true c1)) (nd p1 (nd p2 (nd (tn p1 p2) (nd (laws.eqPut.spec ((a0.getD v62_0.toNat (0, noVal)).1) ((a0.getD v62_0.toNat (0, noVal)).2) ((a1.getD v62_0.toNat (0, noVal)).1) ((a1.getD v62_0.toNat (0, noVal)).2) _ e1) (nd (nt c2) trivial))))))))) (by kernel_rfl)
    · obtain rfl := Option.some.inj h
      exact .of_done tab mixed [.br false] [] [] [0, 1] rfl (nd c1 trivial) (by kernel_rfl)
def laws.eqPutS.f (K : Nat) (a0 : List (Int × ByteArray)) (a1 : List (Int × ByteArray)) : Option (Bool) :=
  cond ((a0.length : Int) != (a1.length : Int)) (some false) (Option.bind (laws.eqPutS.l0.f a0 a1 K 0) fun x1 => (Sum.elim (fun x1 => some false) (fun x1 => some true)) x1)
theorem laws.eqPutS.spec (K : Nat) (a0 : List (Int × ByteArray)) (a1 : List (Int × ByteArray)) (o : Bool) (h : laws.eqPutS.f K a0 a1 = some o) : Den.Spec Try.prog 44 [one (.sl 0 0 a0.length), one (.sl 1 0 a1.length)] [some ⟨false, .puts a0⟩, some ⟨false, .puts a1⟩] (one (.bool o)) [some ⟨false, .puts a0⟩, some ⟨false, .puts a1⟩] := by
  unfold laws.eqPutS.f at h
  rcases br_cases h with ⟨c1, h⟩ | ⟨c1, h⟩
  · obtain rfl := Option.some.inj h
    exact Den.Spec.of_walk tab mixed Try.func44 (by kernel_rfl) [.br true] [] [0, 1] (nd c1 trivial) (by kernel_rfl)
  · obtain ⟨x1, e1, h⟩ := bind_some h
    rcases x1 with x1 | x1
    · obtain rfl := Option.some.inj h
      exact Den.Spec.of_walk tab mixed Try.func44 (by kernel_rfl) [.br false, .loop [] [0, 1, 5] [0, 1] (.ret) (laws.eqPutS.l0.e0 a0 a1 x1)] [] [0, 1] (nd c1 (nd (laws.eqPutS.l0.spec a0 a1 K 0 _ e1) trivial)) (by kernel_rfl)
    · obtain rfl := Option.some.inj h
      exact Den.Spec.of_walk tab mixed Try.func44 (by kernel_rfl) [.br false, .loop [] [0, 1, 5] [0, 1] (.exit 0) (laws.eqPutS.l0.e1 a0 a1 x1)] [] [0, 1] (nd c1 (nd (laws.eqPutS.l0.spec a0 a1 K 0 _ e1) trivial)) (by kernel_rfl)
def laws.markText.l0.f : Nat → Int → ByteArray → Option (ByteArray)
  | 0, _, _ => none
  | k + 1, v66_0, v66_1 =>
    cond (decide (v66_0 > 0)) (ck ((((ofBytes [IntKind.u8.wrap (w64 (48 + (v66_0.tmod 10)))]).size + v66_1.size : Nat) : Int) ≤ 9223372036854775807) (laws.markText.l0.f k (w64 (v66_0.tdiv 10)) ((ofBytes [IntKind.u8.wrap (w64 (48 + (v66_0.tmod 10)))]) ++ v66_1))) (some v66_1)
def laws.markText.l0.s (v66_0 : Int) (v66_1 : ByteArray) : St := mkSt 20 [(0, one (.int .i64 v66_0)), (3, one (.str v66_1))] []
def laws.markText.l0.e0 (o : ByteArray) : St := mkSt 20 [(3, one (.str o))] []
def laws.markText.l0.x : (ByteArray) → AExit × St := fun o => (.exit 0, laws.markText.l0.e0 o)
theorem laws.markText.l0.spec : ∀ (k : Nat) (v66_0 : Int) (v66_1 : ByteArray) (o : ByteArray), laws.markText.l0.f k v66_0 v66_1 = some o → LoopSpec Try.prog 0 (loopN Try.f104 0) (laws.markText.l0.s v66_0 v66_1) (laws.markText.l0.x o).1 (laws.markText.l0.x o).2
  | 0, _, _, _, h => by cases h
  | k + 1, v66_0, v66_1, o, h => by
    unfold laws.markText.l0.f at h
    rcases br_cases h with ⟨c1, h⟩ | ⟨c1, h⟩
    · obtain ⟨p1, h⟩ := ck_some h
      exact .of_step tab mixed [.br true, .br true] [] [0, 3] [] (s1 := laws.markText.l0.s (w64 (v66_0.tdiv 10)) ((ofBytes [IntKind.u8.wrap (w64 (48 + (v66_0.tmod 10)))]) ++ v66_1)) (nd c1 (nd (by decide : (10 : Int) ≠ 0) (nd (rfl : (0 : Nat) = 0) (nd (rfl : 1 = 1) (nd p1 (nd (by decide : (10 : Int) ≠ 0) trivial)))))) (by kernel_rfl) (laws.markText.l0.spec k (w64 (v66_0.tdiv 10)) ((ofBytes [IntKind.u8.wrap (w64 (48 + (v66_0.tmod 10)))]) ++ v66_1) _ h)
    · obtain rfl := Option.some.inj h
      exact .of_done tab mixed [.br false] [] [3] [] rfl (nd c1 trivial) (by kernel_rfl)
def laws.markText.f (K : Nat) (a0 : Int) : Option (ByteArray) :=
  cond (decide (a0 ≤ 0)) (some (ByteArray.mk #[109, 48])) (Option.bind (laws.markText.l0.f K a0 noVal) fun x1 => ck ((((ByteArray.mk #[109]).size + x1.size : Nat) : Int) ≤ 9223372036854775807) (some ((ByteArray.mk #[109]) ++ x1)))
theorem laws.markText.spec (K : Nat) (a0 : Int) (o : ByteArray) (h : laws.markText.f K a0 = some o) : Den.Spec Try.prog 104 [one (.int .i64 a0)] [] (one (.str o)) [] := by
  unfold laws.markText.f at h
  rcases br_cases h with ⟨c1, h⟩ | ⟨c1, h⟩
  · obtain rfl := Option.some.inj h
    exact Den.Spec.of_walk tab mixed Try.func104 (by kernel_rfl) [.br true] [] [] (nd c1 trivial) (by kernel_rfl)
  · obtain ⟨x1, e1, h⟩ := bind_some h
    obtain ⟨p1, h⟩ := ck_some h
    obtain rfl := Option.some.inj h
    exact Den.Spec.of_walk tab mixed Try.func104 (by kernel_rfl) [.br false, .loop [] [0, 3] [] (.exit 0) (laws.markText.l0.e0 x1)] [] [] (nd c1 (nd (laws.markText.l0.spec K a0 noVal _ e1) (nd p1 trivial))) (by kernel_rfl)
def laws.markPutS.l0.f (K : Nat) : Nat → (List (Int × ByteArray)) → Nat → Int → Int → Option (Int × (List (Int × ByteArray)))
  | 0, _, _, _, _ => none
  | k + 1, v68_0, v68_1, v68_2, v68_3 =>
    cond (decide (v68_3 < (v68_1 : Int))) (ck (0 ≤ v68_3) (ck (v68_3.toNat < v68_0.length) (Option.bind (laws.markText.f K (w64 (v68_2 + 1))) fun x1 => laws.markPutS.l0.f K k ((v68_0.set v68_3.toNat (v68_2, (v68_0.getD v68_3.toNat (0, noVal)).2)).set v68_3.toNat (((v68_0.set v68_3.toNat (v68_2, (v68_0.getD v68_3.toNat (0, noVal)).2)).getD v68_3.toNat (0, noVal)).1, x1)) v68_1 (w64 ((w64 (v68_2 + 1)) + 1)) (w64 (v68_3 + 1))))) (some (v68_2, v68_0))
def laws.markPutS.l0.s (K : Nat) (v68_0 : List (Int × ByteArray)) (v68_1 : Nat) (v68_2 : Int) (v68_3 : Int) : St := mkSt 28 [(0, one (.sl 0 0 v68_1)), (1, one (.int .i64 v68_2)), (5, one (.int .i64 v68_3))] [some ⟨true, .puts v68_0⟩]
def laws.markPutS.l0.e0 (K : Nat) (o : Int × (List (Int × ByteArray))) : St := mkSt 28 [(1, one (.int .i64 o.1))] [some ⟨true, .puts o.2⟩]
def laws.markPutS.l0.x (K : Nat) : (Int × (List (Int × ByteArray))) → AExit × St := fun o => (.exit 0, laws.markPutS.l0.e0 K o)
theorem laws.markPutS.l0.spec (K : Nat) : ∀ (k : Nat) (v68_0 : List (Int × ByteArray)) (v68_1 : Nat) (v68_2 : Int) (v68_3 : Int) (o : Int × (List (Int × ByteArray))), laws.markPutS.l0.f K k v68_0 v68_1 v68_2 v68_3 = some o → LoopSpec Try.prog 1 (loopN Try.f47 0) (laws.markPutS.l0.s K v68_0 v68_1 v68_2 v68_3) (laws.markPutS.l0.x K o).1 (laws.markPutS.l0.x K o).2
  | 0, _, _, _, _, _, h => by cases h
  | k + 1, v68_0, v68_1, v68_2, v68_3, o, h => by
    unfold laws.markPutS.l0.f at h
    rcases br_cases h with ⟨c1, h⟩ | ⟨c1, h⟩
    · obtain ⟨p1, h⟩ := ck_some h
      obtain ⟨p2, h⟩ := ck_some h
      obtain ⟨x1, e1, h⟩ := bind_some h
      exact .of_step tab mixed [.br true, .call [] [] (one (.str x1)) []] [] [0, 1, 5] [0] (s1 := laws.markPutS.l0.s K ((v68_0.set v68_3.toNat (v68_2, (v68_0.getD v68_3.toNat (0, noVal)).2)).set v68_3.toNat (((v68_0.set v68_3.toNat (v68_2, (v68_0.getD v68_3.toNat (0, noVal)).2)).getD v68_3.toNat (0, noVal)).1, x1)) v68_1 (w64 ((w64 (v68_2 + 1)) + 1)) (w64 (v68_3 + 1))) (nd c1 (nd p1 (nd (of_decide_eq_true c1) (nd p2 (nd (laws.markText.spec K (w64 (v68_2 + 1)) _ e1) (nd p1 (nd (of_decide_eq_true c1) (nd (lt_set p2 : v68_3.toNat < (v68_0.set v68_3.toNat (v68_2, (v68_0.getD v68_3.toNat (0, noVal)).2)).length) trivial)))))))) (by kernel_rfl) (laws.markPutS.l0.spec K k ((v68_0.set v68_3.toNat (v68_2, (v68_0.getD v68_3.toNat (0, noVal)).2)).set v68_3.toNat (((v68_0.set v68_3.toNat (v68_2, (v68_0.getD v68_3.toNat (0, noVal)).2)).getD v68_3.toNat (0, noVal)).1, x1)) v68_1 (w64 ((w64 (v68_2 + 1)) + 1)) (w64 (v68_3 + 1)) _ h)
    · obtain rfl := Option.some.inj h
      exact .of_done tab mixed [.br false] [] [1] [0] rfl (nd c1 trivial) (by kernel_rfl)
def laws.markPutS.f (K : Nat) (a0 : List (Int × ByteArray)) (a1 : Int) : Option (Int × (List (Int × ByteArray))) :=
  Option.bind (laws.markPutS.l0.f K K a0 a0.length a1 0) fun x1 => some (x1.1, x1.2)
theorem laws.markPutS.spec (K : Nat) (a0 : List (Int × ByteArray)) (a1 : Int) (o : Int × (List (Int × ByteArray))) (h : laws.markPutS.f K a0 a1 = some o) : Den.Spec Try.prog 47 [one (.sl 0 0 a0.length), one (.int .i64 a1)] [some ⟨true, .puts a0⟩] (one (.int .i64 o.1)) [some ⟨true, .puts o.2⟩] := by
  unfold laws.markPutS.f at h
  obtain ⟨x1, e1, h⟩ := bind_some h
  obtain rfl := Option.some.inj h
  exact Den.Spec.of_walk tab mixed Try.func47 (by kernel_rfl) [.loop [] [0, 1, 5] [0] (.exit 0) (laws.markPutS.l0.e0 K x1)] [] [0] (nd (laws.markPutS.l0.spec K K a0 a0.length a1 0 _ e1) trivial) (by kernel_rfl)
def laws.heldPutS.l0.f (K : Nat) (a0 : List (Int × ByteArray)) : Nat → Int → Int → Option (Unit ⊕ Int)
  | 0, _, _ => none
  | k + 1, v71_0, v71_1 =>
    cond (decide (v71_1 < (a0.length : Int))) (ck (0 ≤ v71_1) (cond (((a0.getD v71_1.toNat (0, noVal)).1) != v71_0) (some (.inl ())) (Option.bind (laws.markText.f K (w64 (v71_0 + 1))) fun x1 => cond (strEq ((a0.getD v71_1.toNat (0, noVal)).2) x1) (laws.heldPutS.l0.f K a0 k (w64 ((w64 (v71_0 + 1)) + 1)) (w64 (v71_1 + 1))) (some (.inl ()))))) (some (.inr (v71_0)))
def laws.heldPutS.l0.s (K : Nat) (a0 : List (Int × ByteArray)) (v71_0 : Int) (v71_1 : Int) : St := mkSt 32 [(0, one (.sl 0 0 a0.length)), (1, one (.int .i64 v71_0)), (5, one (.int .i64 v71_1))] [some ⟨false, .puts a0⟩]
def laws.heldPutS.l0.e0 (K : Nat) (a0 : List (Int × ByteArray)) (o : Unit) : St := mkSt 32 [(4, one (.int .i64 (-1)))] [some ⟨false, .puts a0⟩]
def laws.heldPutS.l0.e1 (K : Nat) (a0 : List (Int × ByteArray)) (o : Int) : St := mkSt 32 [(1, one (.int .i64 o))] [some ⟨false, .puts a0⟩]
def laws.heldPutS.l0.x (K : Nat) (a0 : List (Int × ByteArray)) : (Unit ⊕ Int) → AExit × St := Sum.elim (fun o => (.ret, laws.heldPutS.l0.e0 K a0 o)) (fun o => (.exit 0, laws.heldPutS.l0.e1 K a0 o))
theorem laws.heldPutS.l0.spec (K : Nat) (a0 : List (Int × ByteArray)) : ∀ (k : Nat) (v71_0 : Int) (v71_1 : Int) (o : Unit ⊕ Int), laws.heldPutS.l0.f K a0 k v71_0 v71_1 = some o → LoopSpec Try.prog 1 (loopN Try.f48 0) (laws.heldPutS.l0.s K a0 v71_0 v71_1) (laws.heldPutS.l0.x K a0 o).1 (laws.heldPutS.l0.x K a0 o).2
  | 0, _, _, _, h => by cases h
  | k + 1, v71_0, v71_1, o, h => by
    unfold laws.heldPutS.l0.f at h
    rcases br_cases h with ⟨c1, h⟩ | ⟨c1, h⟩
    · obtain ⟨p1, h⟩ := ck_some h
      rcases br_cases h with ⟨c2, h⟩ | ⟨c2, h⟩
      · obtain rfl := Option.some.inj h
        exact .of_done tab mixed [.br true, .br true] [] [4] [0] rfl (nd c1 (nd p1 (nd (of_decide_eq_true c1) (nd (tn p1 (of_decide_eq_true c1)) (nd c2 trivial))))) (by kernel_rfl)
      · obtain ⟨x1, e1, h⟩ := bind_some h
        rcases br_cases h with ⟨c3, h⟩ | ⟨c3, h⟩
        · exact .of_step tab mixed [.br true, .br false, .call [] [] (one (.str x1)) [], .br false] [] [0, 1, 5] [0] (s1 := laws.heldPutS.l0.s K a0 (w64 ((w64 (v71_0 + 1)) + 1)) (w64 (v71_1 + 1))) (nd c1 (nd p1 (nd (of_decide_eq_true c1) (nd (tn p1 (of_decide_eq_true c1)) (nd c2 (nd p1 (nd (of_decide_eq_true c1) (nd (tn p1 (of_decide_eq_true c1)) (nd (laws.markText.spec K (w64 (v71_0 + 1)) _ e1) (nd (nf c3) trivial)))))))))) (by kernel_rfl) (laws.heldPutS.l0.spec K a0 k (w64 ((w64 (v71_0 + 1)) + 1)) (w64 (v71_1 + 1)) _ h)
        · obtain rfl := Option.some.inj h
          exact .of_done tab mixed [.br true, .br false, .call [] [] (one (.str x1)) [], .br true] [] [4] [0] rfl (nd c1 (nd p1 (nd (of_decide_eq_true c1) (nd (tn p1 (of_decide_eq_true c1)) (nd c2 (nd p1 (nd (of_decide_eq_true c1) (nd (tn p1 (of_decide_eq_true c1)) (nd (laws.markText.spec K (w64 (v71_0 + 1)) _ e1) (nd (nt c3) trivial)))))))))) (by kernel_rfl)
    · obtain rfl := Option.some.inj h
      exact .of_done tab mixed [.br false] [] [1] [0] rfl (nd c1 trivial) (by kernel_rfl)
def laws.heldPutS.f (K : Nat) (a0 : List (Int × ByteArray)) (a1 : Int) : Option (Int) :=
  Option.bind (laws.heldPutS.l0.f K a0 K a1 0) fun x1 => (Sum.elim (fun x1 => some (-1)) (fun x1 => some x1)) x1
theorem laws.heldPutS.spec (K : Nat) (a0 : List (Int × ByteArray)) (a1 : Int) (o : Int) (h : laws.heldPutS.f K a0 a1 = some o) : Den.Spec Try.prog 48 [one (.sl 0 0 a0.length), one (.int .i64 a1)] [some ⟨false, .puts a0⟩] (one (.int .i64 o)) [some ⟨false, .puts a0⟩] := by
  unfold laws.heldPutS.f at h
  obtain ⟨x1, e1, h⟩ := bind_some h
  rcases x1 with x1 | x1
  · obtain rfl := Option.some.inj h
    exact Den.Spec.of_walk tab mixed Try.func48 (by kernel_rfl) [.loop [] [0, 1, 5] [0] (.ret) (laws.heldPutS.l0.e0 K a0 x1)] [] [0] (nd (laws.heldPutS.l0.spec K a0 K a1 0 _ e1) trivial) (by kernel_rfl)
  · obtain rfl := Option.some.inj h
    exact Den.Spec.of_walk tab mixed Try.func48 (by kernel_rfl) [.loop [] [0, 1, 5] [0] (.exit 0) (laws.heldPutS.l0.e1 K a0 x1)] [] [0] (nd (laws.heldPutS.l0.spec K a0 K a1 0 _ e1) trivial) (by kernel_rfl)
def laws.FnExactLogRead.f (K : Nat) (a0 : ByteArray) : Option (Bool) :=
  cond (decide ((a0.size : Int) > 1048576)) (some true) (Option.bind (spec.LogRead.f K a0) fun x1 => Option.bind (impl.LogRead.f K a0) fun x2 => Option.bind (laws.eqPutS.f K x2.1 x1.1) fun x3 => cond (x3) (cond (x2.2 == x1.2) (Option.bind (laws.markPutS.f K x2.1 1) fun x4 => Option.bind (laws.heldPutS.f K ((x4.2.drop 0).take x2.1.length) 1) fun x5 => ck (0 + x2.1.length ≤ x4.2.length) (cond (decide (x5 < 0)) (some false) (cond (x5 != x4.1) (some false) (Option.bind (impl.LogRead.f K a0) fun x6 => Option.bind (laws.eqPutS.f K x6.1 x1.1) fun x7 => cond (x7) (cond (x6.2 == x1.2) (Option.bind (laws.heldPutS.f K ((x4.2.drop 0).take x2.1.length) 1) fun x8 => cond (decide (x8 < 0)) (some false) (cond (x8 != x4.1) (some false) (some true))) (some false)) (some false))))) (some false)) (some false))
theorem laws.FnExactLogRead.spec (K : Nat) (a0 : ByteArray) (o : Bool) (h : laws.FnExactLogRead.f K a0 = some o) : Den.Spec Try.prog 7 [one (.str a0)] [] (one (.bool o)) [] := by
  unfold laws.FnExactLogRead.f at h
  rcases br_cases h with ⟨c1, h⟩ | ⟨c1, h⟩
  · obtain rfl := Option.some.inj h
    exact Den.Spec.of_walk tab mixed Try.func7 (by kernel_rfl) [.br true] [] [] (nd c1 trivial) (by kernel_rfl)
  · obtain ⟨x1, e1, h⟩ := bind_some h
    obtain ⟨x2, e2, h⟩ := bind_some h
    obtain ⟨x3, e3, h⟩ := bind_some h
    rcases br_cases h with ⟨c2, h⟩ | ⟨c2, h⟩
    · rcases br_cases h with ⟨c3, h⟩ | ⟨c3, h⟩
      · obtain ⟨x4, e4, h⟩ := bind_some h
        obtain ⟨x5, e5, h⟩ := bind_some h
        obtain ⟨p1, h⟩ := ck_some h
        rcases br_cases h with ⟨c4, h⟩ | ⟨c4, h⟩
        · obtain rfl := Option.some.inj h
          exact Den.Spec.of_walk tab mixed Try.func7 (by kernel_rfl) [.br false, .call [] [] (.tup [.c (.sl 0 0 x1.1.length), .c (.bool x1.2)]) [some ⟨true, .puts x1.1⟩], .call [] [] (.tup [.c (.sl 0 0 x2.1.length), .c (.bool x2.2)]) [some ⟨true, .puts x2.1⟩], .call [] [(0, true), (1, true)] (one (.bool x3)) [some ⟨false, .puts x2.1⟩, some ⟨false, .puts x1.1⟩], .br false, .br false, .br false, .br false, .br false, .call [(1, true)] [] (one (.int .i64 x4.1)) [some ⟨true, .puts x4.2⟩], .call [] [(0, false)] (one (.int .i64 x5)) [some ⟨false, .puts ((x4.2.drop 0).take x2.1.length)⟩], .br true] [] [] (nd c1 (nd (spec.LogRead.spec K a0 _ e1) (nd (impl.LogRead.spec K a0 _ e2) (nd (laws.eqPutS.spec K x2.1 x1.1 _ e3) (nd (rfl : (0 : Nat) = 0) (nd (rfl : x2.1.length = x2.1.length) (nd (rfl : (0 : Nat) = 0) (nd (rfl : x1.1.length = x1.1.length) (nd (nf c2) (nd (nf c2) (nd (nf c2) (nd (nf c2) (nd (nf c3) (nd (laws.markPutS.spec K x2.1 1 _ e4) (nd ((laws.heldPutS.spec K ((x4.2.drop 0).take x2.1.length) 1 _ e5).args (congrArg (fun n => ([one (.sl 0 0 n), one (.int .i64 1)] : List AV)) (win_len p1))) (nd c4 trivial)))))))))))))))) (by kernel_rfl)
        · rcases br_cases h with ⟨c5, h⟩ | ⟨c5, h⟩
          · obtain rfl := Option.some.inj h
            exact Den.Spec.of_walk tab mixed Try.func7 (by kernel_rfl) [.br false, .call [] [] (.tup [.c (.sl 0 0 x1.1.length), .c (.bool x1.2)]) [some ⟨true, .puts x1.1⟩], .call [] [] (.tup [.c (.sl 0 0 x2.1.length), .c (.bool x2.2)]) [some ⟨true, .puts x2.1⟩], .call [] [(0, true), (1, true)] (one (.bool x3)) [some ⟨false, .puts x2.1⟩, some ⟨false, .puts x1.1⟩], .br false, .br false, .br false, .br false, .br false, .call [(1, true)] [] (one (.int .i64 x4.1)) [some ⟨true, .puts x4.2⟩], .call [] [(0, false)] (one (.int .i64 x5)) [some ⟨false, .puts ((x4.2.drop 0).take x2.1.length)⟩], .br false, .br true] [] [] (nd c1 (nd (spec.LogRead.spec K a0 _ e1) (nd (impl.LogRead.spec K a0 _ e2) (nd (laws.eqPutS.spec K x2.1 x1.1 _ e3) (nd (rfl : (0 : Nat) = 0) (nd (rfl : x2.1.length = x2.1.length) (nd (rfl : (0 : Nat) = 0) (nd (rfl : x1.1.length = x1.1.length) (nd (nf c2) (nd (nf c2) (nd (nf c2) (nd (nf c2) (nd (nf c3) (nd (laws.markPutS.spec K x2.1 1 _ e4) (nd ((laws.heldPutS.spec K ((x4.2.drop 0).take x2.1.length) 1 _ e5).args (congrArg (fun n => ([one (.sl 0 0 n), one (.int .i64 1)] : List AV)) (win_len p1))) (nd c4 (nd c5 trivial))))))))))))))))) (by kernel_rfl)
          · obtain ⟨x6, e6, h⟩ := bind_some h
            obtain ⟨x7, e7, h⟩ := bind_some h
            rcases br_cases h with ⟨c6, h⟩ | ⟨c6, h⟩
            · rcases br_cases h with ⟨c7, h⟩ | ⟨c7, h⟩
              · obtain ⟨x8, e8, h⟩ := bind_some h
                rcases br_cases h with ⟨c8, h⟩ | ⟨c8, h⟩
                · obtain rfl := Option.some.inj h
                  exact Den.Spec.of_walk tab mixed Try.func7 (by kernel_rfl) [.br false, .call [] [] (.tup [.c (.sl 0 0 x1.1.length), .c (.bool x1.2)]) [some ⟨true, .puts x1.1⟩], .call [] [] (.tup [.c (.sl 0 0 x2.1.length), .c (.bool x2.2)]) [some ⟨true, .puts x2.1⟩], .call [] [(0, true), (1, true)] (one (.bool x3)) [some ⟨false, .puts x2.1⟩, some ⟨false, .puts x1.1⟩], .br false, .br false, .br false, .br false, .br false, .call [(1, true)] [] (one (.int .i64 x4.1)) [some ⟨true, .puts x4.2⟩], .call [] [(0, false)] (one (.int .i64 x5)) [some ⟨false, .puts ((x4.2.drop 0).take x2.1.length)⟩], .br false, .br false, .call [] [] (.tup [.c (.sl 0 0 x6.1.length), .c (.bool x6.2)]) [some ⟨true, .puts x6.1⟩], .call [] [(0, true), (1, true)] (one (.bool x7)) [some ⟨false, .puts x6.1⟩, some ⟨false, .puts x1.1⟩], .br false, .br false, .br false, .br false, .br false, .call [] [(0, false)] (one (.int .i64 x8)) [some ⟨false, .puts ((x4.2.drop 0).take x2.1.length)⟩], .br true] [] [] (nd c1 (nd (spec.LogRead.spec K a0 _ e1) (nd (impl.LogRead.spec K a0 _ e2) (nd (laws.eqPutS.spec K x2.1 x1.1 _ e3) (nd (rfl : (0 : Nat) = 0) (nd (rfl : x2.1.length = x2.1.length) (nd (rfl : (0 : Nat) = 0) (nd (rfl : x1.1.length = x1.1.length) (nd (nf c2) (nd (nf c2) (nd (nf c2) (nd (nf c2) (nd (nf c3) (nd (laws.markPutS.spec K x2.1 1 _ e4) (nd ((laws.heldPutS.spec K ((x4.2.drop 0).take x2.1.length) 1 _ e5).args (congrArg (fun n => ([one (.sl 0 0 n), one (.int .i64 1)] : List AV)) (win_len p1))) (nd c4 (nd c5 (nd (impl.LogRead.spec K a0 _ e6) (nd (laws.eqPutS.spec K x6.1 x1.1 _ e7) (nd (rfl : (0 : Nat) = 0) (nd (rfl : x6.1.length = x6.1.length) (nd (rfl : (0 : Nat) = 0) (nd (rfl : x1.1.length = x1.1.length) (nd (nf c6) (nd (nf c6) (nd (nf c6) (nd (nf c6) (nd (nf c7) (nd ((laws.heldPutS.spec K ((x4.2.drop 0).take x2.1.length) 1 _ e8).args (congrArg (fun n => ([one (.sl 0 0 n), one (.int .i64 1)] : List AV)) (win_len p1))) (nd c8 trivial)))))))))))))))))))))))))))))) (by kernel_rfl)
                · rcases br_cases h with ⟨c9, h⟩ | ⟨c9, h⟩
                  · obtain rfl := Option.some.inj h
                    exact Den.Spec.of_walk tab mixed Try.func7 (by kernel_rfl) [.br false, .call [] [] (.tup [.c (.sl 0 0 x1.1.length), .c (.bool x1.2)]) [some ⟨true, .puts x1.1⟩], .call [] [] (.tup [.c (.sl 0 0 x2.1.length), .c (.bool x2.2)]) [some ⟨true, .puts x2.1⟩], .call [] [(0, true), (1, true)] (one (.bool x3)) [some ⟨false, .puts x2.1⟩, some ⟨false, .puts x1.1⟩], .br false, .br false, .br false, .br false, .br false, .call [(1, true)] [] (one (.int .i64 x4.1)) [some ⟨true, .puts x4.2⟩], .call [] [(0, false)] (one (.int .i64 x5)) [some ⟨false, .puts ((x4.2.drop 0).take x2.1.length)⟩], .br false, .br false, .call [] [] (.tup [.c (.sl 0 0 x6.1.length), .c (.bool x6.2)]) [some ⟨true, .puts x6.1⟩], .call [] [(0, true), (1, true)] (one (.bool x7)) [some ⟨false, .puts x6.1⟩, some ⟨false, .puts x1.1⟩], .br false, .br false, .br false, .br false, .br false, .call [] [(0, false)] (one (.int .i64 x8)) [some ⟨false, .puts ((x4.2.drop 0).take x2.1.length)⟩], .br false, .br true] [] [] (nd c1 (nd (spec.LogRead.spec K a0 _ e1) (nd (impl.LogRead.spec K a0 _ e2) (nd (laws.eqPutS.spec K x2.1 x1.1 _ e3) (nd (rfl : (0 : Nat) = 0) (nd (rfl : x2.1.length = x2.1.length) (nd (rfl : (0 : Nat) = 0) (nd (rfl : x1.1.length = x1.1.length) (nd (nf c2) (nd (nf c2) (nd (nf c2) (nd (nf c2) (nd (nf c3) (nd (laws.markPutS.spec K x2.1 1 _ e4) (nd ((laws.heldPutS.spec K ((x4.2.drop 0).take x2.1.length) 1 _ e5).args (congrArg (fun n => ([one (.sl 0 0 n), one (.int .i64 1)] : List AV)) (win_len p1))) (nd c4 (nd c5 (nd (impl.LogRead.spec K a0 _ e6) (nd (laws.eqPutS.spec K x6.1 x1.1 _ e7) (nd (rfl : (0 : Nat) = 0) (nd (rfl : x6.1.length = x6.1.length) (nd (rfl : (0 : Nat) = 0) (nd (rfl : x1.1.length = x1.1.length) (nd (nf c6) (nd (nf c6) (nd (nf c6) (nd (nf c6) (nd (nf c7) (nd ((laws.heldPutS.spec K ((x4.2.drop 0).take x2.1.length) 1 _ e8).args (congrArg (fun n => ([one (.sl 0 0 n), one (.int .i64 1)] : List AV)) (win_len p1))) (nd c8 (nd c9 trivial))))))))))))))))))))))))))))))) (by kernel_rfl)
                  · obtain rfl := Option.some.inj h
                    exact Den.Spec.of_walk tab mixed Try.func7 (by kernel_rfl) [.br false, .call [] [] (.tup [.c (.sl 0 0 x1.1.length), .c (.bool x1.2)]) [some ⟨true, .puts x1.1⟩], .call [] [] (.tup [.c (.sl 0 0 x2.1.length), .c (.bool x2.2)]) [some ⟨true, .puts x2.1⟩], .call [] [(0, true), (1, true)] (one (.bool x3)) [some ⟨false, .puts x2.1⟩, some ⟨false, .puts x1.1⟩], .br false, .br false, .br false, .br false, .br false, .call [(1, true)] [] (one (.int .i64 x4.1)) [some ⟨true, .puts x4.2⟩], .call [] [(0, false)] (one (.int .i64 x5)) [some ⟨false, .puts ((x4.2.drop 0).take x2.1.length)⟩], .br false, .br false, .call [] [] (.tup [.c (.sl 0 0 x6.1.length), .c (.bool x6.2)]) [some ⟨true, .puts x6.1⟩], .call [] [(0, true), (1, true)] (one (.bool x7)) [some ⟨false, .puts x6.1⟩, some ⟨false, .puts x1.1⟩], .br false, .br false, .br false, .br false, .br false, .call [] [(0, false)] (one (.int .i64 x8)) [some ⟨false, .puts ((x4.2.drop 0).take x2.1.length)⟩], .br false, .br false] [] [] (nd c1 (nd (spec.LogRead.spec K a0 _ e1) (nd (impl.LogRead.spec K a0 _ e2) (nd (laws.eqPutS.spec K x2.1 x1.1 _ e3) (nd (rfl : (0 : Nat) = 0) (nd (rfl : x2.1.length = x2.1.length) (nd (rfl : (0 : Nat) = 0) (nd (rfl : x1.1.length = x1.1.length) (nd (nf c2) (nd (nf c2) (nd (nf c2) (nd (nf c2) (nd (nf c3) (nd (laws.markPutS.spec K x2.1 1 _ e4) (nd ((laws.heldPutS.spec K ((x4.2.drop 0).take x2.1.length) 1 _ e5).args (congrArg (fun n => ([one (.sl 0 0 n), one (.int .i64 1)] : List AV)) (win_len p1))) (nd c4 (nd c5 (nd (impl.LogRead.spec K a0 _ e6) (nd (laws.eqPutS.spec K x6.1 x1.1 _ e7) (nd (rfl : (0 : Nat) = 0) (nd (rfl : x6.1.length = x6.1.length) (nd (rfl : (0 : Nat) = 0) (nd (rfl : x1.1.length = x1.1.length) (nd (nf c6) (nd (nf c6) (nd (nf c6) (nd (nf c6) (nd (nf c7) (nd ((laws.heldPutS.spec K ((x4.2.drop 0).take x2.1.length) 1 _ e8).args (congrArg (fun n => ([one (.sl 0 0 n), one (.int .i64 1)] : List AV)) (win_len p1))) (nd c8 (nd c9 trivial))))))))))))))))))))))))))))))) (by kernel_rfl)
              · obtain rfl := Option.some.inj h
                exact Den.Spec.of_walk tab mixed Try.func7 (by kernel_rfl) [.br false, .call [] [] (.tup [.c (.sl 0 0 x1.1.length), .c (.bool x1.2)]) [some ⟨true, .puts x1.1⟩], .call [] [] (.tup [.c (.sl 0 0 x2.1.length), .c (.bool x2.2)]) [some ⟨true, .puts x2.1⟩], .call [] [(0, true), (1, true)] (one (.bool x3)) [some ⟨false, .puts x2.1⟩, some ⟨false, .puts x1.1⟩], .br false, .br false, .br false, .br false, .br false, .call [(1, true)] [] (one (.int .i64 x4.1)) [some ⟨true, .puts x4.2⟩], .call [] [(0, false)] (one (.int .i64 x5)) [some ⟨false, .puts ((x4.2.drop 0).take x2.1.length)⟩], .br false, .br false, .call [] [] (.tup [.c (.sl 0 0 x6.1.length), .c (.bool x6.2)]) [some ⟨true, .puts x6.1⟩], .call [] [(0, true), (1, true)] (one (.bool x7)) [some ⟨false, .puts x6.1⟩, some ⟨false, .puts x1.1⟩], .br false, .br false, .br false, .br false, .br true] [] [] (nd c1 (nd (spec.LogRead.spec K a0 _ e1) (nd (impl.LogRead.spec K a0 _ e2) (nd (laws.eqPutS.spec K x2.1 x1.1 _ e3) (nd (rfl : (0 : Nat) = 0) (nd (rfl : x2.1.length = x2.1.length) (nd (rfl : (0 : Nat) = 0) (nd (rfl : x1.1.length = x1.1.length) (nd (nf c2) (nd (nf c2) (nd (nf c2) (nd (nf c2) (nd (nf c3) (nd (laws.markPutS.spec K x2.1 1 _ e4) (nd ((laws.heldPutS.spec K ((x4.2.drop 0).take x2.1.length) 1 _ e5).args (congrArg (fun n => ([one (.sl 0 0 n), one (.int .i64 1)] : List AV)) (win_len p1))) (nd c4 (nd c5 (nd (impl.LogRead.spec K a0 _ e6) (nd (laws.eqPutS.spec K x6.1 x1.1 _ e7) (nd (rfl : (0 : Nat) = 0) (nd (rfl : x6.1.length = x6.1.length) (nd (rfl : (0 : Nat) = 0) (nd (rfl : x1.1.length = x1.1.length) (nd (nf c6) (nd (nf c6) (nd (nf c6) (nd (nf c6) (nd (nt c7) trivial)))))))))))))))))))))))))))) (by kernel_rfl)
            · obtain rfl := Option.some.inj h
              exact Den.Spec.of_walk tab mixed Try.func7 (by kernel_rfl) [.br false, .call [] [] (.tup [.c (.sl 0 0 x1.1.length), .c (.bool x1.2)]) [some ⟨true, .puts x1.1⟩], .call [] [] (.tup [.c (.sl 0 0 x2.1.length), .c (.bool x2.2)]) [some ⟨true, .puts x2.1⟩], .call [] [(0, true), (1, true)] (one (.bool x3)) [some ⟨false, .puts x2.1⟩, some ⟨false, .puts x1.1⟩], .br false, .br false, .br false, .br false, .br false, .call [(1, true)] [] (one (.int .i64 x4.1)) [some ⟨true, .puts x4.2⟩], .call [] [(0, false)] (one (.int .i64 x5)) [some ⟨false, .puts ((x4.2.drop 0).take x2.1.length)⟩], .br false, .br false, .call [] [] (.tup [.c (.sl 0 0 x6.1.length), .c (.bool x6.2)]) [some ⟨true, .puts x6.1⟩], .call [] [(0, true), (1, true)] (one (.bool x7)) [some ⟨false, .puts x6.1⟩, some ⟨false, .puts x1.1⟩], .br true, .br true, .br true, .br true, .br true] [] [] (nd c1 (nd (spec.LogRead.spec K a0 _ e1) (nd (impl.LogRead.spec K a0 _ e2) (nd (laws.eqPutS.spec K x2.1 x1.1 _ e3) (nd (rfl : (0 : Nat) = 0) (nd (rfl : x2.1.length = x2.1.length) (nd (rfl : (0 : Nat) = 0) (nd (rfl : x1.1.length = x1.1.length) (nd (nf c2) (nd (nf c2) (nd (nf c2) (nd (nf c2) (nd (nf c3) (nd (laws.markPutS.spec K x2.1 1 _ e4) (nd ((laws.heldPutS.spec K ((x4.2.drop 0).take x2.1.length) 1 _ e5).args (congrArg (fun n => ([one (.sl 0 0 n), one (.int .i64 1)] : List AV)) (win_len p1))) (nd c4 (nd c5 (nd (impl.LogRead.spec K a0 _ e6) (nd (laws.eqPutS.spec K x6.1 x1.1 _ e7) (nd (rfl : (0 : Nat) = 0) (nd (rfl : x6.1.length = x6.1.length) (nd (rfl : (0 : Nat) = 0) (nd (rfl : x1.1.length = x1.1.length) (nd (nt c6) (nd (nt c6) (nd (nt c6) (nd (nt c6) (nd tt trivial)))))))))))))))))))))))))))) (by kernel_rfl)
      · obtain rfl := Option.some.inj h
        exact Den.Spec.of_walk tab mixed Try.func7 (by kernel_rfl) [.br false, .call [] [] (.tup [.c (.sl 0 0 x1.1.length), .c (.bool x1.2)]) [some ⟨true, .puts x1.1⟩], .call [] [] (.tup [.c (.sl 0 0 x2.1.length), .c (.bool x2.2)]) [some ⟨true, .puts x2.1⟩], .call [] [(0, true), (1, true)] (one (.bool x3)) [some ⟨false, .puts x2.1⟩, some ⟨false, .puts x1.1⟩], .br false, .br false, .br false, .br false, .br true] [] [] (nd c1 (nd (spec.LogRead.spec K a0 _ e1) (nd (impl.LogRead.spec K a0 _ e2) (nd (laws.eqPutS.spec K x2.1 x1.1 _ e3) (nd (rfl : (0 : Nat) = 0) (nd (rfl : x2.1.length = x2.1.length) (nd (rfl : (0 : Nat) = 0) (nd (rfl : x1.1.length = x1.1.length) (nd (nf c2) (nd (nf c2) (nd (nf c2) (nd (nf c2) (nd (nt c3) trivial))))))))))))) (by kernel_rfl)
    · obtain rfl := Option.some.inj h
      exact Den.Spec.of_walk tab mixed Try.func7 (by kernel_rfl) [.br false, .call [] [] (.tup [.c (.sl 0 0 x1.1.length), .c (.bool x1.2)]) [some ⟨true, .puts x1.1⟩], .call [] [] (.tup [.c (.sl 0 0 x2.1.length), .c (.bool x2.2)]) [some ⟨true, .puts x2.1⟩], .call [] [(0, true), (1, true)] (one (.bool x3)) [some ⟨false, .puts x2.1⟩, some ⟨false, .puts x1.1⟩], .br true, .br true, .br true, .br true, .br true] [] [] (nd c1 (nd (spec.LogRead.spec K a0 _ e1) (nd (impl.LogRead.spec K a0 _ e2) (nd (laws.eqPutS.spec K x2.1 x1.1 _ e3) (nd (rfl : (0 : Nat) = 0) (nd (rfl : x2.1.length = x2.1.length) (nd (rfl : (0 : Nat) = 0) (nd (rfl : x1.1.length = x1.1.length) (nd (nt c2) (nd (nt c2) (nd (nt c2) (nd (nt c2) (nd tt trivial))))))))))))) (by kernel_rfl)
end Go.Proofs.Ythneilmhnbboeaa.GFnExactLogRead
