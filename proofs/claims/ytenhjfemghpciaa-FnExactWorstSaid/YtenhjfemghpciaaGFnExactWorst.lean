import Derived.Test.YtenhjfemghpciaaGFnExactWorsta
namespace Go.Proofs.Ytenhjfemghpciaa.GFnExactWorst
open Go Go.RowKit Go.Proofs Go.Proofs.Ytenhjfemghpciaa.Den
set_option linter.unusedVariables false
set_option linter.unusedSimpArgs false
def slices.Repeat_int_int.f (K : Nat) (a0 : List Int) (a1 : Int) : Option ((List Int)) :=
  cond (decide (a1 < 0)) (none) (Option.bind (math_bits.Mul.f (IntKind.u64.wrap (a0.length : Int)) (IntKind.u64.wrap a1)) fun x1 => cond (decide ((IntKind.u64.wrap ((IntKind.u64.wrap ((IntKind.u64.wrap (((IntKind.u64.wrap (a0.length : Int)).fdiv (2 ^ 32)) * ((IntKind.u64.wrap a1).fdiv (2 ^ 32)))) + ((IntKind.u64.wrap ((IntKind.u64.wrap (((IntKind.u64.wrap (a0.length : Int)).fdiv (2 ^ 32)) * (bits2 .u64 (· &&& ·) (IntKind.u64.wrap a1) 4294967295))) + ((IntKind.u64.wrap ((bits2 .u64 (· &&& ·) (IntKind.u64.wrap (a0.length : Int)) 4294967295) * (bits2 .u64 (· &&& ·) (IntKind.u64.wrap a1) 4294967295))).fdiv (2 ^ 32)))).fdiv (2 ^ 32)))) + ((IntKind.u64.wrap ((bits2 .u64 (· &&& ·) (IntKind.u64.wrap ((IntKind.u64.wrap (((IntKind.u64.wrap (a0.length : Int)).fdiv (2 ^ 32)) * (bits2 .u64 (· &&& ·) (IntKind.u64.wrap a1) 4294967295))) + ((IntKind.u64.wrap ((bits2 .u64 (· &&& ·) (IntKind.u64.wrap (a0.length : Int)) 4294967295) * (bits2 .u64 (· &&& ·) (IntKind.u64.wrap a1) 4294967295))).fdiv (2 ^ 32)))) 4294967295) + (IntKind.u64.wrap ((bits2 .u64 (· &&& ·) (IntKind.u64.wrap (a0.length : Int)) 4294967295) * ((IntKind.u64.wrap a1).fdiv (2 ^ 32)))))).fdiv (2 ^ 32)))) > 0)) (none) (cond (decide ((IntKind.u64.wrap ((IntKind.u64.wrap (a0.length : Int)) * (IntKind.u64.wrap a1))) > 9223372036854775807)) (none) (ck (0 ≤ (w64 (IntKind.u64.wrap ((IntKind.u64.wrap (a0.length : Int)) * (IntKind.u64.wrap a1))))) (ck (((w64 (IntKind.u64.wrap ((IntKind.u64.wrap (a0.length : Int)) * (IntKind.u64.wrap a1)))) * (8 : Int)) ≤ 70368744177664) (cond (decide (a0.length ≤ (List.replicate (w64 (IntKind.u64.wrap ((IntKind.u64.wrap (a0.length : Int)) * (IntKind.u64.wrap a1)))).toNat (0 : Int)).length)) (ck (0 + ((List.replicate (w64 (IntKind.u64.wrap ((IntKind.u64.wrap (a0.length : Int)) * (IntKind.u64.wrap a1)))).toNat (0 : Int)).length) ≤ (List.replicate (w64 (IntKind.u64.wrap ((IntKind.u64.wrap (a0.length : Int)) * (IntKind.u64.wrap a1)))).toNat (0 : Int)).length) (ck (0 + a0.length ≤ a0.length) (Option.bind (slices.Repeat_int_int.l0.f a0 K (overL (List.replicate (w64 (IntKind.u64.wrap ((IntKind.u64.wrap (a0.length : Int)) * (IntKind.u64.wrap a1)))).toNat (0 : Int)) 0 a0 0 a0.length) (a0.length : Int)) fun x2 => some x2))) (ck (0 + ((List.replicate (w64 (IntKind.u64.wrap ((IntKind.u64.wrap (a0.length : Int)) * (IntKind.u64.wrap a1)))).toNat (0 : Int)).length) ≤ (List.replicate (w64 (IntKind.u64.wrap ((IntKind.u64.wrap (a0.length : Int)) * (IntKind.u64.wrap a1)))).toNat (0 : Int)).length) (ck (0 + a0.length ≤ a0.length) (Option.bind (slices.Repeat_int_int.l0_1.f a0 K (overL (List.replicate (w64 (IntKind.u64.wrap ((IntKind.u64.wrap (a0.length : Int)) * (IntKind.u64.wrap a1)))).toNat (0 : Int)) 0 a0 0 ((List.replicate (w64 (IntKind.u64.wrap ((IntKind.u64.wrap (a0.length : Int)) * (IntKind.u64.wrap a1)))).toNat (0 : Int)).length)) ((List.replicate (w64 (IntKind.u64.wrap ((IntKind.u64.wrap (a0.length : Int)) * (IntKind.u64.wrap a1)))).toNat (0 : Int)).length : Int)) fun x2 => some x2))))))))
theorem slices.Repeat_int_int.spec (K : Nat) (a0 : List Int) (a1 : Int) (o : (List Int)) (h : slices.Repeat_int_int.f K a0 a1 = some o) : Den.Spec Try.prog 127 [one (.sl 0 0 a0.length), one (.int .i64 a1)] [some ⟨false, .ints .i64 a0⟩] (one (.sl 1 0 o.length)) [some ⟨false, .ints .i64 a0⟩, some ⟨true, .ints .i64 o⟩] := by
  unfold slices.Repeat_int_int.f at h
  rcases br_cases h with ⟨c1, h⟩ | ⟨c1, h⟩
  · cases h
  · obtain ⟨x1, e1, h⟩ := bind_some h
    rcases br_cases h with ⟨c2, h⟩ | ⟨c2, h⟩
    · cases h
    · rcases br_cases h with ⟨c3, h⟩ | ⟨c3, h⟩
      · cases h
      · obtain ⟨p1, h⟩ := ck_some h
        obtain ⟨p2, h⟩ := ck_some h
        rcases br_cases h with ⟨c4, h⟩ | ⟨c4, h⟩
        · obtain ⟨p3, h⟩ := ck_some h
          obtain ⟨p4, h⟩ := ck_some h
          obtain ⟨x2, e2, h⟩ := bind_some h
          obtain rfl := Option.some.inj h
          exact Den.Spec.of_walk tab mixed Try.func127 (by kernel_rfl) [.br false, .call [] [] (.tup [.c (.int .u64 (IntKind.u64.wrap ((IntKind.u64.wrap ((IntKind.u64.wrap (((IntKind.u64.wrap (a0.length : Int)).fdiv (2 ^ 32)) * ((IntKind.u64.wrap a1).fdiv (2 ^ 32)))) + ((IntKind.u64.wrap ((IntKind.u64.wrap (((IntKind.u64.wrap (a0.length : Int)).fdiv (2 ^ 32)) * (bits2 .u64 (· &&& ·) (IntKind.u64.wrap a1) 4294967295))) + ((IntKind.u64.wrap ((bits2 .u64 (· &&& ·) (IntKind.u64.wrap (a0.length : Int)) 4294967295) * (bits2 .u64 (· &&& ·) (IntKind.u64.wrap a1) 4294967295))).fdiv (2 ^ 32)))).fdiv (2 ^ 32)))) + ((IntKind.u64.wrap ((bits2 .u64 (· &&& ·) (IntKind.u64.wrap ((IntKind.u64.wrap (((IntKind.u64.wrap (a0.length : Int)).fdiv (2 ^ 32)) * (bits2 .u64 (· &&& ·) (IntKind.u64.wrap a1) 4294967295))) + ((IntKind.u64.wrap ((bits2 .u64 (· &&& ·) (IntKind.u64.wrap (a0.length : Int)) 4294967295) * (bits2 .u64 (· &&& ·) (IntKind.u64.wrap a1) 4294967295))).fdiv (2 ^ 32)))) 4294967295) + (IntKind.u64.wrap ((bits2 .u64 (· &&& ·) (IntKind.u64.wrap (a0.length : Int)) 4294967295) * ((IntKind.u64.wrap a1).fdiv (2 ^ 32)))))).fdiv (2 ^ 32))))), .c (.int .u64 (IntKind.u64.wrap ((IntKind.u64.wrap (a0.length : Int)) * (IntKind.u64.wrap a1))))]) [], .br false, .br false, .br false, .br false, .br true, .loop [] [7, 8] [0, 1] (.exit 0) (slices.Repeat_int_int.l0.e0 a0 x2)] [] [0, 1] (nd c1 (nd (math_bits.Mul.spec (IntKind.u64.wrap (a0.length : Int)) (IntKind.u64.wrap a1) _ e1) (nd c2 (nd c2 (nd c2 (nd c3 (nd p1 (nd (rfl : (w64 (IntKind.u64.wrap ((IntKind.u64.wrap (a0.length : Int)) * (IntKind.u64.wrap a1)))) = (w64 (IntKind.u64.wrap ((IntKind.u64.wrap (a0.length : Int)) * (IntKind.u64.wrap a1))))) (nd p2 (nd (of_decide_eq_true c4) (nd p3 (nd p4 (nd (LoopSpec.eqs (slices.Repeat_int_int.l0.spec a0 K (overL (List.replicate (w64 (IntKind.u64.wrap ((IntKind.u64.wrap (a0.length : Int)) * (IntKind.u64.wrap a1)))).toNat (0 : Int)) 0 a0 0 a0.length) (a0.length : Int) _ e2) (by simp only [slices.Repeat_int_int.l0.s, List.length_set, overL_length] : slices.Repeat_int_int.l0.s a0 (overL (List.replicate (w64 (IntKind.u64.wrap ((IntKind.u64.wrap (a0.length : Int)) * (IntKind.u64.wrap a1)))).toNat (0 : Int)) 0 a0 0 a0.length) (a0.length : Int) = mkSt 48 [(7, one (.sl 1 0 ((List.replicate (w64 (IntKind.u64.wrap ((IntKind.u64.wrap (a0.length : Int)) * (IntKind.u64.wrap a1)))).toNat (0 : Int)).length))), (8, one (.int .i64 (a0.length : Int)))] [some ⟨false, .ints .i64 a0⟩, some ⟨true, .ints .i64 (overL (List.replicate (w64 (IntKind.u64.wrap ((IntKind.u64.wrap (a0.length : Int)) * (IntKind.u64.wrap a1)))).toNat (0 : Int)) 0 a0 0 a0.length)⟩])) trivial))))))))))))) (by kernel_rfl)
        · obtain ⟨p3, h⟩ := ck_some h
          obtain ⟨p4, h⟩ := ck_some h
          obtain ⟨x2, e2, h⟩ := bind_some h
          obtain rfl := Option.some.inj h
          exact Den.Spec.of_walk tab mixed Try.func127 (by kernel_rfl) [.br false, .call [] [] (.tup [.c (.int .u64 (IntKind.u64.wrap ((IntKind.u64.wrap ((IntKind.u64.wrap (((IntKind.u64.wrap (a0.length : Int)).fdiv (2 ^ 32)) * ((IntKind.u64.wrap a1).fdiv (2 ^ 32)))) + ((IntKind.u64.wrap ((IntKind.u64.wrap (((IntKind.u64.wrap (a0.length : Int)).fdiv (2 ^ 32)) * (bits2 .u64 (· &&& ·) (IntKind.u64.wrap a1) 4294967295))) + ((IntKind.u64.wrap ((bits2 .u64 (· &&& ·) (IntKind.u64.wrap (a0.length : Int)) 4294967295) * (bits2 .u64 (· &&& ·) (IntKind.u64.wrap a1) 4294967295))).fdiv (2 ^ 32)))).fdiv (2 ^ 32)))) + ((IntKind.u64.wrap ((bits2 .u64 (· &&& ·) (IntKind.u64.wrap ((IntKind.u64.wrap (((IntKind.u64.wrap (a0.length : Int)).fdiv (2 ^ 32)) * (bits2 .u64 (· &&& ·) (IntKind.u64.wrap a1) 4294967295))) + ((IntKind.u64.wrap ((bits2 .u64 (· &&& ·) (IntKind.u64.wrap (a0.length : Int)) 4294967295) * (bits2 .u64 (· &&& ·) (IntKind.u64.wrap a1) 4294967295))).fdiv (2 ^ 32)))) 4294967295) + (IntKind.u64.wrap ((bits2 .u64 (· &&& ·) (IntKind.u64.wrap (a0.length : Int)) 4294967295) * ((IntKind.u64.wrap a1).fdiv (2 ^ 32)))))).fdiv (2 ^ 32))))), .c (.int .u64 (IntKind.u64.wrap ((IntKind.u64.wrap (a0.length : Int)) * (IntKind.u64.wrap a1))))]) [], .br false, .br false, .br false, .br false, .br false, .loop [] [7, 8] [0, 1] (.exit 0) (slices.Repeat_int_int.l0_1.e0 a0 x2)] [] [0, 1] (nd c1 (nd (math_bits.Mul.spec (IntKind.u64.wrap (a0.length : Int)) (IntKind.u64.wrap a1) _ e1) (nd c2 (nd c2 (nd c2 (nd c3 (nd p1 (nd (rfl : (w64 (IntKind.u64.wrap ((IntKind.u64.wrap (a0.length : Int)) * (IntKind.u64.wrap a1)))) = (w64 (IntKind.u64.wrap ((IntKind.u64.wrap (a0.length : Int)) * (IntKind.u64.wrap a1))))) (nd p2 (nd (Nat.le_of_lt (Nat.lt_of_not_le (of_decide_eq_false c4))) (nd p3 (nd p4 (nd (LoopSpec.eqs (slices.Repeat_int_int.l0_1.spec a0 K (overL (List.replicate (w64 (IntKind.u64.wrap ((IntKind.u64.wrap (a0.length : Int)) * (IntKind.u64.wrap a1)))).toNat (0 : Int)) 0 a0 0 ((List.replicate (w64 (IntKind.u64.wrap ((IntKind.u64.wrap (a0.length : Int)) * (IntKind.u64.wrap a1)))).toNat (0 : Int)).length)) ((List.replicate (w64 (IntKind.u64.wrap ((IntKind.u64.wrap (a0.length : Int)) * (IntKind.u64.wrap a1)))).toNat (0 : Int)).length : Int) _ e2) (by simp only [slices.Repeat_int_int.l0_1.s, List.length_set, overL_length] : slices.Repeat_int_int.l0_1.s a0 (overL (List.replicate (w64 (IntKind.u64.wrap ((IntKind.u64.wrap (a0.length : Int)) * (IntKind.u64.wrap a1)))).toNat (0 : Int)) 0 a0 0 ((List.replicate (w64 (IntKind.u64.wrap ((IntKind.u64.wrap (a0.length : Int)) * (IntKind.u64.wrap a1)))).toNat (0 : Int)).length)) ((List.replicate (w64 (IntKind.u64.wrap ((IntKind.u64.wrap (a0.length : Int)) * (IntKind.u64.wrap a1)))).toNat (0 : Int)).length : Int) = mkSt 48 [(7, one (.sl 1 0 ((List.replicate (w64 (IntKind.u64.wrap ((IntKind.u64.wrap (a0.length : Int)) * (IntKind.u64.wrap a1)))).toNat (0 : Int)).length))), (8, one (.int .i64 ((List.replicate (w64 (IntKind.u64.wrap ((IntKind.u64.wrap (a0.length : Int)) * (IntKind.u64.wrap a1)))).toNat (0 : Int)).length : Int)))] [some ⟨false, .ints .i64 a0⟩, some ⟨true, .ints .i64 (overL (List.replicate (w64 (IntKind.u64.wrap ((IntKind.u64.wrap (a0.length : Int)) * (IntKind.u64.wrap a1)))).toNat (0 : Int)) 0 a0 0 ((List.replicate (w64 (IntKind.u64.wrap ((IntKind.u64.wrap (a0.length : Int)) * (IntKind.u64.wrap a1)))).toNat (0 : Int)).length))⟩])) trivial))))))))))))) (by kernel_rfl)
def impl.GetNum.l0.f (a0 : List Int) (a1 : Int) : Nat → Int → Int → Option ((Int × Int × Bool) ⊕ Unit)
  | 0, _, _ => none
  | k + 1, v88_0, v88_1 =>
    cond (decide (v88_1 < 5)) (cond (decide ((w64 (a1 + v88_1)) < (a0.length : Int))) (ck (0 ≤ (w64 (a1 + v88_1))) (ck (0 ≤ (w64 (7 * v88_1))) (cond (decide ((w64 (a0.getD ((w64 (a1 + v88_1)).toNat) 0)) > 127)) (impl.GetNum.l0.f a0 a1 k (bits2 .i64 (· ||| ·) v88_0 (w64 ((bits2 .i64 (· &&& ·) (w64 (a0.getD ((w64 (a1 + v88_1)).toNat) 0)) 127) * 2 ^ (min (w64 (7 * v88_1)).toNat 64)))) (w64 (v88_1 + 1))) (cond ((w64 (a0.getD ((w64 (a1 + v88_1)).toNat) 0)) == 0) (cond (decide (v88_1 > 0)) (some (.inl (0, 0, false))) (cond (decide ((bits2 .i64 (· ||| ·) v88_0 (w64 ((bits2 .i64 (· &&& ·) (w64 (a0.getD ((w64 (a1 + v88_1)).toNat) 0)) 127) * 2 ^ (min (w64 (7 * v88_1)).toNat 64)))) > 1000000000)) (some (.inl (0, 0, false))) (some (.inl (bits2 .i64 (· ||| ·) v88_0 (w64 ((bits2 .i64 (· &&& ·) (w64 (a0.getD ((w64 (a1 + v88_1)).toNat) 0)) 127) * 2 ^ (min (w64 (7 * v88_1)).toNat 64))), w64 ((w64 (a1 + v88_1)) + 1), true))))) (cond (decide ((bits2 .i64 (· ||| ·) v88_0 (w64 ((bits2 .i64 (· &&& ·) (w64 (a0.getD ((w64 (a1 + v88_1)).toNat) 0)) 127) * 2 ^ (min (w64 (7 * v88_1)).toNat 64)))) > 1000000000)) (some (.inl (0, 0, false))) (some (.inl (bits2 .i64 (· ||| ·) v88_0 (w64 ((bits2 .i64 (· &&& ·) (w64 (a0.getD ((w64 (a1 + v88_1)).toNat) 0)) 127) * 2 ^ (min (w64 (7 * v88_1)).toNat 64))), w64 ((w64 (a1 + v88_1)) + 1), true)))))))) (some (.inr (())))) (some (.inr (())))
def impl.GetNum.l0.s (a0 : List Int) (a1 : Int) (v88_0 : Int) (v88_1 : Int) : St := mkSt 58 [(0, one (.sl 0 0 a0.length)), (1, one (.int .i64 a1)), (7, one (.int .i64 v88_0)), (8, one (.int .i64 v88_1))] [some ⟨false, .ints .u8 a0⟩]
def impl.GetNum.l0.e0 (a0 : List Int) (a1 : Int) (o : Int × Int × Bool) : St := mkSt 58 [(4, one (.int .i64 o.1)), (5, one (.int .i64 o.2.1)), (6, one (.bool o.2.2))] [some ⟨false, .ints .u8 a0⟩]
def impl.GetNum.l0.e1 (a0 : List Int) (a1 : Int) (o : Unit) : St := mkSt 58 [] [some ⟨false, .ints .u8 a0⟩]
def impl.GetNum.l0.x (a0 : List Int) (a1 : Int) : ((Int × Int × Bool) ⊕ Unit) → AExit × St := Sum.elim (fun o => (.ret, impl.GetNum.l0.e0 a0 a1 o)) (fun o => (.exit 0, impl.GetNum.l0.e1 a0 a1 o))
theorem impl.GetNum.l0.spec (a0 : List Int) (a1 : Int) : ∀ (k : Nat) (v88_0 : Int) (v88_1 : Int) (o : (Int × Int × Bool) ⊕ Unit), impl.GetNum.l0.f a0 a1 k v88_0 v88_1 = some o → LoopSpec Try.prog 1 (loopN Try.f139 0) (impl.GetNum.l0.s a0 a1 v88_0 v88_1) (impl.GetNum.l0.x a0 a1 o).1 (impl.GetNum.l0.x a0 a1 o).2
  | 0, _, _, _, h => by cases h
  | k + 1, v88_0, v88_1, o, h => by
    unfold impl.GetNum.l0.f at h
    rcases br_cases h with ⟨c1, h⟩ | ⟨c1, h⟩
    · rcases br_cases h with ⟨c2, h⟩ | ⟨c2, h⟩
      · obtain ⟨p1, h⟩ := ck_some h
        obtain ⟨p2, h⟩ := ck_some h
        rcases br_cases h with ⟨c3, h⟩ | ⟨c3, h⟩
        · exact .of_step tab mixed [.br true, .br true, .br true, .br true, .br true, .br true, .br true, .br true, .br true] [] [0, 1, 7, 8] [0] (s1 := impl.GetNum.l0.s a0 a1 (bits2 .i64 (· ||| ·) v88_0 (w64 ((bits2 .i64 (· &&& ·) (w64 (a0.getD ((w64 (a1 + v88_1)).toNat) 0)) 127) * 2 ^ (min (w64 (7 * v88_1)).toNat 64)))) (w64 (v88_1 + 1))) (nd c1 (nd c1 (nd c1 (nd c1 (nd c1 (nd c1 (nd c1 (nd c2 (nd p1 (nd (of_decide_eq_true c2) (nd (tn p1 (of_decide_eq_true c2)) (nd p2 (nd c3 trivial))))))))))))) (by kernel_rfl) (impl.GetNum.l0.spec a0 a1 k (bits2 .i64 (· ||| ·) v88_0 (w64 ((bits2 .i64 (· &&& ·) (w64 (a0.getD ((w64 (a1 + v88_1)).toNat) 0)) 127) * 2 ^ (min (w64 (7 * v88_1)).toNat 64)))) (w64 (v88_1 + 1)) _ h)
        · rcases br_cases h with ⟨c4, h⟩ | ⟨c4, h⟩
          · rcases br_cases h with ⟨c5, h⟩ | ⟨c5, h⟩
            · obtain rfl := Option.some.inj h
              exact .of_done tab mixed [.br true, .br true, .br true, .br true, .br true, .br true, .br true, .br true, .br false, .br true, .br true, .br true, .br true, .br true, .br true, .br true] [] [4, 5, 6] [0] rfl (nd c1 (nd c1 (nd c1 (nd c1 (nd c1 (nd c1 (nd c1 (nd c2 (nd p1 (nd (of_decide_eq_true c2) (nd (tn p1 (of_decide_eq_true c2)) (nd p2 (nd c3 (nd c4 (nd c4 (nd c4 (nd c5 (nd c5 (nd c5 (nd tt trivial)))))))))))))))))))) (by kernel_rfl)
            · rcases br_cases h with ⟨c6, h⟩ | ⟨c6, h⟩
              · obtain rfl := Option.some.inj h
                exact .of_done tab mixed [.br true, .br true, .br true, .br true, .br true, .br true, .br true, .br true, .br false, .br true, .br true, .br true, .br false, .br false, .br false, .br true] [] [4, 5, 6] [0] rfl (nd c1 (nd c1 (nd c1 (nd c1 (nd c1 (nd c1 (nd c1 (nd c2 (nd p1 (nd (of_decide_eq_true c2) (nd (tn p1 (of_decide_eq_true c2)) (nd p2 (nd c3 (nd c4 (nd c4 (nd c4 (nd c5 (nd c5 (nd c5 (nd c6 trivial)))))))))))))))))))) (by kernel_rfl)
              · obtain rfl := Option.some.inj h
                exact .of_done tab mixed [.br true, .br true, .br true, .br true, .br true, .br true, .br true, .br true, .br false, .br true, .br true, .br true, .br false, .br false, .br false, .br false] [] [4, 5, 6] [0] rfl (nd c1 (nd c1 (nd c1 (nd c1 (nd c1 (nd c1 (nd c1 (nd c2 (nd p1 (nd (of_decide_eq_true c2) (nd (tn p1 (of_decide_eq_true c2)) (nd p2 (nd c3 (nd c4 (nd c4 (nd c4 (nd c5 (nd c5 (nd c5 (nd c6 trivial)))))))))))))))))))) (by kernel_rfl)
          · rcases br_cases h with ⟨c5, h⟩ | ⟨c5, h⟩
            · obtain rfl := Option.some.inj h
              exact .of_done tab mixed [.br true, .br true, .br true, .br true, .br true, .br true, .br true, .br true, .br false, .br false, .br false, .br false, .br false, .br false, .br false, .br true] [] [4, 5, 6] [0] rfl (nd c1 (nd c1 (nd c1 (nd c1 (nd c1 (nd c1 (nd c1 (nd c2 (nd p1 (nd (of_decide_eq_true c2) (nd (tn p1 (of_decide_eq_true c2)) (nd p2 (nd c3 (nd c4 (nd c4 (nd c4 (nd ff (nd ff (nd ff (nd c5 trivial)))))))))))))))))))) (by kernel_rfl)
            · obtain rfl := Option.some.inj h
              exact .of_done tab mixed [.br true, .br true, .br true, .br true, .br true, .br true, .br true, .br true, .br false, .br false, .br false, .br false, .br false, .br false, .br false, .br false] [] [4, 5, 6] [0] rfl (nd c1 (nd c1 (nd c1 (nd c1 (nd c1 (nd c1 (nd c1 (nd c2 (nd p1 (nd (of_decide_eq_true c2) (nd (tn p1 (of_decide_eq_true c2)) (nd p2 (nd c3 (nd c4 (nd c4 (nd c4 (nd ff (nd ff (nd ff (nd c5 trivial)))))))))))))))))))) (by kernel_rfl)
      · obtain rfl := Option.some.inj h
        exact .of_done tab mixed [.br true, .br true, .br true, .br true, .br true, .br true, .br true, .br false] [] [] [0] rfl (nd c1 (nd c1 (nd c1 (nd c1 (nd c1 (nd c1 (nd c1 (nd c2 trivial)))))))) (by kernel_rfl)
    · obtain rfl := Option.some.inj h
      exact .of_done tab mixed [.br false, .br false, .br false, .br false, .br false, .br false, .br false, .br false] [] [] [0] rfl (nd c1 (nd c1 (nd c1 (nd c1 (nd c1 (nd c1 (nd c1 (nd ff trivial)))))))) (by kernel_rfl)
def impl.GetNum.f (K : Nat) (a0 : List Int) (a1 : Int) : Option (Int × Int × Bool) :=
  Option.bind (impl.in_.f a1 0 (a0.length : Int)) fun x1 => cond (x1) (Option.bind (impl.GetNum.l0.f a0 a1 K 0 0) fun x2 => (Sum.elim (fun x2 => some (x2.1, x2.2.1, x2.2.2)) (fun x2 => some (0, 0, false))) x2) (some (0, 0, false))
theorem impl.GetNum.spec (K : Nat) (a0 : List Int) (a1 : Int) (o : Int × Int × Bool) (h : impl.GetNum.f K a0 a1 = some o) : Den.Spec Try.prog 139 [one (.sl 0 0 a0.length), one (.int .i64 a1)] [some ⟨false, .ints .u8 a0⟩] (.tup [.c (.int .i64 o.1), .c (.int .i64 o.2.1), .c (.bool o.2.2)]) [some ⟨false, .ints .u8 a0⟩] := by
  unfold impl.GetNum.f at h
  obtain ⟨x1, e1, h⟩ := bind_some h
  rcases br_cases h with ⟨c1, h⟩ | ⟨c1, h⟩
  · obtain ⟨x2, e2, h⟩ := bind_some h
    rcases x2 with x2 | x2
    · obtain rfl := Option.some.inj h
      exact Den.Spec.of_walk tab mixed Try.func139 (by kernel_rfl) [.call [] [] (one (.bool x1)) [], .br false, .loop [] [0, 1, 7, 8] [0] (.ret) (impl.GetNum.l0.e0 a0 a1 x2)] [] [0] (nd (impl.in_.spec a1 0 (a0.length : Int) _ e1) (nd (nf c1) (nd (impl.GetNum.l0.spec a0 a1 K 0 0 _ e2) trivial))) (by kernel_rfl)
    · obtain rfl := Option.some.inj h
      exact Den.Spec.of_walk tab mixed Try.func139 (by kernel_rfl) [.call [] [] (one (.bool x1)) [], .br false, .loop [] [0, 1, 7, 8] [0] (.exit 0) (impl.GetNum.l0.e1 a0 a1 x2)] [] [0] (nd (impl.in_.spec a1 0 (a0.length : Int) _ e1) (nd (nf c1) (nd (impl.GetNum.l0.spec a0 a1 K 0 0 _ e2) trivial))) (by kernel_rfl)
  · obtain rfl := Option.some.inj h
    exact Den.Spec.of_walk tab mixed Try.func139 (by kernel_rfl) [.call [] [] (one (.bool x1)) [], .br true] [] [0] (nd (impl.in_.spec a1 0 (a0.length : Int) _ e1) (nd (nt c1) trivial)) (by kernel_rfl)
def impl.reader.number.f (K : Nat) (a0 : List Int) (a1 : Int) (a2 : Bool) : Option (Int × Int × Bool) :=
  Option.bind (impl.GetNum.f K a0 a1) fun x1 => cond (a2) (some (0, a1, true)) (cond (x1.2.2) (some (x1.1, x1.2.1, a2)) (some (0, a1, true)))
theorem impl.reader.number.spec (K : Nat) (a0 : List Int) (a1 : Int) (a2 : Bool) (o : Int × Int × Bool) (h : impl.reader.number.f K a0 a1 a2 = some o) : Den.Spec Try.prog 107 [one (.ptr 0 0 0)] [some ⟨true, .cells [.sl 1 0 a0.length, .int .i64 a1, .bool a2]⟩, some ⟨true, .ints .u8 a0⟩] (one (.int .i64 o.1)) [some ⟨true, .cells [.sl 1 0 a0.length, .int .i64 o.2.1, .bool o.2.2]⟩, some ⟨true, .ints .u8 a0⟩] := by
  unfold impl.reader.number.f at h
  obtain ⟨x1, e1, h⟩ := bind_some h
  rcases br_cases h with ⟨c1, h⟩ | ⟨c1, h⟩
  · obtain rfl := Option.some.inj h
    exact Den.Spec.of_walk tab mixed Try.func107 (by kernel_rfl) [.call [] [(0, true)] (.tup [.c (.int .i64 x1.1), .c (.int .i64 x1.2.1), .c (.bool x1.2.2)]) [some ⟨false, .ints .u8 a0⟩], .br true, .br true, .br true, .br true] [] [0, 1] (nd (impl.GetNum.spec K a0 a1 _ e1) (nd (rfl : (0 : Nat) = 0) (nd (rfl : a0.length = a0.length) (nd c1 (nd c1 (nd c1 (nd tt trivial))))))) (by kernel_rfl)
  · rcases br_cases h with ⟨c2, h⟩ | ⟨c2, h⟩
    · obtain rfl := Option.some.inj h
      exact Den.Spec.of_walk tab mixed Try.func107 (by kernel_rfl) [.call [] [(0, true)] (.tup [.c (.int .i64 x1.1), .c (.int .i64 x1.2.1), .c (.bool x1.2.2)]) [some ⟨false, .ints .u8 a0⟩], .br false, .br false, .br false, .br false] [] [0, 1] (nd (impl.GetNum.spec K a0 a1 _ e1) (nd (rfl : (0 : Nat) = 0) (nd (rfl : a0.length = a0.length) (nd c1 (nd c1 (nd c1 (nd (nf c2) trivial))))))) (by kernel_rfl)
    · obtain rfl := Option.some.inj h
      exact Den.Spec.of_walk tab mixed Try.func107 (by kernel_rfl) [.call [] [(0, true)] (.tup [.c (.int .i64 x1.1), .c (.int .i64 x1.2.1), .c (.bool x1.2.2)]) [some ⟨false, .ints .u8 a0⟩], .br false, .br false, .br false, .br true] [] [0, 1] (nd (impl.GetNum.spec K a0 a1 _ e1) (nd (rfl : (0 : Nat) = 0) (nd (rfl : a0.length = a0.length) (nd c1 (nd c1 (nd c1 (nd (nt c2) trivial))))))) (by kernel_rfl)
def impl.Sum.l0.f (a0 : List Int) : Nat → Int → Int → Option (Int)
  | 0, _, _ => none
  | k + 1, v92_0, v92_1 =>
    cond (decide (v92_1 < (a0.length : Int))) (ck (0 ≤ v92_1) (impl.Sum.l0.f a0 k ((w64 ((w64 (31 * v92_0)) + (w64 (a0.getD v92_1.toNat 0)))).tmod 1000003) (w64 (v92_1 + 1)))) (some v92_0)
def impl.Sum.l0.s (a0 : List Int) (v92_0 : Int) (v92_1 : Int) : St := mkSt 20 [(3, one (.int .i64 v92_0)), (6, one (.sl 0 0 a0.length)), (7, one (.int .i64 (a0.length : Int))), (8, one (.int .i64 v92_1))] [some ⟨false, .ints .u8 a0⟩]
def impl.Sum.l0.e0 (a0 : List Int) (o : Int) : St := mkSt 20 [(3, one (.int .i64 o))] [some ⟨false, .ints .u8 a0⟩]
def impl.Sum.l0.x (a0 : List Int) : (Int) → AExit × St := fun o => (.exit 0, impl.Sum.l0.e0 a0 o)
theorem impl.Sum.l0.spec (a0 : List Int) : ∀ (k : Nat) (v92_0 : Int) (v92_1 : Int) (o : Int), impl.Sum.l0.f a0 k v92_0 v92_1 = some o → LoopSpec Try.prog 1 (loopN Try.f138 0) (impl.Sum.l0.s a0 v92_0 v92_1) (impl.Sum.l0.x a0 o).1 (impl.Sum.l0.x a0 o).2
  | 0, _, _, _, h => by cases h
  | k + 1, v92_0, v92_1, o, h => by
    unfold impl.Sum.l0.f at h
    rcases br_cases h with ⟨c1, h⟩ | ⟨c1, h⟩
    · obtain ⟨p1, h⟩ := ck_some h
      exact .of_step tab mixed [.br true] [] [3, 6, 7, 8] [0] (s1 := impl.Sum.l0.s a0 ((w64 ((w64 (31 * v92_0)) + (w64 (a0.getD v92_1.toNat 0)))).tmod 1000003) (w64 (v92_1 + 1))) (nd c1 (nd p1 (nd (of_decide_eq_true c1) (nd (tn p1 (of_decide_eq_true c1)) (nd (by decide : (1000003 : Int) ≠ 0) trivial))))) (by kernel_rfl) (impl.Sum.l0.spec a0 k ((w64 ((w64 (31 * v92_0)) + (w64 (a0.getD v92_1.toNat 0)))).tmod 1000003) (w64 (v92_1 + 1)) _ h)
    · obtain rfl := Option.some.inj h
      exact .of_done tab mixed [.br false] [] [3] [0] rfl (nd c1 trivial) (by kernel_rfl)
def impl.Sum.f (K : Nat) (a0 : List Int) : Option (Int) :=
  Option.bind (impl.Sum.l0.f a0 K 7 0) fun x1 => some x1
theorem impl.Sum.spec (K : Nat) (a0 : List Int) (o : Int) (h : impl.Sum.f K a0 = some o) : Den.Spec Try.prog 138 [one (.sl 0 0 a0.length)] [some ⟨false, .ints .u8 a0⟩] (one (.int .i64 o)) [some ⟨false, .ints .u8 a0⟩] := by
  unfold impl.Sum.f at h
  obtain ⟨x1, e1, h⟩ := bind_some h
  obtain rfl := Option.some.inj h
  exact Den.Spec.of_walk tab mixed Try.func138 (by kernel_rfl) [.loop [] [3, 6, 7, 8] [0] (.exit 0) (impl.Sum.l0.e0 a0 x1)] [] [0] (nd (impl.Sum.l0.spec a0 K 7 0 _ e1) trivial) (by kernel_rfl)
def impl.unsummed.f (K : Nat) (a0 : ByteArray) : Option (Int × Bool) :=
  Option.bind (impl.reader.number.f K (bytesL a0) 0 false) fun x1 => cond (x1.2.2) (some (x1.2.1, true)) (ck (0 ≤ x1.2.1) (ck (x1.2.1 ≤ ((bytesL a0).length : Int)) (Option.bind (impl.Sum.f K (((bytesL a0).drop x1.2.1.toNat).take ((bytesL a0).length - x1.2.1.toNat))) fun x2 => ck (x1.2.1.toNat + ((bytesL a0).length - x1.2.1.toNat) ≤ (bytesL a0).length) (some (x1.2.1, x1.1 != x2)))))
theorem impl.unsummed.spec (K : Nat) (a0 : ByteArray) (o : Int × Bool) (h : impl.unsummed.f K a0 = some o) : Den.Spec Try.prog 106 [one (.str a0)] [] (one (.ptr 0 0 0)) [some ⟨true, .cells [.sl 1 0 ((bytesL a0).length), .int .i64 o.1, .bool o.2]⟩, some ⟨true, .ints .u8 (bytesL a0)⟩] := by
  unfold impl.unsummed.f at h
  obtain ⟨x1, e1, h⟩ := bind_some h
  rcases br_cases h with ⟨c1, h⟩ | ⟨c1, h⟩
  · obtain rfl := Option.some.inj h
    exact Den.Spec.of_walk tab mixed Try.func106 (by kernel_rfl) [.call [(1, true), (0, true)] [] (one (.int .i64 x1.1)) [some ⟨true, .cells [.sl 1 0 ((bytesL a0).length), .int .i64 x1.2.1, .bool x1.2.2]⟩, some ⟨true, .ints .u8 (bytesL a0)⟩], .br true, .br true, .br true, .br true, .br true, .br true, .br true, .br true, .br true, .br true, .br true, .br true, .br true] [] [1, 0] (nd (impl.reader.number.spec K (bytesL a0) 0 false _ e1) (nd c1 (nd c1 (nd c1 (nd c1 (nd c1 (nd c1 (nd c1 (nd c1 (nd c1 (nd c1 (nd c1 (nd c1 (nd c1 trivial)))))))))))))) (by kernel_rfl)
  · obtain ⟨p1, h⟩ := ck_some h
    obtain ⟨p2, h⟩ := ck_some h
    obtain ⟨x2, e2, h⟩ := bind_some h
    obtain ⟨p3, h⟩ := ck_some h
    obtain rfl := Option.some.inj h
    exact Den.Spec.of_walk tab mixed Try.func106 (by kernel_rfl) [.call [(1, true), (0, true)] [] (one (.int .i64 x1.1)) [some ⟨true, .cells [.sl 1 0 ((bytesL a0).length), .int .i64 x1.2.1, .bool x1.2.2]⟩, some ⟨true, .ints .u8 (bytesL a0)⟩], .br false, .br false, .br false, .br false, .br false, .br false, .br false, .br false, .br false, .br false, .br false, .call [] [(0, false)] (one (.int .i64 x2)) [some ⟨false, .ints .u8 (((bytesL a0).drop x1.2.1.toNat).take ((bytesL a0).length - x1.2.1.toNat))⟩], .br false, .br false] [] [1, 0] (nd (impl.reader.number.spec K (bytesL a0) 0 false _ e1) (nd c1 (nd c1 (nd c1 (nd c1 (nd c1 (nd c1 (nd c1 (nd c1 (nd c1 (nd c1 (nd p1 (nd p2 (nd (Int.le_refl ((bytesL a0).length : Int)) (nd c1 (nd ((impl.Sum.spec K (((bytesL a0).drop x1.2.1.toNat).take ((bytesL a0).length - x1.2.1.toNat)) _ e2).args (congrArg (fun n => ([one (.sl 0 0 n)] : List AV)) (win_len p3))) (nd c1 (nd c1 trivial)))))))))))))))))) (by kernel_rfl)
def impl.GetText.f (K : Nat) (a0 : List Int) (a1 : Int) : Option (ByteArray × Int × Bool) :=
  Option.bind (impl.GetNum.f K a0 a1) fun x1 => cond (x1.2.2) (cond (decide (x1.1 > 400)) (some (noVal, 0, false)) (cond (decide (x1.1 > (w64 ((a0.length : Int) - x1.2.1)))) (some (noVal, 0, false)) (ck (0 ≤ x1.2.1) (ck (x1.2.1 ≤ (w64 (x1.2.1 + x1.1))) (ck ((w64 (x1.2.1 + x1.1)) ≤ (a0.length : Int)) (ck (x1.2.1.toNat + ((w64 (x1.2.1 + x1.1)).toNat - x1.2.1.toNat) ≤ a0.length) (some (ofBytes ((a0.drop x1.2.1.toNat).take ((w64 (x1.2.1 + x1.1)).toNat - x1.2.1.toNat)), w64 (x1.2.1 + x1.1), true)))))))) (some (noVal, 0, false))
theorem impl.GetText.spec (K : Nat) (a0 : List Int) (a1 : Int) (o : ByteArray × Int × Bool) (h : impl.GetText.f K a0 a1 = some o) : Den.Spec Try.prog 140 [one (.sl 0 0 a0.length), one (.int .i64 a1)] [some ⟨false, .ints .u8 a0⟩] (.tup [.c (.str o.1), .c (.int .i64 o.2.1), .c (.bool o.2.2)]) [some ⟨false, .ints .u8 a0⟩] := by
  unfold impl.GetText.f at h
  obtain ⟨x1, e1, h⟩ := bind_some h
  rcases br_cases h with ⟨c1, h⟩ | ⟨c1, h⟩
  · rcases br_cases h with ⟨c2, h⟩ | ⟨c2, h⟩
    · obtain rfl := Option.some.inj h
      exact Den.Spec.of_walk tab mixed Try.func140 (by kernel_rfl) [.call [] [(0, true)] (.tup [.c (.int .i64 x1.1), .c (.int .i64 x1.2.1), .c (.bool x1.2.2)]) [some ⟨false, .ints .u8 a0⟩], .br false, .br false, .br false, .br true, .br true, .br true, .br true, .br true, .br true, .br true, .br true] [] [0] (nd (impl.GetNum.spec K a0 a1 _ e1) (nd (rfl : (0 : Nat) = 0) (nd (rfl : a0.length = a0.length) (nd (nf c1) (nd (nf c1) (nd (nf c1) (nd c2 (nd c2 (nd c2 (nd c2 (nd c2 (nd c2 (nd c2 (nd tt trivial)))))))))))))) (by kernel_rfl)
    · rcases br_cases h with ⟨c3, h⟩ | ⟨c3, h⟩
      · obtain rfl := Option.some.inj h
        exact Den.Spec.of_walk tab mixed Try.func140 (by kernel_rfl) [.call [] [(0, true)] (.tup [.c (.int .i64 x1.1), .c (.int .i64 x1.2.1), .c (.bool x1.2.2)]) [some ⟨false, .ints .u8 a0⟩], .br false, .br false, .br false, .br false, .br false, .br false, .br false, .br false, .br false, .br false, .br true] [] [0] (nd (impl.GetNum.spec K a0 a1 _ e1) (nd (rfl : (0 : Nat) = 0) (nd (rfl : a0.length = a0.length) (nd (nf c1) (nd (nf c1) (nd (nf c1) (nd c2 (nd c2 (nd c2 (nd c2 (nd c2 (nd c2 (nd c2 (nd c3 trivial)))))))))))))) (by kernel_rfl)
      · obtain ⟨p1, h⟩ := ck_some h
        obtain ⟨p2, h⟩ := ck_some h
        obtain ⟨p3, h⟩ := ck_some h
        obtain ⟨p4, h⟩ := ck_some h
        obtain rfl := Option.some.inj h
        exact Den.Spec.of_walk tab mixed Try.func140 (by kernel_rfl) [.call [] [(0, true)] (.tup [.c (.int .i64 x1.1), .c (.int .i64 x1.2.1), .c (.bool x1.2.2)]) [some ⟨false, .ints .u8 a0⟩], .br false, .br false, .br false, .br false, .br false, .br false, .br false, .br false, .br false, .br false, .br false, .br false] [] [0] (nd (impl.GetNum.spec K a0 a1 _ e1) (nd (rfl : (0 : Nat) = 0) (nd (rfl : a0.length = a0.length) (nd (nf c1) (nd (nf c1) (nd (nf c1) (nd c2 (nd c2 (nd c2 (nd c2 (nd c2 (nd c2 (nd c2 (nd c3 (nd p1 (nd p2 (nd p3 (nd p4 trivial)))))))))))))))))) (by kernel_rfl)
  · obtain rfl := Option.some.inj h
    exact Den.Spec.of_walk tab mixed Try.func140 (by kernel_rfl) [.call [] [(0, true)] (.tup [.c (.int .i64 x1.1), .c (.int .i64 x1.2.1), .c (.bool x1.2.2)]) [some ⟨false, .ints .u8 a0⟩], .br true, .br true, .br true, .br true, .br true, .br true, .br true, .br true, .br true, .br true, .br true] [] [0] (nd (impl.GetNum.spec K a0 a1 _ e1) (nd (rfl : (0 : Nat) = 0) (nd (rfl : a0.length = a0.length) (nd (nt c1) (nd (nt c1) (nd (nt c1) (nd tt (nd tt (nd tt (nd tt (nd tt (nd tt (nd tt (nd tt trivial)))))))))))))) (by kernel_rfl)
def impl.reader.text.f (K : Nat) (a0 : List Int) (a1 : Int) (a2 : Bool) : Option (ByteArray × Int × Bool) :=
  Option.bind (impl.GetText.f K a0 a1) fun x1 => cond (a2) (some (noVal, a1, true)) (cond (x1.2.2) (some (x1.1, x1.2.1, a2)) (some (noVal, a1, true)))
theorem impl.reader.text.spec (K : Nat) (a0 : List Int) (a1 : Int) (a2 : Bool) (o : ByteArray × Int × Bool) (h : impl.reader.text.f K a0 a1 a2 = some o) : Den.Spec Try.prog 108 [one (.ptr 0 0 0)] [some ⟨true, .cells [.sl 1 0 a0.length, .int .i64 a1, .bool a2]⟩, some ⟨true, .ints .u8 a0⟩] (one (.str o.1)) [some ⟨true, .cells [.sl 1 0 a0.length, .int .i64 o.2.1, .bool o.2.2]⟩, some ⟨true, .ints .u8 a0⟩] := by
  unfold impl.reader.text.f at h
  obtain ⟨x1, e1, h⟩ := bind_some h
  rcases br_cases h with ⟨c1, h⟩ | ⟨c1, h⟩
  · obtain rfl := Option.some.inj h
    exact Den.Spec.of_walk tab mixed Try.func108 (by kernel_rfl) [.call [] [(0, true)] (.tup [.c (.str x1.1), .c (.int .i64 x1.2.1), .c (.bool x1.2.2)]) [some ⟨false, .ints .u8 a0⟩], .br true, .br true, .br true, .br true] [] [0, 1] (nd (impl.GetText.spec K a0 a1 _ e1) (nd (rfl : (0 : Nat) = 0) (nd (rfl : a0.length = a0.length) (nd c1 (nd c1 (nd c1 (nd tt trivial))))))) (by kernel_rfl)
  · rcases br_cases h with ⟨c2, h⟩ | ⟨c2, h⟩
    · obtain rfl := Option.some.inj h
      exact Den.Spec.of_walk tab mixed Try.func108 (by kernel_rfl) [.call [] [(0, true)] (.tup [.c (.str x1.1), .c (.int .i64 x1.2.1), .c (.bool x1.2.2)]) [some ⟨false, .ints .u8 a0⟩], .br false, .br false, .br false, .br false] [] [0, 1] (nd (impl.GetText.spec K a0 a1 _ e1) (nd (rfl : (0 : Nat) = 0) (nd (rfl : a0.length = a0.length) (nd c1 (nd c1 (nd c1 (nd (nf c2) trivial))))))) (by kernel_rfl)
    · obtain rfl := Option.some.inj h
      exact Den.Spec.of_walk tab mixed Try.func108 (by kernel_rfl) [.call [] [(0, true)] (.tup [.c (.str x1.1), .c (.int .i64 x1.2.1), .c (.bool x1.2.2)]) [some ⟨false, .ints .u8 a0⟩], .br false, .br false, .br false, .br true] [] [0, 1] (nd (impl.GetText.spec K a0 a1 _ e1) (nd (rfl : (0 : Nat) = 0) (nd (rfl : a0.length = a0.length) (nd c1 (nd c1 (nd c1 (nd (nt c2) trivial))))))) (by kernel_rfl)
def impl.reader.done.f (a0 : List Int) (a1 : Int) (a2 : Bool) : Option (Bool) :=
  cond (a2) (some false) (some (a1 == (a0.length : Int)))
theorem impl.reader.done.spec (a0 : List Int) (a1 : Int) (a2 : Bool) (o : Bool) (h : impl.reader.done.f a0 a1 a2 = some o) : Den.Spec Try.prog 109 [one (.ptr 0 0 0)] [some ⟨false, .cells [.sl 1 0 a0.length, .int .i64 a1, .bool a2]⟩, some ⟨false, .ints .u8 a0⟩] (one (.bool o)) [some ⟨false, .cells [.sl 1 0 a0.length, .int .i64 a1, .bool a2]⟩, some ⟨false, .ints .u8 a0⟩] := by
  unfold impl.reader.done.f at h
  rcases br_cases h with ⟨c1, h⟩ | ⟨c1, h⟩
  · obtain rfl := Option.some.inj h
    exact Den.Spec.of_walk tab mixed Try.func109 (by kernel_rfl) [.br false, .br false, .br false, .br false, .br false, .br false, .br false, .br false, .br false, .br false, .br false] [] [0, 1] (nd (nf c1) (nd (nf c1) (nd (nf c1) (nd (nf c1) (nd (nf c1) (nd (nf c1) (nd (nf c1) (nd (nf c1) (nd (nf c1) (nd (nf c1) (nd (nf c1) trivial))))))))))) (by kernel_rfl)
  · obtain rfl := Option.some.inj h
    exact Den.Spec.of_walk tab mixed Try.func109 (by kernel_rfl) [.br true, .br true, .br true, .br true, .br true, .br true, .br true, .br true, .br true, .br true, .br true] [] [0, 1] (nd (nt c1) (nd (nt c1) (nd (nt c1) (nd (nt c1) (nd (nt c1) (nd (nt c1) (nd (nt c1) (nd (nt c1) (nd (nt c1) (nd (nt c1) (nd (nt c1) trivial))))))))))) (by kernel_rfl)
def impl.isSector.f (a0 : Int) : Option (Bool) :=
  Option.bind (impl.in_.f a0 0 25) fun x1 => some x1
theorem impl.isSector.spec (a0 : Int) (o : Bool) (h : impl.isSector.f a0 = some o) : Den.Spec Try.prog 128 [one (.int .i64 a0)] [] (one (.bool o)) [] := by
  unfold impl.isSector.f at h
  obtain ⟨x1, e1, h⟩ := bind_some h
  obtain rfl := Option.some.inj h
  exact Den.Spec.of_walk tab mixed Try.func128 (by kernel_rfl) [.call [] [] (one (.bool x1)) []] [] [] (nd (impl.in_.spec a0 0 25 _ e1) trivial) (by kernel_rfl)
def impl.RecOk.f (a0 : Int) (a1 : Int) (a2 : ByteArray) : Option (Bool) :=
  Option.bind (impl.isSector.f a0) fun x1 => cond (x1) (Option.bind (impl.in_.f a1 1 1000000000) fun x2 => cond (x2) (some (decide ((a2.size : Int) ≤ 400))) (some false)) (some false)
theorem impl.RecOk.spec (a0 : Int) (a1 : Int) (a2 : ByteArray) (o : Bool) (h : impl.RecOk.f a0 a1 a2 = some o) : Den.Spec Try.prog 110 [.v (.agg [.int .i64 a0, .int .i64 a1, .str a2])] [] (one (.bool o)) [] := by
  unfold impl.RecOk.f at h
  obtain ⟨x1, e1, h⟩ := bind_some h
  rcases br_cases h with ⟨c1, h⟩ | ⟨c1, h⟩
  · obtain ⟨x2, e2, h⟩ := bind_some h
    rcases br_cases h with ⟨c2, h⟩ | ⟨c2, h⟩
    · obtain rfl := Option.some.inj h
      exact Den.Spec.of_walk tab mixed Try.func110 (by kernel_rfl) [.call [] [] (one (.bool x1)) [], .br true, .br true, .br true, .call [] [] (one (.bool x2)) [], .br true, .br true, .br true, .br true, .br true, .br true] [] [] (nd (impl.isSector.spec a0 _ e1) (nd c1 (nd c1 (nd c1 (nd (impl.in_.spec a1 1 1000000000 _ e2) (nd c1 (nd c2 (nd c2 (nd c2 (nd c2 (nd c2 trivial))))))))))) (by kernel_rfl)
    · obtain rfl := Option.some.inj h
      exact Den.Spec.of_walk tab mixed Try.func110 (by kernel_rfl) [.call [] [] (one (.bool x1)) [], .br true, .br true, .br true, .call [] [] (one (.bool x2)) [], .br true, .br false, .br false, .br false, .br false, .br false] [] [] (nd (impl.isSector.spec a0 _ e1) (nd c1 (nd c1 (nd c1 (nd (impl.in_.spec a1 1 1000000000 _ e2) (nd c1 (nd c2 (nd c2 (nd c2 (nd c2 (nd c2 trivial))))))))))) (by kernel_rfl)
  · obtain rfl := Option.some.inj h
    exact Den.Spec.of_walk tab mixed Try.func110 (by kernel_rfl) [.call [] [] (one (.bool x1)) [], .br false, .br false, .br false, .br false, .br false, .br false, .br false, .br false, .br false] [] [] (nd (impl.isSector.spec a0 _ e1) (nd c1 (nd c1 (nd c1 (nd c1 (nd ff (nd ff (nd ff (nd ff (nd ff trivial)))))))))) (by kernel_rfl)
def impl.RecRead.f (K : Nat) (a0 : ByteArray) : Option (Int × Int × ByteArray × Bool) :=
  Option.bind (impl.unsummed.f K a0) fun x1 => Option.bind (impl.reader.number.f K (bytesL a0) x1.1 x1.2) fun x2 => Option.bind (impl.reader.number.f K (bytesL a0) x2.2.1 x2.2.2) fun x3 => Option.bind (impl.reader.text.f K (bytesL a0) x3.2.1 x3.2.2) fun x4 => Option.bind (impl.reader.done.f (bytesL a0) x4.2.1 x4.2.2) fun x5 => cond (x5) (Option.bind (impl.RecOk.f x2.1 x3.1 x4.1) fun x6 => cond (x6) (some (x2.1, x3.1, x4.1, true)) (some (0, 0, noVal, false))) (some (0, 0, noVal, false))
theorem impl.RecRead.spec (K : Nat) (a0 : ByteArray) (o : Int × Int × ByteArray × Bool) (h : impl.RecRead.f K a0 = some o) : Den.Spec Try.prog 65 [one (.str a0)] [] (.tup [.agg [.int .i64 o.1, .int .i64 o.2.1, .str o.2.2.1], .c (.bool o.2.2.2)]) [] := by
  unfold impl.RecRead.f at h
  obtain ⟨x1, e1, h⟩ := bind_some h
  obtain ⟨x2, e2, h⟩ := bind_some h
  obtain ⟨x3, e3, h⟩ := bind_some h
  obtain ⟨x4, e4, h⟩ := bind_some h
  obtain ⟨x5, e5, h⟩ := bind_some h
  rcases br_cases h with ⟨c1, h⟩ | ⟨c1, h⟩
  · obtain ⟨x6, e6, h⟩ := bind_some h
    rcases br_cases h with ⟨c2, h⟩ | ⟨c2, h⟩
    · obtain rfl := Option.some.inj h
      exact Den.Spec.of_walk tab mixed Try.func65 (by kernel_rfl) [.call [] [] (one (.ptr 0 0 0)) [some ⟨true, .cells [.sl 1 0 ((bytesL a0).length), .int .i64 x1.1, .bool x1.2]⟩, some ⟨true, .ints .u8 (bytesL a0)⟩], .call [(1, true), (2, true)] [] (one (.int .i64 x2.1)) [some ⟨true, .cells [.sl 1 0 ((bytesL a0).length), .int .i64 x2.2.1, .bool x2.2.2]⟩, some ⟨true, .ints .u8 (bytesL a0)⟩], .call [(1, true), (2, true)] [] (one (.int .i64 x3.1)) [some ⟨true, .cells [.sl 1 0 ((bytesL a0).length), .int .i64 x3.2.1, .bool x3.2.2]⟩, some ⟨true, .ints .u8 (bytesL a0)⟩], .call [(1, true), (2, true)] [] (one (.str x4.1)) [some ⟨true, .cells [.sl 1 0 ((bytesL a0).length), .int .i64 x4.2.1, .bool x4.2.2]⟩, some ⟨true, .ints .u8 (bytesL a0)⟩], .call [(1, false), (2, false)] [] (one (.bool x5)) [some ⟨false, .cells [.sl 1 0 ((bytesL a0).length), .int .i64 x4.2.1, .bool x4.2.2]⟩, some ⟨false, .ints .u8 (bytesL a0)⟩], .br false, .br false, .call [] [] (one (.bool x6)) [], .br false, .br false, .br false] [] [] (nd (impl.unsummed.spec K a0 _ e1) (nd (impl.reader.number.spec K (bytesL a0) x1.1 x1.2 _ e2) (nd (impl.reader.number.spec K (bytesL a0) x2.2.1 x2.2.2 _ e3) (nd (impl.reader.text.spec K (bytesL a0) x3.2.1 x3.2.2 _ e4) (nd (impl.reader.done.spec (bytesL a0) x4.2.1 x4.2.2 _ e5) (nd (nf c1) (nd (nf c1) (nd (impl.RecOk.spec x2.1 x3.1 x4.1 _ e6) (nd (nf c1) (nd (nf c1) (nd (nf c2) trivial))))))))))) (by kernel_rfl)
    · obtain rfl := Option.some.inj h
      exact Den.Spec.of_walk tab mixed Try.func65 (by kernel_rfl) [.call [] [] (one (.ptr 0 0 0)) [some ⟨true, .cells [.sl 1 0 ((bytesL a0).length), .int .i64 x1.1, .bool x1.2]⟩, some ⟨true, .ints .u8 (bytesL a0)⟩], .call [(1, true), (2, true)] [] (one (.int .i64 x2.1)) [some ⟨true, .cells [.sl 1 0 ((bytesL a0).length), .int .i64 x2.2.1, .bool x2.2.2]⟩, some ⟨true, .ints .u8 (bytesL a0)⟩], .call [(1, true), (2, true)] [] (one (.int .i64 x3.1)) [some ⟨true, .cells [.sl 1 0 ((bytesL a0).length), .int .i64 x3.2.1, .bool x3.2.2]⟩, some ⟨true, .ints .u8 (bytesL a0)⟩], .call [(1, true), (2, true)] [] (one (.str x4.1)) [some ⟨true, .cells [.sl 1 0 ((bytesL a0).length), .int .i64 x4.2.1, .bool x4.2.2]⟩, some ⟨true, .ints .u8 (bytesL a0)⟩], .call [(1, false), (2, false)] [] (one (.bool x5)) [some ⟨false, .cells [.sl 1 0 ((bytesL a0).length), .int .i64 x4.2.1, .bool x4.2.2]⟩, some ⟨false, .ints .u8 (bytesL a0)⟩], .br false, .br false, .call [] [] (one (.bool x6)) [], .br false, .br false, .br true] [] [] (nd (impl.unsummed.spec K a0 _ e1) (nd (impl.reader.number.spec K (bytesL a0) x1.1 x1.2 _ e2) (nd (impl.reader.number.spec K (bytesL a0) x2.2.1 x2.2.2 _ e3) (nd (impl.reader.text.spec K (bytesL a0) x3.2.1 x3.2.2 _ e4) (nd (impl.reader.done.spec (bytesL a0) x4.2.1 x4.2.2 _ e5) (nd (nf c1) (nd (nf c1) (nd (impl.RecOk.spec x2.1 x3.1 x4.1 _ e6) (nd (nf c1) (nd (nf c1) (nd (nt c2) trivial))))))))))) (by kernel_rfl)
  · obtain rfl := Option.some.inj h
    exact Den.Spec.of_walk tab mixed Try.func65 (by kernel_rfl) [.call [] [] (one (.ptr 0 0 0)) [some ⟨true, .cells [.sl 1 0 ((bytesL a0).length), .int .i64 x1.1, .bool x1.2]⟩, some ⟨true, .ints .u8 (bytesL a0)⟩], .call [(1, true), (2, true)] [] (one (.int .i64 x2.1)) [some ⟨true, .cells [.sl 1 0 ((bytesL a0).length), .int .i64 x2.2.1, .bool x2.2.2]⟩, some ⟨true, .ints .u8 (bytesL a0)⟩], .call [(1, true), (2, true)] [] (one (.int .i64 x3.1)) [some ⟨true, .cells [.sl 1 0 ((bytesL a0).length), .int .i64 x3.2.1, .bool x3.2.2]⟩, some ⟨true, .ints .u8 (bytesL a0)⟩], .call [(1, true), (2, true)] [] (one (.str x4.1)) [some ⟨true, .cells [.sl 1 0 ((bytesL a0).length), .int .i64 x4.2.1, .bool x4.2.2]⟩, some ⟨true, .ints .u8 (bytesL a0)⟩], .call [(1, false), (2, false)] [] (one (.bool x5)) [some ⟨false, .cells [.sl 1 0 ((bytesL a0).length), .int .i64 x4.2.1, .bool x4.2.2]⟩, some ⟨false, .ints .u8 (bytesL a0)⟩], .br true, .br true, .br true, .br true, .br true] [] [] (nd (impl.unsummed.spec K a0 _ e1) (nd (impl.reader.number.spec K (bytesL a0) x1.1 x1.2 _ e2) (nd (impl.reader.number.spec K (bytesL a0) x2.2.1 x2.2.2 _ e3) (nd (impl.reader.text.spec K (bytesL a0) x3.2.1 x3.2.2 _ e4) (nd (impl.reader.done.spec (bytesL a0) x4.2.1 x4.2.2 _ e5) (nd (nt c1) (nd (nt c1) (nd (nt c1) (nd (nt c1) (nd tt trivial)))))))))) (by kernel_rfl)
def impl.mount.l0.f (K : Nat) (a0 : List ByteArray) (a1 : List Int) : Nat → (List ByteArray) → (List Int) → (List Int) → Int → (List Int) → Int → Option ((List ByteArray) × (List Int) × (List Int) × Int)
  | 0, _, _, _, _, _, _ => none
  | k + 1, v101_0, v101_1, v101_2, v101_3, v101_4, v101_5 =>
    cond (decide (v101_5 < (a0.length : Int))) (ck (0 ≤ v101_5) (cond (strEq (a0.getD v101_5.toNat noVal) noVal) (impl.mount.l0.f K a0 a1 k v101_0 v101_1 v101_2 v101_3 v101_4 (w64 (v101_5 + 1))) (Option.bind (impl.RecRead.f K (a0.getD v101_5.toNat noVal)) fun x1 => cond (x1.2.2.2) (ck (0 ≤ x1.1) (ck (x1.1 < (v101_4.length : Int)) (cond (decide (x1.2.1 > (v101_4.getD x1.1.toNat 0))) (ck (x1.1 < (v101_2.length : Int)) (impl.mount.l0.f K a0 a1 k v101_0 v101_1 (v101_2.set x1.1.toNat v101_5) (minI 1000000000 (maxI v101_3 (w64 (x1.2.1 + 1)))) (v101_4.set x1.1.toNat x1.2.1) (w64 (v101_5 + 1)))) (impl.mount.l0.f K a0 a1 k v101_0 v101_1 v101_2 (minI 1000000000 (maxI v101_3 (w64 (x1.2.1 + 1)))) v101_4 (w64 (v101_5 + 1)))))) (impl.mount.l0.f K a0 a1 k v101_0 v101_1 v101_2 v101_3 v101_4 (w64 (v101_5 + 1)))))) (some (v101_0, v101_1, v101_2, v101_3))
def impl.mount.l0.s (K : Nat) (a0 : List ByteArray) (a1 : List Int) (v101_0 : List ByteArray) (v101_1 : List Int) (v101_2 : List Int) (v101_3 : Int) (v101_4 : List Int) (v101_5 : Int) : St := mkSt 62 [(2, one (.ptr 2 0 0)), (3, one (.ptr 6 0 0)), (4, one (.sl 10 0 v101_4.length)), (16, one (.sl 0 0 a0.length)), (17, one (.int .i64 (a0.length : Int))), (18, one (.int .i64 v101_5))] [some ⟨false, .strs a0⟩, some ⟨false, .ints .i64 a1⟩, some ⟨true, .cells [.sl 3 0 0, .sl 4 0 0, .sl 5 0 0, .int .i64 0]⟩, some ⟨true, .strs []⟩, some ⟨true, .ints .i64 []⟩, some ⟨true, .ints .i64 []⟩, some ⟨true, .cells [.sl 7 0 v101_0.length, .sl 8 0 v101_1.length, .sl 9 0 v101_2.length, .int .i64 v101_3]⟩, some ⟨true, .strs v101_0⟩, some ⟨true, .ints .i64 v101_1⟩, some ⟨true, .ints .i64 v101_2⟩, some ⟨true, .ints .i64 v101_4⟩]
def impl.mount.l0.e0 (K : Nat) (a0 : List ByteArray) (a1 : List Int) (o : (List ByteArray) × (List Int) × (List Int) × Int) : St := mkSt 62 [(2, one (.ptr 2 0 0)), (3, one (.ptr 6 0 0))] [some ⟨false, .strs a0⟩, some ⟨false, .ints .i64 a1⟩, some ⟨true, .cells [.sl 3 0 0, .sl 4 0 0, .sl 5 0 0, .int .i64 0]⟩, some ⟨true, .strs []⟩, some ⟨true, .ints .i64 []⟩, some ⟨true, .ints .i64 []⟩, some ⟨true, .cells [.sl 7 0 o.1.length, .sl 8 0 o.2.1.length, .sl 9 0 o.2.2.1.length, .int .i64 o.2.2.2]⟩, some ⟨true, .strs o.1⟩, some ⟨true, .ints .i64 o.2.1⟩, some ⟨true, .ints .i64 o.2.2.1⟩]
def impl.mount.l0.x (K : Nat) (a0 : List ByteArray) (a1 : List Int) : ((List ByteArray) × (List Int) × (List Int) × Int) → AExit × St := fun o => (.exit 0, impl.mount.l0.e0 K a0 a1 o)
theorem impl.mount.l0.spec (K : Nat) (a0 : List ByteArray) (a1 : List Int) : ∀ (k : Nat) (v101_0 : List ByteArray) (v101_1 : List Int) (v101_2 : List Int) (v101_3 : Int) (v101_4 : List Int) (v101_5 : Int) (o : (List ByteArray) × (List Int) × (List Int) × Int), impl.mount.l0.f K a0 a1 k v101_0 v101_1 v101_2 v101_3 v101_4 v101_5 = some o → LoopSpec Try.prog 2 (loopN Try.f86 0) (impl.mount.l0.s K a0 a1 v101_0 v101_1 v101_2 v101_3 v101_4 v101_5) (impl.mount.l0.x K a0 a1 o).1 (impl.mount.l0.x K a0 a1 o).2
  | 0, _, _, _, _, _, _, _, h => by cases h
  | k + 1, v101_0, v101_1, v101_2, v101_3, v101_4, v101_5, o, h => by
    unfold impl.mount.l0.f at h
    rcases br_cases h with ⟨c1, h⟩ | ⟨c1, h⟩
    · obtain ⟨p1, h⟩ := ck_some h
      rcases br_cases h with ⟨c2, h⟩ | ⟨c2, h⟩
      · exact .of_step tab mixed [.br true, .br true] [] [2, 3, 4, 16, 17, 18] [0, 1, 2, 3, 4, 5, 6, 7, 8, 9, 10] (s1 := impl.mount.l0.s K a0 a1 v101_0 v101_1 v101_2 v101_3 v101_4 (w64 (v101_5 + 1))) (nd c1 (nd p1 (nd (of_decide_eq_true c1) (nd (tn p1 (of_decide_eq_true c1)) (nd c2 trivial))))) (by kernel_rfl) (impl.mount.l0.spec K a0 a1 k v101_0 v101_1 v101_2 v101_3 v101_4 (w64 (v101_5 + 1)) _ h)
      · obtain ⟨x1, e1, h⟩ := bind_some h
        rcases br_cases h with ⟨c3, h⟩ | ⟨c3, h⟩
        · obtain ⟨p2, h⟩ := ck_some h
          obtain ⟨p3, h⟩ := ck_some h
          rcases br_cases h with ⟨c4, h⟩ | ⟨c4, h⟩
          · obtain ⟨p4, h⟩ := ck_some h
            exact .of_step tab mixed [.br true, .br false, .call [] [] (.tup [.agg [.int .i64 x1.1, .int .i64 x1.2.1, .str x1.2.2.1], .c (.bool x1.2.2.2)]) [], .br false, .br true] [] [2, 3, 4, 16, 17, 18] [0, 1, 2, 3, 4, 5, 6, 7, 8, 9, 10] (s1 := mkSt 62 [(2, one (.ptr 2 0 0)), (3, one (.ptr 6 0 0)), (4, one (.sl 10 0 v101_4.length)), (16, one (.sl 0 0 a0.length)), (17, one (.int .i64 (a0.length : Int))), (18, one (.int .i64 (w64 (v101_5 + 1))))] [some ⟨false, .strs a0⟩, some ⟨false, .ints .i64 a1⟩, some ⟨true, .cells [.sl 3 0 0, .sl 4 0 0, .sl 5 0 0, .int .i64 0]⟩, some ⟨true, .strs []⟩, some ⟨true, .ints .i64 []⟩, some ⟨true, .ints .i64 []⟩, some ⟨true, .cells [.sl 7 0 v101_0.length, .sl 8 0 v101_1.length, .sl 9 0 v101_2.length, .int .i64 (minI 1000000000 (maxI v101_3 (w64 (x1.2.1 + 1))))]⟩, some ⟨true, .strs v101_0⟩, some ⟨true, .ints .i64 v101_1⟩, some ⟨true, .ints .i64 (v101_2.set x1.1.toNat v101_5)⟩, some ⟨true, .ints .i64 (v101_4.set x1.1.toNat x1.2.1)⟩]) (nd c1 (nd p1 (nd (of_decide_eq_true c1) (nd (tn p1 (of_decide_eq_true c1)) (nd c2 (nd (impl.RecRead.spec K (a0.getD v101_5.toNat noVal) _ e1) (nd (nf c3) (nd p2 (nd p3 (nd (tn p2 p3) (nd c4 (nd p2 (nd p3 (nd (tn p2 p3) (nd p2 (nd p4 (nd (tn p2 p4) trivial))))))))))))))))) (by kernel_rfl) (LoopSpec.eqs (impl.mount.l0.spec K a0 a1 k v101_0 v101_1 (v101_2.set x1.1.toNat v101_5) (minI 1000000000 (maxI v101_3 (w64 (x1.2.1 + 1)))) (v101_4.set x1.1.toNat x1.2.1) (w64 (v101_5 + 1)) _ h) (by simp only [impl.mount.l0.s, List.length_set, overL_length] : impl.mount.l0.s K a0 a1 v101_0 v101_1 (v101_2.set x1.1.toNat v101_5) (minI 1000000000 (maxI v101_3 (w64 (x1.2.1 + 1)))) (v101_4.set x1.1.toNat x1.2.1) (w64 (v101_5 + 1)) = mkSt 62 [(2, one (.ptr 2 0 0)), (3, one (.ptr 6 0 0)), (4, one (.sl 10 0 v101_4.length)), (16, one (.sl 0 0 a0.length)), (17, one (.int .i64 (a0.length : Int))), (18, one (.int .i64 (w64 (v101_5 + 1))))] [some ⟨false, .strs a0⟩, some ⟨false, .ints .i64 a1⟩, some ⟨true, .cells [.sl 3 0 0, .sl 4 0 0, .sl 5 0 0, .int .i64 0]⟩, some ⟨true, .strs []⟩, some ⟨true, .ints .i64 []⟩, some ⟨true, .ints .i64 []⟩, some ⟨true, .cells [.sl 7 0 v101_0.length, .sl 8 0 v101_1.length, .sl 9 0 v101_2.length, .int .i64 (minI 1000000000 (maxI v101_3 (w64 (x1.2.1 + 1))))]⟩, some ⟨true, .strs v101_0⟩, some ⟨true, .ints .i64 v101_1⟩, some ⟨true, .ints .i64 (v101_2.set x1.1.toNat v101_5)⟩, some ⟨true, .ints .i64 (v101_4.set x1.1.toNat x1.2.1)⟩]))
          · exact .of_step tab mixed [.br true, .br false, .call [] [] (.tup [.agg [.int .i64 x1.1, .int .i64 x1.2.1, .str x1.2.2.1], .c (.bool x1.2.2.2)]) [], .br false, .br false] [] [2, 3, 4, 16, 17, 18] [0, 1, 2, 3, 4, 5, 6, 7, 8, 9, 10] (s1 := impl.mount.l0.s K a0 a1 v101_0 v101_1 v101_2 (minI 1000000000 (maxI v101_3 (w64 (x1.2.1 + 1)))) v101_4 (w64 (v101_5 + 1))) (nd c1 (nd p1 (nd (of_decide_eq_true c1) (nd (tn p1 (of_decide_eq_true c1)) (nd c2 (nd (impl.RecRead.spec K (a0.getD v101_5.toNat noVal) _ e1) (nd (nf c3) (nd p2 (nd p3 (nd (tn p2 p3) (nd c4 trivial))))))))))) (by kernel_rfl) (impl.mount.l0.spec K a0 a1 k v101_0 v101_1 v101_2 (minI 1000000000 (maxI v101_3 (w64 (x1.2.1 + 1)))) v101_4 (w64 (v101_5 + 1)) _ h)
        · exact .of_step tab mixed [.br true, .br false, .call [] [] (.tup [.agg [.int .i64 x1.1, .int .i64 x1.2.1, .str x1.2.2.1], .c (.bool x1.2.2.2)]) [], .br true] [] [2, 3, 4, 16, 17, 18] [0, 1, 2, 3, 4, 5, 6, 7, 8, 9, 10] (s1 := impl.mount.l0.s K a0 a1 v101_0 v101_1 v101_2 v101_3 v101_4 (w64 (v101_5 + 1))) (nd c1 (nd p1 (nd (of_decide_eq_true c1) (nd (tn p1 (of_decide_eq_true c1)) (nd c2 (nd (impl.RecRead.spec K (a0.getD v101_5.toNat noVal) _ e1) (nd (nt c3) trivial))))))) (by kernel_rfl) (impl.mount.l0.spec K a0 a1 k v101_0 v101_1 v101_2 v101_3 v101_4 (w64 (v101_5 + 1)) _ h)
    · obtain rfl := Option.some.inj h
      exact .of_done tab mixed [.br false] [] [2, 3] [0, 1, 2, 3, 4, 5, 6, 7, 8, 9] rfl (nd c1 trivial) (by kernel_rfl)
def impl.mount.f (K : Nat) (a0 : List ByteArray) (a1 : List Int) : Option ((List ByteArray) × (List Int) × (List Int) × Int) :=
  Option.bind (impl.cloneChip.f a0 a1) fun x1 => Option.bind (slices.Repeat_int_int.f K [(-1)] 26) fun x2 => ck ((26 * (8 : Int)) ≤ 70368744177664) (Option.bind (impl.mount.l0.f K a0 a1 K x1.1 x1.2 x2 1 (List.replicate 26 (0 : Int)) 0) fun x3 => some (x3.1, x3.2.1, x3.2.2.1, x3.2.2.2))
theorem impl.mount.spec (K : Nat) (a0 : List ByteArray) (a1 : List Int) (o : (List ByteArray) × (List Int) × (List Int) × Int) (h : impl.mount.f K a0 a1 = some o) : Den.Spec Try.prog 86 [.v (.agg [.sl 0 0 a0.length, .sl 1 0 a1.length])] [some ⟨false, .strs a0⟩, some ⟨false, .ints .i64 a1⟩] (.v (.agg [.sl 2 0 o.1.length, .sl 3 0 o.2.1.length, .sl 4 0 o.2.2.1.length, .int .i64 o.2.2.2])) [some ⟨false, .strs a0⟩, some ⟨false, .ints .i64 a1⟩, some ⟨true, .strs o.1⟩, some ⟨true, .ints .i64 o.2.1⟩, some ⟨true, .ints .i64 o.2.2.1⟩] := by
  unfold impl.mount.f at h
  obtain ⟨x1, e1, h⟩ := bind_some h
  obtain ⟨x2, e2, h⟩ := bind_some h
  obtain ⟨p1, h⟩ := ck_some h
  obtain ⟨x3, e3, h⟩ := bind_some h
  obtain rfl := Option.some.inj h
  exact Den.Spec.of_walk tab mixed Try.func86 (by kernel_rfl) [.call [(0, false), (1, false)] [] (.v (.agg [.sl 2 0 x1.1.length, .sl 3 0 x1.2.length])) [some ⟨false, .strs a0⟩, some ⟨false, .ints .i64 a1⟩, some ⟨true, .strs x1.1⟩, some ⟨true, .ints .i64 x1.2⟩], .call [] [(0, true)] (one (.sl 1 0 x2.length)) [some ⟨false, .ints .i64 [(-1)]⟩, some ⟨true, .ints .i64 x2⟩], .loop [] [2, 3, 4, 16, 17, 18] [0, 1, 3, 4, 5, 6, 11, 7, 8, 10, 15] (.exit 0) (impl.mount.l0.e0 K a0 a1 x3)] [] [0, 1, 7, 8, 9] (nd (impl.cloneChip.spec a0 a1 _ e1) (nd (slices.Repeat_int_int.spec K [(-1)] 26 _ e2) (nd (rfl : (0 : Nat) = 0) (nd (rfl : 1 = 1) (nd (by decide : (0 : Int) ≤ 26) (nd (rfl : (26 : Int) = (26 : Int)) (nd p1 (nd (impl.mount.l0.spec K a0 a1 K x1.1 x1.2 x2 1 (List.replicate 26 (0 : Int)) 0 _ e3) trivial)))))))) (by kernel_rfl)
def slices.Equal_int_int.l0.f (a0 : List Int) (a1 : List Int) : Nat → Int → Option (Unit ⊕ Unit)
  | 0, _ => none
  | k + 1, v104_0 =>
    cond (decide (v104_0 < (a0.length : Int))) (ck (0 ≤ v104_0) (ck (v104_0 < (a1.length : Int)) (cond ((a0.getD v104_0.toNat 0) != (a1.getD v104_0.toNat 0)) (some (.inl ())) (slices.Equal_int_int.l0.f a0 a1 k (w64 (v104_0 + 1)))))) (some (.inr (())))
def slices.Equal_int_int.l0.s (a0 : List Int) (a1 : List Int) (v104_0 : Int) : St := mkSt 26 [(0, one (.sl 0 0 a0.length)), (1, one (.sl 1 0 a1.length)), (12, one (.int .i64 (a0.length : Int))), (13, one (.int .i64 v104_0))] [some ⟨false, .ints .i64 a0⟩, some ⟨false, .ints .i64 a1⟩]
def slices.Equal_int_int.l0.e0 (a0 : List Int) (a1 : List Int) (o : Unit) : St := mkSt 26 [(4, one (.bool false))] [some ⟨false, .ints .i64 a0⟩, some ⟨false, .ints .i64 a1⟩]
def slices.Equal_int_int.l0.e1 (a0 : List Int) (a1 : List Int) (o : Unit) : St := mkSt 26 [] [some ⟨false, .ints .i64 a0⟩, some ⟨false, .ints .i64 a1⟩]
def slices.Equal_int_int.l0.x (a0 : List Int) (a1 : List Int) : (Unit ⊕ Unit) → AExit × St := Sum.elim (fun o => (.ret, slices.Equal_int_int.l0.e0 a0 a1 o)) (fun o => (.exit 0, slices.Equal_int_int.l0.e1 a0 a1 o))
theorem slices.Equal_int_int.l0.spec (a0 : List Int) (a1 : List Int) : ∀ (k : Nat) (v104_0 : Int) (o : Unit ⊕ Unit), slices.Equal_int_int.l0.f a0 a1 k v104_0 = some o → LoopSpec Try.prog 2 (loopN Try.f87 0) (slices.Equal_int_int.l0.s a0 a1 v104_0) (slices.Equal_int_int.l0.x a0 a1 o).1 (slices.Equal_int_int.l0.x a0 a1 o).2
  | 0, _, _, h => by cases h
  | k + 1, v104_0, o, h => by
    unfold slices.Equal_int_int.l0.f at h
    rcases br_cases h with ⟨c1, h⟩ | ⟨c1, h⟩
    · obtain ⟨p1, h⟩ := ck_some h
      obtain ⟨p2, h⟩ := ck_some h
      rcases br_cases h with ⟨c2, h⟩ | ⟨c2, h⟩
      · obtain rfl := Option.some.inj h
        exact .of_done tab mixed [.br true, .br true] [] [4] [0, 1] rfl (nd c1 (nd p1 (nd (of_decide_eq_true c1) (nd (tn p1 (of_decide_eq_true c1)) (nd p1 (nd p2 (nd (tn p1 p2) (nd c2 trivial)))))))) (by kernel_rfl)
      · exact .of_step tab mixed [.br true, .br false] [] [0, 1, 12, 13] [0, 1] (s1 := slices.Equal_int_int.l0.s a0 a1 (w64 (v104_0 + 1))) (nd c1 (nd p1 (nd (of_decide_eq_true c1) (nd (tn p1 (of_decide_eq_true c1)) (nd p1 (nd p2 (nd (tn p1 p2) (nd c2 trivial)))))))) (by kernel_rfl) (slices.Equal_int_int.l0.spec a0 a1 k (w64 (v104_0 + 1)) _ h)
    · obtain rfl := Option.some.inj h
      exact .of_done tab mixed [.br false] [] [] [0, 1] rfl (nd c1 trivial) (by kernel_rfl)
def slices.Equal_int_int.f (K : Nat) (a0 : List Int) (a1 : List Int) : Option (Bool) :=
  cond ((a0.length : Int) != (a1.length : Int)) (some false) (Option.bind (slices.Equal_int_int.l0.f a0 a1 K 0) fun x1 => (Sum.elim (fun x1 => some false) (fun x1 => some true)) x1)
theorem slices.Equal_int_int.spec (K : Nat) (a0 : List Int) (a1 : List Int) (o : Bool) (h : slices.Equal_int_int.f K a0 a1 = some o) : Den.Spec Try.prog 87 [one (.sl 0 0 a0.length), one (.sl 1 0 a1.length)] [some ⟨false, .ints .i64 a0⟩, some ⟨false, .ints .i64 a1⟩] (one (.bool o)) [some ⟨false, .ints .i64 a0⟩, some ⟨false, .ints .i64 a1⟩] := by
  unfold slices.Equal_int_int.f at h
  rcases br_cases h with ⟨c1, h⟩ | ⟨c1, h⟩
  · obtain rfl := Option.some.inj h
    exact Den.Spec.of_walk tab mixed Try.func87 (by kernel_rfl) [.br true] [] [0, 1] (nd c1 trivial) (by kernel_rfl)
  · obtain ⟨x1, e1, h⟩ := bind_some h
    rcases x1 with x1 | x1
    · obtain rfl := Option.some.inj h
      exact Den.Spec.of_walk tab mixed Try.func87 (by kernel_rfl) [.br false, .loop [] [0, 1, 12, 13] [0, 1] (.ret) (slices.Equal_int_int.l0.e0 a0 a1 x1)] [] [0, 1] (nd c1 (nd (slices.Equal_int_int.l0.spec a0 a1 K 0 _ e1) trivial)) (by kernel_rfl)
    · obtain rfl := Option.some.inj h
      exact Den.Spec.of_walk tab mixed Try.func87 (by kernel_rfl) [.br false, .loop [] [0, 1, 12, 13] [0, 1] (.exit 0) (slices.Equal_int_int.l0.e1 a0 a1 x1)] [] [0, 1] (nd c1 (nd (slices.Equal_int_int.l0.spec a0 a1 K 0 _ e1) trivial)) (by kernel_rfl)
def impl.FtlOk.f (K : Nat) (a0 : List ByteArray) (a1 : List Int) (a2 : List Int) (a3 : Int) : Option (Bool) :=
  Option.bind (impl.ChipOk.f K a0 a1) fun x1 => cond (x1) (Option.bind (impl.mount.f K a0 a1) fun x2 => Option.bind (slices.Equal_int_int.f K a2 x2.2.2.1) fun x3 => cond (x3) (some (a3 == x2.2.2.2)) (some false)) (some false)
theorem impl.FtlOk.spec (K : Nat) (a0 : List ByteArray) (a1 : List Int) (a2 : List Int) (a3 : Int) (o : Bool) (h : impl.FtlOk.f K a0 a1 a2 a3 = some o) : Den.Spec Try.prog 35 [.v (.agg [.sl 0 0 a0.length, .sl 1 0 a1.length, .sl 2 0 a2.length, .int .i64 a3])] [some ⟨false, .strs a0⟩, some ⟨false, .ints .i64 a1⟩, some ⟨false, .ints .i64 a2⟩] (one (.bool o)) [some ⟨false, .strs a0⟩, some ⟨false, .ints .i64 a1⟩, some ⟨false, .ints .i64 a2⟩] := by
  unfold impl.FtlOk.f at h
  obtain ⟨x1, e1, h⟩ := bind_some h
  rcases br_cases h with ⟨c1, h⟩ | ⟨c1, h⟩
  · obtain ⟨x2, e2, h⟩ := bind_some h
    obtain ⟨x3, e3, h⟩ := bind_some h
    rcases br_cases h with ⟨c2, h⟩ | ⟨c2, h⟩
    · obtain rfl := Option.some.inj h
      exact Den.Spec.of_walk tab mixed Try.func35 (by kernel_rfl) [.call [(0, false), (1, false)] [] (one (.bool x1)) [some ⟨false, .strs a0⟩, some ⟨false, .ints .i64 a1⟩], .br false, .call [(0, false), (1, false)] [] (.v (.agg [.sl 2 0 x2.1.length, .sl 3 0 x2.2.1.length, .sl 4 0 x2.2.2.1.length, .int .i64 x2.2.2.2])) [some ⟨false, .strs a0⟩, some ⟨false, .ints .i64 a1⟩, some ⟨true, .strs x2.1⟩, some ⟨true, .ints .i64 x2.2.1⟩, some ⟨true, .ints .i64 x2.2.2.1⟩], .call [] [(0, true), (1, true)] (one (.bool x3)) [some ⟨false, .ints .i64 a2⟩, some ⟨false, .ints .i64 x2.2.2.1⟩], .br true, .br true, .br true, .br true, .br true, .br true] [] [0, 1, 2] (nd (impl.ChipOk.spec K a0 a1 _ e1) (nd (nf c1) (nd (impl.mount.spec K a0 a1 _ e2) (nd (slices.Equal_int_int.spec K a2 x2.2.2.1 _ e3) (nd (rfl : (0 : Nat) = 0) (nd (rfl : a2.length = a2.length) (nd (rfl : (0 : Nat) = 0) (nd (rfl : x2.2.2.1.length = x2.2.2.1.length) (nd c2 (nd c2 (nd c2 (nd c2 (nd c2 (nd c2 trivial)))))))))))))) (by kernel_rfl)
    · obtain rfl := Option.some.inj h
      exact Den.Spec.of_walk tab mixed Try.func35 (by kernel_rfl) [.call [(0, false), (1, false)] [] (one (.bool x1)) [some ⟨false, .strs a0⟩, some ⟨false, .ints .i64 a1⟩], .br false, .call [(0, false), (1, false)] [] (.v (.agg [.sl 2 0 x2.1.length, .sl 3 0 x2.2.1.length, .sl 4 0 x2.2.2.1.length, .int .i64 x2.2.2.2])) [some ⟨false, .strs a0⟩, some ⟨false, .ints .i64 a1⟩, some ⟨true, .strs x2.1⟩, some ⟨true, .ints .i64 x2.2.1⟩, some ⟨true, .ints .i64 x2.2.2.1⟩], .call [] [(0, true), (1, true)] (one (.bool x3)) [some ⟨false, .ints .i64 a2⟩, some ⟨false, .ints .i64 x2.2.2.1⟩], .br false, .br false, .br false, .br false, .br false, .br false] [] [0, 1, 2] (nd (impl.ChipOk.spec K a0 a1 _ e1) (nd (nf c1) (nd (impl.mount.spec K a0 a1 _ e2) (nd (slices.Equal_int_int.spec K a2 x2.2.2.1 _ e3) (nd (rfl : (0 : Nat) = 0) (nd (rfl : a2.length = a2.length) (nd (rfl : (0 : Nat) = 0) (nd (rfl : x2.2.2.1.length = x2.2.2.1.length) (nd c2 (nd c2 (nd c2 (nd c2 (nd c2 (nd c2 trivial)))))))))))))) (by kernel_rfl)
  · obtain rfl := Option.some.inj h
    exact Den.Spec.of_walk tab mixed Try.func35 (by kernel_rfl) [.call [(0, false), (1, false)] [] (one (.bool x1)) [some ⟨false, .strs a0⟩, some ⟨false, .ints .i64 a1⟩], .br true] [] [0, 1, 2] (nd (impl.ChipOk.spec K a0 a1 _ e1) (nd (nt c1) trivial)) (by kernel_rfl)
def slices.Index_string_string.l0.f (a0 : List ByteArray) (a1 : ByteArray) : Nat → Int → Option (Int ⊕ Unit)
  | 0, _ => none
  | k + 1, v109_0 =>
    cond (decide (v109_0 < (a0.length : Int))) (ck (0 ≤ v109_0) (cond (strEq a1 (a0.getD v109_0.toNat noVal)) (some (.inl v109_0)) (slices.Index_string_string.l0.f a0 a1 k (w64 (v109_0 + 1))))) (some (.inr (())))
def slices.Index_string_string.l0.s (a0 : List ByteArray) (a1 : ByteArray) (v109_0 : Int) : St := mkSt 19 [(0, one (.sl 0 0 a0.length)), (1, one (.str a1)), (7, one (.int .i64 (a0.length : Int))), (8, one (.int .i64 v109_0))] [some ⟨false, .strs a0⟩]
def slices.Index_string_string.l0.e0 (a0 : List ByteArray) (a1 : ByteArray) (o : Int) : St := mkSt 19 [(4, one (.int .i64 o))] [some ⟨false, .strs a0⟩]
def slices.Index_string_string.l0.e1 (a0 : List ByteArray) (a1 : ByteArray) (o : Unit) : St := mkSt 19 [] [some ⟨false, .strs a0⟩]
def slices.Index_string_string.l0.x (a0 : List ByteArray) (a1 : ByteArray) : (Int ⊕ Unit) → AExit × St := Sum.elim (fun o => (.ret, slices.Index_string_string.l0.e0 a0 a1 o)) (fun o => (.exit 0, slices.Index_string_string.l0.e1 a0 a1 o))
theorem slices.Index_string_string.l0.spec (a0 : List ByteArray) (a1 : ByteArray) : ∀ (k : Nat) (v109_0 : Int) (o : Int ⊕ Unit), slices.Index_string_string.l0.f a0 a1 k v109_0 = some o → LoopSpec Try.prog 1 (loopN Try.f78 0) (slices.Index_string_string.l0.s a0 a1 v109_0) (slices.Index_string_string.l0.x a0 a1 o).1 (slices.Index_string_string.l0.x a0 a1 o).2
  | 0, _, _, h => by cases h
  | k + 1, v109_0, o, h => by
    unfold slices.Index_string_string.l0.f at h
    rcases br_cases h with ⟨c1, h⟩ | ⟨c1, h⟩
    · obtain ⟨p1, h⟩ := ck_some h
      rcases br_cases h with ⟨c2, h⟩ | ⟨c2, h⟩
      · obtain rfl := Option.some.inj h
        exact .of_done tab mixed [.br true, .br true] [] [4] [0] rfl (nd c1 (nd p1 (nd (of_decide_eq_true c1) (nd (tn p1 (of_decide_eq_true c1)) (nd c2 trivial))))) (by kernel_rfl)
      · exact .of_step tab mixed [.br true, .br false] [] [0, 1, 7, 8] [0] (s1 := slices.Index_string_string.l0.s a0 a1 (w64 (v109_0 + 1))) (nd c1 (nd p1 (nd (of_decide_eq_true c1) (nd (tn p1 (of_decide_eq_true c1)) (nd c2 trivial))))) (by kernel_rfl) (slices.Index_string_string.l0.spec a0 a1 k (w64 (v109_0 + 1)) _ h)
    · obtain rfl := Option.some.inj h
      exact .of_done tab mixed [.br false] [] [] [0] rfl (nd c1 trivial) (by kernel_rfl)
def slices.Index_string_string.f (K : Nat) (a0 : List ByteArray) (a1 : ByteArray) : Option (Int) :=
  Option.bind (slices.Index_string_string.l0.f a0 a1 K 0) fun x1 => (Sum.elim (fun x1 => some x1) (fun x1 => some (-1))) x1
theorem slices.Index_string_string.spec (K : Nat) (a0 : List ByteArray) (a1 : ByteArray) (o : Int) (h : slices.Index_string_string.f K a0 a1 = some o) : Den.Spec Try.prog 78 [one (.sl 0 0 a0.length), one (.str a1)] [some ⟨false, .strs a0⟩] (one (.int .i64 o)) [some ⟨false, .strs a0⟩] := by
  unfold slices.Index_string_string.f at h
  obtain ⟨x1, e1, h⟩ := bind_some h
  rcases x1 with x1 | x1
  · obtain rfl := Option.some.inj h
    exact Den.Spec.of_walk tab mixed Try.func78 (by kernel_rfl) [.loop [] [0, 1, 7, 8] [0] (.ret) (slices.Index_string_string.l0.e0 a0 a1 x1)] [] [0] (nd (slices.Index_string_string.l0.spec a0 a1 K 0 _ e1) trivial) (by kernel_rfl)
  · obtain rfl := Option.some.inj h
    exact Den.Spec.of_walk tab mixed Try.func78 (by kernel_rfl) [.loop [] [0, 1, 7, 8] [0] (.exit 0) (slices.Index_string_string.l0.e1 a0 a1 x1)] [] [0] (nd (slices.Index_string_string.l0.spec a0 a1 K 0 _ e1) trivial) (by kernel_rfl)
def impl.firstClear_1.f (a0 : ByteArray) : Option (Unit) :=
  some ()
theorem impl.firstClear_1.spec (a0 : ByteArray) (o : Unit) (h : impl.firstClear_1.f a0 = some o) : Den.Spec Try.prog 174 [one (.str a0)] [] (one (.bool (!(strEq a0 noVal)))) [] := by
  unfold impl.firstClear_1.f at h
  obtain rfl := Option.some.inj h
  exact Den.Spec.of_walk tab mixed Try.func174 (by kernel_rfl) [] [] [] trivial (by kernel_rfl)
def slices.IndexFunc_string_string_1.l0.f (a0 : List ByteArray) : Nat → Int → Option (Int ⊕ Unit)
  | 0, _ => none
  | k + 1, v113_0 =>
    cond (decide (v113_0 < (a0.length : Int))) (ck (0 ≤ v113_0) (Option.bind (impl.firstClear_1.f (a0.getD v113_0.toNat noVal)) fun x1 => cond (strEq (a0.getD v113_0.toNat noVal) noVal) (slices.IndexFunc_string_string_1.l0.f a0 k (w64 (v113_0 + 1))) (some (.inl v113_0)))) (some (.inr (())))
def slices.IndexFunc_string_string_1.l0.s (a0 : List ByteArray) (v113_0 : Int) : St := mkSt 19 [(0, one (.sl 0 0 a0.length)), (1, one (.fn 174 [])), (7, one (.int .i64 (a0.length : Int))), (8, one (.int .i64 v113_0))] [some ⟨false, .strs a0⟩]
def slices.IndexFunc_string_string_1.l0.e0 (a0 : List ByteArray) (o : Int) : St := mkSt 19 [(4, one (.int .i64 o))] [some ⟨false, .strs a0⟩]
def slices.IndexFunc_string_string_1.l0.e1 (a0 : List ByteArray) (o : Unit) : St := mkSt 19 [] [some ⟨false, .strs a0⟩]
def slices.IndexFunc_string_string_1.l0.x (a0 : List ByteArray) : (Int ⊕ Unit) → AExit × St := Sum.elim (fun o => (.ret, slices.IndexFunc_string_string_1.l0.e0 a0 o)) (fun o => (.exit 0, slices.IndexFunc_string_string_1.l0.e1 a0 o))
theorem slices.IndexFunc_string_string_1.l0.spec (a0 : List ByteArray) : ∀ (k : Nat) (v113_0 : Int) (o : Int ⊕ Unit), slices.IndexFunc_string_string_1.l0.f a0 k v113_0 = some o → LoopSpec Try.prog 1 (loopN Try.f145 0) (slices.IndexFunc_string_string_1.l0.s a0 v113_0) (slices.IndexFunc_string_string_1.l0.x a0 o).1 (slices.IndexFunc_string_string_1.l0.x a0 o).2
  | 0, _, _, h => by cases h
  | k + 1, v113_0, o, h => by
    unfold slices.IndexFunc_string_string_1.l0.f at h
    rcases br_cases h with ⟨c1, h⟩ | ⟨c1, h⟩
    · obtain ⟨p1, h⟩ := ck_some h
      obtain ⟨x1, e1, h⟩ := bind_some h
      rcases br_cases h with ⟨c2, h⟩ | ⟨c2, h⟩
      · exact .of_step tab mixed [.br true, .call [] [] (one (.bool (!(strEq (a0.getD v113_0.toNat noVal) noVal)))) [], .br false] [] [0, 1, 7, 8] [0] (s1 := slices.IndexFunc_string_string_1.l0.s a0 (w64 (v113_0 + 1))) (nd c1 (nd p1 (nd (of_decide_eq_true c1) (nd (tn p1 (of_decide_eq_true c1)) (nd (impl.firstClear_1.spec (a0.getD v113_0.toNat noVal) _ e1) (nd (nf c2) trivial)))))) (by kernel_rfl) (slices.IndexFunc_string_string_1.l0.spec a0 k (w64 (v113_0 + 1)) _ h)
      · obtain rfl := Option.some.inj h
        exact .of_done tab mixed [.br true, .call [] [] (one (.bool (!(strEq (a0.getD v113_0.toNat noVal) noVal)))) [], .br true] [] [4] [0] rfl (nd c1 (nd p1 (nd (of_decide_eq_true c1) (nd (tn p1 (of_decide_eq_true c1)) (nd (impl.firstClear_1.spec (a0.getD v113_0.toNat noVal) _ e1) (nd (nt c2) trivial)))))) (by kernel_rfl)
    · obtain rfl := Option.some.inj h
      exact .of_done tab mixed [.br false] [] [] [0] rfl (nd c1 trivial) (by kernel_rfl)
def slices.IndexFunc_string_string_1.f (K : Nat) (a0 : List ByteArray) : Option (Int) :=
  Option.bind (slices.IndexFunc_string_string_1.l0.f a0 K 0) fun x1 => (Sum.elim (fun x1 => some x1) (fun x1 => some (-1))) x1
theorem slices.IndexFunc_string_string_1.spec (K : Nat) (a0 : List ByteArray) (o : Int) (h : slices.IndexFunc_string_string_1.f K a0 = some o) : Den.Spec Try.prog 145 [one (.sl 0 0 a0.length), one (.fn 174 [])] [some ⟨false, .strs a0⟩] (one (.int .i64 o)) [some ⟨false, .strs a0⟩] := by
  unfold slices.IndexFunc_string_string_1.f at h
  obtain ⟨x1, e1, h⟩ := bind_some h
  rcases x1 with x1 | x1
  · obtain rfl := Option.some.inj h
    exact Den.Spec.of_walk tab mixed Try.func145 (by kernel_rfl) [.loop [] [0, 1, 7, 8] [0] (.ret) (slices.IndexFunc_string_string_1.l0.e0 a0 x1)] [] [0] (nd (slices.IndexFunc_string_string_1.l0.spec a0 K 0 _ e1) trivial) (by kernel_rfl)
  · obtain rfl := Option.some.inj h
    exact Den.Spec.of_walk tab mixed Try.func145 (by kernel_rfl) [.loop [] [0, 1, 7, 8] [0] (.exit 0) (slices.IndexFunc_string_string_1.l0.e1 a0 x1)] [] [0] (nd (slices.IndexFunc_string_string_1.l0.spec a0 K 0 _ e1) trivial) (by kernel_rfl)
def slices.ContainsFunc_string_string_1.f (K : Nat) (a0 : List ByteArray) : Option (Bool) :=
  Option.bind (slices.IndexFunc_string_string_1.f K a0) fun x1 => some (decide (x1 ≥ 0))
theorem slices.ContainsFunc_string_string_1.spec (K : Nat) (a0 : List ByteArray) (o : Bool) (h : slices.ContainsFunc_string_string_1.f K a0 = some o) : Den.Spec Try.prog 122 [one (.sl 0 0 a0.length), one (.fn 174 [])] [some ⟨false, .strs a0⟩] (one (.bool o)) [some ⟨false, .strs a0⟩] := by
  unfold slices.ContainsFunc_string_string_1.f at h
  obtain ⟨x1, e1, h⟩ := bind_some h
  obtain rfl := Option.some.inj h
  exact Den.Spec.of_walk tab mixed Try.func122 (by kernel_rfl) [.call [] [(0, true)] (one (.int .i64 x1)) [some ⟨false, .strs a0⟩]] [] [0] (nd (slices.IndexFunc_string_string_1.spec K a0 _ e1) (nd (rfl : (0 : Nat) = 0) (nd (rfl : a0.length = a0.length) trivial))) (by kernel_rfl)
def impl.firstClear.f (K : Nat) (a0 : List ByteArray) (a1 : List Int) (a2 : Int) : Option (Int) :=
  ck (0 ≤ (w64 (a2 * 6))) (ck ((w64 (a2 * 6)) ≤ (w64 ((w64 (a2 + 1)) * 6))) (ck ((w64 ((w64 (a2 + 1)) * 6)) ≤ (a0.length : Int)) (Option.bind (slices.Index_string_string.f K ((a0.drop ((w64 (a2 * 6)).toNat)).take ((w64 ((w64 (a2 + 1)) * 6)).toNat - (w64 (a2 * 6)).toNat)) noVal) fun x1 => ck (((w64 (a2 * 6)).toNat) + ((w64 ((w64 (a2 + 1)) * 6)).toNat - (w64 (a2 * 6)).toNat) ≤ a0.length) (cond (decide (x1 < 0)) (some (-1)) (ck (x1 ≤ (((w64 ((w64 (a2 + 1)) * 6)).toNat - (w64 (a2 * 6)).toNat : Nat) : Int)) (Option.bind (slices.ContainsFunc_string_string_1.f K ((a0.drop (addO ((w64 (a2 * 6)).toNat) x1.toNat)).take ((w64 ((w64 (a2 + 1)) * 6)).toNat - (w64 (a2 * 6)).toNat - x1.toNat))) fun x2 => ck ((addO ((w64 (a2 * 6)).toNat) x1.toNat) + ((w64 ((w64 (a2 + 1)) * 6)).toNat - (w64 (a2 * 6)).toNat - x1.toNat) ≤ a0.length) (cond (x2) (some (-1)) (some x1))))))))
theorem impl.firstClear.spec (K : Nat) (a0 : List ByteArray) (a1 : List Int) (a2 : Int) (o : Int) (h : impl.firstClear.f K a0 a1 a2 = some o) : Den.Spec Try.prog 154 [.v (.agg [.sl 0 0 a0.length, .sl 1 0 a1.length]), one (.int .i64 a2)] [some ⟨false, .strs a0⟩, some ⟨false, .ints .i64 a1⟩] (one (.int .i64 o)) [some ⟨false, .strs a0⟩, some ⟨false, .ints .i64 a1⟩] := by
  unfold impl.firstClear.f at h
  obtain ⟨p1, h⟩ := ck_some h
  obtain ⟨p2, h⟩ := ck_some h
  obtain ⟨p3, h⟩ := ck_some h
  obtain ⟨x1, e1, h⟩ := bind_some h
  obtain ⟨p4, h⟩ := ck_some h
  rcases br_cases h with ⟨c1, h⟩ | ⟨c1, h⟩
  · obtain rfl := Option.some.inj h
    exact Den.Spec.of_walk tab mixed Try.func154 (by kernel_rfl) [.call [] [(0, false)] (one (.int .i64 x1)) [some ⟨false, .strs ((a0.drop ((w64 (a2 * 6)).toNat)).take ((w64 ((w64 (a2 + 1)) * 6)).toNat - (w64 (a2 * 6)).toNat))⟩], .br true, .br true, .br true, .br true, .br true, .br true] [] [0, 1] (nd p1 (nd p2 (nd p3 (nd ((slices.Index_string_string.spec K ((a0.drop ((w64 (a2 * 6)).toNat)).take ((w64 ((w64 (a2 + 1)) * 6)).toNat - (w64 (a2 * 6)).toNat)) noVal _ e1).args (congrArg (fun n => ([one (.sl 0 0 n), one (.str noVal)] : List AV)) (win_len p4))) (nd c1 (nd c1 (nd c1 (nd c1 (nd c1 (nd tt trivial)))))))))) (by kernel_rfl)
  · obtain ⟨p5, h⟩ := ck_some h
    obtain ⟨x2, e2, h⟩ := bind_some h
    obtain ⟨p6, h⟩ := ck_some h
    rcases br_cases h with ⟨c2, h⟩ | ⟨c2, h⟩
    · obtain rfl := Option.some.inj h
      exact Den.Spec.of_walk tab mixed Try.func154 (by kernel_rfl) [.call [] [(0, false)] (one (.int .i64 x1)) [some ⟨false, .strs ((a0.drop ((w64 (a2 * 6)).toNat)).take ((w64 ((w64 (a2 + 1)) * 6)).toNat - (w64 (a2 * 6)).toNat))⟩], .br false, .br false, .br false, .br false, .call [] [(0, false)] (one (.bool x2)) [some ⟨false, .strs ((a0.drop (addO ((w64 (a2 * 6)).toNat) x1.toNat)).take ((w64 ((w64 (a2 + 1)) * 6)).toNat - (w64 (a2 * 6)).toNat - x1.toNat))⟩], .br false, .br true] [] [0, 1] (nd p1 (nd p2 (nd p3 (nd ((slices.Index_string_string.spec K ((a0.drop ((w64 (a2 * 6)).toNat)).take ((w64 ((w64 (a2 + 1)) * 6)).toNat - (w64 (a2 * 6)).toNat)) noVal _ e1).args (congrArg (fun n => ([one (.sl 0 0 n), one (.str noVal)] : List AV)) (win_len p4))) (nd c1 (nd c1 (nd c1 (nd (Int.not_lt.1 (of_decide_eq_false c1)) (nd p5 (nd (Int.le_refl (((w64 ((w64 (a2 + 1)) * 6)).toNat - (w64 (a2 * 6)).toNat : Nat) : Int)) (nd c1 (nd ((slices.ContainsFunc_string_string_1.spec K ((a0.drop (addO ((w64 (a2 * 6)).toNat) x1.toNat)).take ((w64 ((w64 (a2 + 1)) * 6)).toNat - (w64 (a2 * 6)).toNat - x1.toNat)) _ e2).args (congrArg (fun n => ([one (.sl 0 0 n), one (.fn 174 [])] : List AV)) (win_len p6))) (nd c1 (nd c2 trivial)))))))))))))) (by kernel_rfl)
    · obtain rfl := Option.some.inj h
      exact Den.Spec.of_walk tab mixed Try.func154 (by kernel_rfl) [.call [] [(0, false)] (one (.int .i64 x1)) [some ⟨false, .strs ((a0.drop ((w64 (a2 * 6)).toNat)).take ((w64 ((w64 (a2 + 1)) * 6)).toNat - (w64 (a2 * 6)).toNat))⟩], .br false, .br false, .br false, .br false, .call [] [(0, false)] (one (.bool x2)) [some ⟨false, .strs ((a0.drop (addO ((w64 (a2 * 6)).toNat) x1.toNat)).take ((w64 ((w64 (a2 + 1)) * 6)).toNat - (w64 (a2 * 6)).toNat - x1.toNat))⟩], .br false, .br false] [] [0, 1] (nd p1 (nd p2 (nd p3 (nd ((slices.Index_string_string.spec K ((a0.drop ((w64 (a2 * 6)).toNat)).take ((w64 ((w64 (a2 + 1)) * 6)).toNat - (w64 (a2 * 6)).toNat)) noVal _ e1).args (congrArg (fun n => ([one (.sl 0 0 n), one (.str noVal)] : List AV)) (win_len p4))) (nd c1 (nd c1 (nd c1 (nd (Int.not_lt.1 (of_decide_eq_false c1)) (nd p5 (nd (Int.le_refl (((w64 ((w64 (a2 + 1)) * 6)).toNat - (w64 (a2 * 6)).toNat : Nat) : Int)) (nd c1 (nd ((slices.ContainsFunc_string_string_1.spec K ((a0.drop (addO ((w64 (a2 * 6)).toNat) x1.toNat)).take ((w64 ((w64 (a2 + 1)) * 6)).toNat - (w64 (a2 * 6)).toNat - x1.toNat)) _ e2).args (congrArg (fun n => ([one (.sl 0 0 n), one (.fn 174 [])] : List AV)) (win_len p6))) (nd c1 (nd c2 trivial)))))))))))))) (by kernel_rfl)
def impl.nextPage.l0.f (K : Nat) (a0 : List ByteArray) (a1 : List Int) (a2 : Int) : Nat → Int → Option (Int ⊕ Unit)
  | 0, _ => none
  | k + 1, v122_0 =>
    cond (decide (v122_0 < 10)) (Option.bind (impl.firstClear.f K a0 a1 v122_0) fun x1 => cond (decide (x1 > 0)) (cond (v122_0 != a2) (some (.inl (w64 ((w64 (v122_0 * 6)) + x1)))) (impl.nextPage.l0.f K a0 a1 a2 k (w64 (v122_0 + 1)))) (impl.nextPage.l0.f K a0 a1 a2 k (w64 (v122_0 + 1)))) (some (.inr (())))
def impl.nextPage.l0.s (K : Nat) (a0 : List ByteArray) (a1 : List Int) (a2 : Int) (v122_0 : Int) : St := mkSt 61 [(1, one (.int .i64 a2)), (2, one (.ptr 2 0 0)), (10, one (.int .i64 v122_0))] [some ⟨false, .strs a0⟩, some ⟨false, .ints .i64 a1⟩, some ⟨true, .cells [.sl 0 0 a0.length, .sl 1 0 a1.length]⟩]
def impl.nextPage.l0.e0 (K : Nat) (a0 : List ByteArray) (a1 : List Int) (a2 : Int) (o : Int) : St := mkSt 61 [(4, one (.int .i64 o))] [some ⟨false, .strs a0⟩, some ⟨false, .ints .i64 a1⟩]
def impl.nextPage.l0.e1 (K : Nat) (a0 : List ByteArray) (a1 : List Int) (a2 : Int) (o : Unit) : St := mkSt 61 [(1, one (.int .i64 a2)), (2, one (.ptr 2 0 0))] [some ⟨false, .strs a0⟩, some ⟨false, .ints .i64 a1⟩, some ⟨true, .cells [.sl 0 0 a0.length, .sl 1 0 a1.length]⟩]
def impl.nextPage.l0.x (K : Nat) (a0 : List ByteArray) (a1 : List Int) (a2 : Int) : (Int ⊕ Unit) → AExit × St := Sum.elim (fun o => (.ret, impl.nextPage.l0.e0 K a0 a1 a2 o)) (fun o => (.exit 0, impl.nextPage.l0.e1 K a0 a1 a2 o))
theorem impl.nextPage.l0.spec (K : Nat) (a0 : List ByteArray) (a1 : List Int) (a2 : Int) : ∀ (k : Nat) (v122_0 : Int) (o : Int ⊕ Unit), impl.nextPage.l0.f K a0 a1 a2 k v122_0 = some o → LoopSpec Try.prog 2 (loopN Try.f134 0) (impl.nextPage.l0.s K a0 a1 a2 v122_0) (impl.nextPage.l0.x K a0 a1 a2 o).1 (impl.nextPage.l0.x K a0 a1 a2 o).2
  | 0, _, _, h => by cases h
  | k + 1, v122_0, o, h => by
    unfold impl.nextPage.l0.f at h
    rcases br_cases h with ⟨c1, h⟩ | ⟨c1, h⟩
    · obtain ⟨x1, e1, h⟩ := bind_some h
      rcases br_cases h with ⟨c2, h⟩ | ⟨c2, h⟩
      · rcases br_cases h with ⟨c3, h⟩ | ⟨c3, h⟩
        · obtain rfl := Option.some.inj h
          exact .of_done tab mixed [.br true, .call [(0, false), (1, false)] [] (one (.int .i64 x1)) [some ⟨false, .strs a0⟩, some ⟨false, .ints .i64 a1⟩], .br true, .br true, .br true, .br true, .br true] [] [4] [0, 1] rfl (nd c1 (nd (impl.firstClear.spec K a0 a1 v122_0 _ e1) (nd c2 (nd c2 (nd c2 (nd c2 (nd c3 trivial))))))) (by kernel_rfl)
        · exact .of_step tab mixed [.br true, .call [(0, false), (1, false)] [] (one (.int .i64 x1)) [some ⟨false, .strs a0⟩, some ⟨false, .ints .i64 a1⟩], .br true, .br true, .br true, .br true, .br false] [] [1, 2, 10] [0, 1, 2] (s1 := impl.nextPage.l0.s K a0 a1 a2 (w64 (v122_0 + 1))) (nd c1 (nd (impl.firstClear.spec K a0 a1 v122_0 _ e1) (nd c2 (nd c2 (nd c2 (nd c2 (nd c3 trivial))))))) (by kernel_rfl) (impl.nextPage.l0.spec K a0 a1 a2 k (w64 (v122_0 + 1)) _ h)
      · exact .of_step tab mixed [.br true, .call [(0, false), (1, false)] [] (one (.int .i64 x1)) [some ⟨false, .strs a0⟩, some ⟨false, .ints .i64 a1⟩], .br false, .br false, .br false, .br false, .br false] [] [1, 2, 10] [0, 1, 2] (s1 := impl.nextPage.l0.s K a0 a1 a2 (w64 (v122_0 + 1))) (nd c1 (nd (impl.firstClear.spec K a0 a1 v122_0 _ e1) (nd c2 (nd c2 (nd c2 (nd c2 (nd ff trivial))))))) (by kernel_rfl) (impl.nextPage.l0.spec K a0 a1 a2 k (w64 (v122_0 + 1)) _ h)
    · obtain rfl := Option.some.inj h
      exact .of_done tab mixed [.br false] [] [1, 2] [0, 1, 2] rfl (nd c1 trivial) (by kernel_rfl)
def impl.isFree.f (K : Nat) (a0 : List ByteArray) (a1 : List Int) (a2 : Int) : Option (Bool) :=
  Option.bind (impl.firstClear.f K a0 a1 a2) fun x1 => some (x1 == 0)
theorem impl.isFree.spec (K : Nat) (a0 : List ByteArray) (a1 : List Int) (a2 : Int) (o : Bool) (h : impl.isFree.f K a0 a1 a2 = some o) : Den.Spec Try.prog 135 [.v (.agg [.sl 0 0 a0.length, .sl 1 0 a1.length]), one (.int .i64 a2)] [some ⟨false, .strs a0⟩, some ⟨false, .ints .i64 a1⟩] (one (.bool o)) [some ⟨false, .strs a0⟩, some ⟨false, .ints .i64 a1⟩] := by
  unfold impl.isFree.f at h
  obtain ⟨x1, e1, h⟩ := bind_some h
  obtain rfl := Option.some.inj h
  exact Den.Spec.of_walk tab mixed Try.func135 (by kernel_rfl) [.call [(0, false), (1, false)] [] (one (.int .i64 x1)) [some ⟨false, .strs a0⟩, some ⟨false, .ints .i64 a1⟩]] [] [0, 1] (nd (impl.firstClear.spec K a0 a1 a2 _ e1) trivial) (by kernel_rfl)
def impl.freeBlocks.l0.f (K : Nat) (a0 : List ByteArray) (a1 : List Int) : Nat → (List Int) → Int → Option ((List Int))
  | 0, _, _ => none
  | k + 1, v119_0, v119_1 =>
    cond (decide (v119_1 < 10)) (Option.bind (impl.isFree.f K a0 a1 v119_1) fun x1 => cond (x1) (ck ((v119_0 ++ [v119_1]).length * 8 ≤ 70368744177664) (impl.freeBlocks.l0.f K a0 a1 k (v119_0 ++ [v119_1]) (w64 (v119_1 + 1)))) (impl.freeBlocks.l0.f K a0 a1 k v119_0 (w64 (v119_1 + 1)))) (some v119_0)
def impl.freeBlocks.l0.s (K : Nat) (a0 : List ByteArray) (a1 : List Int) (v119_0 : List Int) (v119_1 : Int) : St := mkSt 18 [(1, one (.ptr 2 0 0)), (3, one (.sl 3 0 v119_0.length)), (6, one (.int .i64 v119_1))] [some ⟨false, .strs a0⟩, some ⟨false, .ints .i64 a1⟩, some ⟨true, .cells [.sl 0 0 a0.length, .sl 1 0 a1.length]⟩, some ⟨true, .ints .i64 v119_0⟩]
def impl.freeBlocks.l0.e0 (K : Nat) (a0 : List ByteArray) (a1 : List Int) (o : (List Int)) : St := mkSt 18 [(3, one (.sl 2 0 o.length))] [some ⟨false, .strs a0⟩, some ⟨false, .ints .i64 a1⟩, some ⟨true, .ints .i64 o⟩]
def impl.freeBlocks.l0.x (K : Nat) (a0 : List ByteArray) (a1 : List Int) : ((List Int)) → AExit × St := fun o => (.exit 0, impl.freeBlocks.l0.e0 K a0 a1 o)
theorem impl.freeBlocks.l0.spec (K : Nat) (a0 : List ByteArray) (a1 : List Int) : ∀ (k : Nat) (v119_0 : List Int) (v119_1 : Int) (o : (List Int)), impl.freeBlocks.l0.f K a0 a1 k v119_0 v119_1 = some o → LoopSpec Try.prog 2 (loopN Try.f155 0) (impl.freeBlocks.l0.s K a0 a1 v119_0 v119_1) (impl.freeBlocks.l0.x K a0 a1 o).1 (impl.freeBlocks.l0.x K a0 a1 o).2
  | 0, _, _, _, h => by cases h
  | k + 1, v119_0, v119_1, o, h => by
    unfold impl.freeBlocks.l0.f at h
    rcases br_cases h with ⟨c1, h⟩ | ⟨c1, h⟩
    · obtain ⟨x1, e1, h⟩ := bind_some h
      rcases br_cases h with ⟨c2, h⟩ | ⟨c2, h⟩
      · obtain ⟨p1, h⟩ := ck_some h
        exact .of_step tab mixed [.br true, .call [(0, false), (1, false)] [] (one (.bool x1)) [some ⟨false, .strs a0⟩, some ⟨false, .ints .i64 a1⟩], .br true, .br true] [] [1, 3, 6] [0, 1, 2, 5] (s1 := impl.freeBlocks.l0.s K a0 a1 (v119_0 ++ [v119_1]) (w64 (v119_1 + 1))) (nd c1 (nd (impl.isFree.spec K a0 a1 v119_1 _ e1) (nd c2 (nd (rfl : (0 : Nat) = 0) (nd (rfl : v119_0.length = v119_0.length) (nd p1 (nd (rfl : (0 : Nat) = 0) (nd (rfl : 1 = 1) trivial)))))))) (by kernel_rfl) (impl.freeBlocks.l0.spec K a0 a1 k (v119_0 ++ [v119_1]) (w64 (v119_1 + 1)) _ h)
      · exact .of_step tab mixed [.br true, .call [(0, false), (1, false)] [] (one (.bool x1)) [some ⟨false, .strs a0⟩, some ⟨false, .ints .i64 a1⟩], .br false] [] [1, 3, 6] [0, 1, 2, 3] (s1 := impl.freeBlocks.l0.s K a0 a1 v119_0 (w64 (v119_1 + 1))) (nd c1 (nd (impl.isFree.spec K a0 a1 v119_1 _ e1) (nd c2 trivial))) (by kernel_rfl) (impl.freeBlocks.l0.spec K a0 a1 k v119_0 (w64 (v119_1 + 1)) _ h)
    · obtain rfl := Option.some.inj h
      exact .of_done tab mixed [.br false] [] [3] [0, 1, 3] rfl (nd c1 trivial) (by kernel_rfl)
def impl.freeBlocks.f (K : Nat) (a0 : List ByteArray) (a1 : List Int) : Option ((List Int)) :=
  Option.bind (impl.freeBlocks.l0.f K a0 a1 K [] 0) fun x1 => some x1
theorem impl.freeBlocks.spec (K : Nat) (a0 : List ByteArray) (a1 : List Int) (o : (List Int)) (h : impl.freeBlocks.f K a0 a1 = some o) : Den.Spec Try.prog 155 [.v (.agg [.sl 0 0 a0.length, .sl 1 0 a1.length])] [some ⟨false, .strs a0⟩, some ⟨false, .ints .i64 a1⟩] (one (.sl 2 0 o.length)) [some ⟨false, .strs a0⟩, some ⟨false, .ints .i64 a1⟩, some ⟨true, .ints .i64 o⟩] := by
  unfold impl.freeBlocks.f at h
  obtain ⟨x1, e1, h⟩ := bind_some h
  obtain rfl := Option.some.inj h
  exact Den.Spec.of_walk tab mixed Try.func155 (by kernel_rfl) [.loop [] [1, 3, 6] [0, 1, 2, 3] (.exit 0) (impl.freeBlocks.l0.e0 K a0 a1 x1)] [] [0, 1, 2] (nd (impl.freeBlocks.l0.spec K a0 a1 K [] 0 _ e1) trivial) (by kernel_rfl)
def impl.nextPage.l1.f (a0 : List ByteArray) (a1 : List Int) (a2 : Int) : Nat → Int → (List Int) → Int → Int → Option (Int)
  | 0, _, _, _, _ => none
  | k + 1, v123_0, v123_1, v123_2, v123_3 =>
    cond (decide (v123_3 < v123_2)) (ck (0 ≤ v123_3) (ck (v123_3 < (v123_1.length : Int)) (cond ((v123_1.getD v123_3.toNat 0) != a2) (cond (decide (v123_0 < 0)) (impl.nextPage.l1.f a0 a1 a2 k (v123_1.getD v123_3.toNat 0) v123_1 v123_2 (w64 (v123_3 + 1))) (ck (0 ≤ (v123_1.getD v123_3.toNat 0)) (ck ((v123_1.getD v123_3.toNat 0) < (a1.length : Int)) (ck (v123_0 < (a1.length : Int)) (cond (decide ((a1.getD ((v123_1.getD v123_3.toNat 0).toNat) 0) < (a1.getD v123_0.toNat 0))) (impl.nextPage.l1.f a0 a1 a2 k (v123_1.getD v123_3.toNat 0) v123_1 v123_2 (w64 (v123_3 + 1))) (impl.nextPage.l1.f a0 a1 a2 k v123_0 v123_1 v123_2 (w64 (v123_3 + 1)))))))) (impl.nextPage.l1.f a0 a1 a2 k v123_0 v123_1 v123_2 (w64 (v123_3 + 1)))))) (some v123_0)
def impl.nextPage.l1.s (a0 : List ByteArray) (a1 : List Int) (a2 : Int) (v123_0 : Int) (v123_1 : List Int) (v123_2 : Int) (v123_3 : Int) : St := mkSt 61 [(1, one (.int .i64 a2)), (2, one (.ptr 2 0 0)), (7, one (.int .i64 v123_0)), (29, one (.sl 3 0 v123_1.length)), (30, one (.int .i64 v123_2)), (31, one (.int .i64 v123_3))] [some ⟨false, .strs a0⟩, some ⟨false, .ints .i64 a1⟩, some ⟨true, .cells [.sl 0 0 a0.length, .sl 1 0 a1.length]⟩, some ⟨true, .ints .i64 v123_1⟩]
def impl.nextPage.l1.e0 (a0 : List ByteArray) (a1 : List Int) (a2 : Int) (o : Int) : St := mkSt 61 [(7, one (.int .i64 o))] [some ⟨false, .strs a0⟩, some ⟨false, .ints .i64 a1⟩]
def impl.nextPage.l1.x (a0 : List ByteArray) (a1 : List Int) (a2 : Int) : (Int) → AExit × St := fun o => (.exit 2, impl.nextPage.l1.e0 a0 a1 a2 o)
theorem impl.nextPage.l1.spec (a0 : List ByteArray) (a1 : List Int) (a2 : Int) : ∀ (k : Nat) (v123_0 : Int) (v123_1 : List Int) (v123_2 : Int) (v123_3 : Int) (o : Int), impl.nextPage.l1.f a0 a1 a2 k v123_0 v123_1 v123_2 v123_3 = some o → LoopSpec Try.prog 2 (loopN Try.f134 1) (impl.nextPage.l1.s a0 a1 a2 v123_0 v123_1 v123_2 v123_3) (impl.nextPage.l1.x a0 a1 a2 o).1 (impl.nextPage.l1.x a0 a1 a2 o).2
  | 0, _, _, _, _, _, h => by cases h
  | k + 1, v123_0, v123_1, v123_2, v123_3, o, h => by
    unfold impl.nextPage.l1.f at h
    rcases br_cases h with ⟨c1, h⟩ | ⟨c1, h⟩
    · obtain ⟨p1, h⟩ := ck_some h
      obtain ⟨p2, h⟩ := ck_some h
      rcases br_cases h with ⟨c2, h⟩ | ⟨c2, h⟩
      · rcases br_cases h with ⟨c3, h⟩ | ⟨c3, h⟩
        · exact .of_step tab mixed [.br true, .br true, .br true, .br true, .br true, .br true, .br true, .br true, .br true, .br true, .br true, .br true, .br true, .br true, .br true, .br true, .br true, .br true, .br true] [] [1, 2, 7, 29, 30, 31] [0, 1, 2, 3] (s1 := impl.nextPage.l1.s a0 a1 a2 (v123_1.getD v123_3.toNat 0) v123_1 v123_2 (w64 (v123_3 + 1))) (nd c1 (nd p1 (nd p2 (nd (tn p1 p2) (nd c2 (nd c2 (nd c2 (nd c3 (nd c3 (nd c3 (nd c3 (nd c3 (nd c3 (nd c3 (nd c3 (nd c3 (nd c3 (nd c3 (nd c2 (nd c3 (nd c2 (nd tt trivial)))))))))))))))))))))) (by kernel_rfl) (impl.nextPage.l1.spec a0 a1 a2 k (v123_1.getD v123_3.toNat 0) v123_1 v123_2 (w64 (v123_3 + 1)) _ h)
        · obtain ⟨p3, h⟩ := ck_some h
          obtain ⟨p4, h⟩ := ck_some h
          obtain ⟨p5, h⟩ := ck_some h
          rcases br_cases h with ⟨c4, h⟩ | ⟨c4, h⟩
          · exact .of_step tab mixed [.br true, .br true, .br true, .br true, .br false, .br false, .br false, .br false, .br false, .br false, .br false, .br false, .br false, .br false, .br false, .br true, .br false, .br true, .br true] [] [1, 2, 7, 29, 30, 31] [0, 1, 2, 3] (s1 := impl.nextPage.l1.s a0 a1 a2 (v123_1.getD v123_3.toNat 0) v123_1 v123_2 (w64 (v123_3 + 1))) (nd c1 (nd p1 (nd p2 (nd (tn p1 p2) (nd c2 (nd c2 (nd c2 (nd c3 (nd c3 (nd c3 (nd c3 (nd p3 (nd p4 (nd c3 (nd (tn p3 p4) (nd c3 (nd c3 (nd c3 (nd c3 (nd (Int.not_lt.1 (of_decide_eq_false c3)) (nd p5 (nd c3 (nd (tn (Int.not_lt.1 (of_decide_eq_false c3)) p5) (nd c3 (nd c2 (nd c3 (nd c2 (nd c4 trivial)))))))))))))))))))))))))))) (by kernel_rfl) (impl.nextPage.l1.spec a0 a1 a2 k (v123_1.getD v123_3.toNat 0) v123_1 v123_2 (w64 (v123_3 + 1)) _ h)
          · exact .of_step tab mixed [.br true, .br true, .br true, .br true, .br false, .br false, .br false, .br false, .br false, .br false, .br false, .br false, .br false, .br false, .br false, .br true, .br false, .br true, .br false] [] [1, 2, 7, 29, 30, 31] [0, 1, 2, 3] (s1 := impl.nextPage.l1.s a0 a1 a2 v123_0 v123_1 v123_2 (w64 (v123_3 + 1))) (nd c1 (nd p1 (nd p2 (nd (tn p1 p2) (nd c2 (nd c2 (nd c2 (nd c3 (nd c3 (nd c3 (nd c3 (nd p3 (nd p4 (nd c3 (nd (tn p3 p4) (nd c3 (nd c3 (nd c3 (nd c3 (nd (Int.not_lt.1 (of_decide_eq_false c3)) (nd p5 (nd c3 (nd (tn (Int.not_lt.1 (of_decide_eq_false c3)) p5) (nd c3 (nd c2 (nd c3 (nd c2 (nd c4 trivial)))))))))))))))))))))))))))) (by kernel_rfl) (impl.nextPage.l1.spec a0 a1 a2 k v123_0 v123_1 v123_2 (w64 (v123_3 + 1)) _ h)
      · exact .of_step tab mixed [.br true, .br false, .br false, .br false, .br false, .br false, .br false] [] [1, 2, 7, 29, 30, 31] [0, 1, 2, 3] (s1 := impl.nextPage.l1.s a0 a1 a2 v123_0 v123_1 v123_2 (w64 (v123_3 + 1))) (nd c1 (nd p1 (nd p2 (nd (tn p1 p2) (nd c2 (nd c2 (nd c2 (nd c2 (nd c2 (nd ff trivial)))))))))) (by kernel_rfl) (impl.nextPage.l1.spec a0 a1 a2 k v123_0 v123_1 v123_2 (w64 (v123_3 + 1)) _ h)
    · obtain rfl := Option.some.inj h
      exact .of_done tab mixed [.br false] [] [7] [0, 1] rfl (nd c1 trivial) (by kernel_rfl)
def impl.nextPage.f (K : Nat) (a0 : List ByteArray) (a1 : List Int) (a2 : Int) : Option (Int) :=
  Option.bind (impl.nextPage.l0.f K a0 a1 a2 K 0) fun x1 => (Sum.elim (fun x1 => some x1) (fun x1 => Option.bind (impl.freeBlocks.f K a0 a1) fun x2 => Option.bind (impl.nextPage.l1.f a0 a1 a2 K (-1) x2 (x2.length : Int) 0) fun x3 => cond (decide (x3 < 0)) (some (-1)) (some (w64 (x3 * 6))))) x1
theorem impl.nextPage.spec (K : Nat) (a0 : List ByteArray) (a1 : List Int) (a2 : Int) (o : Int) (h : impl.nextPage.f K a0 a1 a2 = some o) : Den.Spec Try.prog 134 [.v (.agg [.sl 0 0 a0.length, .sl 1 0 a1.length]), one (.int .i64 a2)] [some ⟨false, .strs a0⟩, some ⟨false, .ints .i64 a1⟩] (one (.int .i64 o)) [some ⟨false, .strs a0⟩, some ⟨false, .ints .i64 a1⟩] := by
  unfold impl.nextPage.f at h
  obtain ⟨x1, e1, h⟩ := bind_some h
  rcases x1 with x1 | x1
  · obtain rfl := Option.some.inj h
    exact Den.Spec.of_walk tab mixed Try.func134 (by kernel_rfl) [.loop [] [1, 2, 10] [0, 1, 2] (.ret) (impl.nextPage.l0.e0 K a0 a1 a2 x1)] [] [0, 1] (nd (impl.nextPage.l0.spec K a0 a1 a2 K 0 _ e1) trivial) (by kernel_rfl)
  · obtain ⟨x2, e2, h⟩ := bind_some h
    obtain ⟨x3, e3, h⟩ := bind_some h
    rcases br_cases h with ⟨c1, h⟩ | ⟨c1, h⟩
    · obtain rfl := Option.some.inj h
      exact Den.Spec.of_walk tab mixed Try.func134 (by kernel_rfl) [.loop [] [1, 2, 10] [0, 1, 2] (.exit 0) (impl.nextPage.l0.e1 K a0 a1 a2 x1), .call [(0, false), (1, false)] [] (one (.sl 2 0 x2.length)) [some ⟨false, .strs a0⟩, some ⟨false, .ints .i64 a1⟩, some ⟨true, .ints .i64 x2⟩], .loop [] [1, 2, 7, 29, 30, 31] [0, 1, 2, 3] (.exit 2) (impl.nextPage.l1.e0 a0 a1 a2 x3), .br true] [] [0, 1] (nd (impl.nextPage.l0.spec K a0 a1 a2 K 0 _ e1) (nd (impl.freeBlocks.spec K a0 a1 _ e2) (nd (impl.nextPage.l1.spec a0 a1 a2 K (-1) x2 (x2.length : Int) 0 _ e3) (nd c1 trivial)))) (by kernel_rfl)
    · obtain rfl := Option.some.inj h
      exact Den.Spec.of_walk tab mixed Try.func134 (by kernel_rfl) [.loop [] [1, 2, 10] [0, 1, 2] (.exit 0) (impl.nextPage.l0.e1 K a0 a1 a2 x1), .call [(0, false), (1, false)] [] (one (.sl 2 0 x2.length)) [some ⟨false, .strs a0⟩, some ⟨false, .ints .i64 a1⟩, some ⟨true, .ints .i64 x2⟩], .loop [] [1, 2, 7, 29, 30, 31] [0, 1, 2, 3] (.exit 2) (impl.nextPage.l1.e0 a0 a1 a2 x3), .br false] [] [0, 1] (nd (impl.nextPage.l0.spec K a0 a1 a2 K 0 _ e1) (nd (impl.freeBlocks.spec K a0 a1 _ e2) (nd (impl.nextPage.l1.spec a0 a1 a2 K (-1) x2 (x2.length : Int) 0 _ e3) (nd c1 trivial)))) (by kernel_rfl)
def impl.lives.l0.f (a0 : List ByteArray) (a1 : List Int) (a2 : List Int) (a4 : Int) : Nat → (List Int) → Int → Option ((List Int))
  | 0, _, _ => none
  | k + 1, v142_0, v142_1 =>
    cond (decide (v142_1 < (a2.length : Int))) (ck (0 ≤ v142_1) (cond (decide ((a2.getD v142_1.toNat 0) ≥ 0)) (cond ((w64 ((a2.getD v142_1.toNat 0).tdiv 6)) == a4) (ck ((v142_0 ++ [a2.getD v142_1.toNat 0]).length * 8 ≤ 70368744177664) (impl.lives.l0.f a0 a1 a2 a4 k (v142_0 ++ [a2.getD v142_1.toNat 0]) (w64 (v142_1 + 1)))) (impl.lives.l0.f a0 a1 a2 a4 k v142_0 (w64 (v142_1 + 1)))) (impl.lives.l0.f a0 a1 a2 a4 k v142_0 (w64 (v142_1 + 1))))) (some v142_0)
def impl.lives.l0.s (a0 : List ByteArray) (a1 : List Int) (a2 : List Int) (a4 : Int) (v142_0 : List Int) (v142_1 : Int) : St := mkSt 32 [(1, one (.int .i64 a4)), (5, one (.sl 3 0 v142_0.length)), (10, one (.sl 2 0 a2.length)), (11, one (.int .i64 (a2.length : Int))), (12, one (.int .i64 v142_1))] [some ⟨false, .strs a0⟩, some ⟨false, .ints .i64 a1⟩, some ⟨false, .ints .i64 a2⟩, some ⟨true, .ints .i64 v142_0⟩]
def impl.lives.l0.e0 (a0 : List ByteArray) (a1 : List Int) (a2 : List Int) (a4 : Int) (o : (List Int)) : St := mkSt 32 [(5, one (.sl 3 0 o.length))] [some ⟨false, .strs a0⟩, some ⟨false, .ints .i64 a1⟩, some ⟨false, .ints .i64 a2⟩, some ⟨true, .ints .i64 o⟩]
def impl.lives.l0.x (a0 : List ByteArray) (a1 : List Int) (a2 : List Int) (a4 : Int) : ((List Int)) → AExit × St := fun o => (.exit 0, impl.lives.l0.e0 a0 a1 a2 a4 o)
theorem impl.lives.l0.spec (a0 : List ByteArray) (a1 : List Int) (a2 : List Int) (a4 : Int) : ∀ (k : Nat) (v142_0 : List Int) (v142_1 : Int) (o : (List Int)), impl.lives.l0.f a0 a1 a2 a4 k v142_0 v142_1 = some o → LoopSpec Try.prog 3 (loopN Try.f101 0) (impl.lives.l0.s a0 a1 a2 a4 v142_0 v142_1) (impl.lives.l0.x a0 a1 a2 a4 o).1 (impl.lives.l0.x a0 a1 a2 a4 o).2
  | 0, _, _, _, h => by cases h
  | k + 1, v142_0, v142_1, o, h => by
    unfold impl.lives.l0.f at h
    rcases br_cases h with ⟨c1, h⟩ | ⟨c1, h⟩
    · obtain ⟨p1, h⟩ := ck_some h
      rcases br_cases h with ⟨c2, h⟩ | ⟨c2, h⟩
      · rcases br_cases h with ⟨c3, h⟩ | ⟨c3, h⟩
        · obtain ⟨p2, h⟩ := ck_some h
          exact .of_step tab mixed [.br true, .br true, .br true, .br true, .br true, .br true, .br true, .br true] [] [1, 5, 10, 11, 12] [0, 1, 2, 5] (s1 := impl.lives.l0.s a0 a1 a2 a4 (v142_0 ++ [a2.getD v142_1.toNat 0]) (w64 (v142_1 + 1))) (nd c1 (nd p1 (nd (of_decide_eq_true c1) (nd (tn p1 (of_decide_eq_true c1)) (nd c2 (nd c2 (nd (by decide : (6 : Int) ≠ 0) (nd c2 (nd c2 (nd c2 (nd c3 (nd (rfl : (0 : Nat) = 0) (nd (rfl : v142_0.length = v142_0.length) (nd p2 (nd (rfl : (0 : Nat) = 0) (nd (rfl : 1 = 1) trivial)))))))))))))))) (by kernel_rfl) (impl.lives.l0.spec a0 a1 a2 a4 k (v142_0 ++ [a2.getD v142_1.toNat 0]) (w64 (v142_1 + 1)) _ h)
        · exact .of_step tab mixed [.br true, .br true, .br true, .br true, .br true, .br true, .br false] [] [1, 5, 10, 11, 12] [0, 1, 2, 3] (s1 := impl.lives.l0.s a0 a1 a2 a4 v142_0 (w64 (v142_1 + 1))) (nd c1 (nd p1 (nd (of_decide_eq_true c1) (nd (tn p1 (of_decide_eq_true c1)) (nd c2 (nd c2 (nd (by decide : (6 : Int) ≠ 0) (nd c2 (nd c2 (nd c2 (nd c3 trivial))))))))))) (by kernel_rfl) (impl.lives.l0.spec a0 a1 a2 a4 k v142_0 (w64 (v142_1 + 1)) _ h)
      · exact .of_step tab mixed [.br true, .br false, .br false, .br false, .br false, .br false, .br false] [] [1, 5, 10, 11, 12] [0, 1, 2, 3] (s1 := impl.lives.l0.s a0 a1 a2 a4 v142_0 (w64 (v142_1 + 1))) (nd c1 (nd p1 (nd (of_decide_eq_true c1) (nd (tn p1 (of_decide_eq_true c1)) (nd c2 (nd c2 (nd c2 (nd c2 (nd c2 (nd ff trivial)))))))))) (by kernel_rfl) (impl.lives.l0.spec a0 a1 a2 a4 k v142_0 (w64 (v142_1 + 1)) _ h)
    · obtain rfl := Option.some.inj h
      exact .of_done tab mixed [.br false] [] [5] [0, 1, 2, 3] rfl (nd c1 trivial) (by kernel_rfl)
def math_bits.Len64.f (a0 : Int) : Option (Int) :=
  cond (decide (a0 ≥ 4294967296)) (cond (decide ((a0.fdiv (2 ^ 32)) ≥ 65536)) (cond (decide (((a0.fdiv (2 ^ 32)).fdiv (2 ^ 16)) ≥ 256)) (ck (0 ≤ (IntKind.u8.wrap (((a0.fdiv (2 ^ 32)).fdiv (2 ^ 16)).fdiv (2 ^ 8)))) (ck ((IntKind.u8.wrap (((a0.fdiv (2 ^ 32)).fdiv (2 ^ 16)).fdiv (2 ^ 8))) < (bytes0.size : Int)) (some (w64 (56 + (w64 (byteAt bytes0 (IntKind.u8.wrap (((a0.fdiv (2 ^ 32)).fdiv (2 ^ 16)).fdiv (2 ^ 8)))))))))) (ck (0 ≤ (IntKind.u8.wrap ((a0.fdiv (2 ^ 32)).fdiv (2 ^ 16)))) (ck ((IntKind.u8.wrap ((a0.fdiv (2 ^ 32)).fdiv (2 ^ 16))) < (bytes0.size : Int)) (some (w64 (48 + (w64 (byteAt bytes0 (IntKind.u8.wrap ((a0.fdiv (2 ^ 32)).fdiv (2 ^ 16))))))))))) (cond (decide ((a0.fdiv (2 ^ 32)) ≥ 256)) (ck (0 ≤ (IntKind.u8.wrap ((a0.fdiv (2 ^ 32)).fdiv (2 ^ 8)))) (ck ((IntKind.u8.wrap ((a0.fdiv (2 ^ 32)).fdiv (2 ^ 8))) < (bytes0.size : Int)) (some (w64 (40 + (w64 (byteAt bytes0 (IntKind.u8.wrap ((a0.fdiv (2 ^ 32)).fdiv (2 ^ 8)))))))))) (ck (0 ≤ (IntKind.u8.wrap (a0.fdiv (2 ^ 32)))) (ck ((IntKind.u8.wrap (a0.fdiv (2 ^ 32))) < (bytes0.size : Int)) (some (w64 (32 + (w64 (byteAt bytes0 (IntKind.u8.wrap (a0.fdiv (2 ^ 32)))))))))))) (cond (decide (a0 ≥ 65536)) (cond (decide ((a0.fdiv (2 ^ 16)) ≥ 256)) (ck (0 ≤ (IntKind.u8.wrap ((a0.fdiv (2 ^ 16)).fdiv (2 ^ 8)))) (ck ((IntKind.u8.wrap ((a0.fdiv (2 ^ 16)).fdiv (2 ^ 8))) < (bytes0.size : Int)) (some (w64 (24 + (w64 (byteAt bytes0 (IntKind.u8.wrap ((a0.fdiv (2 ^ 16)).fdiv (2 ^ 8)))))))))) (ck (0 ≤ (IntKind.u8.wrap (a0.fdiv (2 ^ 16)))) (ck ((IntKind.u8.wrap (a0.fdiv (2 ^ 16))) < (bytes0.size : Int)) (some (w64 (16 + (w64 (byteAt bytes0 (IntKind.u8.wrap (a0.fdiv (2 ^ 16))))))))))) (cond (decide (a0 ≥ 256)) (ck (0 ≤ (IntKind.u8.wrap (a0.fdiv (2 ^ 8)))) (ck ((IntKind.u8.wrap (a0.fdiv (2 ^ 8))) < (bytes0.size : Int)) (some (w64 (8 + (w64 (byteAt bytes0 (IntKind.u8.wrap (a0.fdiv (2 ^ 8)))))))))) (ck (0 ≤ (IntKind.u8.wrap a0)) (ck ((IntKind.u8.wrap a0) < (bytes0.size : Int)) (some (w64 (0 + (w64 (byteAt bytes0 (IntKind.u8.wrap a0))))))))))
theorem math_bits.Len64.spec (a0 : Int) (o : Int) (h : math_bits.Len64.f a0 = some o) : Den.Spec Try.prog 173 [one (.int .u64 a0)] [] (one (.int .i64 o)) [] := by
  unfold math_bits.Len64.f at h
  rcases br_cases h with ⟨c1, h⟩ | ⟨c1, h⟩
  · rcases br_cases h with ⟨c2, h⟩ | ⟨c2, h⟩
    · rcases br_cases h with ⟨c3, h⟩ | ⟨c3, h⟩
      · obtain ⟨p1, h⟩ := ck_some h
        obtain ⟨p2, h⟩ := ck_some h
        obtain rfl := Option.some.inj h
        exact Den.Spec.of_walk tab mixed Try.func173 (by kernel_rfl) [.br true, .br true, .br true] [] [] (nd c1 (nd (by decide : (0 : Int) ≤ 32) (nd c2 (nd (by decide : (0 : Int) ≤ 16) (nd c3 (nd (by decide : (0 : Int) ≤ 8) (nd p1 (nd p2 trivial)))))))) (by kernel_rfl)
      · obtain ⟨p1, h⟩ := ck_some h
        obtain ⟨p2, h⟩ := ck_some h
        obtain rfl := Option.some.inj h
        exact Den.Spec.of_walk tab mixed Try.func173 (by kernel_rfl) [.br true, .br true, .br false] [] [] (nd c1 (nd (by decide : (0 : Int) ≤ 32) (nd c2 (nd (by decide : (0 : Int) ≤ 16) (nd c3 (nd p1 (nd p2 trivial))))))) (by kernel_rfl)
    · rcases br_cases h with ⟨c3, h⟩ | ⟨c3, h⟩
      · obtain ⟨p1, h⟩ := ck_some h
        obtain ⟨p2, h⟩ := ck_some h
        obtain rfl := Option.some.inj h
        exact Den.Spec.of_walk tab mixed Try.func173 (by kernel_rfl) [.br true, .br false, .br true] [] [] (nd c1 (nd (by decide : (0 : Int) ≤ 32) (nd c2 (nd c3 (nd (by decide : (0 : Int) ≤ 8) (nd p1 (nd p2 trivial))))))) (by kernel_rfl)
      · obtain ⟨p1, h⟩ := ck_some h
        obtain ⟨p2, h⟩ := ck_some h
        obtain rfl := Option.some.inj h
        exact Den.Spec.of_walk tab mixed Try.func173 (by kernel_rfl) [.br true, .br false, .br false] [] [] (nd c1 (nd (by decide : (0 : Int) ≤ 32) (nd c2 (nd c3 (nd p1 (nd p2 trivial)))))) (by kernel_rfl)
  · rcases br_cases h with ⟨c2, h⟩ | ⟨c2, h⟩
    · rcases br_cases h with ⟨c3, h⟩ | ⟨c3, h⟩
      · obtain ⟨p1, h⟩ := ck_some h
        obtain ⟨p2, h⟩ := ck_some h
        obtain rfl := Option.some.inj h
        exact Den.Spec.of_walk tab mixed Try.func173 (by kernel_rfl) [.br false, .br true, .br true] [] [] (nd c1 (nd c2 (nd (by decide : (0 : Int) ≤ 16) (nd c3 (nd (by decide : (0 : Int) ≤ 8) (nd p1 (nd p2 trivial))))))) (by kernel_rfl)
      · obtain ⟨p1, h⟩ := ck_some h
        obtain ⟨p2, h⟩ := ck_some h
        obtain rfl := Option.some.inj h
        exact Den.Spec.of_walk tab mixed Try.func173 (by kernel_rfl) [.br false, .br true, .br false] [] [] (nd c1 (nd c2 (nd (by decide : (0 : Int) ≤ 16) (nd c3 (nd p1 (nd p2 trivial)))))) (by kernel_rfl)
    · rcases br_cases h with ⟨c3, h⟩ | ⟨c3, h⟩
      · obtain ⟨p1, h⟩ := ck_some h
        obtain ⟨p2, h⟩ := ck_some h
        obtain rfl := Option.some.inj h
        exact Den.Spec.of_walk tab mixed Try.func173 (by kernel_rfl) [.br false, .br false, .br true] [] [] (nd c1 (nd c2 (nd c3 (nd (by decide : (0 : Int) ≤ 8) (nd p1 (nd p2 trivial)))))) (by kernel_rfl)
      · obtain ⟨p1, h⟩ := ck_some h
        obtain ⟨p2, h⟩ := ck_some h
        obtain rfl := Option.some.inj h
        exact Den.Spec.of_walk tab mixed Try.func173 (by kernel_rfl) [.br false, .br false, .br false] [] [] (nd c1 (nd c2 (nd c3 (nd p1 (nd p2 trivial))))) (by kernel_rfl)
def math_bits.Len.f (a0 : Int) : Option (Int) :=
  Option.bind (math_bits.Len64.f a0) fun x1 => some x1
theorem math_bits.Len.spec (a0 : Int) (o : Int) (h : math_bits.Len.f a0 = some o) : Den.Spec Try.prog 153 [one (.int .u64 a0)] [] (one (.int .i64 o)) [] := by
  unfold math_bits.Len.f at h
  obtain ⟨x1, e1, h⟩ := bind_some h
  obtain rfl := Option.some.inj h
  exact Den.Spec.of_walk tab mixed Try.func153 (by kernel_rfl) [.br false, .call [] [] (one (.int .i64 x1)) []] [] [] (nd ff (nd (math_bits.Len64.spec a0 _ e1) trivial)) (by kernel_rfl)
def cmp.isNaN_int.f (a0 : Int) : Option (Unit) :=
  some ()
theorem cmp.isNaN_int.spec (a0 : Int) (o : Unit) (h : cmp.isNaN_int.f a0 = some o) : Den.Spec Try.prog 187 [one (.int .i64 a0)] [] (one (.bool (a0 != a0))) [] := by
  unfold cmp.isNaN_int.f at h
  obtain rfl := Option.some.inj h
  exact Den.Spec.of_walk tab mixed Try.func187 (by kernel_rfl) [] [] [] trivial (by kernel_rfl)
def cmp.Less_int.f (a0 : Int) (a1 : Int) : Option (Bool) :=
  Option.bind (cmp.isNaN_int.f a0) fun x1 => cond (a0 != a0) (Option.bind (cmp.isNaN_int.f a1) fun x2 => cond (a1 != a1) (some (decide (a0 < a1))) (some true)) (some (decide (a0 < a1)))
theorem cmp.Less_int.spec (a0 : Int) (a1 : Int) (o : Bool) (h : cmp.Less_int.f a0 a1 = some o) : Den.Spec Try.prog 169 [one (.int .i64 a0), one (.int .i64 a1)] [] (one (.bool o)) [] := by
  unfold cmp.Less_int.f at h
  obtain ⟨x1, e1, h⟩ := bind_some h
  rcases br_cases h with ⟨c1, h⟩ | ⟨c1, h⟩
  · obtain ⟨x2, e2, h⟩ := bind_some h
    rcases br_cases h with ⟨c2, h⟩ | ⟨c2, h⟩
    · obtain rfl := Option.some.inj h
      exact Den.Spec.of_walk tab mixed Try.func169 (by kernel_rfl) [.call [] [] (one (.bool (a0 != a0))) [], .br true, .br true, .call [] [] (one (.bool (a1 != a1))) [], .br true, .br true, .br false, .br false, .br false, .br false] [] [] (nd (cmp.isNaN_int.spec a0 _ e1) (nd c1 (nd c1 (nd (cmp.isNaN_int.spec a1 _ e2) (nd c1 (nd c1 (nd (nf c2) (nd (nf c2) (nd (nf c2) (nd (nf c2) trivial)))))))))) (by kernel_rfl)
    · obtain rfl := Option.some.inj h
      exact Den.Spec.of_walk tab mixed Try.func169 (by kernel_rfl) [.call [] [] (one (.bool (a0 != a0))) [], .br true, .br true, .call [] [] (one (.bool (a1 != a1))) [], .br true, .br true, .br true, .br true, .br true, .br true] [] [] (nd (cmp.isNaN_int.spec a0 _ e1) (nd c1 (nd c1 (nd (cmp.isNaN_int.spec a1 _ e2) (nd c1 (nd c1 (nd (nt c2) (nd (nt c2) (nd (nt c2) (nd (nt c2) trivial)))))))))) (by kernel_rfl)
  · obtain rfl := Option.some.inj h
    exact Den.Spec.of_walk tab mixed Try.func169 (by kernel_rfl) [.call [] [] (one (.bool (a0 != a0))) [], .br false, .br false, .br false, .br false, .br false, .br false, .br false, .br false] [] [] (nd (cmp.isNaN_int.spec a0 _ e1) (nd c1 (nd c1 (nd c1 (nd c1 (nd ff (nd ff (nd ff (nd ff trivial))))))))) (by kernel_rfl)
def slices.insertionSortOrdered_int.l1.f (a1 : Int) (a2 : Int) (v135_1 : Int) : Nat → (List Int) → Int → Option ((List Int))
  | 0, _, _ => none
  | k + 1, v137_0, v137_1 =>
    cond (decide (v137_1 > a1)) (ck (0 ≤ v137_1) (ck (v137_1 < (v137_0.length : Int)) (ck (0 ≤ (w64 (v137_1 - 1))) (ck ((w64 (v137_1 - 1)) < (v137_0.length : Int)) (Option.bind (cmp.Less_int.f (v137_0.getD v137_1.toNat 0) (v137_0.getD ((w64 (v137_1 - 1)).toNat) 0)) fun x1 => cond (x1) (slices.insertionSortOrdered_int.l1.f a1 a2 v135_1 k ((v137_0.set v137_1.toNat (v137_0.getD ((w64 (v137_1 - 1)).toNat) 0)).set ((w64 (v137_1 - 1)).toNat) (v137_0.getD v137_1.toNat 0)) (w64 (v137_1 - 1))) (some v137_0)))))) (some v137_0)
def slices.insertionSortOrdered_int.l1.s (a1 : Int) (a2 : Int) (v135_1 : Int) (v137_0 : List Int) (v137_1 : Int) : St := mkSt 49 [(0, one (.sl 0 0 v137_0.length)), (1, one (.int .i64 a1)), (2, one (.int .i64 a2)), (6, one (.int .i64 v135_1)), (7, one (.int .i64 v137_1))] [some ⟨true, .ints .i64 v137_0⟩]
def slices.insertionSortOrdered_int.l1.e0 (a1 : Int) (a2 : Int) (v135_1 : Int) (o : (List Int)) : St := mkSt 49 [(0, one (.sl 0 0 o.length)), (1, one (.int .i64 a1)), (2, one (.int .i64 a2)), (6, one (.int .i64 v135_1))] [some ⟨true, .ints .i64 o⟩]
def slices.insertionSortOrdered_int.l1.x (a1 : Int) (a2 : Int) (v135_1 : Int) : ((List Int)) → AExit × St := fun o => (.exit 2, slices.insertionSortOrdered_int.l1.e0 a1 a2 v135_1 o)
theorem slices.insertionSortOrdered_int.l1.spec (a1 : Int) (a2 : Int) (v135_1 : Int) : ∀ (k : Nat) (v137_0 : List Int) (v137_1 : Int) (o : (List Int)), slices.insertionSortOrdered_int.l1.f a1 a2 v135_1 k v137_0 v137_1 = some o → LoopSpec Try.prog 1 (loopN Try.f163 1) (slices.insertionSortOrdered_int.l1.s a1 a2 v135_1 v137_0 v137_1) (slices.insertionSortOrdered_int.l1.x a1 a2 v135_1 o).1 (slices.insertionSortOrdered_int.l1.x a1 a2 v135_1 o).2
  | 0, _, _, _, h => by cases h
  | k + 1, v137_0, v137_1, o, h => by
    unfold slices.insertionSortOrdered_int.l1.f at h
    rcases br_cases h with ⟨c1, h⟩ | ⟨c1, h⟩
    · obtain ⟨p1, h⟩ := ck_some h
      obtain ⟨p2, h⟩ := ck_some h
      obtain ⟨p3, h⟩ := ck_some h
      obtain ⟨p4, h⟩ := ck_some h
      obtain ⟨x1, e1, h⟩ := bind_some h
      rcases br_cases h with ⟨c2, h⟩ | ⟨c2, h⟩
      · exact .of_step tab mixed [.br true, .br true, .br true, .br true, .br true, .br true, .br true, .br true, .br true, .br true, .call [] [] (one (.bool x1)) [], .br true, .br true] [] [0, 1, 2, 6, 7] [0] (s1 := mkSt 49 [(0, one (.sl 0 0 v137_0.length)), (1, one (.int .i64 a1)), (2, one (.int .i64 a2)), (6, one (.int .i64 v135_1)), (7, one (.int .i64 (w64 (v137_1 - 1))))] [some ⟨true, .ints .i64 ((v137_0.set v137_1.toNat (v137_0.getD ((w64 (v137_1 - 1)).toNat) 0)).set ((w64 (v137_1 - 1)).toNat) (v137_0.getD v137_1.toNat 0))⟩]) (nd c1 (nd c1 (nd c1 (nd p1 (nd p2 (nd c1 (nd (tn p1 p2) (nd c1 (nd c1 (nd c1 (nd c1 (nd p3 (nd p4 (nd c1 (nd (tn p3 p4) (nd c1 (nd (cmp.Less_int.spec (v137_0.getD v137_1.toNat 0) (v137_0.getD ((w64 (v137_1 - 1)).toNat) 0) _ e1) (nd c1 (nd c2 (nd p3 (nd p4 (nd (tn p3 p4) (nd p1 (nd p2 (nd (tn p1 p2) (nd p1 (nd p2 (nd (tn p1 p2) (nd p3 (nd p4 (nd (lt_set (tn p3 p4) : (w64 (v137_1 - 1)).toNat < (v137_0.set v137_1.toNat (v137_0.getD ((w64 (v137_1 - 1)).toNat) 0)).length) trivial))))))))))))))))))))))))))))))) (by kernel_rfl) (LoopSpec.eqs (slices.insertionSortOrdered_int.l1.spec a1 a2 v135_1 k ((v137_0.set v137_1.toNat (v137_0.getD ((w64 (v137_1 - 1)).toNat) 0)).set ((w64 (v137_1 - 1)).toNat) (v137_0.getD v137_1.toNat 0)) (w64 (v137_1 - 1)) _ h) (by simp only [slices.insertionSortOrdered_int.l1.s, List.length_set, overL_length] : slices.insertionSortOrdered_int.l1.s a1 a2 v135_1 ((v137_0.set v137_1.toNat (v137_0.getD ((w64 (v137_1 - 1)).toNat) 0)).set ((w64 (v137_1 - 1)).toNat) (v137_0.getD v137_1.toNat 0)) (w64 (v137_1 - 1)) = mkSt 49 [(0, one (.sl 0 0 v137_0.length)), (1, one (.int .i64 a1)), (2, one (.int .i64 a2)), (6, one (.int .i64 v135_1)), (7, one (.int .i64 (w64 (v137_1 - 1))))] [some ⟨true, .ints .i64 ((v137_0.set v137_1.toNat (v137_0.getD ((w64 (v137_1 - 1)).toNat) 0)).set ((w64 (v137_1 - 1)).toNat) (v137_0.getD v137_1.toNat 0))⟩]))
      · obtain rfl := Option.some.inj h
        exact .of_done tab mixed [.br true, .br true, .br true, .br true, .br true, .br true, .br true, .br true, .br true, .br true, .call [] [] (one (.bool x1)) [], .br true, .br false] [] [0, 1, 2, 6] [0] rfl (nd c1 (nd c1 (nd c1 (nd p1 (nd p2 (nd c1 (nd (tn p1 p2) (nd c1 (nd c1 (nd c1 (nd c1 (nd p3 (nd p4 (nd c1 (nd (tn p3 p4) (nd c1 (nd (cmp.Less_int.spec (v137_0.getD v137_1.toNat 0) (v137_0.getD ((w64 (v137_1 - 1)).toNat) 0) _ e1) (nd c1 (nd c2 trivial))))))))))))))))))) (by kernel_rfl)
    · obtain rfl := Option.some.inj h
      exact .of_done tab mixed [.br false, .br false, .br false, .br false, .br false, .br false, .br false, .br false, .br false, .br false, .br false, .br false] [] [0, 1, 2, 6] [0] rfl (nd c1 (nd c1 (nd c1 (nd c1 (nd c1 (nd c1 (nd c1 (nd c1 (nd c1 (nd c1 (nd c1 (nd ff trivial)))))))))))) (by kernel_rfl)
def slices.insertionSortOrdered_int.l0.f (K : Nat) (a1 : Int) (a2 : Int) : Nat → (List Int) → Int → Option ((List Int))
  | 0, _, _ => none
  | k + 1, v135_0, v135_1 =>
    cond (decide (v135_1 < a2)) (Option.bind (slices.insertionSortOrdered_int.l1.f a1 a2 v135_1 K v135_0 v135_1) fun x1 => slices.insertionSortOrdered_int.l0.f K a1 a2 k x1 (w64 (v135_1 + 1))) (some v135_0)
def slices.insertionSortOrdered_int.l0.s (K : Nat) (a1 : Int) (a2 : Int) (v135_0 : List Int) (v135_1 : Int) : St := mkSt 49 [(0, one (.sl 0 0 v135_0.length)), (1, one (.int .i64 a1)), (2, one (.int .i64 a2)), (6, one (.int .i64 v135_1))] [some ⟨true, .ints .i64 v135_0⟩]
def slices.insertionSortOrdered_int.l0.e0 (K : Nat) (a1 : Int) (a2 : Int) (o : (List Int)) : St := mkSt 49 [] [some ⟨true, .ints .i64 o⟩]
def slices.insertionSortOrdered_int.l0.x (K : Nat) (a1 : Int) (a2 : Int) : ((List Int)) → AExit × St := fun o => (.exit 0, slices.insertionSortOrdered_int.l0.e0 K a1 a2 o)
theorem slices.insertionSortOrdered_int.l0.spec (K : Nat) (a1 : Int) (a2 : Int) : ∀ (k : Nat) (v135_0 : List Int) (v135_1 : Int) (o : (List Int)), slices.insertionSortOrdered_int.l0.f K a1 a2 k v135_0 v135_1 = some o → LoopSpec Try.prog 1 (loopN Try.f163 0) (slices.insertionSortOrdered_int.l0.s K a1 a2 v135_0 v135_1) (slices.insertionSortOrdered_int.l0.x K a1 a2 o).1 (slices.insertionSortOrdered_int.l0.x K a1 a2 o).2
  | 0, _, _, _, h => by cases h
  | k + 1, v135_0, v135_1, o, h => by
    unfold slices.insertionSortOrdered_int.l0.f at h
    rcases br_cases h with ⟨c1, h⟩ | ⟨c1, h⟩
    · obtain ⟨x1, e1, h⟩ := bind_some h
      exact .of_step tab mixed [.br true, .loop [] [0, 1, 2, 6, 7] [0] (.exit 2) (slices.insertionSortOrdered_int.l1.e0 a1 a2 v135_1 x1)] [] [0, 1, 2, 6] [0] (s1 := slices.insertionSortOrdered_int.l0.s K a1 a2 x1 (w64 (v135_1 + 1))) (nd c1 (nd (slices.insertionSortOrdered_int.l1.spec a1 a2 v135_1 K v135_0 v135_1 _ e1) trivial)) (by kernel_rfl) (slices.insertionSortOrdered_int.l0.spec K a1 a2 k x1 (w64 (v135_1 + 1)) _ h)
    · obtain rfl := Option.some.inj h
      exact .of_done tab mixed [.br false] [] [] [0] rfl (nd c1 trivial) (by kernel_rfl)
def slices.insertionSortOrdered_int.f (K : Nat) (a0 : List Int) (a1 : Int) (a2 : Int) : Option ((List Int)) :=
  Option.bind (slices.insertionSortOrdered_int.l0.f K a1 a2 K a0 (w64 (a1 + 1))) fun x1 => some x1
theorem slices.insertionSortOrdered_int.spec (K : Nat) (a0 : List Int) (a1 : Int) (a2 : Int) (o : (List Int)) (h : slices.insertionSortOrdered_int.f K a0 a1 a2 = some o) : Den.Spec Try.prog 163 [one (.sl 0 0 a0.length), one (.int .i64 a1), one (.int .i64 a2)] [some ⟨true, .ints .i64 a0⟩] (.tup []) [some ⟨true, .ints .i64 o⟩] := by
  unfold slices.insertionSortOrdered_int.f at h
  obtain ⟨x1, e1, h⟩ := bind_some h
  obtain rfl := Option.some.inj h
  exact Den.Spec.of_walk tab mixed Try.func163 (by kernel_rfl) [.loop [] [0, 1, 2, 6] [0] (.exit 0) (slices.insertionSortOrdered_int.l0.e0 K a1 a2 x1)] [] [0] (nd (slices.insertionSortOrdered_int.l0.spec K a1 a2 K a0 (w64 (a1 + 1)) _ e1) trivial) (by kernel_rfl)
def slices.pdqsortOrdered_int.l0.f (K : Nat) (a0 : List Int) (a1 : Int) (a2 : Int) (a3 : Int) : Nat → Option ((List Int))
  | 0 => none
  | k + 1 =>
    cond (decide ((w64 (a2 - a1)) ≤ 12)) (Option.bind (slices.insertionSortOrdered_int.f K a0 a1 a2) fun x1 => some x1) (cond (a3 == 0) (none) (none))
def slices.pdqsortOrdered_int.l0.s (K : Nat) (a0 : List Int) (a1 : Int) (a2 : Int) (a3 : Int) : St := mkSt 134 [(0, one (.sl 0 0 a0.length)), (1, one (.int .i64 a1)), (2, one (.int .i64 a2)), (3, one (.int .i64 a3)), (8, one (.bool true)), (9, one (.bool true))] [some ⟨true, .ints .i64 a0⟩]
def slices.pdqsortOrdered_int.l0.e0 (K : Nat) (a0 : List Int) (a1 : Int) (a2 : Int) (a3 : Int) (o : (List Int)) : St := mkSt 134 [] [some ⟨true, .ints .i64 o⟩]
def slices.pdqsortOrdered_int.l0.x (K : Nat) (a0 : List Int) (a1 : Int) (a2 : Int) (a3 : Int) : ((List Int)) → AExit × St := fun o => (.ret, slices.pdqsortOrdered_int.l0.e0 K a0 a1 a2 a3 o)
theorem slices.pdqsortOrdered_int.l0.spec (K : Nat) (a0 : List Int) (a1 : Int) (a2 : Int) (a3 : Int) : ∀ (k : Nat) (o : (List Int)), slices.pdqsortOrdered_int.l0.f K a0 a1 a2 a3 k = some o → LoopSpec Try.prog 1 (loopN Try.f152 0) (slices.pdqsortOrdered_int.l0.s K a0 a1 a2 a3) (slices.pdqsortOrdered_int.l0.x K a0 a1 a2 a3 o).1 (slices.pdqsortOrdered_int.l0.x K a0 a1 a2 a3 o).2
  | 0, _, h => by cases h
  | k + 1, o, h => by
    unfold slices.pdqsortOrdered_int.l0.f at h
    rcases br_cases h with ⟨c1, h⟩ | ⟨c1, h⟩
    · obtain ⟨x1, e1, h⟩ := bind_some h
      obtain rfl := Option.some.inj h
      exact .of_done tab mixed [.br true, .call [(0, true)] [] (.tup []) [some ⟨true, .ints .i64 x1⟩]] [] [] [0] rfl (nd c1 (nd (slices.insertionSortOrdered_int.spec K a0 a1 a2 _ e1) trivial)) (by kernel_rfl)
    · rcases br_cases h with ⟨c2, h⟩ | ⟨c2, h⟩
      · cases h
      · cases h
def slices.pdqsortOrdered_int.f (K : Nat) (a0 : List Int) (a1 : Int) (a2 : Int) (a3 : Int) : Option ((List Int)) :=
  Option.bind (slices.pdqsortOrdered_int.l0.f K a0 a1 a2 a3 K) fun x1 => some x1
theorem slices.pdqsortOrdered_int.spec (K : Nat) (a0 : List Int) (a1 : Int) (a2 : Int) (a3 : Int) (o : (List Int)) (h : slices.pdqsortOrdered_int.f K a0 a1 a2 a3 = some o) : Den.Spec Try.prog 152 [one (.sl 0 0 a0.length), one (.int .i64 a1), one (.int .i64 a2), one (.int .i64 a3)] [some ⟨true, .ints .i64 a0⟩] (.tup []) [some ⟨true, .ints .i64 o⟩] := by
  unfold slices.pdqsortOrdered_int.f at h
  obtain ⟨x1, e1, h⟩ := bind_some h
  obtain rfl := Option.some.inj h
  exact Den.Spec.of_walk tab mixed Try.func152 (by kernel_rfl) [.loop [] [0, 1, 2, 3, 8, 9] [0] (.ret) (slices.pdqsortOrdered_int.l0.e0 K a0 a1 a2 a3 x1)] [] [0] (nd (slices.pdqsortOrdered_int.l0.spec K a0 a1 a2 a3 K _ e1) trivial) (by kernel_rfl)
def slices.Sort_int_int.f (K : Nat) (a0 : List Int) : Option ((List Int)) :=
  Option.bind (math_bits.Len.f (IntKind.u64.wrap (a0.length : Int))) fun x1 => Option.bind (slices.pdqsortOrdered_int.f K a0 0 (a0.length : Int) x1) fun x2 => some x2
theorem slices.Sort_int_int.spec (K : Nat) (a0 : List Int) (o : (List Int)) (h : slices.Sort_int_int.f K a0 = some o) : Den.Spec Try.prog 132 [one (.sl 0 0 a0.length)] [some ⟨true, .ints .i64 a0⟩] (.tup []) [some ⟨true, .ints .i64 o⟩] := by
  unfold slices.Sort_int_int.f at h
  obtain ⟨x1, e1, h⟩ := bind_some h
  obtain ⟨x2, e2, h⟩ := bind_some h
  obtain rfl := Option.some.inj h
  exact Den.Spec.of_walk tab mixed Try.func132 (by kernel_rfl) [.call [] [] (one (.int .i64 x1)) [], .call [(0, true)] [] (.tup []) [some ⟨true, .ints .i64 x2⟩]] [] [0] (nd (math_bits.Len.spec (IntKind.u64.wrap (a0.length : Int)) _ e1) (nd (slices.pdqsortOrdered_int.spec K a0 0 (a0.length : Int) x1 _ e2) trivial)) (by kernel_rfl)
def impl.lives.f (K : Nat) (a0 : List ByteArray) (a1 : List Int) (a2 : List Int) (a3 : Int) (a4 : Int) : Option ((List Int) × Nat) :=
  Option.bind (impl.lives.l0.f a0 a1 a2 a4 K [] 0) fun x1 => Option.bind (slices.Sort_int_int.f K x1) fun x2 => some (x2, x1.length)
theorem impl.lives.spec (K : Nat) (a0 : List ByteArray) (a1 : List Int) (a2 : List Int) (a3 : Int) (a4 : Int) (o : (List Int) × Nat) (h : impl.lives.f K a0 a1 a2 a3 a4 = some o) : Den.Spec Try.prog 101 [.v (.agg [.sl 0 0 a0.length, .sl 1 0 a1.length, .sl 2 0 a2.length, .int .i64 a3]), one (.int .i64 a4)] [some ⟨false, .strs a0⟩, some ⟨false, .ints .i64 a1⟩, some ⟨false, .ints .i64 a2⟩] (one (.sl 3 0 o.2)) [some ⟨false, .strs a0⟩, some ⟨false, .ints .i64 a1⟩, some ⟨false, .ints .i64 a2⟩, some ⟨true, .ints .i64 o.1⟩] := by
  unfold impl.lives.f at h
  obtain ⟨x1, e1, h⟩ := bind_some h
  obtain ⟨x2, e2, h⟩ := bind_some h
  obtain rfl := Option.some.inj h
  exact Den.Spec.of_walk tab mixed Try.func101 (by kernel_rfl) [.loop [] [1, 5, 10, 11, 12] [0, 1, 2, 4] (.exit 0) (impl.lives.l0.e0 a0 a1 a2 a4 x1), .call [(3, true)] [] (.tup []) [some ⟨true, .ints .i64 x2⟩]] [] [0, 1, 2, 3] (nd (impl.lives.l0.spec a0 a1 a2 a4 K [] 0 _ e1) (nd (slices.Sort_int_int.spec K x1 _ e2) trivial)) (by kernel_rfl)
def impl.worst.l0.f (K : Nat) (a0 : List ByteArray) (a1 : List Int) (a2 : List Int) (a3 : Int) : Nat → Int → Int → Int → Option (Int)
  | 0, _, _, _ => none
  | k + 1, v144_0, v144_1, v144_2 =>
    cond (decide (v144_2 < 10)) (Option.bind (impl.isFree.f K a0 a1 v144_2) fun x1 => cond (x1) (impl.worst.l0.f K a0 a1 a2 a3 k v144_0 v144_1 (w64 (v144_2 + 1))) (cond (decide (v144_1 ≥ 0)) (cond ((w64 (v144_1.tdiv 6)) == v144_2) (impl.worst.l0.f K a0 a1 a2 a3 k v144_0 v144_1 (w64 (v144_2 + 1))) (Option.bind (impl.lives.f K a0 a1 a2 a3 v144_2) fun x2 => cond (decide (v144_0 < 0)) (impl.worst.l0.f K a0 a1 a2 a3 k v144_2 v144_1 (w64 (v144_2 + 1))) (Option.bind (impl.lives.f K a0 a1 a2 a3 v144_0) fun x3 => cond (decide ((x2.2 : Int) < (x3.2 : Int))) (impl.worst.l0.f K a0 a1 a2 a3 k v144_2 v144_1 (w64 (v144_2 + 1))) (Option.bind (impl.lives.f K a0 a1 a2 a3 v144_0) fun x4 => cond ((x2.2 : Int) == (x4.2 : Int)) (ck (0 ≤ v144_2) (ck (v144_2 < (a1.length : Int)) (ck (v144_0 < (a1.length : Int)) (cond (decide ((a1.getD v144_2.toNat 0) < (a1.getD v144_0.toNat 0))) (impl.worst.l0.f K a0 a1 a2 a3 k v144_2 v144_1 (w64 (v144_2 + 1))) (impl.worst.l0.f K a0 a1 a2 a3 k v144_0 v144_1 (w64 (v144_2 + 1))))))) (impl.worst.l0.f K a0 a1 a2 a3 k v144_0 v144_1 (w64 (v144_2 + 1))))))) (Option.bind (impl.lives.f K a0 a1 a2 a3 v144_2) fun x2 => cond (decide (v144_0 < 0)) (impl.worst.l0.f K a0 a1 a2 a3 k v144_2 v144_1 (w64 (v144_2 + 1))) (Option.bind (impl.lives.f K a0 a1 a2 a3 v144_0) fun x3 => cond (decide ((x2.2 : Int) < (x3.2 : Int))) (impl.worst.l0.f K a0 a1 a2 a3 k v144_2 v144_1 (w64 (v144_2 + 1))) (Option.bind (impl.lives.f K a0 a1 a2 a3 v144_0) fun x4 => cond ((x2.2 : Int) == (x4.2 : Int)) (ck (0 ≤ v144_2) (ck (v144_2 < (a1.length : Int)) (ck (v144_0 < (a1.length : Int)) (cond (decide ((a1.getD v144_2.toNat 0) < (a1.getD v144_0.toNat 0))) (impl.worst.l0.f K a0 a1 a2 a3 k v144_2 v144_1 (w64 (v144_2 + 1))) (impl.worst.l0.f K a0 a1 a2 a3 k v144_0 v144_1 (w64 (v144_2 + 1))))))) (impl.worst.l0.f K a0 a1 a2 a3 k v144_0 v144_1 (w64 (v144_2 + 1)))))))) (some v144_0)
def impl.worst.l0.s (K : Nat) (a0 : List ByteArray) (a1 : List Int) (a2 : List Int) (a3 : Int) (v144_0 : Int) (v144_1 : Int) (v144_2 : Int) : St := mkSt 76 [(1, one (.ptr 3 0 0)), (3, one (.int .i64 v144_0)), (4, one (.int .i64 v144_1)), (10, one (.int .i64 v144_2))] [some ⟨false, .strs a0⟩, some ⟨false, .ints .i64 a1⟩, some ⟨false, .ints .i64 a2⟩, some ⟨true, .cells [.sl 0 0 a0.length, .sl 1 0 a1.length, .sl 2 0 a2.length, .int .i64 a3]⟩]
def impl.worst.l0.e0 (K : Nat) (a0 : List ByteArray) (a1 : List Int) (a2 : List Int) (a3 : Int) (o : Int) : St := mkSt 76 [(1, one (.ptr 3 0 0)), (3, one (.int .i64 o))] [some ⟨false, .strs a0⟩, some ⟨false, .ints .i64 a1⟩, some ⟨false, .ints .i64 a2⟩, some ⟨true, .cells [.sl 0 0 a0.length, .sl 1 0 a1.length, .sl 2 0 a2.length, .int .i64 a3]⟩]
def impl.worst.l0.x (K : Nat) (a0 : List ByteArray) (a1 : List Int) (a2 : List Int) (a3 : Int) : (Int) → AExit × St := fun o => (.exit 0, impl.worst.l0.e0 K a0 a1 a2 a3 o)
theorem impl.worst.l0.spec (K : Nat) (a0 : List ByteArray) (a1 : List Int) (a2 : List Int) (a3 : Int) : ∀ (k : Nat) (v144_0 : Int) (v144_1 : Int) (v144_2 : Int) (o : Int), impl.worst.l0.f K a0 a1 a2 a3 k v144_0 v144_1 v144_2 = some o → LoopSpec Try.prog 3 (loopN Try.f104 0) (impl.worst.l0.s K a0 a1 a2 a3 v144_0 v144_1 v144_2) (impl.worst.l0.x K a0 a1 a2 a3 o).1 (impl.worst.l0.x K a0 a1 a2 a3 o).2
  | 0, _, _, _, _, h => by cases h
  | k + 1, v144_0, v144_1, v144_2, o, h => by
    unfold impl.worst.l0.f at h
    rcases br_cases h with ⟨c1, h⟩ | ⟨c1, h⟩
    · obtain ⟨x1, e1, h⟩ := bind_some h
      rcases br_cases h with ⟨c2, h⟩ | ⟨c2, h⟩
      · exact .of_step tab mixed [.br true, .call [(0, false), (1, false)] [] (one (.bool x1)) [some ⟨false, .strs a0⟩, some ⟨false, .ints .i64 a1⟩], .br true, .br true, .br true, .br true, .br true, .br true] [] [1, 3, 4, 10] [0, 1, 2, 3] (s1 := impl.worst.l0.s K a0 a1 a2 a3 v144_0 v144_1 (w64 (v144_2 + 1))) (nd c1 (nd (impl.isFree.spec K a0 a1 v144_2 _ e1) (nd c2 (nd c2 (nd c2 (nd c2 (nd c2 (nd tt trivial)))))))) (by kernel_rfl) (impl.worst.l0.spec K a0 a1 a2 a3 k v144_0 v144_1 (w64 (v144_2 + 1)) _ h)
      · rcases br_cases h with ⟨c3, h⟩ | ⟨c3, h⟩
        · rcases br_cases h with ⟨c4, h⟩ | ⟨c4, h⟩
          · exact .of_step tab mixed [.br true, .call [(0, false), (1, false)] [] (one (.bool x1)) [some ⟨false, .strs a0⟩, some ⟨false, .ints .i64 a1⟩], .br false, .br false, .br false, .br true, .br true, .br true, .br true, .br false, .br true, .br false, .br true] [] [1, 3, 4, 10] [0, 1, 2, 3] (s1 := impl.worst.l0.s K a0 a1 a2 a3 v144_0 v144_1 (w64 (v144_2 + 1))) (nd c1 (nd (impl.isFree.spec K a0 a1 v144_2 _ e1) (nd c2 (nd c2 (nd c2 (nd c3 (nd c3 (nd (by decide : (6 : Int) ≠ 0) (nd c3 (nd c3 (nd c2 (nd c3 (nd c2 (nd c4 trivial)))))))))))))) (by kernel_rfl) (impl.worst.l0.spec K a0 a1 a2 a3 k v144_0 v144_1 (w64 (v144_2 + 1)) _ h)
          · obtain ⟨x2, e2, h⟩ := bind_some h
            rcases br_cases h with ⟨c5, h⟩ | ⟨c5, h⟩
            · exact .of_step tab mixed [.br true, .call [(0, false), (1, false)] [] (one (.bool x1)) [some ⟨false, .strs a0⟩, some ⟨false, .ints .i64 a1⟩], .br false, .br false, .br false, .br true, .br true, .br true, .br true, .br false, .br true, .br false, .br false, .call [(0, false), (1, false), (2, false)] [] (one (.sl 3 0 x2.2)) [some ⟨false, .strs a0⟩, some ⟨false, .ints .i64 a1⟩, some ⟨false, .ints .i64 a2⟩, some ⟨true, .ints .i64 x2.1⟩], .br true, .br true, .br true, .br true, .br true, .br true, .br true, .br true, .br true, .br true, .br true, .br true, .br true, .br true, .br true, .br true, .br true] [] [1, 3, 4, 10] [0, 1, 2, 3] (s1 := impl.worst.l0.s K a0 a1 a2 a3 v144_2 v144_1 (w64 (v144_2 + 1))) (nd c1 (nd (impl.isFree.spec K a0 a1 v144_2 _ e1) (nd c2 (nd c2 (nd c2 (nd c3 (nd c3 (nd (by decide : (6 : Int) ≠ 0) (nd c3 (nd c3 (nd c2 (nd c3 (nd c2 (nd c4 (nd (impl.lives.spec K a0 a1 a2 a3 v144_2 _ e2) (nd c5 (nd c5 (nd c5 (nd c5 (nd c5 (nd c5 (nd c5 (nd tt (nd tt (nd tt (nd tt (nd tt (nd tt (nd tt (nd tt (nd tt (nd tt trivial)))))))))))))))))))))))))))))))) (by kernel_rfl) (impl.worst.l0.spec K a0 a1 a2 a3 k v144_2 v144_1 (w64 (v144_2 + 1)) _ h)
            · obtain ⟨x3, e3, h⟩ := bind_some h
              rcases br_cases h with ⟨c6, h⟩ | ⟨c6, h⟩
              · exact .of_step tab mixed [.br true, .call [(0, false), (1, false)] [] (one (.bool x1)) [some ⟨false, .strs a0⟩, some ⟨false, .ints .i64 a1⟩], .br false, .br false, .br false, .br true, .br true, .br true, .br true, .br false, .br true, .br false, .br false, .call [(0, false), (1, false), (2, false)] [] (one (.sl 3 0 x2.2)) [some ⟨false, .strs a0⟩, some ⟨false, .ints .i64 a1⟩, some ⟨false, .ints .i64 a2⟩, some ⟨true, .ints .i64 x2.1⟩], .br false, .br false, .br false, .br false, .call [(0, false), (1, false), (2, false)] [] (one (.sl 3 0 x3.2)) [some ⟨false, .strs a0⟩, some ⟨false, .ints .i64 a1⟩, some ⟨false, .ints .i64 a2⟩, some ⟨true, .ints .i64 x3.1⟩], .br false, .br false, .br false, .br true, .br true, .br true, .br true, .br true, .br true, .br true, .br true, .br true, .br true] [] [1, 3, 4, 10] [0, 1, 2, 3] (s1 := impl.worst.l0.s K a0 a1 a2 a3 v144_2 v144_1 (w64 (v144_2 + 1))) (nd c1 (nd (impl.isFree.spec K a0 a1 v144_2 _ e1) (nd c2 (nd c2 (nd c2 (nd c3 (nd c3 (nd (by decide : (6 : Int) ≠ 0) (nd c3 (nd c3 (nd c2 (nd c3 (nd c2 (nd c4 (nd (impl.lives.spec K a0 a1 a2 a3 v144_2 _ e2) (nd c5 (nd c5 (nd c5 (nd c5 (nd (impl.lives.spec K a0 a1 a2 a3 v144_0 _ e3) (nd c5 (nd c5 (nd c5 (nd c6 (nd c6 (nd c6 (nd c6 (nd c6 (nd c6 (nd c6 (nd c6 (nd c6 (nd tt trivial))))))))))))))))))))))))))))))))) (by kernel_rfl) (impl.worst.l0.spec K a0 a1 a2 a3 k v144_2 v144_1 (w64 (v144_2 + 1)) _ h)
              · obtain ⟨x4, e4, h⟩ := bind_some h
                rcases br_cases h with ⟨c7, h⟩ | ⟨c7, h⟩
                · obtain ⟨p1, h⟩ := ck_some h
                  obtain ⟨p2, h⟩ := ck_some h
                  obtain ⟨p3, h⟩ := ck_some h
                  rcases br_cases h with ⟨c8, h⟩ | ⟨c8, h⟩
                  · exact .of_step tab mixed [.br true, .call [(0, false), (1, false)] [] (one (.bool x1)) [some ⟨false, .strs a0⟩, some ⟨false, .ints .i64 a1⟩], .br false, .br false, .br false, .br true, .br true, .br true, .br true, .br false, .br true, .br false, .br false, .call [(0, false), (1, false), (2, false)] [] (one (.sl 3 0 x2.2)) [some ⟨false, .strs a0⟩, some ⟨false, .ints .i64 a1⟩, some ⟨false, .ints .i64 a2⟩, some ⟨true, .ints .i64 x2.1⟩], .br false, .br false, .br false, .br false, .call [(0, false), (1, false), (2, false)] [] (one (.sl 3 0 x3.2)) [some ⟨false, .strs a0⟩, some ⟨false, .ints .i64 a1⟩, some ⟨false, .ints .i64 a2⟩, some ⟨true, .ints .i64 x3.1⟩], .br false, .br false, .br false, .br false, .br false, .br false, .br false, .call [(0, false), (1, false), (2, false)] [] (one (.sl 3 0 x4.2)) [some ⟨false, .strs a0⟩, some ⟨false, .ints .i64 a1⟩, some ⟨false, .ints .i64 a2⟩, some ⟨true, .ints .i64 x4.1⟩], .br false, .br false, .br false, .br true, .br true, .br true, .br true, .br true, .br true, .br true, .br true, .br true, .br true, .br true, .br true, .br true, .br false, .br true, .br false, .br true] [] [1, 3, 4, 10] [0, 1, 2, 3] (s1 := impl.worst.l0.s K a0 a1 a2 a3 v144_2 v144_1 (w64 (v144_2 + 1))) (nd c1 (nd (impl.isFree.spec K a0 a1 v144_2 _ e1) (nd c2 (nd c2 (nd c2 (nd c3 (nd c3 (nd (by decide : (6 : Int) ≠ 0) (nd c3 (nd c3 (nd c2 (nd c3 (nd c2 (nd c4 (nd (impl.lives.spec K a0 a1 a2 a3 v144_2 _ e2) (nd c5 (nd c5 (nd c5 (nd c5 (nd (impl.lives.spec K a0 a1 a2 a3 v144_0 _ e3) (nd c5 (nd c5 (nd c5 (nd c6 (nd c6 (nd c6 (nd c6 (nd (impl.lives.spec K a0 a1 a2 a3 v144_0 _ e4) (nd c6 (nd c6 (nd c6 (nd c7 (nd c7 (nd c7 (nd c7 (nd c7 (nd p1 (nd p2 (nd c7 (nd (tn p1 p2) (nd c7 (nd c7 (nd c7 (nd c7 (nd c7 (nd (Int.not_lt.1 (of_decide_eq_false c5)) (nd p3 (nd c7 (nd (tn (Int.not_lt.1 (of_decide_eq_false c5)) p3) (nd c7 (nd c6 (nd c7 (nd c6 (nd c8 trivial)))))))))))))))))))))))))))))))))))))))))))))))))))))) (by kernel_rfl) (impl.worst.l0.spec K a0 a1 a2 a3 k v144_2 v144_1 (w64 (v144_2 + 1)) _ h)
                  · exact .of_step tab mixed [.br true, .call [(0, false), (1, false)] [] (one (.bool x1)) [some ⟨false, .strs a0⟩, some ⟨false, .ints .i64 a1⟩], .br false, .br false, .br false, .br true, .br true, .br true, .br true, .br false, .br true, .br false, .br false, .call [(0, false), (1, false), (2, false)] [] (one (.sl 3 0 x2.2)) [some ⟨false, .strs a0⟩, some ⟨false, .ints .i64 a1⟩, some ⟨false, .ints .i64 a2⟩, some ⟨true, .ints .i64 x2.1⟩], .br false, .br false, .br false, .br false, .call [(0, false), (1, false), (2, false)] [] (one (.sl 3 0 x3.2)) [some ⟨false, .strs a0⟩, some ⟨false, .ints .i64 a1⟩, some ⟨false, .ints .i64 a2⟩, some ⟨true, .ints .i64 x3.1⟩], .br false, .br false, .br false, .br false, .br false, .br false, .br false, .call [(0, false), (1, false), (2, false)] [] (one (.sl 3 0 x4.2)) [some ⟨false, .strs a0⟩, some ⟨false, .ints .i64 a1⟩, some ⟨false, .ints .i64 a2⟩, some ⟨true, .ints .i64 x4.1⟩], .br false, .br false, .br false, .br true, .br true, .br true, .br true, .br true, .br true, .br true, .br true, .br true, .br true, .br true, .br true, .br true, .br false, .br true, .br false, .br false] [] [1, 3, 4, 10] [0, 1, 2, 3] (s1 := impl.worst.l0.s K a0 a1 a2 a3 v144_0 v144_1 (w64 (v144_2 + 1))) (nd c1 (nd (impl.isFree.spec K a0 a1 v144_2 _ e1) (nd c2 (nd c2 (nd c2 (nd c3 (nd c3 (nd (by decide : (6 : Int) ≠ 0) (nd c3 (nd c3 (nd c2 (nd c3 (nd c2 (nd c4 (nd (impl.lives.spec K a0 a1 a2 a3 v144_2 _ e2) (nd c5 (nd c5 (nd c5 (nd c5 (nd (impl.lives.spec K a0 a1 a2 a3 v144_0 _ e3) (nd c5 (nd c5 (nd c5 (nd c6 (nd c6 (nd c6 (nd c6 (nd (impl.lives.spec K a0 a1 a2 a3 v144_0 _ e4) (nd c6 (nd c6 (nd c6 (nd c7 (nd c7 (nd c7 (nd c7 (nd c7 (nd p1 (nd p2 (nd c7 (nd (tn p1 p2) (nd c7 (nd c7 (nd c7 (nd c7 (nd c7 (nd (Int.not_lt.1 (of_decide_eq_false c5)) (nd p3 (nd c7 (nd (tn (Int.not_lt.1 (of_decide_eq_false c5)) p3) (nd c7 (nd c6 (nd c7 (nd c6 (nd c8 trivial)))))))))))))))))))))))))))))))))))))))))))))))))))))) (by kernel_rfl) (impl.worst.l0.spec K a0 a1 a2 a3 k v144_0 v144_1 (w64 (v144_2 + 1)) _ h)
                · exact .of_step tab mixed [.br true, .call [(0, false), (1, false)] [] (one (.bool x1)) [some ⟨false, .strs a0⟩, some ⟨false, .ints .i64 a1⟩], .br false, .br false, .br false, .br true, .br true, .br true, .br true, .br false, .br true, .br false, .br false, .call [(0, false), (1, false), (2, false)] [] (one (.sl 3 0 x2.2)) [some ⟨false, .strs a0⟩, some ⟨false, .ints .i64 a1⟩, some ⟨false, .ints .i64 a2⟩, some ⟨true, .ints .i64 x2.1⟩], .br false, .br false, .br false, .br false, .call [(0, false), (1, false), (2, false)] [] (one (.sl 3 0 x3.2)) [some ⟨false, .strs a0⟩, some ⟨false, .ints .i64 a1⟩, some ⟨false, .ints .i64 a2⟩, some ⟨true, .ints .i64 x3.1⟩], .br false, .br false, .br false, .br false, .br false, .br false, .br false, .call [(0, false), (1, false), (2, false)] [] (one (.sl 3 0 x4.2)) [some ⟨false, .strs a0⟩, some ⟨false, .ints .i64 a1⟩, some ⟨false, .ints .i64 a2⟩, some ⟨true, .ints .i64 x4.1⟩], .br false, .br false, .br false, .br false, .br false, .br false, .br false, .br false, .br false, .br false, .br false, .br false, .br false, .br false, .br false, .br false, .br false, .br false, .br false, .br false] [] [1, 3, 4, 10] [0, 1, 2, 3] (s1 := impl.worst.l0.s K a0 a1 a2 a3 v144_0 v144_1 (w64 (v144_2 + 1))) (nd c1 (nd (impl.isFree.spec K a0 a1 v144_2 _ e1) (nd c2 (nd c2 (nd c2 (nd c3 (nd c3 (nd (by decide : (6 : Int) ≠ 0) (nd c3 (nd c3 (nd c2 (nd c3 (nd c2 (nd c4 (nd (impl.lives.spec K a0 a1 a2 a3 v144_2 _ e2) (nd c5 (nd c5 (nd c5 (nd c5 (nd (impl.lives.spec K a0 a1 a2 a3 v144_0 _ e3) (nd c5 (nd c5 (nd c5 (nd c6 (nd c6 (nd c6 (nd c6 (nd (impl.lives.spec K a0 a1 a2 a3 v144_0 _ e4) (nd c6 (nd c6 (nd c6 (nd c7 (nd c7 (nd c7 (nd c7 (nd c7 (nd c7 (nd c7 (nd c7 (nd c7 (nd c7 (nd c7 (nd c7 (nd c7 (nd c6 (nd c7 (nd c6 (nd ff trivial)))))))))))))))))))))))))))))))))))))))))))))))) (by kernel_rfl) (impl.worst.l0.spec K a0 a1 a2 a3 k v144_0 v144_1 (w64 (v144_2 + 1)) _ h)
        · obtain ⟨x2, e2, h⟩ := bind_some h
          rcases br_cases h with ⟨c4, h⟩ | ⟨c4, h⟩
          · exact .of_step tab mixed [.br true, .call [(0, false), (1, false)] [] (one (.bool x1)) [some ⟨false, .strs a0⟩, some ⟨false, .ints .i64 a1⟩], .br false, .br false, .br false, .br false, .br false, .br false, .br false, .br false, .br false, .br false, .br false, .call [(0, false), (1, false), (2, false)] [] (one (.sl 3 0 x2.2)) [some ⟨false, .strs a0⟩, some ⟨false, .ints .i64 a1⟩, some ⟨false, .ints .i64 a2⟩, some ⟨true, .ints .i64 x2.1⟩], .br true, .br true, .br true, .br true, .br true, .br true, .br true, .br true, .br true, .br true, .br true, .br true, .br true, .br true, .br true, .br true, .br true] [] [1, 3, 4, 10] [0, 1, 2, 3] (s1 := impl.worst.l0.s K a0 a1 a2 a3 v144_2 v144_1 (w64 (v144_2 + 1))) (nd c1 (nd (impl.isFree.spec K a0 a1 v144_2 _ e1) (nd c2 (nd c2 (nd c2 (nd c3 (nd c3 (nd c3 (nd c3 (nd c2 (nd c3 (nd c2 (nd ff (nd (impl.lives.spec K a0 a1 a2 a3 v144_2 _ e2) (nd c4 (nd c4 (nd c4 (nd c4 (nd c4 (nd c4 (nd c4 (nd tt (nd tt (nd tt (nd tt (nd tt (nd tt (nd tt (nd tt (nd tt (nd tt trivial))))))))))))))))))))))))))))))) (by kernel_rfl) (impl.worst.l0.spec K a0 a1 a2 a3 k v144_2 v144_1 (w64 (v144_2 + 1)) _ h)
          · obtain ⟨x3, e3, h⟩ := bind_some h
            rcases br_cases h with ⟨c5, h⟩ | ⟨c5, h⟩
            · exact .of_step tab mixed [.br true, .call [(0, false), (1, false)] [] (one (.bool x1)) [some ⟨false, .strs a0⟩, some ⟨false, .ints .i64 a1⟩], .br false, .br false, .br false, .br false, .br false, .br false, .br false, .br false, .br false, .br false, .br false, .call [(0, false), (1, false), (2, false)] [] (one (.sl 3 0 x2.2)) [some ⟨false, .strs a0⟩, some ⟨false, .ints .i64 a1⟩, some ⟨false, .ints .i64 a2⟩, some ⟨true, .ints .i64 x2.1⟩], .br false, .br false, .br false, .br false, .call [(0, false), (1, false), (2, false)] [] (one (.sl 3 0 x3.2)) [some ⟨false, .strs a0⟩, some ⟨false, .ints .i64 a1⟩, some ⟨false, .ints .i64 a2⟩, some ⟨true, .ints .i64 x3.1⟩], .br false, .br false, .br false, .br true, .br true, .br true, .br true, .br true, .br true, .br true, .br true, .br true, .br true] [] [1, 3, 4, 10] [0, 1, 2, 3] (s1 := impl.worst.l0.s K a0 a1 a2 a3 v144_2 v144_1 (w64 (v144_2 + 1))) (nd c1 (nd (impl.isFree.spec K a0 a1 v144_2 _ e1) (nd c2 (nd c2 (nd c2 (nd c3 (nd c3 (nd c3 (nd c3 (nd c2 (nd c3 (nd c2 (nd ff (nd (impl.lives.spec K a0 a1 a2 a3 v144_2 _ e2) (nd c4 (nd c4 (nd c4 (nd c4 (nd (impl.lives.spec K a0 a1 a2 a3 v144_0 _ e3) (nd c4 (nd c4 (nd c4 (nd c5 (nd c5 (nd c5 (nd c5 (nd c5 (nd c5 (nd c5 (nd c5 (nd c5 (nd tt trivial)))))))))))))))))))))))))))))))) (by kernel_rfl) (impl.worst.l0.spec K a0 a1 a2 a3 k v144_2 v144_1 (w64 (v144_2 + 1)) _ h)
            · obtain ⟨x4, e4, h⟩ := bind_some h
              rcases br_cases h with ⟨c6, h⟩ | ⟨c6, h⟩
              · obtain ⟨p1, h⟩ := ck_some h
                obtain ⟨p2, h⟩ := ck_some h
                obtain ⟨p3, h⟩ := ck_some h
                rcases br_cases h with ⟨c7, h⟩ | ⟨c7, h⟩
                · exact .of_step tab mixed [.br true, .call [(0, false), (1, false)] [] (one (.bool x1)) [some ⟨false, .strs a0⟩, some ⟨false, .ints .i64 a1⟩], .br false, .br false, .br false, .br false, .br false, .br false, .br false, .br false, .br false, .br false, .br false, .call [(0, false), (1, false), (2, false)] [] (one (.sl 3 0 x2.2)) [some ⟨false, .strs a0⟩, some ⟨false, .ints .i64 a1⟩, some ⟨false, .ints .i64 a2⟩, some ⟨true, .ints .i64 x2.1⟩], .br false, .br false, .br false, .br false, .call [(0, false), (1, false), (2, false)] [] (one (.sl 3 0 x3.2)) [some ⟨false, .strs a0⟩, some ⟨false, .ints .i64 a1⟩, some ⟨false, .ints .i64 a2⟩, some ⟨true, .ints .i64 x3.1⟩], .br false, .br false, .br false, .br false, .br false, .br false, .br false, .call [(0, false), (1, false), (2, false)] [] (one (.sl 3 0 x4.2)) [some ⟨false, .strs a0⟩, some ⟨false, .ints .i64 a1⟩, some ⟨false, .ints .i64 a2⟩, some ⟨true, .ints .i64 x4.1⟩], .br false, .br false, .br false, .br true, .br true, .br true, .br true, .br true, .br true, .br true, .br true, .br true, .br true, .br true, .br true, .br true, .br false, .br true, .br false, .br true] [] [1, 3, 4, 10] [0, 1, 2, 3] (s1 := impl.worst.l0.s K a0 a1 a2 a3 v144_2 v144_1 (w64 (v144_2 + 1))) (nd c1 (nd (impl.isFree.spec K a0 a1 v144_2 _ e1) (nd c2 (nd c2 (nd c2 (nd c3 (nd c3 (nd c3 (nd c3 (nd c2 (nd c3 (nd c2 (nd ff (nd (impl.lives.spec K a0 a1 a2 a3 v144_2 _ e2) (nd c4 (nd c4 (nd c4 (nd c4 (nd (impl.lives.spec K a0 a1 a2 a3 v144_0 _ e3) (nd c4 (nd c4 (nd c4 (nd c5 (nd c5 (nd c5 (nd c5 (nd (impl.lives.spec K a0 a1 a2 a3 v144_0 _ e4) (nd c5 (nd c5 (nd c5 (nd c6 (nd c6 (nd c6 (nd c6 (nd c6 (nd p1 (nd p2 (nd c6 (nd (tn p1 p2) (nd c6 (nd c6 (nd c6 (nd c6 (nd c6 (nd (Int.not_lt.1 (of_decide_eq_false c4)) (nd p3 (nd c6 (nd (tn (Int.not_lt.1 (of_decide_eq_false c4)) p3) (nd c6 (nd c5 (nd c6 (nd c5 (nd c7 trivial))))))))))))))))))))))))))))))))))))))))))))))))))))) (by kernel_rfl) (impl.worst.l0.spec K a0 a1 a2 a3 k v144_2 v144_1 (w64 (v144_2 + 1)) _ h)
                · exact .of_step tab mixed [.br true, .call [(0, false), (1, false)] [] (one (.bool x1)) [some ⟨false, .strs a0⟩, some ⟨false, .ints .i64 a1⟩], .br false, .br false, .br false, .br false, .br false, .br false, .br false, .br false, .br false, .br false, .br false, .call [(0, false), (1, false), (2, false)] [] (one (.sl 3 0 x2.2)) [some ⟨false, .strs a0⟩, some ⟨false, .ints .i64 a1⟩, some ⟨false, .ints .i64 a2⟩, some ⟨true, .ints .i64 x2.1⟩], .br false, .br false, .br false, .br false, .call [(0, false), (1, false), (2, false)] [] (one (.sl 3 0 x3.2)) [some ⟨false, .strs a0⟩, some ⟨false, .ints .i64 a1⟩, some ⟨false, .ints .i64 a2⟩, some ⟨true, .ints .i64 x3.1⟩], .br false, .br false, .br false, .br false, .br false, .br false, .br false, .call [(0, false), (1, false), (2, false)] [] (one (.sl 3 0 x4.2)) [some ⟨false, .strs a0⟩, some ⟨false, .ints .i64 a1⟩, some ⟨false, .ints .i64 a2⟩, some ⟨true, .ints .i64 x4.1⟩], .br false, .br false, .br false, .br true, .br true, .br true, .br true, .br true, .br true, .br true, .br true, .br true, .br true, .br true, .br true, .br true, .br false, .br true, .br false, .br false] [] [1, 3, 4, 10] [0, 1, 2, 3] (s1 := impl.worst.l0.s K a0 a1 a2 a3 v144_0 v144_1 (w64 (v144_2 + 1))) (nd c1 (nd (impl.isFree.spec K a0 a1 v144_2 _ e1) (nd c2 (nd c2 (nd c2 (nd c3 (nd c3 (nd c3 (nd c3 (nd c2 (nd c3 (nd c2 (nd ff (nd (impl.lives.spec K a0 a1 a2 a3 v144_2 _ e2) (nd c4 (nd c4 (nd c4 (nd c4 (nd (impl.lives.spec K a0 a1 a2 a3 v144_0 _ e3) (nd c4 (nd c4 (nd c4 (nd c5 (nd c5 (nd c5 (nd c5 (nd (impl.lives.spec K a0 a1 a2 a3 v144_0 _ e4) (nd c5 (nd c5 (nd c5 (nd c6 (nd c6 (nd c6 (nd c6 (nd c6 (nd p1 (nd p2 (nd c6 (nd (tn p1 p2) (nd c6 (nd c6 (nd c6 (nd c6 (nd c6 (nd (Int.not_lt.1 (of_decide_eq_false c4)) (nd p3 (nd c6 (nd (tn (Int.not_lt.1 (of_decide_eq_false c4)) p3) (nd c6 (nd c5 (nd c6 (nd c5 (nd c7 trivial))))))))))))))))))))))))))))))))))))))))))))))))))))) (by kernel_rfl) (impl.worst.l0.spec K a0 a1 a2 a3 k v144_0 v144_1 (w64 (v144_2 + 1)) _ h)
              · exact .of_step tab mixed [.br true, .call [(0, false), (1, false)] [] (one (.bool x1)) [some ⟨false, .strs a0⟩, some ⟨false, .ints .i64 a1⟩], .br false, .br false, .br false, .br false, .br false, .br false, .br false, .br false, .br false, .br false, .br false, .call [(0, false), (1, false), (2, false)] [] (one (.sl 3 0 x2.2)) [some ⟨false, .strs a0⟩, some ⟨false, .ints .i64 a1⟩, some ⟨false, .ints .i64 a2⟩, some ⟨true, .ints .i64 x2.1⟩], .br false, .br false, .br false, .br false, .call [(0, false), (1, false), (2, false)] [] (one (.sl 3 0 x3.2)) [some ⟨false, .strs a0⟩, some ⟨false, .ints .i64 a1⟩, some ⟨false, .ints .i64 a2⟩, some ⟨true, .ints .i64 x3.1⟩], .br false, .br false, .br false, .br false, .br false, .br false, .br false, .call [(0, false), (1, false), (2, false)] [] (one (.sl 3 0 x4.2)) [some ⟨false, .strs a0⟩, some ⟨false, .ints .i64 a1⟩, some ⟨false, .ints .i64 a2⟩, some ⟨true, .ints .i64 x4.1⟩], .br false, .br false, .br false, .br false, .br false, .br false, .br false, .br false, .br false, .br false, .br false, .br false, .br false, .br false, .br false, .br false, .br false, .br false, .br false, .br false] [] [1, 3, 4, 10] [0, 1, 2, 3] (s1 := impl.worst.l0.s K a0 a1 a2 a3 v144_0 v144_1 (w64 (v144_2 + 1))) (nd c1 (nd (impl.isFree.spec K a0 a1 v144_2 _ e1) (nd c2 (nd c2 (nd c2 (nd c3 (nd c3 (nd c3 (nd c3 (nd c2 (nd c3 (nd c2 (nd ff (nd (impl.lives.spec K a0 a1 a2 a3 v144_2 _ e2) (nd c4 (nd c4 (nd c4 (nd c4 (nd (impl.lives.spec K a0 a1 a2 a3 v144_0 _ e3) (nd c4 (nd c4 (nd c4 (nd c5 (nd c5 (nd c5 (nd c5 (nd (impl.lives.spec K a0 a1 a2 a3 v144_0 _ e4) (nd c5 (nd c5 (nd c5 (nd c6 (nd c6 (nd c6 (nd c6 (nd c6 (nd c6 (nd c6 (nd c6 (nd c6 (nd c6 (nd c6 (nd c6 (nd c6 (nd c5 (nd c6 (nd c5 (nd ff trivial))))))))))))))))))))))))))))))))))))))))))))))) (by kernel_rfl) (impl.worst.l0.spec K a0 a1 a2 a3 k v144_0 v144_1 (w64 (v144_2 + 1)) _ h)
    · obtain rfl := Option.some.inj h
      exact .of_done tab mixed [.br false] [] [1, 3] [0, 1, 2, 3] rfl (nd c1 trivial) (by kernel_rfl)
def impl.worst.f (K : Nat) (a0 : List ByteArray) (a1 : List Int) (a2 : List Int) (a3 : Int) : Option (Int) :=
  Option.bind (impl.nextPage.f K a0 a1 (-1)) fun x1 => Option.bind (impl.worst.l0.f K a0 a1 a2 a3 K (-1) x1 0) fun x2 => cond (decide (x2 < 0)) (some (-1)) (Option.bind (impl.lives.f K a0 a1 a2 a3 x2) fun x3 => cond ((x3.2 : Int) == 6) (some (-1)) (some x2))
theorem impl.worst.spec (K : Nat) (a0 : List ByteArray) (a1 : List Int) (a2 : List Int) (a3 : Int) (o : Int) (h : impl.worst.f K a0 a1 a2 a3 = some o) : Den.Spec Try.prog 104 [.v (.agg [.sl 0 0 a0.length, .sl 1 0 a1.length, .sl 2 0 a2.length, .int .i64 a3])] [some ⟨false, .strs a0⟩, some ⟨false, .ints .i64 a1⟩, some ⟨false, .ints .i64 a2⟩] (one (.int .i64 o)) [some ⟨false, .strs a0⟩, some ⟨false, .ints .i64 a1⟩, some ⟨false, .ints .i64 a2⟩] := by
  unfold impl.worst.f at h
  obtain ⟨x1, e1, h⟩ := bind_some h
  obtain ⟨x2, e2, h⟩ := bind_some h
  rcases br_cases h with ⟨c1, h⟩ | ⟨c1, h⟩
  · obtain rfl := Option.some.inj h
    exact Den.Spec.of_walk tab mixed Try.func104 (by kernel_rfl) [.call [(0, false), (1, false)] [] (one (.int .i64 x1)) [some ⟨false, .strs a0⟩, some ⟨false, .ints .i64 a1⟩], .loop [] [1, 3, 4, 10] [0, 1, 2, 3] (.exit 0) (impl.worst.l0.e0 K a0 a1 a2 a3 x2), .br true, .br true, .br true, .br true, .br true, .br true, .br true] [] [0, 1, 2] (nd (impl.nextPage.spec K a0 a1 (-1) _ e1) (nd (impl.worst.l0.spec K a0 a1 a2 a3 K (-1) x1 0 _ e2) (nd c1 (nd c1 (nd c1 (nd c1 (nd c1 (nd c1 (nd tt trivial))))))))) (by kernel_rfl)
  · obtain ⟨x3, e3, h⟩ := bind_some h
    rcases br_cases h with ⟨c2, h⟩ | ⟨c2, h⟩
    · obtain rfl := Option.some.inj h
      exact Den.Spec.of_walk tab mixed Try.func104 (by kernel_rfl) [.call [(0, false), (1, false)] [] (one (.int .i64 x1)) [some ⟨false, .strs a0⟩, some ⟨false, .ints .i64 a1⟩], .loop [] [1, 3, 4, 10] [0, 1, 2, 3] (.exit 0) (impl.worst.l0.e0 K a0 a1 a2 a3 x2), .br false, .br false, .br false, .call [(0, false), (1, false), (2, false)] [] (one (.sl 3 0 x3.2)) [some ⟨false, .strs a0⟩, some ⟨false, .ints .i64 a1⟩, some ⟨false, .ints .i64 a2⟩, some ⟨true, .ints .i64 x3.1⟩], .br false, .br false, .br false, .br true] [] [0, 1, 2] (nd (impl.nextPage.spec K a0 a1 (-1) _ e1) (nd (impl.worst.l0.spec K a0 a1 a2 a3 K (-1) x1 0 _ e2) (nd c1 (nd c1 (nd c1 (nd (impl.lives.spec K a0 a1 a2 a3 x2 _ e3) (nd c1 (nd c1 (nd c1 (nd c2 trivial)))))))))) (by kernel_rfl)
    · obtain rfl := Option.some.inj h
      exact Den.Spec.of_walk tab mixed Try.func104 (by kernel_rfl) [.call [(0, false), (1, false)] [] (one (.int .i64 x1)) [some ⟨false, .strs a0⟩, some ⟨false, .ints .i64 a1⟩], .loop [] [1, 3, 4, 10] [0, 1, 2, 3] (.exit 0) (impl.worst.l0.e0 K a0 a1 a2 a3 x2), .br false, .br false, .br false, .call [(0, false), (1, false), (2, false)] [] (one (.sl 3 0 x3.2)) [some ⟨false, .strs a0⟩, some ⟨false, .ints .i64 a1⟩, some ⟨false, .ints .i64 a2⟩, some ⟨true, .ints .i64 x3.1⟩], .br false, .br false, .br false, .br false] [] [0, 1, 2] (nd (impl.nextPage.spec K a0 a1 (-1) _ e1) (nd (impl.worst.l0.spec K a0 a1 a2 a3 K (-1) x1 0 _ e2) (nd c1 (nd c1 (nd c1 (nd (impl.lives.spec K a0 a1 a2 a3 x2 _ e3) (nd c1 (nd c1 (nd c1 (nd c2 trivial)))))))))) (by kernel_rfl)
def impl.Worst.f (K : Nat) (a0 : List ByteArray) (a1 : List Int) (a2 : List Int) (a3 : Int) : Option (Int) :=
  Option.bind (impl.FtlOk.f K a0 a1 a2 a3) fun x1 => cond (x1) (Option.bind (impl.worst.f K a0 a1 a2 a3) fun x2 => some x2) (some (-1))
theorem impl.Worst.spec (K : Nat) (a0 : List ByteArray) (a1 : List Int) (a2 : List Int) (a3 : Int) (o : Int) (h : impl.Worst.f K a0 a1 a2 a3 = some o) : Den.Spec Try.prog 62 [.v (.agg [.sl 0 0 a0.length, .sl 1 0 a1.length, .sl 2 0 a2.length, .int .i64 a3])] [some ⟨false, .strs a0⟩, some ⟨false, .ints .i64 a1⟩, some ⟨false, .ints .i64 a2⟩] (one (.int .i64 o)) [some ⟨false, .strs a0⟩, some ⟨false, .ints .i64 a1⟩, some ⟨false, .ints .i64 a2⟩] := by
  unfold impl.Worst.f at h
  obtain ⟨x1, e1, h⟩ := bind_some h
  rcases br_cases h with ⟨c1, h⟩ | ⟨c1, h⟩
  · obtain ⟨x2, e2, h⟩ := bind_some h
    obtain rfl := Option.some.inj h
    exact Den.Spec.of_walk tab mixed Try.func62 (by kernel_rfl) [.call [(0, false), (1, false), (2, false)] [] (one (.bool x1)) [some ⟨false, .strs a0⟩, some ⟨false, .ints .i64 a1⟩, some ⟨false, .ints .i64 a2⟩], .br false, .call [(0, false), (1, false), (2, false)] [] (one (.int .i64 x2)) [some ⟨false, .strs a0⟩, some ⟨false, .ints .i64 a1⟩, some ⟨false, .ints .i64 a2⟩]] [] [0, 1, 2] (nd (impl.FtlOk.spec K a0 a1 a2 a3 _ e1) (nd (nf c1) (nd (impl.worst.spec K a0 a1 a2 a3 _ e2) trivial))) (by kernel_rfl)
  · obtain rfl := Option.some.inj h
    exact Den.Spec.of_walk tab mixed Try.func62 (by kernel_rfl) [.call [(0, false), (1, false), (2, false)] [] (one (.bool x1)) [some ⟨false, .strs a0⟩, some ⟨false, .ints .i64 a1⟩, some ⟨false, .ints .i64 a2⟩], .br true] [] [0, 1, 2] (nd (impl.FtlOk.spec K a0 a1 a2 a3 _ e1) (nd (nt c1) trivial)) (by kernel_rfl)
def laws.eqStringS.l0.f (a0 : List ByteArray) (a1 : List ByteArray) : Nat → Int → Option (Unit ⊕ Unit)
  | 0, _ => none
  | k + 1, v148_0 =>
    cond (decide (v148_0 < (a0.length : Int))) (ck (0 ≤ v148_0) (ck (v148_0 < (a1.length : Int)) (cond (strEq (a0.getD v148_0.toNat noVal) (a1.getD v148_0.toNat noVal)) (laws.eqStringS.l0.f a0 a1 k (w64 (v148_0 + 1))) (some (.inl ()))))) (some (.inr (())))
def laws.eqStringS.l0.s (a0 : List ByteArray) (a1 : List ByteArray) (v148_0 : Int) : St := mkSt 26 [(0, one (.sl 0 0 a0.length)), (1, one (.sl 1 0 a1.length)), (5, one (.int .i64 v148_0))] [some ⟨false, .strs a0⟩, some ⟨false, .strs a1⟩]
def laws.eqStringS.l0.e0 (a0 : List ByteArray) (a1 : List ByteArray) (o : Unit) : St := mkSt 26 [(4, one (.bool false))] [some ⟨false, .strs a0⟩, some ⟨false, .strs a1⟩]
def laws.eqStringS.l0.e1 (a0 : List ByteArray) (a1 : List ByteArray) (o : Unit) : St := mkSt 26 [] [some ⟨false, .strs a0⟩, some ⟨false, .strs a1⟩]
def laws.eqStringS.l0.x (a0 : List ByteArray) (a1 : List ByteArray) : (Unit ⊕ Unit) → AExit × St := Sum.elim (fun o => (.ret, laws.eqStringS.l0.e0 a0 a1 o)) (fun o => (.exit 0, laws.eqStringS.l0.e1 a0 a1 o))
theorem laws.eqStringS.l0.spec (a0 : List ByteArray) (a1 : List ByteArray) : ∀ (k : Nat) (v148_0 : Int) (o : Unit ⊕ Unit), laws.eqStringS.l0.f a0 a1 k v148_0 = some o → LoopSpec Try.prog 2 (loopN Try.f51 0) (laws.eqStringS.l0.s a0 a1 v148_0) (laws.eqStringS.l0.x a0 a1 o).1 (laws.eqStringS.l0.x a0 a1 o).2
  | 0, _, _, h => by cases h
  | k + 1, v148_0, o, h => by
    unfold laws.eqStringS.l0.f at h
    rcases br_cases h with ⟨c1, h⟩ | ⟨c1, h⟩
    · obtain ⟨p1, h⟩ := ck_some h
      obtain ⟨p2, h⟩ := ck_some h
      rcases br_cases h with ⟨c2, h⟩ | ⟨c2, h⟩
      · exact .of_step tab mixed [.br true, .br false] [] [0, 1, 5] [0, 1] (s1 := laws.eqStringS.l0.s a0 a1 (w64 (v148_0 + 1))) (nd c1 (nd p1 (nd (of_decide_eq_true c1) (nd (tn p1 (of_decide_eq_true c1)) (nd p1 (nd p2 (nd (tn p1 p2) (nd (nf c2) trivial)))))))) (by kernel_rfl) (laws.eqStringS.l0.spec a0 a1 k (w64 (v148_0 + 1)) _ h)
      · obtain rfl := Option.some.inj h
        exact .of_done tab mixed [.br true, .br true] [] [4] [0, 1] rfl (nd c1 (nd p1 (nd (of_decide_eq_true c1) (nd (tn p1 (of_decide_eq_true c1)) (nd p1 (nd p2 (nd (tn p1 p2) (nd (nt c2) trivial)))))))) (by kernel_rfl)
    · obtain rfl := Option.some.inj h
      exact .of_done tab mixed [.br false] [] [] [0, 1] rfl (nd c1 trivial) (by kernel_rfl)
def laws.eqStringS.f (K : Nat) (a0 : List ByteArray) (a1 : List ByteArray) : Option (Bool) :=
  cond ((a0.length : Int) != (a1.length : Int)) (some false) (Option.bind (laws.eqStringS.l0.f a0 a1 K 0) fun x1 => (Sum.elim (fun x1 => some false) (fun x1 => some true)) x1)
theorem laws.eqStringS.spec (K : Nat) (a0 : List ByteArray) (a1 : List ByteArray) (o : Bool) (h : laws.eqStringS.f K a0 a1 = some o) : Den.Spec Try.prog 51 [one (.sl 0 0 a0.length), one (.sl 1 0 a1.length)] [some ⟨false, .strs a0⟩, some ⟨false, .strs a1⟩] (one (.bool o)) [some ⟨false, .strs a0⟩, some ⟨false, .strs a1⟩] := by
  unfold laws.eqStringS.f at h
  rcases br_cases h with ⟨c1, h⟩ | ⟨c1, h⟩
  · obtain rfl := Option.some.inj h
    exact Den.Spec.of_walk tab mixed Try.func51 (by kernel_rfl) [.br true] [] [0, 1] (nd c1 trivial) (by kernel_rfl)
  · obtain ⟨x1, e1, h⟩ := bind_some h
    rcases x1 with x1 | x1
    · obtain rfl := Option.some.inj h
      exact Den.Spec.of_walk tab mixed Try.func51 (by kernel_rfl) [.br false, .loop [] [0, 1, 5] [0, 1] (.ret) (laws.eqStringS.l0.e0 a0 a1 x1)] [] [0, 1] (nd c1 (nd (laws.eqStringS.l0.spec a0 a1 K 0 _ e1) trivial)) (by kernel_rfl)
    · obtain rfl := Option.some.inj h
      exact Den.Spec.of_walk tab mixed Try.func51 (by kernel_rfl) [.br false, .loop [] [0, 1, 5] [0, 1] (.exit 0) (laws.eqStringS.l0.e1 a0 a1 x1)] [] [0, 1] (nd c1 (nd (laws.eqStringS.l0.spec a0 a1 K 0 _ e1) trivial)) (by kernel_rfl)
def laws.eqIntS.l0.f (a0 : List Int) (a1 : List Int) : Nat → Int → Option (Unit ⊕ Unit)
  | 0, _ => none
  | k + 1, v151_0 =>
    cond (decide (v151_0 < (a0.length : Int))) (ck (0 ≤ v151_0) (ck (v151_0 < (a1.length : Int)) (cond ((a0.getD v151_0.toNat 0) != (a1.getD v151_0.toNat 0)) (some (.inl ())) (laws.eqIntS.l0.f a0 a1 k (w64 (v151_0 + 1)))))) (some (.inr (())))
def laws.eqIntS.l0.s (a0 : List Int) (a1 : List Int) (v151_0 : Int) : St := mkSt 26 [(0, one (.sl 0 0 a0.length)), (1, one (.sl 1 0 a1.length)), (5, one (.int .i64 v151_0))] [some ⟨false, .ints .i64 a0⟩, some ⟨false, .ints .i64 a1⟩]
def laws.eqIntS.l0.e0 (a0 : List Int) (a1 : List Int) (o : Unit) : St := mkSt 26 [(4, one (.bool false))] [some ⟨false, .ints .i64 a0⟩, some ⟨false, .ints .i64 a1⟩]
def laws.eqIntS.l0.e1 (a0 : List Int) (a1 : List Int) (o : Unit) : St := mkSt 26 [] [some ⟨false, .ints .i64 a0⟩, some ⟨false, .ints .i64 a1⟩]
def laws.eqIntS.l0.x (a0 : List Int) (a1 : List Int) : (Unit ⊕ Unit) → AExit × St := Sum.elim (fun o => (.ret, laws.eqIntS.l0.e0 a0 a1 o)) (fun o => (.exit 0, laws.eqIntS.l0.e1 a0 a1 o))
theorem laws.eqIntS.l0.spec (a0 : List Int) (a1 : List Int) : ∀ (k : Nat) (v151_0 : Int) (o : Unit ⊕ Unit), laws.eqIntS.l0.f a0 a1 k v151_0 = some o → LoopSpec Try.prog 2 (loopN Try.f58 0) (laws.eqIntS.l0.s a0 a1 v151_0) (laws.eqIntS.l0.x a0 a1 o).1 (laws.eqIntS.l0.x a0 a1 o).2
  | 0, _, _, h => by cases h
  | k + 1, v151_0, o, h => by
    unfold laws.eqIntS.l0.f at h
    rcases br_cases h with ⟨c1, h⟩ | ⟨c1, h⟩
    · obtain ⟨p1, h⟩ := ck_some h
      obtain ⟨p2, h⟩ := ck_some h
      rcases br_cases h with ⟨c2, h⟩ | ⟨c2, h⟩
      · obtain rfl := Option.some.inj h
        exact .of_done tab mixed [.br true, .br true] [] [4] [0, 1] rfl (nd c1 (nd p1 (nd (of_decide_eq_true c1) (nd (tn p1 (of_decide_eq_true c1)) (nd p1 (nd p2 (nd (tn p1 p2) (nd c2 trivial)))))))) (by kernel_rfl)
      · exact .of_step tab mixed [.br true, .br false] [] [0, 1, 5] [0, 1] (s1 := laws.eqIntS.l0.s a0 a1 (w64 (v151_0 + 1))) (nd c1 (nd p1 (nd (of_decide_eq_true c1) (nd (tn p1 (of_decide_eq_true c1)) (nd p1 (nd p2 (nd (tn p1 p2) (nd c2 trivial)))))))) (by kernel_rfl) (laws.eqIntS.l0.spec a0 a1 k (w64 (v151_0 + 1)) _ h)
    · obtain rfl := Option.some.inj h
      exact .of_done tab mixed [.br false] [] [] [0, 1] rfl (nd c1 trivial) (by kernel_rfl)
def laws.eqIntS.f (K : Nat) (a0 : List Int) (a1 : List Int) : Option (Bool) :=
  cond ((a0.length : Int) != (a1.length : Int)) (some false) (Option.bind (laws.eqIntS.l0.f a0 a1 K 0) fun x1 => (Sum.elim (fun x1 => some false) (fun x1 => some true)) x1)
theorem laws.eqIntS.spec (K : Nat) (a0 : List Int) (a1 : List Int) (o : Bool) (h : laws.eqIntS.f K a0 a1 = some o) : Den.Spec Try.prog 58 [one (.sl 0 0 a0.length), one (.sl 1 0 a1.length)] [some ⟨false, .ints .i64 a0⟩, some ⟨false, .ints .i64 a1⟩] (one (.bool o)) [some ⟨false, .ints .i64 a0⟩, some ⟨false, .ints .i64 a1⟩] := by
  unfold laws.eqIntS.f at h
  rcases br_cases h with ⟨c1, h⟩ | ⟨c1, h⟩
  · obtain rfl := Option.some.inj h
    exact Den.Spec.of_walk tab mixed Try.func58 (by kernel_rfl) [.br true] [] [0, 1] (nd c1 trivial) (by kernel_rfl)
  · obtain ⟨x1, e1, h⟩ := bind_some h
    rcases x1 with x1 | x1
    · obtain rfl := Option.some.inj h
      exact Den.Spec.of_walk tab mixed Try.func58 (by kernel_rfl) [.br false, .loop [] [0, 1, 5] [0, 1] (.ret) (laws.eqIntS.l0.e0 a0 a1 x1)] [] [0, 1] (nd c1 (nd (laws.eqIntS.l0.spec a0 a1 K 0 _ e1) trivial)) (by kernel_rfl)
    · obtain rfl := Option.some.inj h
      exact Den.Spec.of_walk tab mixed Try.func58 (by kernel_rfl) [.br false, .loop [] [0, 1, 5] [0, 1] (.exit 0) (laws.eqIntS.l0.e1 a0 a1 x1)] [] [0, 1] (nd c1 (nd (laws.eqIntS.l0.spec a0 a1 K 0 _ e1) trivial)) (by kernel_rfl)
def laws.eqChip.f (K : Nat) (a0 : List ByteArray) (a1 : List Int) (a2 : List ByteArray) (a3 : List Int) : Option (Bool) :=
  Option.bind (laws.eqStringS.f K a0 a2) fun x1 => cond (x1) (Option.bind (laws.eqIntS.f K a1 a3) fun x2 => cond (x2) (some true) (some false)) (some false)
theorem laws.eqChip.spec (K : Nat) (a0 : List ByteArray) (a1 : List Int) (a2 : List ByteArray) (a3 : List Int) (o : Bool) (h : laws.eqChip.f K a0 a1 a2 a3 = some o) : Den.Spec Try.prog 45 [.v (.agg [.sl 0 0 a0.length, .sl 1 0 a1.length]), .v (.agg [.sl 2 0 a2.length, .sl 3 0 a3.length])] [some ⟨false, .strs a0⟩, some ⟨false, .ints .i64 a1⟩, some ⟨false, .strs a2⟩, some ⟨false, .ints .i64 a3⟩] (one (.bool o)) [some ⟨false, .strs a0⟩, some ⟨false, .ints .i64 a1⟩, some ⟨false, .strs a2⟩, some ⟨false, .ints .i64 a3⟩] := by
  unfold laws.eqChip.f at h
  obtain ⟨x1, e1, h⟩ := bind_some h
  rcases br_cases h with ⟨c1, h⟩ | ⟨c1, h⟩
  · obtain ⟨x2, e2, h⟩ := bind_some h
    rcases br_cases h with ⟨c2, h⟩ | ⟨c2, h⟩
    · obtain rfl := Option.some.inj h
      exact Den.Spec.of_walk tab mixed Try.func45 (by kernel_rfl) [.call [] [(0, true), (1, true)] (one (.bool x1)) [some ⟨false, .strs a0⟩, some ⟨false, .strs a2⟩], .br false, .call [] [(0, true), (1, true)] (one (.bool x2)) [some ⟨false, .ints .i64 a1⟩, some ⟨false, .ints .i64 a3⟩], .br false] [] [0, 1, 2, 3] (nd (laws.eqStringS.spec K a0 a2 _ e1) (nd (rfl : (0 : Nat) = 0) (nd (rfl : a0.length = a0.length) (nd (rfl : (0 : Nat) = 0) (nd (rfl : a2.length = a2.length) (nd (nf c1) (nd (laws.eqIntS.spec K a1 a3 _ e2) (nd (rfl : (0 : Nat) = 0) (nd (rfl : a1.length = a1.length) (nd (rfl : (0 : Nat) = 0) (nd (rfl : a3.length = a3.length) (nd (nf c2) trivial)))))))))))) (by kernel_rfl)
    · obtain rfl := Option.some.inj h
      exact Den.Spec.of_walk tab mixed Try.func45 (by kernel_rfl) [.call [] [(0, true), (1, true)] (one (.bool x1)) [some ⟨false, .strs a0⟩, some ⟨false, .strs a2⟩], .br false, .call [] [(0, true), (1, true)] (one (.bool x2)) [some ⟨false, .ints .i64 a1⟩, some ⟨false, .ints .i64 a3⟩], .br true] [] [0, 1, 2, 3] (nd (laws.eqStringS.spec K a0 a2 _ e1) (nd (rfl : (0 : Nat) = 0) (nd (rfl : a0.length = a0.length) (nd (rfl : (0 : Nat) = 0) (nd (rfl : a2.length = a2.length) (nd (nf c1) (nd (laws.eqIntS.spec K a1 a3 _ e2) (nd (rfl : (0 : Nat) = 0) (nd (rfl : a1.length = a1.length) (nd (rfl : (0 : Nat) = 0) (nd (rfl : a3.length = a3.length) (nd (nt c2) trivial)))))))))))) (by kernel_rfl)
  · obtain rfl := Option.some.inj h
    exact Den.Spec.of_walk tab mixed Try.func45 (by kernel_rfl) [.call [] [(0, true), (1, true)] (one (.bool x1)) [some ⟨false, .strs a0⟩, some ⟨false, .strs a2⟩], .br true] [] [0, 1, 2, 3] (nd (laws.eqStringS.spec K a0 a2 _ e1) (nd (rfl : (0 : Nat) = 0) (nd (rfl : a0.length = a0.length) (nd (rfl : (0 : Nat) = 0) (nd (rfl : a2.length = a2.length) (nd (nt c1) trivial)))))) (by kernel_rfl)
def laws.eqFtl.f (K : Nat) (a0 : List ByteArray) (a1 : List Int) (a2 : List Int) (a3 : Int) (a4 : List ByteArray) (a5 : List Int) (a6 : List Int) (a7 : Int) : Option (Bool) :=
  Option.bind (laws.eqChip.f K a0 a1 a4 a5) fun x1 => cond (x1) (Option.bind (laws.eqIntS.f K a2 a6) fun x2 => cond (x2) (cond (a3 != a7) (some false) (some true)) (some false)) (some false)
theorem laws.eqFtl.spec (K : Nat) (a0 : List ByteArray) (a1 : List Int) (a2 : List Int) (a3 : Int) (a4 : List ByteArray) (a5 : List Int) (a6 : List Int) (a7 : Int) (o : Bool) (h : laws.eqFtl.f K a0 a1 a2 a3 a4 a5 a6 a7 = some o) : Den.Spec Try.prog 36 [.v (.agg [.sl 0 0 a0.length, .sl 1 0 a1.length, .sl 2 0 a2.length, .int .i64 a3]), .v (.agg [.sl 3 0 a4.length, .sl 4 0 a5.length, .sl 5 0 a6.length, .int .i64 a7])] [some ⟨false, .strs a0⟩, some ⟨false, .ints .i64 a1⟩, some ⟨false, .ints .i64 a2⟩, some ⟨false, .strs a4⟩, some ⟨false, .ints .i64 a5⟩, some ⟨false, .ints .i64 a6⟩] (one (.bool o)) [some ⟨false, .strs a0⟩, some ⟨false, .ints .i64 a1⟩, some ⟨false, .ints .i64 a2⟩, some ⟨false, .strs a4⟩, some ⟨false, .ints .i64 a5⟩, some ⟨false, .ints .i64 a6⟩] := by
  unfold laws.eqFtl.f at h
  obtain ⟨x1, e1, h⟩ := bind_some h
  rcases br_cases h with ⟨c1, h⟩ | ⟨c1, h⟩
  · obtain ⟨x2, e2, h⟩ := bind_some h
    rcases br_cases h with ⟨c2, h⟩ | ⟨c2, h⟩
    · rcases br_cases h with ⟨c3, h⟩ | ⟨c3, h⟩
      · obtain rfl := Option.some.inj h
        exact Den.Spec.of_walk tab mixed Try.func36 (by kernel_rfl) [.call [(0, false), (1, false), (3, false), (4, false)] [] (one (.bool x1)) [some ⟨false, .strs a0⟩, some ⟨false, .ints .i64 a1⟩, some ⟨false, .strs a4⟩, some ⟨false, .ints .i64 a5⟩], .br false, .call [] [(0, true), (1, true)] (one (.bool x2)) [some ⟨false, .ints .i64 a2⟩, some ⟨false, .ints .i64 a6⟩], .br false, .br true] [] [0, 1, 2, 3, 4, 5] (nd (laws.eqChip.spec K a0 a1 a4 a5 _ e1) (nd (nf c1) (nd (laws.eqIntS.spec K a2 a6 _ e2) (nd (rfl : (0 : Nat) = 0) (nd (rfl : a2.length = a2.length) (nd (rfl : (0 : Nat) = 0) (nd (rfl : a6.length = a6.length) (nd (nf c2) (nd c3 trivial))))))))) (by kernel_rfl)
      · obtain rfl := Option.some.inj h
        exact Den.Spec.of_walk tab mixed Try.func36 (by kernel_rfl) [.call [(0, false), (1, false), (3, false), (4, false)] [] (one (.bool x1)) [some ⟨false, .strs a0⟩, some ⟨false, .ints .i64 a1⟩, some ⟨false, .strs a4⟩, some ⟨false, .ints .i64 a5⟩], .br false, .call [] [(0, true), (1, true)] (one (.bool x2)) [some ⟨false, .ints .i64 a2⟩, some ⟨false, .ints .i64 a6⟩], .br false, .br false] [] [0, 1, 2, 3, 4, 5] (nd (laws.eqChip.spec K a0 a1 a4 a5 _ e1) (nd (nf c1) (nd (laws.eqIntS.spec K a2 a6 _ e2) (nd (rfl : (0 : Nat) = 0) (nd (rfl : a2.length = a2.length) (nd (rfl : (0 : Nat) = 0) (nd (rfl : a6.length = a6.length) (nd (nf c2) (nd c3 trivial))))))))) (by kernel_rfl)
    · obtain rfl := Option.some.inj h
      exact Den.Spec.of_walk tab mixed Try.func36 (by kernel_rfl) [.call [(0, false), (1, false), (3, false), (4, false)] [] (one (.bool x1)) [some ⟨false, .strs a0⟩, some ⟨false, .ints .i64 a1⟩, some ⟨false, .strs a4⟩, some ⟨false, .ints .i64 a5⟩], .br false, .call [] [(0, true), (1, true)] (one (.bool x2)) [some ⟨false, .ints .i64 a2⟩, some ⟨false, .ints .i64 a6⟩], .br true] [] [0, 1, 2, 3, 4, 5] (nd (laws.eqChip.spec K a0 a1 a4 a5 _ e1) (nd (nf c1) (nd (laws.eqIntS.spec K a2 a6 _ e2) (nd (rfl : (0 : Nat) = 0) (nd (rfl : a2.length = a2.length) (nd (rfl : (0 : Nat) = 0) (nd (rfl : a6.length = a6.length) (nd (nt c2) trivial)))))))) (by kernel_rfl)
  · obtain rfl := Option.some.inj h
    exact Den.Spec.of_walk tab mixed Try.func36 (by kernel_rfl) [.call [(0, false), (1, false), (3, false), (4, false)] [] (one (.bool x1)) [some ⟨false, .strs a0⟩, some ⟨false, .ints .i64 a1⟩, some ⟨false, .strs a4⟩, some ⟨false, .ints .i64 a5⟩], .br true] [] [0, 1, 2, 3, 4, 5] (nd (laws.eqChip.spec K a0 a1 a4 a5 _ e1) (nd (nt c1) trivial)) (by kernel_rfl)
def laws.FnExactWorst.f (K : Nat) (a0 : List ByteArray) (a1 : List Int) (a2 : List Int) (a3 : Int) : Option (Bool) :=
  Option.bind (laws.szFtl.f K a0 a1 a2 a3 1048576) fun x1 => cond (decide (x1 < 0)) (some true) (Option.bind (laws.toFtl.f K a0 a1 a2 a3) fun x2 => Option.bind (spec.Worst.f K x2.1 x2.2.1 x2.2.2 a3) fun x3 => Option.bind (laws.toFtl.f K a0 a1 a2 a3) fun x4 => Option.bind (impl.Worst.f K x4.1 x4.2.1 x4.2.2 a3) fun x5 => cond (x5 != x3) (some false) (Option.bind (laws.toFtl.f K a0 a1 a2 a3) fun x6 => Option.bind (laws.eqFtl.f K x4.1 x4.2.1 x4.2.2 a3 x6.1 x6.2.1 x6.2.2 a3) fun x7 => cond (x7) (some true) (some false)))
theorem laws.FnExactWorst.spec (K : Nat) (a0 : List ByteArray) (a1 : List Int) (a2 : List Int) (a3 : Int) (o : Bool) (h : laws.FnExactWorst.f K a0 a1 a2 a3 = some o) : Den.Spec Try.prog 12 [.v (.agg [.sl 0 0 a0.length, .sl 1 0 a1.length, .sl 2 0 a2.length, .int .i64 a3])] [some ⟨false, .strs a0⟩, some ⟨false, .ints .i64 a1⟩, some ⟨false, .ints .i64 a2⟩] (one (.bool o)) [some ⟨false, .strs a0⟩, some ⟨false, .ints .i64 a1⟩, some ⟨false, .ints .i64 a2⟩] := by
  unfold laws.FnExactWorst.f at h
  obtain ⟨x1, e1, h⟩ := bind_some h
  rcases br_cases h with ⟨c1, h⟩ | ⟨c1, h⟩
  · obtain rfl := Option.some.inj h
    exact Den.Spec.of_walk tab mixed Try.func12 (by kernel_rfl) [.call [(0, false), (1, false), (2, false)] [] (one (.int .i64 x1)) [some ⟨false, .strs a0⟩, some ⟨false, .ints .i64 a1⟩, some ⟨false, .ints .i64 a2⟩], .br true] [] [0, 1, 2] (nd (laws.szFtl.spec K a0 a1 a2 a3 1048576 _ e1) (nd c1 trivial)) (by kernel_rfl)
  · obtain ⟨x2, e2, h⟩ := bind_some h
    obtain ⟨x3, e3, h⟩ := bind_some h
    obtain ⟨x4, e4, h⟩ := bind_some h
    obtain ⟨x5, e5, h⟩ := bind_some h
    rcases br_cases h with ⟨c2, h⟩ | ⟨c2, h⟩
    · obtain rfl := Option.some.inj h
      exact Den.Spec.of_walk tab mixed Try.func12 (by kernel_rfl) [.call [(0, false), (1, false), (2, false)] [] (one (.int .i64 x1)) [some ⟨false, .strs a0⟩, some ⟨false, .ints .i64 a1⟩, some ⟨false, .ints .i64 a2⟩], .br false, .call [(0, false), (1, false), (2, false)] [] (.v (.agg [.sl 3 0 x2.1.length, .sl 4 0 x2.2.1.length, .sl 5 0 x2.2.2.length, .int .i64 a3])) [some ⟨false, .strs a0⟩, some ⟨false, .ints .i64 a1⟩, some ⟨false, .ints .i64 a2⟩, some ⟨true, .strs x2.1⟩, some ⟨true, .ints .i64 x2.2.1⟩, some ⟨true, .ints .i64 x2.2.2⟩], .call [(4, false), (5, false), (6, false)] [] (one (.int .i64 x3)) [some ⟨false, .strs x2.1⟩, some ⟨false, .ints .i64 x2.2.1⟩, some ⟨false, .ints .i64 x2.2.2⟩], .call [(0, false), (1, false), (2, false)] [] (.v (.agg [.sl 3 0 x4.1.length, .sl 4 0 x4.2.1.length, .sl 5 0 x4.2.2.length, .int .i64 a3])) [some ⟨false, .strs a0⟩, some ⟨false, .ints .i64 a1⟩, some ⟨false, .ints .i64 a2⟩, some ⟨true, .strs x4.1⟩, some ⟨true, .ints .i64 x4.2.1⟩, some ⟨true, .ints .i64 x4.2.2⟩], .call [(7, false), (8, false), (9, false)] [] (one (.int .i64 x5)) [some ⟨false, .strs x4.1⟩, some ⟨false, .ints .i64 x4.2.1⟩, some ⟨false, .ints .i64 x4.2.2⟩], .br true] [] [0, 1, 2] (nd (laws.szFtl.spec K a0 a1 a2 a3 1048576 _ e1) (nd c1 (nd (laws.toFtl.spec K a0 a1 a2 a3 _ e2) (nd (spec.Worst.spec K x2.1 x2.2.1 x2.2.2 a3 _ e3) (nd (laws.toFtl.spec K a0 a1 a2 a3 _ e4) (nd (impl.Worst.spec K x4.1 x4.2.1 x4.2.2 a3 _ e5) (nd c2 trivial))))))) (by kernel_rfl)
    · obtain ⟨x6, e6, h⟩ := bind_some h
      obtain ⟨x7, e7, h⟩ := bind_some h
      rcases br_cases h with ⟨c3, h⟩ | ⟨c3, h⟩
      · obtain rfl := Option.some.inj h
        exact Den.Spec.of_walk tab mixed Try.func12 (by kernel_rfl) [.call [(0, false), (1, false), (2, false)] [] (one (.int .i64 x1)) [some ⟨false, .strs a0⟩, some ⟨false, .ints .i64 a1⟩, some ⟨false, .ints .i64 a2⟩], .br false, .call [(0, false), (1, false), (2, false)] [] (.v (.agg [.sl 3 0 x2.1.length, .sl 4 0 x2.2.1.length, .sl 5 0 x2.2.2.length, .int .i64 a3])) [some ⟨false, .strs a0⟩, some ⟨false, .ints .i64 a1⟩, some ⟨false, .ints .i64 a2⟩, some ⟨true, .strs x2.1⟩, some ⟨true, .ints .i64 x2.2.1⟩, some ⟨true, .ints .i64 x2.2.2⟩], .call [(4, false), (5, false), (6, false)] [] (one (.int .i64 x3)) [some ⟨false, .strs x2.1⟩, some ⟨false, .ints .i64 x2.2.1⟩, some ⟨false, .ints .i64 x2.2.2⟩], .call [(0, false), (1, false), (2, false)] [] (.v (.agg [.sl 3 0 x4.1.length, .sl 4 0 x4.2.1.length, .sl 5 0 x4.2.2.length, .int .i64 a3])) [some ⟨false, .strs a0⟩, some ⟨false, .ints .i64 a1⟩, some ⟨false, .ints .i64 a2⟩, some ⟨true, .strs x4.1⟩, some ⟨true, .ints .i64 x4.2.1⟩, some ⟨true, .ints .i64 x4.2.2⟩], .call [(7, false), (8, false), (9, false)] [] (one (.int .i64 x5)) [some ⟨false, .strs x4.1⟩, some ⟨false, .ints .i64 x4.2.1⟩, some ⟨false, .ints .i64 x4.2.2⟩], .br false, .call [(0, false), (1, false), (2, false)] [] (.v (.agg [.sl 3 0 x6.1.length, .sl 4 0 x6.2.1.length, .sl 5 0 x6.2.2.length, .int .i64 a3])) [some ⟨false, .strs a0⟩, some ⟨false, .ints .i64 a1⟩, some ⟨false, .ints .i64 a2⟩, some ⟨true, .strs x6.1⟩, some ⟨true, .ints .i64 x6.2.1⟩, some ⟨true, .ints .i64 x6.2.2⟩], .call [(7, false), (8, false), (9, false), (30, false), (31, false), (32, false)] [] (one (.bool x7)) [some ⟨false, .strs x4.1⟩, some ⟨false, .ints .i64 x4.2.1⟩, some ⟨false, .ints .i64 x4.2.2⟩, some ⟨false, .strs x6.1⟩, some ⟨false, .ints .i64 x6.2.1⟩, some ⟨false, .ints .i64 x6.2.2⟩], .br false] [] [0, 1, 2] (nd (laws.szFtl.spec K a0 a1 a2 a3 1048576 _ e1) (nd c1 (nd (laws.toFtl.spec K a0 a1 a2 a3 _ e2) (nd (spec.Worst.spec K x2.1 x2.2.1 x2.2.2 a3 _ e3) (nd (laws.toFtl.spec K a0 a1 a2 a3 _ e4) (nd (impl.Worst.spec K x4.1 x4.2.1 x4.2.2 a3 _ e5) (nd c2 (nd (laws.toFtl.spec K a0 a1 a2 a3 _ e6) (nd (laws.eqFtl.spec K x4.1 x4.2.1 x4.2.2 a3 x6.1 x6.2.1 x6.2.2 a3 _ e7) (nd (nf c3) trivial)))))))))) (by kernel_rfl)
      · obtain rfl := Option.some.inj h
        exact Den.Spec.of_walk tab mixed Try.func12 (by kernel_rfl) [.call [(0, false), (1, false), (2, false)] [] (one (.int .i64 x1)) [some ⟨false, .strs a0⟩, some ⟨false, .ints .i64 a1⟩, some ⟨false, .ints .i64 a2⟩], .br false, .call [(0, false), (1, false), (2, false)] [] (.v (.agg [.sl 3 0 x2.1.length, .sl 4 0 x2.2.1.length, .sl 5 0 x2.2.2.length, .int .i64 a3])) [some ⟨false, .strs a0⟩, some ⟨false, .ints .i64 a1⟩, some ⟨false, .ints .i64 a2⟩, some ⟨true, .strs x2.1⟩, some ⟨true, .ints .i64 x2.2.1⟩, some ⟨true, .ints .i64 x2.2.2⟩], .call [(4, false), (5, false), (6, false)] [] (one (.int .i64 x3)) [some ⟨false, .strs x2.1⟩, some ⟨false, .ints .i64 x2.2.1⟩, some ⟨false, .ints .i64 x2.2.2⟩], .call [(0, false), (1, false), (2, false)] [] (.v (.agg [.sl 3 0 x4.1.length, .sl 4 0 x4.2.1.length, .sl 5 0 x4.2.2.length, .int .i64 a3])) [some ⟨false, .strs a0⟩, some ⟨false, .ints .i64 a1⟩, some ⟨false, .ints .i64 a2⟩, some ⟨true, .strs x4.1⟩, some ⟨true, .ints .i64 x4.2.1⟩, some ⟨true, .ints .i64 x4.2.2⟩], .call [(7, false), (8, false), (9, false)] [] (one (.int .i64 x5)) [some ⟨false, .strs x4.1⟩, some ⟨false, .ints .i64 x4.2.1⟩, some ⟨false, .ints .i64 x4.2.2⟩], .br false, .call [(0, false), (1, false), (2, false)] [] (.v (.agg [.sl 3 0 x6.1.length, .sl 4 0 x6.2.1.length, .sl 5 0 x6.2.2.length, .int .i64 a3])) [some ⟨false, .strs a0⟩, some ⟨false, .ints .i64 a1⟩, some ⟨false, .ints .i64 a2⟩, some ⟨true, .strs x6.1⟩, some ⟨true, .ints .i64 x6.2.1⟩, some ⟨true, .ints .i64 x6.2.2⟩], .call [(7, false), (8, false), (9, false), (30, false), (31, false), (32, false)] [] (one (.bool x7)) [some ⟨false, .strs x4.1⟩, some ⟨false, .ints .i64 x4.2.1⟩, some ⟨false, .ints .i64 x4.2.2⟩, some ⟨false, .strs x6.1⟩, some ⟨false, .ints .i64 x6.2.1⟩, some ⟨false, .ints .i64 x6.2.2⟩], .br true] [] [0, 1, 2] (nd (laws.szFtl.spec K a0 a1 a2 a3 1048576 _ e1) (nd c1 (nd (laws.toFtl.spec K a0 a1 a2 a3 _ e2) (nd (spec.Worst.spec K x2.1 x2.2.1 x2.2.2 a3 _ e3) (nd (laws.toFtl.spec K a0 a1 a2 a3 _ e4) (nd (impl.Worst.spec K x4.1 x4.2.1 x4.2.2 a3 _ e5) (nd c2 (nd (laws.toFtl.spec K a0 a1 a2 a3 _ e6) (nd (laws.eqFtl.spec K x4.1 x4.2.1 x4.2.2 a3 x6.1 x6.2.1 x6.2.2 a3 _ e7) (nd (nt c3) trivial)))))))))) (by kernel_rfl)
end Go.Proofs.Ytenhjfemghpciaa.GFnExactWorst
