import Derived.Test.YthneilmhnbboeaaDenZ
import Derived.Test.YthneilmhnbboeaaProg
namespace Go.Proofs.Ythneilmhnbboeaa.GFnExactVolumeNew
open Go Go.RowKit Go.Proofs Go.Proofs.Ythneilmhnbboeaa.Den
set_option linter.unusedVariables false
def tyL : List (Nat × Ty) := [(3, ⟨1, 8, false, [.int .i64 0], .ints .i64, .int .i64, []⟩),
  (4, ⟨1, 1, false, [.bool false], .bools, .bool, []⟩),
  (5, ⟨1, 1, false, [.int .u8 0], .ints .u8, .int .u8, []⟩),
  (9, ⟨1, 16, false, [.str ⟨#[]⟩], .strs, .str, []⟩),
  (28, ⟨1, 24, false, [.nil], .refs, .sl 5, [.ints .u8]⟩),
  (42, ⟨1, 24, false, [.nil], .refs, .sl 9, [.strs]⟩),
  (43, ⟨1, 24, false, [.nil], .refs, .sl 3, [.ints .i64]⟩),
  (48, ⟨4, 72, true, [.bool false, .nil, .nil, .str ⟨#[]⟩], .none, .st [(0, 1), (1, 1), (2, 1), (3, 1)], [.none, .strs, .ints .i64, .none]⟩)]
def tb : TypeId → Option Ty := tbOf tyL
theorem tab : TabOk Try.prog tb := TabOk.of ⟨.of (by kernel_rfl) rfl rfl (by kernel_rfl) (by show _ = _; kernel_rfl),
  .of (by kernel_rfl) rfl rfl (by kernel_rfl) (by show _ = _; kernel_rfl),
  .of (by kernel_rfl) rfl rfl (by kernel_rfl) (by show _ = _; kernel_rfl),
  .of (by kernel_rfl) rfl rfl (by kernel_rfl) (by show _ = _; kernel_rfl),
  .of (by kernel_rfl) rfl rfl (by kernel_rfl) (by show _ = _; kernel_rfl),
  .of (by kernel_rfl) rfl rfl (by kernel_rfl) (by show _ = _; kernel_rfl),
  .of (by kernel_rfl) rfl rfl (by kernel_rfl) (by show _ = _; kernel_rfl),
  .of (by kernel_rfl) rfl rfl (by kernel_rfl) (by show _ = _; kernel_rfl), trivial⟩
theorem mixed : Try.prog.follows .mixedOrders = true := by kernel_rfl
def spec.VolumeNew.f : Option (Unit) :=
  ck ((12 * (16 : Int)) ≤ 70368744177664) (ck (0 < ((List.replicate 12 noVal).length : Int)) (ck (0 < (List.replicate 12 noVal).length) (some ())))
theorem spec.VolumeNew.spec (o : Unit) (h : spec.VolumeNew.f = some o) : Den.Spec Try.prog 76 [] [] (one (.sl 0 0 ((List.replicate 12 noVal).length))) [some ⟨true, .strs ((List.replicate 12 noVal).set 0 (ByteArray.mk #[100]))⟩] := by
  unfold spec.VolumeNew.f at h
  obtain ⟨p1, h⟩ := ck_some h
  obtain ⟨p2, h⟩ := ck_some h
  obtain ⟨p3, h⟩ := ck_some h
  obtain rfl := Option.some.inj h
  exact Den.Spec.of_walk tab mixed Try.func76 (by kernel_rfl) [] [] [0] (nd (by decide : (0 : Int) ≤ 12) (nd (rfl : (12 : Int) = (12 : Int)) (nd p1 (nd (Int.le_refl 0) (nd p2 (nd p3 trivial)))))) (by kernel_rfl)
def impl.NameOk.l0.f (a0 : ByteArray) : Nat → Int → Option (Unit ⊕ Unit)
  | 0, _ => none
  | k + 1, v5_0 =>
    cond (decide (v5_0 < (a0.size : Int))) (ck (0 ≤ v5_0) (cond (decide ((byteAt a0 v5_0) < 97)) (some (.inl ())) (cond (decide ((byteAt a0 v5_0) > 122)) (some (.inl ())) (impl.NameOk.l0.f a0 k (w64 (v5_0 + 1)))))) (some (.inr (())))
def impl.NameOk.l0.s (a0 : ByteArray) (v5_0 : Int) : St := mkSt 23 [(0, one (.str a0)), (5, one (.int .i64 (a0.size : Int))), (6, one (.int .i64 v5_0))] []
def impl.NameOk.l0.e0 (a0 : ByteArray) (o : Unit) : St := mkSt 23 [(2, one (.bool false))] []
def impl.NameOk.l0.e1 (a0 : ByteArray) (o : Unit) : St := mkSt 23 [(0, one (.str a0))] []
def impl.NameOk.l0.x (a0 : ByteArray) : (Unit ⊕ Unit) → AExit × St := Sum.elim (fun o => (.ret, impl.NameOk.l0.e0 a0 o)) (fun o => (.exit 0, impl.NameOk.l0.e1 a0 o))
theorem impl.NameOk.l0.spec (a0 : ByteArray) : ∀ (k : Nat) (v5_0 : Int) (o : Unit ⊕ Unit), impl.NameOk.l0.f a0 k v5_0 = some o → LoopSpec Try.prog 0 (loopN Try.f72 0) (impl.NameOk.l0.s a0 v5_0) (impl.NameOk.l0.x a0 o).1 (impl.NameOk.l0.x a0 o).2
  | 0, _, _, h => by cases h
  | k + 1, v5_0, o, h => by
    unfold impl.NameOk.l0.f at h
    rcases br_cases h with ⟨c1, h⟩ | ⟨c1, h⟩
    · obtain ⟨p1, h⟩ := ck_some h
      rcases br_cases h with ⟨c2, h⟩ | ⟨c2, h⟩
      · obtain rfl := Option.some.inj h
        exact .of_done tab mixed [.br true, .br true, .br true, .br true, .br true, .br true, .br true] [] [2] [] rfl (nd c1 (nd p1 (nd (of_decide_eq_true c1) (nd c2 (nd c2 (nd c2 (nd c2 (nd c2 (nd tt trivial))))))))) (by kernel_rfl)
      · rcases br_cases h with ⟨c3, h⟩ | ⟨c3, h⟩
        · obtain rfl := Option.some.inj h
          exact .of_done tab mixed [.br true, .br false, .br false, .br false, .br false, .br false, .br true] [] [2] [] rfl (nd c1 (nd p1 (nd (of_decide_eq_true c1) (nd c2 (nd c2 (nd c2 (nd p1 (nd (of_decide_eq_true c1) (nd c2 (nd c2 (nd c3 trivial))))))))))) (by kernel_rfl)
        · exact .of_step tab mixed [.br true, .br false, .br false, .br false, .br false, .br false, .br false] [] [0, 5, 6] [] (s1 := impl.NameOk.l0.s a0 (w64 (v5_0 + 1))) (nd c1 (nd p1 (nd (of_decide_eq_true c1) (nd c2 (nd c2 (nd c2 (nd p1 (nd (of_decide_eq_true c1) (nd c2 (nd c2 (nd c3 trivial))))))))))) (by kernel_rfl) (impl.NameOk.l0.spec a0 k (w64 (v5_0 + 1)) _ h)
    · obtain rfl := Option.some.inj h
      exact .of_done tab mixed [.br false] [] [0] [] rfl (nd c1 trivial) (by kernel_rfl)
def impl.in_.f (a0 : Int) (a1 : Int) (a2 : Int) : Option (Bool) :=
  cond (decide (a0 ≥ a1)) (some (decide (a0 ≤ a2))) (some false)
theorem impl.in_.spec (a0 : Int) (a1 : Int) (a2 : Int) (o : Bool) (h : impl.in_.f a0 a1 a2 = some o) : Den.Spec Try.prog 87 [one (.int .i64 a0), one (.int .i64 a1), one (.int .i64 a2)] [] (one (.bool o)) [] := by
  unfold impl.in_.f at h
  rcases br_cases h with ⟨c1, h⟩ | ⟨c1, h⟩
  · obtain rfl := Option.some.inj h
    exact Den.Spec.of_walk tab mixed Try.func87 (by kernel_rfl) [.br true, .br true, .br true, .br true] [] [] (nd c1 (nd c1 (nd c1 (nd c1 trivial)))) (by kernel_rfl)
  · obtain rfl := Option.some.inj h
    exact Den.Spec.of_walk tab mixed Try.func87 (by kernel_rfl) [.br false, .br false, .br false, .br false] [] [] (nd c1 (nd c1 (nd c1 (nd c1 trivial)))) (by kernel_rfl)
def impl.NameOk.f (K : Nat) (a0 : ByteArray) : Option (Bool) :=
  Option.bind (impl.NameOk.l0.f a0 K 0) fun x1 => (Sum.elim (fun x1 => some false) (fun x1 => Option.bind (impl.in_.f (a0.size : Int) 1 6) fun x2 => some x2)) x1
theorem impl.NameOk.spec (K : Nat) (a0 : ByteArray) (o : Bool) (h : impl.NameOk.f K a0 = some o) : Den.Spec Try.prog 72 [one (.str a0)] [] (one (.bool o)) [] := by
  unfold impl.NameOk.f at h
  obtain ⟨x1, e1, h⟩ := bind_some h
  rcases x1 with x1 | x1
  · obtain rfl := Option.some.inj h
    exact Den.Spec.of_walk tab mixed Try.func72 (by kernel_rfl) [.loop [] [0, 5, 6] [] (.ret) (impl.NameOk.l0.e0 a0 x1)] [] [] (nd (impl.NameOk.l0.spec a0 K 0 _ e1) trivial) (by kernel_rfl)
  · obtain ⟨x2, e2, h⟩ := bind_some h
    obtain rfl := Option.some.inj h
    exact Den.Spec.of_walk tab mixed Try.func72 (by kernel_rfl) [.loop [] [0, 5, 6] [] (.exit 0) (impl.NameOk.l0.e1 a0 x1), .call [] [] (one (.bool x2)) []] [] [] (nd (impl.NameOk.l0.spec a0 K 0 _ e1) (nd (impl.in_.spec (a0.size : Int) 1 6 _ e2) trivial)) (by kernel_rfl)
def impl.isKid.f (a0 : Int) : Option (Bool) :=
  Option.bind (impl.in_.f a0 1 11) fun x1 => some x1
theorem impl.isKid.spec (a0 : Int) (o : Bool) (h : impl.isKid.f a0 = some o) : Den.Spec Try.prog 111 [one (.int .i64 a0)] [] (one (.bool o)) [] := by
  unfold impl.isKid.f at h
  obtain ⟨x1, e1, h⟩ := bind_some h
  obtain rfl := Option.some.inj h
  exact Den.Spec.of_walk tab mixed Try.func111 (by kernel_rfl) [.call [] [] (one (.bool x1)) []] [] [] (nd (impl.in_.spec a0 1 11 _ e1) trivial) (by kernel_rfl)
def slices.Index_int_int.l0.f (a0 : List Int) (a1 : Int) : Nat → Int → Option (Int ⊕ Unit)
  | 0, _ => none
  | k + 1, v9_0 =>
    cond (decide (v9_0 < (a0.length : Int))) (ck (0 ≤ v9_0) (cond (a1 == (a0.getD v9_0.toNat 0)) (some (.inl v9_0)) (slices.Index_int_int.l0.f a0 a1 k (w64 (v9_0 + 1))))) (some (.inr (())))
def slices.Index_int_int.l0.s (a0 : List Int) (a1 : Int) (v9_0 : Int) : St := mkSt 19 [(0, one (.sl 0 0 a0.length)), (1, one (.int .i64 a1)), (7, one (.int .i64 (a0.length : Int))), (8, one (.int .i64 v9_0))] [some ⟨false, .ints .i64 a0⟩]
def slices.Index_int_int.l0.e0 (a0 : List Int) (a1 : Int) (o : Int) : St := mkSt 19 [(4, one (.int .i64 o))] [some ⟨false, .ints .i64 a0⟩]
def slices.Index_int_int.l0.e1 (a0 : List Int) (a1 : Int) (o : Unit) : St := mkSt 19 [] [some ⟨false, .ints .i64 a0⟩]
def slices.Index_int_int.l0.x (a0 : List Int) (a1 : Int) : (Int ⊕ Unit) → AExit × St := Sum.elim (fun o => (.ret, slices.Index_int_int.l0.e0 a0 a1 o)) (fun o => (.exit 0, slices.Index_int_int.l0.e1 a0 a1 o))
theorem slices.Index_int_int.l0.spec (a0 : List Int) (a1 : Int) : ∀ (k : Nat) (v9_0 : Int) (o : Int ⊕ Unit), slices.Index_int_int.l0.f a0 a1 k v9_0 = some o → LoopSpec Try.prog 1 (loopN Try.f112 0) (slices.Index_int_int.l0.s a0 a1 v9_0) (slices.Index_int_int.l0.x a0 a1 o).1 (slices.Index_int_int.l0.x a0 a1 o).2
  | 0, _, _, h => by cases h
  | k + 1, v9_0, o, h => by
    unfold slices.Index_int_int.l0.f at h
    rcases br_cases h with ⟨c1, h⟩ | ⟨c1, h⟩
    · obtain ⟨p1, h⟩ := ck_some h
      rcases br_cases h with ⟨c2, h⟩ | ⟨c2, h⟩
      · obtain rfl := Option.some.inj h
        exact .of_done tab mixed [.br true, .br true] [] [4] [0] rfl (nd c1 (nd p1 (nd (of_decide_eq_true c1) (nd (tn p1 (of_decide_eq_true c1)) (nd c2 trivial))))) (by kernel_rfl)
      · exact .of_step tab mixed [.br true, .br false] [] [0, 1, 7, 8] [0] (s1 := slices.Index_int_int.l0.s a0 a1 (w64 (v9_0 + 1))) (nd c1 (nd p1 (nd (of_decide_eq_true c1) (nd (tn p1 (of_decide_eq_true c1)) (nd c2 trivial))))) (by kernel_rfl) (slices.Index_int_int.l0.spec a0 a1 k (w64 (v9_0 + 1)) _ h)
    · obtain rfl := Option.some.inj h
      exact .of_done tab mixed [.br false] [] [] [0] rfl (nd c1 trivial) (by kernel_rfl)
def slices.Index_int_int.f (K : Nat) (a0 : List Int) (a1 : Int) : Option (Int) :=
  Option.bind (slices.Index_int_int.l0.f a0 a1 K 0) fun x1 => (Sum.elim (fun x1 => some x1) (fun x1 => some (-1))) x1
theorem slices.Index_int_int.spec (K : Nat) (a0 : List Int) (a1 : Int) (o : Int) (h : slices.Index_int_int.f K a0 a1 = some o) : Den.Spec Try.prog 112 [one (.sl 0 0 a0.length), one (.int .i64 a1)] [some ⟨false, .ints .i64 a0⟩] (one (.int .i64 o)) [some ⟨false, .ints .i64 a0⟩] := by
  unfold slices.Index_int_int.f at h
  obtain ⟨x1, e1, h⟩ := bind_some h
  rcases x1 with x1 | x1
  · obtain rfl := Option.some.inj h
    exact Den.Spec.of_walk tab mixed Try.func112 (by kernel_rfl) [.loop [] [0, 1, 7, 8] [0] (.ret) (slices.Index_int_int.l0.e0 a0 a1 x1)] [] [0] (nd (slices.Index_int_int.l0.spec a0 a1 K 0 _ e1) trivial) (by kernel_rfl)
  · obtain rfl := Option.some.inj h
    exact Den.Spec.of_walk tab mixed Try.func112 (by kernel_rfl) [.loop [] [0, 1, 7, 8] [0] (.exit 0) (slices.Index_int_int.l0.e1 a0 a1 x1)] [] [0] (nd (slices.Index_int_int.l0.spec a0 a1 K 0 _ e1) trivial) (by kernel_rfl)
def impl.NodeOk.l0.f (K : Nat) (a0 : Bool) (a1 : List ByteArray) (a2 : List Int) (a3 : ByteArray) : Nat → Int → Option (Unit ⊕ Unit)
  | 0, _ => none
  | k + 1, v11_0 =>
    cond (decide (v11_0 < (a1.length : Int))) (ck (0 ≤ v11_0) (Option.bind (impl.NameOk.f K (a1.getD v11_0.toNat noVal)) fun x1 => cond (x1) (cond (decide (v11_0 > 0)) (ck (0 ≤ (w64 (v11_0 - 1))) (ck ((w64 (v11_0 - 1)) < (a1.length : Int)) (cond (strLt (a1.getD ((w64 (v11_0 - 1)).toNat) noVal) (a1.getD v11_0.toNat noVal)) (ck (v11_0 < (a2.length : Int)) (Option.bind (impl.isKid.f (a2.getD v11_0.toNat 0)) fun x2 => cond (x2) (Option.bind (slices.Index_int_int.f K a2 (a2.getD v11_0.toNat 0)) fun x3 => cond (x3 != v11_0) (some (.inl ())) (impl.NodeOk.l0.f K a0 a1 a2 a3 k (w64 (v11_0 + 1)))) (some (.inl ())))) (some (.inl ()))))) (ck (v11_0 < (a2.length : Int)) (Option.bind (impl.isKid.f (a2.getD v11_0.toNat 0)) fun x2 => cond (x2) (Option.bind (slices.Index_int_int.f K a2 (a2.getD v11_0.toNat 0)) fun x3 => cond (x3 != v11_0) (some (.inl ())) (impl.NodeOk.l0.f K a0 a1 a2 a3 k (w64 (v11_0 + 1)))) (some (.inl ()))))) (some (.inl ())))) (some (.inr (())))
def impl.NodeOk.l0.s (K : Nat) (a0 : Bool) (a1 : List ByteArray) (a2 : List Int) (a3 : ByteArray) (v11_0 : Int) : St := mkSt 83 [(1, one (.ptr 2 0 0)), (37, one (.sl 0 0 a1.length)), (38, one (.int .i64 (a1.length : Int))), (39, one (.int .i64 v11_0))] [some ⟨false, .strs a1⟩, some ⟨false, .ints .i64 a2⟩, some ⟨true, .cells [.bool a0, .sl 0 0 a1.length, .sl 1 0 a2.length, .str a3]⟩]
def impl.NodeOk.l0.e0 (K : Nat) (a0 : Bool) (a1 : List ByteArray) (a2 : List Int) (a3 : ByteArray) (o : Unit) : St := mkSt 83 [(2, one (.bool false))] [some ⟨false, .strs a1⟩, some ⟨false, .ints .i64 a2⟩]
def impl.NodeOk.l0.e1 (K : Nat) (a0 : Bool) (a1 : List ByteArray) (a2 : List Int) (a3 : ByteArray) (o : Unit) : St := mkSt 83 [] [some ⟨false, .strs a1⟩, some ⟨false, .ints .i64 a2⟩]
def impl.NodeOk.l0.x (K : Nat) (a0 : Bool) (a1 : List ByteArray) (a2 : List Int) (a3 : ByteArray) : (Unit ⊕ Unit) → AExit × St := Sum.elim (fun o => (.ret, impl.NodeOk.l0.e0 K a0 a1 a2 a3 o)) (fun o => (.exit 0, impl.NodeOk.l0.e1 K a0 a1 a2 a3 o))
theorem impl.NodeOk.l0.spec (K : Nat) (a0 : Bool) (a1 : List ByteArray) (a2 : List Int) (a3 : ByteArray) : ∀ (k : Nat) (v11_0 : Int) (o : Unit ⊕ Unit), impl.NodeOk.l0.f K a0 a1 a2 a3 k v11_0 = some o → LoopSpec Try.prog 2 (loopN Try.f67 0) (impl.NodeOk.l0.s K a0 a1 a2 a3 v11_0) (impl.NodeOk.l0.x K a0 a1 a2 a3 o).1 (impl.NodeOk.l0.x K a0 a1 a2 a3 o).2
  | 0, _, _, h => by cases h
  | k + 1, v11_0, o, h => by
    unfold impl.NodeOk.l0.f at h
    rcases br_cases h with ⟨c1, h⟩ | ⟨c1, h⟩
    · obtain ⟨p1, h⟩ := ck_some h
      obtain ⟨x1, e1, h⟩ := bind_some h
      rcases br_cases h with ⟨c2, h⟩ | ⟨c2, h⟩
      · rcases br_cases h with ⟨c3, h⟩ | ⟨c3, h⟩
        · obtain ⟨p2, h⟩ := ck_some h
          obtain ⟨p3, h⟩ := ck_some h
          rcases br_cases h with ⟨c4, h⟩ | ⟨c4, h⟩
          · obtain ⟨p4, h⟩ := ck_some h
            obtain ⟨x2, e2, h⟩ := bind_some h
            rcases br_cases h with ⟨c5, h⟩ | ⟨c5, h⟩
            · obtain ⟨x3, e3, h⟩ := bind_some h
              rcases br_cases h with ⟨c6, h⟩ | ⟨c6, h⟩
              · obtain rfl := Option.some.inj h
                exact .of_done tab mixed [.br true, .call [] [] (one (.bool x1)) [], .br false, .br false, .br false, .br true, .br true, .br true, .br true, .br true, .br true, .br true, .br true, .br false, .br true, .br false, .br false, .br false, .br false, .br false, .br false, .br false, .call [] [] (one (.bool x2)) [], .br false, .br false, .br false, .br false, .br false, .br false, .br false, .br false, .br false, .br false, .call [] [(0, true)] (one (.int .i64 x3)) [some ⟨false, .ints .i64 a2⟩], .br false, .br false, .br false, .br true] [] [2] [0, 1] rfl (nd c1 (nd p1 (nd (of_decide_eq_true c1) (nd (tn p1 (of_decide_eq_true c1)) (nd (impl.NameOk.spec K (a1.getD v11_0.toNat noVal) _ e1) (nd (nf c2) (nd (nf c2) (nd (nf c2) (nd c3 (nd c3 (nd c3 (nd c3 (nd c3 (nd p2 (nd p3 (nd c3 (nd (tn p2 p3) (nd c3 (nd c3 (nd (nf c2) (nd c3 (nd (nf c2) (nd (nf c4) (nd (nf c4) (nd (nf c4) (nd (nf c4) (nd p1 (nd p4 (nd (nf c4) (nd (tn p1 p4) (nd (nf c4) (nd (impl.isKid.spec (a2.getD v11_0.toNat 0) _ e2) (nd (nf c4) (nd (nf c4) (nd (nf c5) (nd (nf c5) (nd (nf c5) (nd (nf c5) (nd (nf c5) (nd (nf c5) (nd p1 (nd p4 (nd (nf c5) (nd (tn p1 p4) (nd (nf c5) (nd (slices.Index_int_int.spec K a2 (a2.getD v11_0.toNat 0) _ e3) (nd (rfl : (0 : Nat) = 0) (nd (rfl : a2.length = a2.length) (nd (nf c5) (nd (nf c5) (nd (nf c5) (nd c6 trivial)))))))))))))))))))))))))))))))))))))))))))))))))))) (by kernel_rfl)
              · exact .of_step tab mixed [.br true, .call [] [] (one (.bool x1)) [], .br false, .br false, .br false, .br true, .br true, .br true, .br true, .br true, .br true, .br true, .br true, .br false, .br true, .br false, .br false, .br false, .br false, .br false, .br false, .br false, .call [] [] (one (.bool x2)) [], .br false, .br false, .br false, .br false, .br false, .br false, .br false, .br false, .br false, .br false, .call [] [(0, true)] (one (.int .i64 x3)) [some ⟨false, .ints .i64 a2⟩], .br false, .br false, .br false, .br false] [] [1, 37, 38, 39] [0, 1, 2] (s1 := impl.NodeOk.l0.s K a0 a1 a2 a3 (w64 (v11_0 + 1))) (nd c1 (nd p1 (nd (of_decide_eq_true c1) (nd (tn p1 (of_decide_eq_true c1)) (nd (impl.NameOk.spec K (a1.getD v11_0.toNat noVal) _ e1) (nd (nf c2) (nd (nf c2) (nd (nf c2) (nd c3 (nd c3 (nd c3 (nd c3 (nd c3 (nd p2 (nd p3 (nd c3 (nd (tn p2 p3) (nd c3 (nd c3 (nd (nf c2) (nd c3 (nd (nf c2) (nd (nf c4) (nd (nf c4) (nd (nf c4) (nd (nf c4) (nd p1 (nd p4 (nd (nf c4) (nd (tn p1 p4) (nd (nf c4) (nd (impl.isKid.spec (a2.getD v11_0.toNat 0) _ e2) (nd (nf c4) (nd (nf c4) (nd (nf c5) (nd (nf c5) (nd (nf c5) (nd (nf c5) (nd (nf c5) (nd (nf c5) (nd p1 (nd p4 (nd (nf c5) (nd (tn p1 p4) (nd (nf c5) (nd (slices.Index_int_int.spec K a2 (a2.getD v11_0.toNat 0) _ e3) (nd (rfl : (0 : Nat) = 0) (nd (rfl : a2.length = a2.length) (nd (nf c5) (nd (nf c5) (nd (nf c5) (nd c6 trivial)))))))))))))))))))))))))))))))))))))))))))))))))))) (by kernel_rfl) (impl.NodeOk.l0.spec K a0 a1 a2 a3 k (w64 (v11_0 + 1)) _ h)
            · obtain rfl := Option.some.inj h
              exact .of_done tab mixed [.br true, .call [] [] (one (.bool x1)) [], .br false, .br false, .br false, .br true, .br true, .br true, .br true, .br true, .br true, .br true, .br true, .br false, .br true, .br false, .br false, .br false, .br false, .br false, .br false, .br false, .call [] [] (one (.bool x2)) [], .br false, .br false, .br true, .br true, .br true, .br true, .br true, .br true, .br true, .br true, .br true, .br true, .br true, .br true] [] [2] [0, 1] rfl (nd c1 (nd p1 (nd (of_decide_eq_true c1) (nd (tn p1 (of_decide_eq_true c1)) (nd (impl.NameOk.spec K (a1.getD v11_0.toNat noVal) _ e1) (nd (nf c2) (nd (nf c2) (nd (nf c2) (nd c3 (nd c3 (nd c3 (nd c3 (nd c3 (nd p2 (nd p3 (nd c3 (nd (tn p2 p3) (nd c3 (nd c3 (nd (nf c2) (nd c3 (nd (nf c2) (nd (nf c4) (nd (nf c4) (nd (nf c4) (nd (nf c4) (nd p1 (nd p4 (nd (nf c4) (nd (tn p1 p4) (nd (nf c4) (nd (impl.isKid.spec (a2.getD v11_0.toNat 0) _ e2) (nd (nf c4) (nd (nf c4) (nd (nt c5) (nd (nt c5) (nd (nt c5) (nd (nt c5) (nd (nt c5) (nd (nt c5) (nd (nt c5) (nd (nt c5) (nd (nt c5) (nd (nt c5) (nd (nt c5) (nd tt trivial)))))))))))))))))))))))))))))))))))))))))))))) (by kernel_rfl)
          · obtain rfl := Option.some.inj h
            exact .of_done tab mixed [.br true, .call [] [] (one (.bool x1)) [], .br false, .br false, .br false, .br true, .br true, .br true, .br true, .br true, .br true, .br true, .br true, .br false, .br true, .br false, .br true, .br true, .br true, .br true, .br true, .br true, .br true, .br true, .br true, .br true, .br true, .br true, .br true, .br true, .br true, .br true, .br true, .br true, .br true, .br true] [] [2] [0, 1] rfl (nd c1 (nd p1 (nd (of_decide_eq_true c1) (nd (tn p1 (of_decide_eq_true c1)) (nd (impl.NameOk.spec K (a1.getD v11_0.toNat noVal) _ e1) (nd (nf c2) (nd (nf c2) (nd (nf c2) (nd c3 (nd c3 (nd c3 (nd c3 (nd c3 (nd p2 (nd p3 (nd c3 (nd (tn p2 p3) (nd c3 (nd c3 (nd (nf c2) (nd c3 (nd (nf c2) (nd (nt c4) (nd (nt c4) (nd (nt c4) (nd (nt c4) (nd (nt c4) (nd (nt c4) (nd (nt c4) (nd (nt c4) (nd tt (nd tt (nd tt (nd tt (nd tt (nd tt (nd tt (nd tt (nd tt (nd tt (nd tt (nd tt trivial)))))))))))))))))))))))))))))))))))))))))) (by kernel_rfl)
        · obtain ⟨p2, h⟩ := ck_some h
          obtain ⟨x2, e2, h⟩ := bind_some h
          rcases br_cases h with ⟨c4, h⟩ | ⟨c4, h⟩
          · obtain ⟨x3, e3, h⟩ := bind_some h
            rcases br_cases h with ⟨c5, h⟩ | ⟨c5, h⟩
            · obtain rfl := Option.some.inj h
              exact .of_done tab mixed [.br true, .call [] [] (one (.bool x1)) [], .br false, .br false, .br false, .br false, .br false, .br false, .br false, .br false, .br false, .br false, .br false, .br false, .br false, .br false, .br false, .br false, .br false, .br false, .br false, .br false, .call [] [] (one (.bool x2)) [], .br false, .br false, .br false, .br false, .br false, .br false, .br false, .br false, .br false, .br false, .call [] [(0, true)] (one (.int .i64 x3)) [some ⟨false, .ints .i64 a2⟩], .br false, .br false, .br false, .br true] [] [2] [0, 1] rfl (nd c1 (nd p1 (nd (of_decide_eq_true c1) (nd (tn p1 (of_decide_eq_true c1)) (nd (impl.NameOk.spec K (a1.getD v11_0.toNat noVal) _ e1) (nd (nf c2) (nd (nf c2) (nd (nf c2) (nd c3 (nd c3 (nd c3 (nd c3 (nd c3 (nd c3 (nd c3 (nd c3 (nd (nf c2) (nd c3 (nd (nf c2) (nd ff (nd ff (nd ff (nd ff (nd p1 (nd p2 (nd ff (nd (tn p1 p2) (nd ff (nd (impl.isKid.spec (a2.getD v11_0.toNat 0) _ e2) (nd ff (nd ff (nd (nf c4) (nd (nf c4) (nd (nf c4) (nd (nf c4) (nd (nf c4) (nd (nf c4) (nd p1 (nd p2 (nd (nf c4) (nd (tn p1 p2) (nd (nf c4) (nd (slices.Index_int_int.spec K a2 (a2.getD v11_0.toNat 0) _ e3) (nd (rfl : (0 : Nat) = 0) (nd (rfl : a2.length = a2.length) (nd (nf c4) (nd (nf c4) (nd (nf c4) (nd c5 trivial))))))))))))))))))))))))))))))))))))))))))))))))) (by kernel_rfl)
            · exact .of_step tab mixed [.br true, .call [] [] (one (.bool x1)) [], .br false, .br false, .br false, .br false, .br false, .br false, .br false, .br false, .br false, .br false, .br false, .br false, .br false, .br false, .br false, .br false, .br false, .br false, .br false, .br false, .call [] [] (one (.bool x2)) [], .br false, .br false, .br false, .br false, .br false, .br false, .br false, .br false, .br false, .br false, .call [] [(0, true)] (one (.int .i64 x3)) [some ⟨false, .ints .i64 a2⟩], .br false, .br false, .br false, .br false] [] [1, 37, 38, 39] [0, 1, 2] (s1 := impl.NodeOk.l0.s K a0 a1 a2 a3 (w64 (v11_0 + 1))) (nd c1 (nd p1 (nd (of_decide_eq_true c1) (nd (tn p1 (of_decide_eq_true c1)) (nd (impl.NameOk.spec K (a1.getD v11_0.toNat noVal) _ e1) (nd (nf c2) (nd (nf c2) (nd (nf c2) (nd c3 (nd c3 (nd c3 (nd c3 (nd c3 (nd c3 (nd c3 (nd c3 (nd (nf c2) (nd c3 (nd (nf c2) (nd ff (nd ff (nd ff (nd ff (nd p1 (nd p2 (nd ff (nd (tn p1 p2) (nd ff (nd (impl.isKid.spec (a2.getD v11_0.toNat 0) _ e2) (nd ff (nd ff (nd (nf c4) (nd (nf c4) (nd (nf c4) (nd (nf c4) (nd (nf c4) (nd (nf c4) (nd p1 (nd p2 (nd (nf c4) (nd (tn p1 p2) (nd (nf c4) (nd (slices.Index_int_int.spec K a2 (a2.getD v11_0.toNat 0) _ e3) (nd (rfl : (0 : Nat) = 0) (nd (rfl : a2.length = a2.length) (nd (nf c4) (nd (nf c4) (nd (nf c4) (nd c5 trivial))))))))))))))))))))))))))))))))))))))))))))))))) (by kernel_rfl) (impl.NodeOk.l0.spec K a0 a1 a2 a3 k (w64 (v11_0 + 1)) _ h)
          · obtain rfl := Option.some.inj h
            exact .of_done tab mixed [.br true, .call [] [] (one (.bool x1)) [], .br false, .br false, .br false, .br false, .br false, .br false, .br false, .br false, .br false, .br false, .br false, .br false, .br false, .br false, .br false, .br false, .br false, .br false, .br false, .br false, .call [] [] (one (.bool x2)) [], .br false, .br false, .br true, .br true, .br true, .br true, .br true, .br true, .br true, .br true, .br true, .br true, .br true, .br true] [] [2] [0, 1] rfl (nd c1 (nd p1 (nd (of_decide_eq_true c1) (nd (tn p1 (of_decide_eq_true c1)) (nd (impl.NameOk.spec K (a1.getD v11_0.toNat noVal) _ e1) (nd (nf c2) (nd (nf c2) (nd (nf c2) (nd c3 (nd c3 (nd c3 (nd c3 (nd c3 (nd c3 (nd c3 (nd c3 (nd (nf c2) (nd c3 (nd (nf c2) (nd ff (nd ff (nd ff (nd ff (nd p1 (nd p2 (nd ff (nd (tn p1 p2) (nd ff (nd (impl.isKid.spec (a2.getD v11_0.toNat 0) _ e2) (nd ff (nd ff (nd (nt c4) (nd (nt c4) (nd (nt c4) (nd (nt c4) (nd (nt c4) (nd (nt c4) (nd (nt c4) (nd (nt c4) (nd (nt c4) (nd (nt c4) (nd (nt c4) (nd tt trivial))))))))))))))))))))))))))))))))))))))))))) (by kernel_rfl)
      · obtain rfl := Option.some.inj h
        exact .of_done tab mixed [.br true, .call [] [] (one (.bool x1)) [], .br true, .br true, .br true, .br true, .br true, .br true, .br true, .br true, .br true, .br true, .br true, .br true, .br true, .br true, .br true, .br true, .br true, .br true, .br true, .br true, .br true, .br true, .br true, .br true, .br true] [] [2] [0, 1] rfl (nd c1 (nd p1 (nd (of_decide_eq_true c1) (nd (tn p1 (of_decide_eq_true c1)) (nd (impl.NameOk.spec K (a1.getD v11_0.toNat noVal) _ e1) (nd (nt c2) (nd (nt c2) (nd (nt c2) (nd (nt c2) (nd (nt c2) (nd tt (nd tt (nd tt (nd tt (nd tt (nd tt (nd tt (nd tt (nd tt (nd tt (nd tt (nd tt (nd tt (nd tt (nd tt (nd tt (nd tt (nd tt (nd tt (nd tt trivial)))))))))))))))))))))))))))))) (by kernel_rfl)
    · obtain rfl := Option.some.inj h
      exact .of_done tab mixed [.br false] [] [] [0, 1] rfl (nd c1 trivial) (by kernel_rfl)
def impl.NodeOk.f (K : Nat) (a0 : Bool) (a1 : List ByteArray) (a2 : List Int) (a3 : ByteArray) : Option (Bool) :=
  cond (a0) (cond ((a1.length : Int) != (a2.length : Int)) (some false) (cond (strEq a3 noVal) (Option.bind (impl.NodeOk.l0.f K a0 a1 a2 a3 K 0) fun x1 => (Sum.elim (fun x1 => some false) (fun x1 => some true)) x1) (some false))) (cond ((a1.length : Int) == 0) (cond ((a2.length : Int) == 0) (some (decide ((a3.size : Int) ≤ 60))) (some false)) (some false))
theorem impl.NodeOk.spec (K : Nat) (a0 : Bool) (a1 : List ByteArray) (a2 : List Int) (a3 : ByteArray) (o : Bool) (h : impl.NodeOk.f K a0 a1 a2 a3 = some o) : Den.Spec Try.prog 67 [.v (.agg [.bool a0, .sl 0 0 a1.length, .sl 1 0 a2.length, .str a3])] [some ⟨false, .strs a1⟩, some ⟨false, .ints .i64 a2⟩] (one (.bool o)) [some ⟨false, .strs a1⟩, some ⟨false, .ints .i64 a2⟩] := by
  unfold impl.NodeOk.f at h
  rcases br_cases h with ⟨c1, h⟩ | ⟨c1, h⟩
  · rcases br_cases h with ⟨c2, h⟩ | ⟨c2, h⟩
    · obtain rfl := Option.some.inj h
      exact Den.Spec.of_walk tab mixed Try.func67 (by kernel_rfl) [.br false, .br true, .br true, .br true, .br true, .br true] [] [0, 1] (nd (nf c1) (nd c2 (nd c2 (nd c2 (nd c2 (nd tt trivial)))))) (by kernel_rfl)
    · rcases br_cases h with ⟨c3, h⟩ | ⟨c3, h⟩
      · obtain ⟨x1, e1, h⟩ := bind_some h
        rcases x1 with x1 | x1
        · obtain rfl := Option.some.inj h
          exact Den.Spec.of_walk tab mixed Try.func67 (by kernel_rfl) [.br false, .br false, .br false, .br false, .br false, .br false, .loop [] [1, 37, 38, 39] [0, 1, 2] (.ret) (impl.NodeOk.l0.e0 K a0 a1 a2 a3 x1)] [] [0, 1] (nd (nf c1) (nd c2 (nd c2 (nd c2 (nd c2 (nd (nf c3) (nd (impl.NodeOk.l0.spec K a0 a1 a2 a3 K 0 _ e1) trivial))))))) (by kernel_rfl)
        · obtain rfl := Option.some.inj h
          exact Den.Spec.of_walk tab mixed Try.func67 (by kernel_rfl) [.br false, .br false, .br false, .br false, .br false, .br false, .loop [] [1, 37, 38, 39] [0, 1, 2] (.exit 0) (impl.NodeOk.l0.e1 K a0 a1 a2 a3 x1)] [] [0, 1] (nd (nf c1) (nd c2 (nd c2 (nd c2 (nd c2 (nd (nf c3) (nd (impl.NodeOk.l0.spec K a0 a1 a2 a3 K 0 _ e1) trivial))))))) (by kernel_rfl)
      · obtain rfl := Option.some.inj h
        exact Den.Spec.of_walk tab mixed Try.func67 (by kernel_rfl) [.br false, .br false, .br false, .br false, .br false, .br true] [] [0, 1] (nd (nf c1) (nd c2 (nd c2 (nd c2 (nd c2 (nd (nt c3) trivial)))))) (by kernel_rfl)
  · rcases br_cases h with ⟨c2, h⟩ | ⟨c2, h⟩
    · rcases br_cases h with ⟨c3, h⟩ | ⟨c3, h⟩
      · obtain rfl := Option.some.inj h
        exact Den.Spec.of_walk tab mixed Try.func67 (by kernel_rfl) [.br true, .br true, .br true, .br true, .br true, .br true, .br true, .br true, .br true, .br true, .br true] [] [0, 1] (nd (nt c1) (nd c2 (nd c2 (nd c2 (nd c2 (nd c2 (nd c3 (nd c3 (nd c3 (nd c3 (nd c3 trivial))))))))))) (by kernel_rfl)
      · obtain rfl := Option.some.inj h
        exact Den.Spec.of_walk tab mixed Try.func67 (by kernel_rfl) [.br true, .br true, .br true, .br true, .br true, .br true, .br false, .br false, .br false, .br false, .br false] [] [0, 1] (nd (nt c1) (nd c2 (nd c2 (nd c2 (nd c2 (nd c2 (nd c3 (nd c3 (nd c3 (nd c3 (nd c3 trivial))))))))))) (by kernel_rfl)
    · obtain rfl := Option.some.inj h
      exact Den.Spec.of_walk tab mixed Try.func67 (by kernel_rfl) [.br true, .br false, .br false, .br false, .br false, .br false, .br false, .br false, .br false, .br false, .br false] [] [0, 1] (nd (nt c1) (nd c2 (nd c2 (nd c2 (nd c2 (nd c2 (nd ff (nd ff (nd ff (nd ff (nd ff trivial))))))))))) (by kernel_rfl)
def impl.NodeText.l0.f (a0 : Bool) (a1 : List ByteArray) (a2 : List Int) (a3 : ByteArray) : Nat → (List Int) → Int → Option ((List Int))
  | 0, _, _ => none
  | k + 1, v14_0, v14_1 =>
    cond (decide (v14_1 < (a1.length : Int))) (ck (0 ≤ v14_1) (ck ((v14_0 ++ (bytesL (a1.getD v14_1.toNat noVal))).length * 1 ≤ 70368744177664) (ck (v14_1 < (a2.length : Int)) (ck (((v14_0 ++ (bytesL (a1.getD v14_1.toNat noVal))) ++ [61, IntKind.u8.wrap (w64 (48 + (a2.getD v14_1.toNat 0)))]).length * 1 ≤ 70368744177664) (impl.NodeText.l0.f a0 a1 a2 a3 k ((v14_0 ++ (bytesL (a1.getD v14_1.toNat noVal))) ++ [61, IntKind.u8.wrap (w64 (48 + (a2.getD v14_1.toNat 0)))]) (w64 (v14_1 + 1))))))) (some v14_0)
def impl.NodeText.l0.s (a0 : Bool) (a1 : List ByteArray) (a2 : List Int) (a3 : ByteArray) (v14_0 : List Int) (v14_1 : Int) : St := mkSt 40 [(1, one (.ptr 2 0 0)), (3, one (.sl 3 0 v14_0.length)), (18, one (.sl 0 0 a1.length)), (19, one (.int .i64 (a1.length : Int))), (20, one (.int .i64 v14_1))] [some ⟨false, .strs a1⟩, some ⟨false, .ints .i64 a2⟩, some ⟨true, .cells [.bool a0, .sl 0 0 a1.length, .sl 1 0 a2.length, .str a3]⟩, some ⟨true, .ints .u8 v14_0⟩]
def impl.NodeText.l0.e0 (a0 : Bool) (a1 : List ByteArray) (a2 : List Int) (a3 : ByteArray) (o : (List Int)) : St := mkSt 40 [(3, one (.sl 2 0 o.length))] [some ⟨false, .strs a1⟩, some ⟨false, .ints .i64 a2⟩, some ⟨true, .ints .u8 o⟩]
def impl.NodeText.l0.x (a0 : Bool) (a1 : List ByteArray) (a2 : List Int) (a3 : ByteArray) : ((List Int)) → AExit × St := fun o => (.exit 0, impl.NodeText.l0.e0 a0 a1 a2 a3 o)
theorem impl.NodeText.l0.spec (a0 : Bool) (a1 : List ByteArray) (a2 : List Int) (a3 : ByteArray) : ∀ (k : Nat) (v14_0 : List Int) (v14_1 : Int) (o : (List Int)), impl.NodeText.l0.f a0 a1 a2 a3 k v14_0 v14_1 = some o → LoopSpec Try.prog 2 (loopN Try.f38 0) (impl.NodeText.l0.s a0 a1 a2 a3 v14_0 v14_1) (impl.NodeText.l0.x a0 a1 a2 a3 o).1 (impl.NodeText.l0.x a0 a1 a2 a3 o).2
  | 0, _, _, _, h => by cases h
  | k + 1, v14_0, v14_1, o, h => by
    unfold impl.NodeText.l0.f at h
    rcases br_cases h with ⟨c1, h⟩ | ⟨c1, h⟩
    · obtain ⟨p1, h⟩ := ck_some h
      obtain ⟨p2, h⟩ := ck_some h
      obtain ⟨p3, h⟩ := ck_some h
      obtain ⟨p4, h⟩ := ck_some h
      exact .of_step tab mixed [.br true, .br true] [] [1, 3, 18, 19, 20] [0, 1, 2, 92] (s1 := impl.NodeText.l0.s a0 a1 a2 a3 ((v14_0 ++ (bytesL (a1.getD v14_1.toNat noVal))) ++ [61, IntKind.u8.wrap (w64 (48 + (a2.getD v14_1.toNat 0)))]) (w64 (v14_1 + 1))) (nd c1 (nd p1 (nd (of_decide_eq_true c1) (nd (tn p1 (of_decide_eq_true c1)) (nd (rfl : (0 : Nat) = 0) (nd (rfl : v14_0.length = v14_0.length) (nd p2 (nd p1 (nd p3 (nd (tn p1 p3) (nd (rfl : (0 : Nat) = 0) (nd (rfl : (v14_0 ++ (bytesL (a1.getD v14_1.toNat noVal))).length = (v14_0 ++ (bytesL (a1.getD v14_1.toNat noVal))).length) (nd p4 (nd (rfl : (0 : Nat) = 0) (nd (rfl : 2 = 2) trivial))))))))))))))) (by kernel_rfl) (impl.NodeText.l0.spec a0 a1 a2 a3 k ((v14_0 ++ (bytesL (a1.getD v14_1.toNat noVal))) ++ [61, IntKind.u8.wrap (w64 (48 + (a2.getD v14_1.toNat 0)))]) (w64 (v14_1 + 1)) _ h)
    · obtain rfl := Option.some.inj h
      exact .of_done tab mixed [.br false] [] [3] [0, 1, 3] rfl (nd c1 trivial) (by kernel_rfl)
def impl.NodeText.f (K : Nat) (a0 : Bool) (a1 : List ByteArray) (a2 : List Int) (a3 : ByteArray) : Option (ByteArray) :=
  Option.bind (impl.NodeOk.f K a0 a1 a2 a3) fun x1 => cond (x1) (cond (a0) (Option.bind (impl.NodeText.l0.f a0 a1 a2 a3 K [100] 0) fun x2 => some (ofBytes x2)) (ck ((((ByteArray.mk #[102]).size + a3.size : Nat) : Int) ≤ 9223372036854775807) (some ((ByteArray.mk #[102]) ++ a3)))) (some noVal)
theorem impl.NodeText.spec (K : Nat) (a0 : Bool) (a1 : List ByteArray) (a2 : List Int) (a3 : ByteArray) (o : ByteArray) (h : impl.NodeText.f K a0 a1 a2 a3 = some o) : Den.Spec Try.prog 38 [.v (.agg [.bool a0, .sl 0 0 a1.length, .sl 1 0 a2.length, .str a3])] [some ⟨false, .strs a1⟩, some ⟨false, .ints .i64 a2⟩] (one (.str o)) [some ⟨false, .strs a1⟩, some ⟨false, .ints .i64 a2⟩] := by
  unfold impl.NodeText.f at h
  obtain ⟨x1, e1, h⟩ := bind_some h
  rcases br_cases h with ⟨c1, h⟩ | ⟨c1, h⟩
  · rcases br_cases h with ⟨c2, h⟩ | ⟨c2, h⟩
    · obtain ⟨x2, e2, h⟩ := bind_some h
      obtain rfl := Option.some.inj h
      exact Den.Spec.of_walk tab mixed Try.func38 (by kernel_rfl) [.call [(0, false), (1, false)] [] (one (.bool x1)) [some ⟨false, .strs a1⟩, some ⟨false, .ints .i64 a2⟩], .br false, .br false, .loop [] [1, 3, 18, 19, 20] [0, 1, 2, 3] (.exit 0) (impl.NodeText.l0.e0 a0 a1 a2 a3 x2), .br true] [] [0, 1] (nd (impl.NodeOk.spec K a0 a1 a2 a3 _ e1) (nd (nf c1) (nd (nf c2) (nd (by decide : ((0 : Nat) < 1)) (nd (impl.NodeText.l0.spec a0 a1 a2 a3 K [100] 0 _ e2) (nd (rfl : (0 : Nat) = 0) (nd (rfl : x2.length = x2.length) trivial))))))) (by kernel_rfl)
    · obtain ⟨p1, h⟩ := ck_some h
      obtain rfl := Option.some.inj h
      exact Den.Spec.of_walk tab mixed Try.func38 (by kernel_rfl) [.call [(0, false), (1, false)] [] (one (.bool x1)) [some ⟨false, .strs a1⟩, some ⟨false, .ints .i64 a2⟩], .br false, .br true] [] [0, 1] (nd (impl.NodeOk.spec K a0 a1 a2 a3 _ e1) (nd (nf c1) (nd (nt c2) (nd p1 trivial)))) (by kernel_rfl)
  · obtain rfl := Option.some.inj h
    exact Den.Spec.of_walk tab mixed Try.func38 (by kernel_rfl) [.call [(0, false), (1, false)] [] (one (.bool x1)) [some ⟨false, .strs a1⟩, some ⟨false, .ints .i64 a2⟩], .br true] [] [0, 1] (nd (impl.NodeOk.spec K a0 a1 a2 a3 _ e1) (nd (nt c1) trivial)) (by kernel_rfl)
def impl.VolumeNew.f (K : Nat) : Option ((List ByteArray)) :=
  ck ((12 * (16 : Int)) ≤ 70368744177664) (Option.bind (impl.NodeText.f K true [] [] noVal) fun x1 => ck (0 < ((List.replicate 12 noVal).length : Int)) (ck (0 < (List.replicate 12 noVal).length) (some ((List.replicate 12 noVal).set 0 x1))))
theorem impl.VolumeNew.spec (K : Nat) (o : (List ByteArray)) (h : impl.VolumeNew.f K = some o) : Den.Spec Try.prog 77 [] [] (one (.sl 0 0 ((List.replicate 12 noVal).length))) [some ⟨true, .strs o⟩] := by
  unfold impl.VolumeNew.f at h
  obtain ⟨p1, h⟩ := ck_some h
  obtain ⟨x1, e1, h⟩ := bind_some h
  obtain ⟨p2, h⟩ := ck_some h
  obtain ⟨p3, h⟩ := ck_some h
  obtain rfl := Option.some.inj h
  exact Den.Spec.of_walk tab mixed Try.func77 (by kernel_rfl) [.call [(1, false), (2, false)] [] (one (.str x1)) [some ⟨false, .strs []⟩, some ⟨false, .ints .i64 []⟩]] [] [0] (nd (by decide : (0 : Int) ≤ 12) (nd (rfl : (12 : Int) = (12 : Int)) (nd p1 (nd (impl.NodeText.spec K true [] [] noVal _ e1) (nd (Int.le_refl 0) (nd p2 (nd p3 trivial))))))) (by kernel_rfl)
def laws.eqStringS.l0.f (a0 : List ByteArray) (a1 : List ByteArray) : Nat → Int → Option (Unit ⊕ Unit)
  | 0, _ => none
  | k + 1, v18_0 =>
    cond (decide (v18_0 < (a0.length : Int))) (ck (0 ≤ v18_0) (ck (v18_0 < (a1.length : Int)) (cond (strEq (a0.getD v18_0.toNat noVal) (a1.getD v18_0.toNat noVal)) (laws.eqStringS.l0.f a0 a1 k (w64 (v18_0 + 1))) (some (.inl ()))))) (some (.inr (())))
def laws.eqStringS.l0.s (a0 : List ByteArray) (a1 : List ByteArray) (v18_0 : Int) : St := mkSt 26 [(0, one (.sl 0 0 a0.length)), (1, one (.sl 1 0 a1.length)), (5, one (.int .i64 v18_0))] [some ⟨false, .strs a0⟩, some ⟨false, .strs a1⟩]
def laws.eqStringS.l0.e0 (a0 : List ByteArray) (a1 : List ByteArray) (o : Unit) : St := mkSt 26 [(4, one (.bool false))] [some ⟨false, .strs a0⟩, some ⟨false, .strs a1⟩]
def laws.eqStringS.l0.e1 (a0 : List ByteArray) (a1 : List ByteArray) (o : Unit) : St := mkSt 26 [] [some ⟨false, .strs a0⟩, some ⟨false, .strs a1⟩]
def laws.eqStringS.l0.x (a0 : List ByteArray) (a1 : List ByteArray) : (Unit ⊕ Unit) → AExit × St := Sum.elim (fun o => (.ret, laws.eqStringS.l0.e0 a0 a1 o)) (fun o => (.exit 0, laws.eqStringS.l0.e1 a0 a1 o))
theorem laws.eqStringS.l0.spec (a0 : List ByteArray) (a1 : List ByteArray) : ∀ (k : Nat) (v18_0 : Int) (o : Unit ⊕ Unit), laws.eqStringS.l0.f a0 a1 k v18_0 = some o → LoopSpec Try.prog 2 (loopN Try.f64 0) (laws.eqStringS.l0.s a0 a1 v18_0) (laws.eqStringS.l0.x a0 a1 o).1 (laws.eqStringS.l0.x a0 a1 o).2
  | 0, _, _, h => by cases h
  | k + 1, v18_0, o, h => by
    unfold laws.eqStringS.l0.f at h
    rcases br_cases h with ⟨c1, h⟩ | ⟨c1, h⟩
    · obtain ⟨p1, h⟩ := ck_some h
      obtain ⟨p2, h⟩ := ck_some h
      rcases br_cases h with ⟨c2, h⟩ | ⟨c2, h⟩
      · exact .of_step tab mixed [.br true, .br false] [] [0, 1, 5] [0, 1] (s1 := laws.eqStringS.l0.s a0 a1 (w64 (v18_0 + 1))) (nd c1 (nd p1 (nd (of_decide_eq_true c1) (nd (tn p1 (of_decide_eq_true c1)) (nd p1 (nd p2 (nd (tn p1 p2) (nd (nf c2) trivial)))))))) (by kernel_rfl) (laws.eqStringS.l0.spec a0 a1 k (w64 (v18_0 + 1)) _ h)
      · obtain rfl := Option.some.inj h
        exact .of_done tab mixed [.br true, .br true] [] [4] [0, 1] rfl (nd c1 (nd p1 (nd (of_decide_eq_true c1) (nd (tn p1 (of_decide_eq_true c1)) (nd p1 (nd p2 (nd (tn p1 p2) (nd (nt c2) trivial)))))))) (by kernel_rfl)
    · obtain rfl := Option.some.inj h
      exact .of_done tab mixed [.br false] [] [] [0, 1] rfl (nd c1 trivial) (by kernel_rfl)
def laws.eqStringS.f (K : Nat) (a0 : List ByteArray) (a1 : List ByteArray) : Option (Bool) :=
  cond ((a0.length : Int) != (a1.length : Int)) (some false) (Option.bind (laws.eqStringS.l0.f a0 a1 K 0) fun x1 => (Sum.elim (fun x1 => some false) (fun x1 => some true)) x1)
theorem laws.eqStringS.spec (K : Nat) (a0 : List ByteArray) (a1 : List ByteArray) (o : Bool) (h : laws.eqStringS.f K a0 a1 = some o) : Den.Spec Try.prog 64 [one (.sl 0 0 a0.length), one (.sl 1 0 a1.length)] [some ⟨false, .strs a0⟩, some ⟨false, .strs a1⟩] (one (.bool o)) [some ⟨false, .strs a0⟩, some ⟨false, .strs a1⟩] := by
  unfold laws.eqStringS.f at h
  rcases br_cases h with ⟨c1, h⟩ | ⟨c1, h⟩
  · obtain rfl := Option.some.inj h
    exact Den.Spec.of_walk tab mixed Try.func64 (by kernel_rfl) [.br true] [] [0, 1] (nd c1 trivial) (by kernel_rfl)
  · obtain ⟨x1, e1, h⟩ := bind_some h
    rcases x1 with x1 | x1
    · obtain rfl := Option.some.inj h
      exact Den.Spec.of_walk tab mixed Try.func64 (by kernel_rfl) [.br false, .loop [] [0, 1, 5] [0, 1] (.ret) (laws.eqStringS.l0.e0 a0 a1 x1)] [] [0, 1] (nd c1 (nd (laws.eqStringS.l0.spec a0 a1 K 0 _ e1) trivial)) (by kernel_rfl)
    · obtain rfl := Option.some.inj h
      exact Den.Spec.of_walk tab mixed Try.func64 (by kernel_rfl) [.br false, .loop [] [0, 1, 5] [0, 1] (.exit 0) (laws.eqStringS.l0.e1 a0 a1 x1)] [] [0, 1] (nd c1 (nd (laws.eqStringS.l0.spec a0 a1 K 0 _ e1) trivial)) (by kernel_rfl)
def laws.markText.l0.f : Nat → Int → ByteArray → Option (ByteArray)
  | 0, _, _ => none
  | k + 1, v22_0, v22_1 =>
    cond (decide (v22_0 > 0)) (ck ((((ofBytes [IntKind.u8.wrap (w64 (48 + (v22_0.tmod 10)))]).size + v22_1.size : Nat) : Int) ≤ 9223372036854775807) (laws.markText.l0.f k (w64 (v22_0.tdiv 10)) ((ofBytes [IntKind.u8.wrap (w64 (48 + (v22_0.tmod 10)))]) ++ v22_1))) (some v22_1)
def laws.markText.l0.s (v22_0 : Int) (v22_1 : ByteArray) : St := mkSt 20 [(0, one (.int .i64 v22_0)), (3, one (.str v22_1))] []
def laws.markText.l0.e0 (o : ByteArray) : St := mkSt 20 [(3, one (.str o))] []
def laws.markText.l0.x : (ByteArray) → AExit × St := fun o => (.exit 0, laws.markText.l0.e0 o)
theorem laws.markText.l0.spec : ∀ (k : Nat) (v22_0 : Int) (v22_1 : ByteArray) (o : ByteArray), laws.markText.l0.f k v22_0 v22_1 = some o → LoopSpec Try.prog 0 (loopN Try.f104 0) (laws.markText.l0.s v22_0 v22_1) (laws.markText.l0.x o).1 (laws.markText.l0.x o).2
  | 0, _, _, _, h => by cases h
  | k + 1, v22_0, v22_1, o, h => by
    unfold laws.markText.l0.f at h
    rcases br_cases h with ⟨c1, h⟩ | ⟨c1, h⟩
    · obtain ⟨p1, h⟩ := ck_some h
      exact .of_step tab mixed [.br true, .br true] [] [0, 3] [] (s1 := laws.markText.l0.s (w64 (v22_0.tdiv 10)) ((ofBytes [IntKind.u8.wrap (w64 (48 + (v22_0.tmod 10)))]) ++ v22_1)) (nd c1 (nd (by decide : (10 : Int) ≠ 0) (nd (rfl : (0 : Nat) = 0) (nd (rfl : 1 = 1) (nd p1 (nd (by decide : (10 : Int) ≠ 0) trivial)))))) (by kernel_rfl) (laws.markText.l0.spec k (w64 (v22_0.tdiv 10)) ((ofBytes [IntKind.u8.wrap (w64 (48 + (v22_0.tmod 10)))]) ++ v22_1) _ h)
    · obtain rfl := Option.some.inj h
      exact .of_done tab mixed [.br false] [] [3] [] rfl (nd c1 trivial) (by kernel_rfl)
def laws.markText.f (K : Nat) (a0 : Int) : Option (ByteArray) :=
  cond (decide (a0 ≤ 0)) (some (ByteArray.mk #[109, 48])) (Option.bind (laws.markText.l0.f K a0 noVal) fun x1 => ck ((((ByteArray.mk #[109]).size + x1.size : Nat) : Int) ≤ 9223372036854775807) (some ((ByteArray.mk #[109]) ++ x1)))
theorem laws.markText.spec (K : Nat) (a0 : Int) (o : ByteArray) (h : laws.markText.f K a0 = some o) : Den.Spec Try.prog 104 [one (.int .i64 a0)] [] (one (.str o)) [] := by
  unfold laws.markText.f at h
  rcases br_cases h with ⟨c1, h⟩ | ⟨c1, h⟩
  · obtain rfl := Option.some.inj h
    exact Den.Spec.of_walk tab mixed Try.func104 (by kernel_rfl) [.br true] [] [] (nd c1 trivial) (by kernel_rfl)
  · obtain ⟨x1, e1, h⟩ := bind_some h
    obtain ⟨p1, h⟩ := ck_some h
    obtain rfl := Option.some.inj h
    exact Den.Spec.of_walk tab mixed Try.func104 (by kernel_rfl) [.br false, .loop [] [0, 3] [] (.exit 0) (laws.markText.l0.e0 x1)] [] [] (nd c1 (nd (laws.markText.l0.spec K a0 noVal _ e1) (nd p1 trivial))) (by kernel_rfl)
def laws.markStringS.l0.f (K : Nat) : Nat → (List ByteArray) → Nat → Int → Int → Option (Int × (List ByteArray))
  | 0, _, _, _, _ => none
  | k + 1, v24_0, v24_1, v24_2, v24_3 =>
    cond (decide (v24_3 < (v24_1 : Int))) (Option.bind (laws.markText.f K v24_2) fun x1 => ck (0 ≤ v24_3) (ck (v24_3.toNat < v24_0.length) (laws.markStringS.l0.f K k (v24_0.set v24_3.toNat x1) v24_1 (w64 (v24_2 + 1)) (w64 (v24_3 + 1))))) (some (v24_2, v24_0))
def laws.markStringS.l0.s (K : Nat) (v24_0 : List ByteArray) (v24_1 : Nat) (v24_2 : Int) (v24_3 : Int) : St := mkSt 20 [(0, one (.sl 0 0 v24_1)), (1, one (.int .i64 v24_2)), (5, one (.int .i64 v24_3))] [some ⟨true, .strs v24_0⟩]
def laws.markStringS.l0.e0 (K : Nat) (o : Int × (List ByteArray)) : St := mkSt 20 [(1, one (.int .i64 o.1))] [some ⟨true, .strs o.2⟩]
def laws.markStringS.l0.x (K : Nat) : (Int × (List ByteArray)) → AExit × St := fun o => (.exit 0, laws.markStringS.l0.e0 K o)
theorem laws.markStringS.l0.spec (K : Nat) : ∀ (k : Nat) (v24_0 : List ByteArray) (v24_1 : Nat) (v24_2 : Int) (v24_3 : Int) (o : Int × (List ByteArray)), laws.markStringS.l0.f K k v24_0 v24_1 v24_2 v24_3 = some o → LoopSpec Try.prog 1 (loopN Try.f65 0) (laws.markStringS.l0.s K v24_0 v24_1 v24_2 v24_3) (laws.markStringS.l0.x K o).1 (laws.markStringS.l0.x K o).2
  | 0, _, _, _, _, _, h => by cases h
  | k + 1, v24_0, v24_1, v24_2, v24_3, o, h => by
    unfold laws.markStringS.l0.f at h
    rcases br_cases h with ⟨c1, h⟩ | ⟨c1, h⟩
    · obtain ⟨x1, e1, h⟩ := bind_some h
      obtain ⟨p1, h⟩ := ck_some h
      obtain ⟨p2, h⟩ := ck_some h
      exact .of_step tab mixed [.br true, .call [] [] (one (.str x1)) []] [] [0, 1, 5] [0] (s1 := laws.markStringS.l0.s K (v24_0.set v24_3.toNat x1) v24_1 (w64 (v24_2 + 1)) (w64 (v24_3 + 1))) (nd c1 (nd (laws.markText.spec K v24_2 _ e1) (nd p1 (nd (of_decide_eq_true c1) (nd p2 trivial))))) (by kernel_rfl) (laws.markStringS.l0.spec K k (v24_0.set v24_3.toNat x1) v24_1 (w64 (v24_2 + 1)) (w64 (v24_3 + 1)) _ h)
    · obtain rfl := Option.some.inj h
      exact .of_done tab mixed [.br false] [] [1] [0] rfl (nd c1 trivial) (by kernel_rfl)
def laws.markStringS.f (K : Nat) (a0 : List ByteArray) (a1 : Int) : Option (Int × (List ByteArray)) :=
  Option.bind (laws.markStringS.l0.f K K a0 a0.length a1 0) fun x1 => some (x1.1, x1.2)
theorem laws.markStringS.spec (K : Nat) (a0 : List ByteArray) (a1 : Int) (o : Int × (List ByteArray)) (h : laws.markStringS.f K a0 a1 = some o) : Den.Spec Try.prog 65 [one (.sl 0 0 a0.length), one (.int .i64 a1)] [some ⟨true, .strs a0⟩] (one (.int .i64 o.1)) [some ⟨true, .strs o.2⟩] := by
  unfold laws.markStringS.f at h
  obtain ⟨x1, e1, h⟩ := bind_some h
  obtain rfl := Option.some.inj h
  exact Den.Spec.of_walk tab mixed Try.func65 (by kernel_rfl) [.loop [] [0, 1, 5] [0] (.exit 0) (laws.markStringS.l0.e0 K x1)] [] [0] (nd (laws.markStringS.l0.spec K K a0 a0.length a1 0 _ e1) trivial) (by kernel_rfl)
def laws.heldStringS.l0.f (K : Nat) (a0 : List ByteArray) : Nat → Int → Int → Option (Unit ⊕ Int)
  | 0, _, _ => none
  | k + 1, v27_0, v27_1 =>
    cond (decide (v27_1 < (a0.length : Int))) (ck (0 ≤ v27_1) (Option.bind (laws.markText.f K v27_0) fun x1 => cond (strEq (a0.getD v27_1.toNat noVal) x1) (laws.heldStringS.l0.f K a0 k (w64 (v27_0 + 1)) (w64 (v27_1 + 1))) (some (.inl ())))) (some (.inr (v27_0)))
def laws.heldStringS.l0.s (K : Nat) (a0 : List ByteArray) (v27_0 : Int) (v27_1 : Int) : St := mkSt 22 [(0, one (.sl 0 0 a0.length)), (1, one (.int .i64 v27_0)), (5, one (.int .i64 v27_1))] [some ⟨false, .strs a0⟩]
def laws.heldStringS.l0.e0 (K : Nat) (a0 : List ByteArray) (o : Unit) : St := mkSt 22 [(4, one (.int .i64 (-1)))] [some ⟨false, .strs a0⟩]
def laws.heldStringS.l0.e1 (K : Nat) (a0 : List ByteArray) (o : Int) : St := mkSt 22 [(1, one (.int .i64 o))] [some ⟨false, .strs a0⟩]
def laws.heldStringS.l0.x (K : Nat) (a0 : List ByteArray) : (Unit ⊕ Int) → AExit × St := Sum.elim (fun o => (.ret, laws.heldStringS.l0.e0 K a0 o)) (fun o => (.exit 0, laws.heldStringS.l0.e1 K a0 o))
theorem laws.heldStringS.l0.spec (K : Nat) (a0 : List ByteArray) : ∀ (k : Nat) (v27_0 : Int) (v27_1 : Int) (o : Unit ⊕ Int), laws.heldStringS.l0.f K a0 k v27_0 v27_1 = some o → LoopSpec Try.prog 1 (loopN Try.f78 0) (laws.heldStringS.l0.s K a0 v27_0 v27_1) (laws.heldStringS.l0.x K a0 o).1 (laws.heldStringS.l0.x K a0 o).2
  | 0, _, _, _, h => by cases h
  | k + 1, v27_0, v27_1, o, h => by
    unfold laws.heldStringS.l0.f at h
    rcases br_cases h with ⟨c1, h⟩ | ⟨c1, h⟩
    · obtain ⟨p1, h⟩ := ck_some h
      obtain ⟨x1, e1, h⟩ := bind_some h
      rcases br_cases h with ⟨c2, h⟩ | ⟨c2, h⟩
      · exact .of_step tab mixed [.br true, .call [] [] (one (.str x1)) [], .br false] [] [0, 1, 5] [0] (s1 := laws.heldStringS.l0.s K a0 (w64 (v27_0 + 1)) (w64 (v27_1 + 1))) (nd c1 (nd p1 (nd (of_decide_eq_true c1) (nd (tn p1 (of_decide_eq_true c1)) (nd (laws.markText.spec K v27_0 _ e1) (nd (nf c2) trivial)))))) (by kernel_rfl) (laws.heldStringS.l0.spec K a0 k (w64 (v27_0 + 1)) (w64 (v27_1 + 1)) _ h)
      · obtain rfl := Option.some.inj h
        exact .of_done tab mixed [.br true, .call [] [] (one (.str x1)) [], .br true] [] [4] [0] rfl (nd c1 (nd p1 (nd (of_decide_eq_true c1) (nd (tn p1 (of_decide_eq_true c1)) (nd (laws.markText.spec K v27_0 _ e1) (nd (nt c2) trivial)))))) (by kernel_rfl)
    · obtain rfl := Option.some.inj h
      exact .of_done tab mixed [.br false] [] [1] [0] rfl (nd c1 trivial) (by kernel_rfl)
def laws.heldStringS.f (K : Nat) (a0 : List ByteArray) (a1 : Int) : Option (Int) :=
  Option.bind (laws.heldStringS.l0.f K a0 K a1 0) fun x1 => (Sum.elim (fun x1 => some (-1)) (fun x1 => some x1)) x1
theorem laws.heldStringS.spec (K : Nat) (a0 : List ByteArray) (a1 : Int) (o : Int) (h : laws.heldStringS.f K a0 a1 = some o) : Den.Spec Try.prog 78 [one (.sl 0 0 a0.length), one (.int .i64 a1)] [some ⟨false, .strs a0⟩] (one (.int .i64 o)) [some ⟨false, .strs a0⟩] := by
  unfold laws.heldStringS.f at h
  obtain ⟨x1, e1, h⟩ := bind_some h
  rcases x1 with x1 | x1
  · obtain rfl := Option.some.inj h
    exact Den.Spec.of_walk tab mixed Try.func78 (by kernel_rfl) [.loop [] [0, 1, 5] [0] (.ret) (laws.heldStringS.l0.e0 K a0 x1)] [] [0] (nd (laws.heldStringS.l0.spec K a0 K a1 0 _ e1) trivial) (by kernel_rfl)
  · obtain rfl := Option.some.inj h
    exact Den.Spec.of_walk tab mixed Try.func78 (by kernel_rfl) [.loop [] [0, 1, 5] [0] (.exit 0) (laws.heldStringS.l0.e1 K a0 x1)] [] [0] (nd (laws.heldStringS.l0.spec K a0 K a1 0 _ e1) trivial) (by kernel_rfl)
def laws.FnExactVolumeNew.f (K : Nat) : Option (Bool) :=
  Option.bind (spec.VolumeNew.f) fun x1 => Option.bind (impl.VolumeNew.f K) fun x2 => Option.bind (laws.eqStringS.f K ((x2.drop 0).take ((List.replicate 12 noVal).length)) ((((List.replicate 12 noVal).set 0 (ByteArray.mk #[100])).drop 0).take ((List.replicate 12 noVal).length))) fun x3 => ck (0 + ((List.replicate 12 noVal).length) ≤ x2.length) (ck (0 + ((List.replicate 12 noVal).length) ≤ ((List.replicate 12 noVal).set 0 (ByteArray.mk #[100])).length) (cond (x3) (ck ((List.replicate 12 noVal).length = x2.length) (Option.bind (laws.markStringS.f K x2 1) fun x4 => Option.bind (laws.heldStringS.f K ((x4.2.drop 0).take ((List.replicate 12 noVal).length)) 1) fun x5 => ck (0 + ((List.replicate 12 noVal).length) ≤ x4.2.length) (cond (decide (x5 < 0)) (some false) (cond (x5 != x4.1) (some false) (Option.bind (impl.VolumeNew.f K) fun x6 => Option.bind (laws.eqStringS.f K ((x6.drop 0).take ((List.replicate 12 noVal).length)) ((((List.replicate 12 noVal).set 0 (ByteArray.mk #[100])).drop 0).take ((List.replicate 12 noVal).length))) fun x7 => ck (0 + ((List.replicate 12 noVal).length) ≤ x6.length) (cond (x7) (Option.bind (laws.heldStringS.f K ((x4.2.drop 0).take ((List.replicate 12 noVal).length)) 1) fun x8 => cond (decide (x8 < 0)) (some false) (cond (x8 != x4.1) (some false) (some true))) (some false))))))) (some false)))
theorem laws.FnExactVolumeNew.spec (K : Nat) (o : Bool) (h : laws.FnExactVolumeNew.f K = some o) : Den.Spec Try.prog 13 [] [] (one (.bool o)) [] := by
  unfold laws.FnExactVolumeNew.f at h
  obtain ⟨x1, e1, h⟩ := bind_some h
  obtain ⟨x2, e2, h⟩ := bind_some h
  obtain ⟨x3, e3, h⟩ := bind_some h
  obtain ⟨p1, h⟩ := ck_some h
  obtain ⟨p2, h⟩ := ck_some h
  rcases br_cases h with ⟨c1, h⟩ | ⟨c1, h⟩
  · obtain ⟨p3, h⟩ := ck_some h
    obtain ⟨x4, e4, h⟩ := bind_some h
    obtain ⟨x5, e5, h⟩ := bind_some h
    obtain ⟨p4, h⟩ := ck_some h
    rcases br_cases h with ⟨c2, h⟩ | ⟨c2, h⟩
    · obtain rfl := Option.some.inj h
      exact Den.Spec.of_walk tab mixed Try.func13 (by kernel_rfl) [.call [] [] (one (.sl 0 0 ((List.replicate 12 noVal).length))) [some ⟨true, .strs ((List.replicate 12 noVal).set 0 (ByteArray.mk #[100]))⟩], .call [] [] (one (.sl 0 0 ((List.replicate 12 noVal).length))) [some ⟨true, .strs x2⟩], .call [] [(0, false), (1, false)] (one (.bool x3)) [some ⟨false, .strs ((x2.drop 0).take ((List.replicate 12 noVal).length))⟩, some ⟨false, .strs ((((List.replicate 12 noVal).set 0 (ByteArray.mk #[100])).drop 0).take ((List.replicate 12 noVal).length))⟩], .br false, .call [(1, true)] [] (one (.int .i64 x4.1)) [some ⟨true, .strs x4.2⟩], .call [] [(0, false)] (one (.int .i64 x5)) [some ⟨false, .strs ((x4.2.drop 0).take ((List.replicate 12 noVal).length))⟩], .br true] [] [] (nd (spec.VolumeNew.spec _ e1) (nd (impl.VolumeNew.spec K _ e2) (nd (((laws.eqStringS.spec K ((x2.drop 0).take ((List.replicate 12 noVal).length)) ((((List.replicate 12 noVal).set 0 (ByteArray.mk #[100])).drop 0).take ((List.replicate 12 noVal).length)) _ e3).args (congrArg (fun n => ([one (.sl 0 0 n), one (.sl 1 0 (((((List.replicate 12 noVal).set 0 (ByteArray.mk #[100])).drop 0).take ((List.replicate 12 noVal).length)).length))] : List AV)) (win_len p1))).args (congrArg (fun n => ([one (.sl 0 0 ((List.replicate 12 noVal).length)), one (.sl 1 0 n)] : List AV)) (win_len p2))) (nd (nf c1) (nd ((laws.markStringS.spec K x2 1 _ e4).args (congrArg (fun n => ([one (.sl 0 0 n), one (.int .i64 1)] : List AV)) p3.symm)) (nd ((laws.heldStringS.spec K ((x4.2.drop 0).take ((List.replicate 12 noVal).length)) 1 _ e5).args (congrArg (fun n => ([one (.sl 0 0 n), one (.int .i64 1)] : List AV)) (win_len p4))) (nd c2 trivial))))))) (by kernel_rfl)
    · rcases br_cases h with ⟨c3, h⟩ | ⟨c3, h⟩
      · obtain rfl := Option.some.inj h
        exact Den.Spec.of_walk tab mixed Try.func13 (by kernel_rfl) [.call [] [] (one (.sl 0 0 ((List.replicate 12 noVal).length))) [some ⟨true, .strs ((List.replicate 12 noVal).set 0 (ByteArray.mk #[100]))⟩], .call [] [] (one (.sl 0 0 ((List.replicate 12 noVal).length))) [some ⟨true, .strs x2⟩], .call [] [(0, false), (1, false)] (one (.bool x3)) [some ⟨false, .strs ((x2.drop 0).take ((List.replicate 12 noVal).length))⟩, some ⟨false, .strs ((((List.replicate 12 noVal).set 0 (ByteArray.mk #[100])).drop 0).take ((List.replicate 12 noVal).length))⟩], .br false, .call [(1, true)] [] (one (.int .i64 x4.1)) [some ⟨true, .strs x4.2⟩], .call [] [(0, false)] (one (.int .i64 x5)) [some ⟨false, .strs ((x4.2.drop 0).take ((List.replicate 12 noVal).length))⟩], .br false, .br true] [] [] (nd (spec.VolumeNew.spec _ e1) (nd (impl.VolumeNew.spec K _ e2) (nd (((laws.eqStringS.spec K ((x2.drop 0).take ((List.replicate 12 noVal).length)) ((((List.replicate 12 noVal).set 0 (ByteArray.mk #[100])).drop 0).take ((List.replicate 12 noVal).length)) _ e3).args (congrArg (fun n => ([one (.sl 0 0 n), one (.sl 1 0 (((((List.replicate 12 noVal).set 0 (ByteArray.mk #[100])).drop 0).take ((List.replicate 12 noVal).length)).length))] : List AV)) (win_len p1))).args (congrArg (fun n => ([one (.sl 0 0 ((List.replicate 12 noVal).length)), one (.sl 1 0 n)] : List AV)) (win_len p2))) (nd (nf c1) (nd ((laws.markStringS.spec K x2 1 _ e4).args (congrArg (fun n => ([one (.sl 0 0 n), one (.int .i64 1)] : List AV)) p3.symm)) (nd ((laws.heldStringS.spec K ((x4.2.drop 0).take ((List.replicate 12 noVal).length)) 1 _ e5).args (congrArg (fun n => ([one (.sl 0 0 n), one (.int .i64 1)] : List AV)) (win_len p4))) (nd c2 (nd c3 trivial)))))))) (by kernel_rfl)
      · obtain ⟨x6, e6, h⟩ := bind_some h
        obtain ⟨x7, e7, h⟩ := bind_some h
        obtain ⟨p5, h⟩ := ck_some h
        rcases br_cases h with ⟨c4, h⟩ | ⟨c4, h⟩
        · obtain ⟨x8, e8, h⟩ := bind_some h
          rcases br_cases h with ⟨c5, h⟩ | ⟨c5, h⟩
          · obtain rfl := Option.some.inj h
            exact Den.Spec.of_walk tab mixed Try.func13 (by kernel_rfl) [.call [] [] (one (.sl 0 0 ((List.replicate 12 noVal).length))) [some ⟨true, .strs ((List.replicate 12 noVal).set 0 (ByteArray.mk #[100]))⟩], .call [] [] (one (.sl 0 0 ((List.replicate 12 noVal).length))) [some ⟨true, .strs x2⟩], .call [] [(0, false), (1, false)] (one (.bool x3)) [some ⟨false, .strs ((x2.drop 0).take ((List.replicate 12 noVal).length))⟩, some ⟨false, .strs ((((List.replicate 12 noVal).set 0 (ByteArray.mk #[100])).drop 0).take ((List.replicate 12 noVal).length))⟩], .br false, .call [(1, true)] [] (one (.int .i64 x4.1)) [some ⟨true, .strs x4.2⟩], .call [] [(0, false)] (one (.int .i64 x5)) [some ⟨false, .strs ((x4.2.drop 0).take ((List.replicate 12 noVal).length))⟩], .br false, .br false, .call [] [] (one (.sl 0 0 ((List.replicate 12 noVal).length))) [some ⟨true, .strs x6⟩], .call [] [(0, false), (1, false)] (one (.bool x7)) [some ⟨false, .strs ((x6.drop 0).take ((List.replicate 12 noVal).length))⟩, some ⟨false, .strs ((((List.replicate 12 noVal).set 0 (ByteArray.mk #[100])).drop 0).take ((List.replicate 12 noVal).length))⟩], .br false, .call [] [(0, false)] (one (.int .i64 x8)) [some ⟨false, .strs ((x4.2.drop 0).take ((List.replicate 12 noVal).length))⟩], .br true] [] [] (nd (spec.VolumeNew.spec _ e1) (nd (impl.VolumeNew.spec K _ e2) (nd (((laws.eqStringS.spec K ((x2.drop 0).take ((List.replicate 12 noVal).length)) ((((List.replicate 12 noVal).set 0 (ByteArray.mk #[100])).drop 0).take ((List.replicate 12 noVal).length)) _ e3).args (congrArg (fun n => ([one (.sl 0 0 n), one (.sl 1 0 (((((List.replicate 12 noVal).set 0 (ByteArray.mk #[100])).drop 0).take ((List.replicate 12 noVal).length)).length))] : List AV)) (win_len p1))).args (congrArg (fun n => ([one (.sl 0 0 ((List.replicate 12 noVal).length)), one (.sl 1 0 n)] : List AV)) (win_len p2))) (nd (nf c1) (nd ((laws.markStringS.spec K x2 1 _ e4).args (congrArg (fun n => ([one (.sl 0 0 n), one (.int .i64 1)] : List AV)) p3.symm)) (nd ((laws.heldStringS.spec K ((x4.2.drop 0).take ((List.replicate 12 noVal).length)) 1 _ e5).args (congrArg (fun n => ([one (.sl 0 0 n), one (.int .i64 1)] : List AV)) (win_len p4))) (nd c2 (nd c3 (nd (impl.VolumeNew.spec K _ e6) (nd (((laws.eqStringS.spec K ((x6.drop 0).take ((List.replicate 12 noVal).length)) ((((List.replicate 12 noVal).set 0 (ByteArray.mk #[100])).drop 0).take ((List.replicate 12 noVal).length)) _ e7).args (congrArg (fun n => ([one (.sl 0 0 n), one (.sl 1 0 (((((List.replicate 12 noVal).set 0 (ByteArray.mk #[100])).drop 0).take ((List.replicate 12 noVal).length)).length))] : List AV)) (win_len p5))).args (congrArg (fun n => ([one (.sl 0 0 ((List.replicate 12 noVal).length)), one (.sl 1 0 n)] : List AV)) (win_len p2))) (nd (nf c4) (nd ((laws.heldStringS.spec K ((x4.2.drop 0).take ((List.replicate 12 noVal).length)) 1 _ e8).args (congrArg (fun n => ([one (.sl 0 0 n), one (.int .i64 1)] : List AV)) (win_len p4))) (nd c5 trivial))))))))))))) (by kernel_rfl)
          · rcases br_cases h with ⟨c6, h⟩ | ⟨c6, h⟩
            · obtain rfl := Option.some.inj h
              exact Den.Spec.of_walk tab mixed Try.func13 (by kernel_rfl) [.call [] [] (one (.sl 0 0 ((List.replicate 12 noVal).length))) [some ⟨true, .strs ((List.replicate 12 noVal).set 0 (ByteArray.mk #[100]))⟩], .call [] [] (one (.sl 0 0 ((List.replicate 12 noVal).length))) [some ⟨true, .strs x2⟩], .call [] [(0, false), (1, false)] (one (.bool x3)) [some ⟨false, .strs ((x2.drop 0).take ((List.replicate 12 noVal).length))⟩, some ⟨false, .strs ((((List.replicate 12 noVal).set 0 (ByteArray.mk #[100])).drop 0).take ((List.replicate 12 noVal).length))⟩], .br false, .call [(1, true)] [] (one (.int .i64 x4.1)) [some ⟨true, .strs x4.2⟩], .call [] [(0, false)] (one (.int .i64 x5)) [some ⟨false, .strs ((x4.2.drop 0).take ((List.replicate 12 noVal).length))⟩], .br false, .br false, .call [] [] (one (.sl 0 0 ((List.replicate 12 noVal).length))) [some ⟨true, .strs x6⟩], .call [] [(0, false), (1, false)] (one (.bool x7)) [some ⟨false, .strs ((x6.drop 0).take ((List.replicate 12 noVal).length))⟩, some ⟨false, .strs ((((List.replicate 12 noVal).set 0 (ByteArray.mk #[100])).drop 0).take ((List.replicate 12 noVal).length))⟩], .br false, .call [] [(0, false)] (one (.int .i64 x8)) [some ⟨false, .strs ((x4.2.drop 0).take ((List.replicate 12 noVal).length))⟩], .br false, .br true] [] [] (nd (spec.VolumeNew.spec _ e1) (nd (impl.VolumeNew.spec K _ e2) (nd (((laws.eqStringS.spec K ((x2.drop 0).take ((List.replicate 12 noVal).length)) ((((List.replicate 12 noVal).set 0 (ByteArray.mk #[100])).drop 0).take ((List.replicate 12 noVal).length)) _ e3).args (congrArg (fun n => ([one (.sl 0 0 n), one (.sl 1 0 (((((List.replicate 12 noVal).set 0 (ByteArray.mk #[100])).drop 0).take ((List.replicate 12 noVal).length)).length))] : List AV)) (win_len p1))).args (congrArg (fun n => ([one (.sl 0 0 ((List.replicate 12 noVal).length)), one (.sl 1 0 n)] : List AV)) (win_len p2))) (nd (nf c1) (nd ((laws.markStringS.spec K x2 1 _ e4).args (congrArg (fun n => ([one (.sl 0 0 n), one (.int .i64 1)] : List AV)) p3.symm)) (nd ((laws.heldStringS.spec K ((x4.2.drop 0).take ((List.replicate 12 noVal).length)) 1 _ e5).args (congrArg (fun n => ([one (.sl 0 0 n), one (.int .i64 1)] : List AV)) (win_len p4))) (nd c2 (nd c3 (nd (impl.VolumeNew.spec K _ e6) (nd (((laws.eqStringS.spec K ((x6.drop 0).take ((List.replicate 12 noVal).length)) ((((List.replicate 12 noVal).set 0 (ByteArray.mk #[100])).drop 0).take ((List.replicate 12 noVal).length)) _ e7).args (congrArg (fun n => ([one (.sl 0 0 n), one (.sl 1 0 (((((List.replicate 12 noVal).set 0 (ByteArray.mk #[100])).drop 0).take ((List.replicate 12 noVal).length)).length))] : List AV)) (win_len p5))).args (congrArg (fun n => ([one (.sl 0 0 ((List.replicate 12 noVal).length)), one (.sl 1 0 n)] : List AV)) (win_len p2))) (nd (nf c4) (nd ((laws.heldStringS.spec K ((x4.2.drop 0).take ((List.replicate 12 noVal).length)) 1 _ e8).args (congrArg (fun n => ([one (.sl 0 0 n), one (.int .i64 1)] : List AV)) (win_len p4))) (nd c5 (nd c6 trivial)))))))))))))) (by kernel_rfl)
            · obtain rfl := Option.some.inj h
              exact Den.Spec.of_walk tab mixed Try.func13 (by kernel_rfl) [.call [] [] (one (.sl 0 0 ((List.replicate 12 noVal).length))) [some ⟨true, .strs ((List.replicate 12 noVal).set 0 (ByteArray.mk #[100]))⟩], .call [] [] (one (.sl 0 0 ((List.replicate 12 noVal).length))) [some ⟨true, .strs x2⟩], .call [] [(0, false), (1, false)] (one (.bool x3)) [some ⟨false, .strs ((x2.drop 0).take ((List.replicate 12 noVal).length))⟩, some ⟨false, .strs ((((List.replicate 12 noVal).set 0 (ByteArray.mk #[100])).drop 0).take ((List.replicate 12 noVal).length))⟩], .br false, .call [(1, true)] [] (one (.int .i64 x4.1)) [some ⟨true, .strs x4.2⟩], .call [] [(0, false)] (one (.int .i64 x5)) [some ⟨false, .strs ((x4.2.drop 0).take ((List.replicate 12 noVal).length))⟩], .br false, .br false, .call [] [] (one (.sl 0 0 ((List.replicate 12 noVal).length))) [some ⟨true, .strs x6⟩], .call [] [(0, false), (1, false)] (one (.bool x7)) [some ⟨false, .strs ((x6.drop 0).take ((List.replicate 12 noVal).length))⟩, some ⟨false, .strs ((((List.replicate 12 noVal).set 0 (ByteArray.mk #[100])).drop 0).take ((List.replicate 12 noVal).length))⟩], .br false, .call [] [(0, false)] (one (.int .i64 x8)) [some ⟨false, .strs ((x4.2.drop 0).take ((List.replicate 12 noVal).length))⟩], .br false, .br false] [] [] (nd (spec.VolumeNew.spec _ e1) (nd (impl.VolumeNew.spec K _ e2) (nd (((laws.eqStringS.spec K ((x2.drop 0).take ((List.replicate 12 noVal).length)) ((((List.replicate 12 noVal).set 0 (ByteArray.mk #[100])).drop 0).take ((List.replicate 12 noVal).length)) _ e3).args (congrArg (fun n => ([one (.sl 0 0 n), one (.sl 1 0 (((((List.replicate 12 noVal).set 0 (ByteArray.mk #[100])).drop 0).take ((List.replicate 12 noVal).length)).length))] : List AV)) (win_len p1))).args (congrArg (fun n => ([one (.sl 0 0 ((List.replicate 12 noVal).length)), one (.sl 1 0 n)] : List AV)) (win_len p2))) (nd (nf c1) (nd ((laws.markStringS.spec K x2 1 _ e4).args (congrArg (fun n => ([one (.sl 0 0 n), one (.int .i64 1)] : List AV)) p3.symm)) (nd ((laws.heldStringS.spec K ((x4.2.drop 0).take ((List.replicate 12 noVal).length)) 1 _ e5).args (congrArg (fun n => ([one (.sl 0 0 n), one (.int .i64 1)] : List AV)) (win_len p4))) (nd c2 (nd c3 (nd (impl.VolumeNew.spec K _ e6) (nd (((laws.eqStringS.spec K ((x6.drop 0).take ((List.replicate 12 noVal).length)) ((((List.replicate 12 noVal).set 0 (ByteArray.mk #[100])).drop 0).take ((List.replicate 12 noVal).length)) _ e7).args (congrArg (fun n => ([one (.sl 0 0 n), one (.sl 1 0 (((((List.replicate 12 noVal).set 0 (ByteArray.mk #[100])).drop 0).take ((List.replicate 12 noVal).length)).length))] : List AV)) (win_len p5))).args (congrArg (fun n => ([one (.sl 0 0 ((List.replicate 12 noVal).length)), one (.sl 1 0 n)] : List AV)) (win_len p2))) (nd (nf c4) (nd ((laws.heldStringS.spec K ((x4.2.drop 0).take ((List.replicate 12 noVal).length)) 1 _ e8).args (congrArg (fun n => ([one (.sl 0 0 n), one (.int .i64 1)] : List AV)) (win_len p4))) (nd c5 (nd c6 trivial)))))))))))))) (by kernel_rfl)
        · obtain rfl := Option.some.inj h
          exact Den.Spec.of_walk tab mixed Try.func13 (by kernel_rfl) [.call [] [] (one (.sl 0 0 ((List.replicate 12 noVal).length))) [some ⟨true, .strs ((List.replicate 12 noVal).set 0 (ByteArray.mk #[100]))⟩], .call [] [] (one (.sl 0 0 ((List.replicate 12 noVal).length))) [some ⟨true, .strs x2⟩], .call [] [(0, false), (1, false)] (one (.bool x3)) [some ⟨false, .strs ((x2.drop 0).take ((List.replicate 12 noVal).length))⟩, some ⟨false, .strs ((((List.replicate 12 noVal).set 0 (ByteArray.mk #[100])).drop 0).take ((List.replicate 12 noVal).length))⟩], .br false, .call [(1, true)] [] (one (.int .i64 x4.1)) [some ⟨true, .strs x4.2⟩], .call [] [(0, false)] (one (.int .i64 x5)) [some ⟨false, .strs ((x4.2.drop 0).take ((List.replicate 12 noVal).length))⟩], .br false, .br false, .call [] [] (one (.sl 0 0 ((List.replicate 12 noVal).length))) [some ⟨true, .strs x6⟩], .call [] [(0, false), (1, false)] (one (.bool x7)) [some ⟨false, .strs ((x6.drop 0).take ((List.replicate 12 noVal).length))⟩, some ⟨false, .strs ((((List.replicate 12 noVal).set 0 (ByteArray.mk #[100])).drop 0).take ((List.replicate 12 noVal).length))⟩], .br true] [] [] (nd (spec.VolumeNew.spec _ e1) (nd (impl.VolumeNew.spec K _ e2) (nd (((laws.eqStringS.spec K ((x2.drop 0).take ((List.replicate 12 noVal).length)) ((((List.replicate 12 noVal).set 0 (ByteArray.mk #[100])).drop 0).take ((List.replicate 12 noVal).length)) _ e3).args (congrArg (fun n => ([one (.sl 0 0 n), one (.sl 1 0 (((((List.replicate 12 noVal).set 0 (ByteArray.mk #[100])).drop 0).take ((List.replicate 12 noVal).length)).length))] : List AV)) (win_len p1))).args (congrArg (fun n => ([one (.sl 0 0 ((List.replicate 12 noVal).length)), one (.sl 1 0 n)] : List AV)) (win_len p2))) (nd (nf c1) (nd ((laws.markStringS.spec K x2 1 _ e4).args (congrArg (fun n => ([one (.sl 0 0 n), one (.int .i64 1)] : List AV)) p3.symm)) (nd ((laws.heldStringS.spec K ((x4.2.drop 0).take ((List.replicate 12 noVal).length)) 1 _ e5).args (congrArg (fun n => ([one (.sl 0 0 n), one (.int .i64 1)] : List AV)) (win_len p4))) (nd c2 (nd c3 (nd (impl.VolumeNew.spec K _ e6) (nd (((laws.eqStringS.spec K ((x6.drop 0).take ((List.replicate 12 noVal).length)) ((((List.replicate 12 noVal).set 0 (ByteArray.mk #[100])).drop 0).take ((List.replicate 12 noVal).length)) _ e7).args (congrArg (fun n => ([one (.sl 0 0 n), one (.sl 1 0 (((((List.replicate 12 noVal).set 0 (ByteArray.mk #[100])).drop 0).take ((List.replicate 12 noVal).length)).length))] : List AV)) (win_len p5))).args (congrArg (fun n => ([one (.sl 0 0 ((List.replicate 12 noVal).length)), one (.sl 1 0 n)] : List AV)) (win_len p2))) (nd (nt c4) trivial))))))))))) (by kernel_rfl)
  · obtain rfl := Option.some.inj h
    exact Den.Spec.of_walk tab mixed Try.func13 (by kernel_rfl) [.call [] [] (one (.sl 0 0 ((List.replicate 12 noVal).length))) [some ⟨true, .strs ((List.replicate 12 noVal).set 0 (ByteArray.mk #[100]))⟩], .call [] [] (one (.sl 0 0 ((List.replicate 12 noVal).length))) [some ⟨true, .strs x2⟩], .call [] [(0, false), (1, false)] (one (.bool x3)) [some ⟨false, .strs ((x2.drop 0).take ((List.replicate 12 noVal).length))⟩, some ⟨false, .strs ((((List.replicate 12 noVal).set 0 (ByteArray.mk #[100])).drop 0).take ((List.replicate 12 noVal).length))⟩], .br true] [] [] (nd (spec.VolumeNew.spec _ e1) (nd (impl.VolumeNew.spec K _ e2) (nd (((laws.eqStringS.spec K ((x2.drop 0).take ((List.replicate 12 noVal).length)) ((((List.replicate 12 noVal).set 0 (ByteArray.mk #[100])).drop 0).take ((List.replicate 12 noVal).length)) _ e3).args (congrArg (fun n => ([one (.sl 0 0 n), one (.sl 1 0 (((((List.replicate 12 noVal).set 0 (ByteArray.mk #[100])).drop 0).take ((List.replicate 12 noVal).length)).length))] : List AV)) (win_len p1))).args (congrArg (fun n => ([one (.sl 0 0 ((List.replicate 12 noVal).length)), one (.sl 1 0 n)] : List AV)) (win_len p2))) (nd (nt c1) trivial)))) (by kernel_rfl)
end Go.Proofs.Ythneilmhnbboeaa.GFnExactVolumeNew
