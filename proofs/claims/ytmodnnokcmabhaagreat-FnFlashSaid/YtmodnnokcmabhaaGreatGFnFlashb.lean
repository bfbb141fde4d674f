import Derived.Test.YtmodnnokcmabhaaGreatGFnFlasha
namespace Go.Proofs.YtmodnnokcmabhaaGreat.GFnFlash
open Go Go.RowKit Go.Proofs Go.Proofs.YtmodnnokcmabhaaGreat.Den
set_option linter.unusedVariables false
set_option linter.unusedSimpArgs false
def spec.Torn.f (K : Nat) (a0 : List ByteArray) (a1 : List Int) (a2 : Int) (a3 : ByteArray) (a4 : Int) : Option ((List ByteArray) × (List Int)) :=
  Option.bind (spec.l1Min.f a4 (a3.size : Int)) fun x1 => Option.bind (spec.l1Max.f x1 0) fun x2 => ck (0 ≤ x2) (ck (x2 ≤ (a3.size : Int)) (Option.bind (spec.Burn.f K a0 a1 a2 (a3.extract 0 x2.toNat)) fun x3 => some (x3.1, x3.2.1)))
theorem spec.Torn.spec (K : Nat) (a0 : List ByteArray) (a1 : List Int) (a2 : Int) (a3 : ByteArray) (a4 : Int) (o : (List ByteArray) × (List Int)) (h : spec.Torn.f K a0 a1 a2 a3 a4 = some o) : Den.Spec Tryz.prog 128 [.v (.agg [.sl 0 0 a0.length, .sl 1 0 a1.length]), one (.int .i64 a2), one (.str a3), one (.int .i64 a4)] [some ⟨false, .strs a0⟩, some ⟨false, .ints .i64 a1⟩] (.v (.agg [.sl 2 0 o.1.length, .sl 3 0 o.2.length])) [some ⟨false, .strs a0⟩, some ⟨false, .ints .i64 a1⟩, some ⟨true, .strs o.1⟩, some ⟨true, .ints .i64 o.2⟩] := by
  unfold spec.Torn.f at h
  obtain ⟨x1, e1, h⟩ := bind_some h
  obtain ⟨x2, e2, h⟩ := bind_some h
  obtain ⟨p1, h⟩ := ck_some h
  obtain ⟨p2, h⟩ := ck_some h
  obtain ⟨x3, e3, h⟩ := bind_some h
  obtain rfl := Option.some.inj h
  exact Den.Spec.of_walk tab mixed Tryz.func128 (by kernel_rfl) [.call [] [] (one (.int .i64 x1)) [], .call [] [] (one (.int .i64 x2)) [], .call [(0, false), (1, false)] [] (.tup [.agg [.sl 2 0 x3.1.length, .sl 3 0 x3.2.1.length], .c (.bool x3.2.2)]) [some ⟨false, .strs a0⟩, some ⟨false, .ints .i64 a1⟩, some ⟨true, .strs x3.1⟩, some ⟨true, .ints .i64 x3.2.1⟩]] [] [0, 1, 78, 79] (nd (spec.l1Min.spec a4 (a3.size : Int) _ e1) (nd (spec.l1Max.spec x1 0 _ e2) (nd (Int.le_refl 0) (nd p1 (nd p2 (nd (spec.Burn.spec K a0 a1 a2 (a3.extract 0 x2.toNat) _ e3) trivial)))))) (by kernel_rfl)
def spec.Half.f (K : Nat) (a0 : List ByteArray) (a1 : List Int) (a2 : Int) (a3 : Int) : Option ((List ByteArray) × (List Int)) :=
  Option.bind (spec.Clear.f K a0 a1 a2) fun x1 => cond (x1.2.2) (Option.bind (spec.l2Copy.f a0 a1) fun x2 => Option.bind (spec.l2Wipe.f K ([] ++ a0) ([] ++ a1) a2 a3) fun x3 => some (x3, ([] ++ a1).set a2.toNat (w64 ((([] ++ a1).getD a2.toNat 0) + 1)))) (some (x1.1, x1.2.1))
theorem spec.Half.spec (K : Nat) (a0 : List ByteArray) (a1 : List Int) (a2 : Int) (a3 : Int) (o : (List ByteArray) × (List Int)) (h : spec.Half.f K a0 a1 a2 a3 = some o) : Den.Spec Tryz.prog 129 [.v (.agg [.sl 0 0 a0.length, .sl 1 0 a1.length]), one (.int .i64 a2), one (.int .i64 a3)] [some ⟨false, .strs a0⟩, some ⟨false, .ints .i64 a1⟩] (.v (.agg [.sl 2 0 o.1.length, .sl 3 0 o.2.length])) [some ⟨false, .strs a0⟩, some ⟨false, .ints .i64 a1⟩, some ⟨true, .strs o.1⟩, some ⟨true, .ints .i64 o.2⟩] := by
  unfold spec.Half.f at h
  obtain ⟨x1, e1, h⟩ := bind_some h
  rcases br_cases h with ⟨c1, h⟩ | ⟨c1, h⟩
  · obtain ⟨x2, e2, h⟩ := bind_some h
    obtain ⟨x3, e3, h⟩ := bind_some h
    obtain rfl := Option.some.inj h
    exact Den.Spec.of_walk tab mixed Tryz.func129 (by kernel_rfl) [.call [(0, false), (1, false)] [] (.tup [.agg [.sl 2 0 x1.1.length, .sl 3 0 x1.2.1.length], .c (.bool x1.2.2)]) [some ⟨false, .strs a0⟩, some ⟨false, .ints .i64 a1⟩, some ⟨true, .strs x1.1⟩, some ⟨true, .ints .i64 x1.2.1⟩], bF, .call [(0, false), (1, false)] [] (.v (.agg [.sl 2 0 (([] ++ a0).length), .sl 3 0 (([] ++ a1).length)])) [some ⟨false, .strs a0⟩, some ⟨false, .ints .i64 a1⟩, some ⟨true, .strs ([] ++ a0)⟩, some ⟨true, .ints .i64 ([] ++ a1)⟩], .call [(11, true), (12, true)] [] (.v (.agg [.sl 0 0 x3.length, .sl 1 0 ((([] ++ a1).set a2.toNat (w64 ((([] ++ a1).getD a2.toNat 0) + 1))).length)])) [some ⟨true, .strs x3⟩, some ⟨true, .ints .i64 (([] ++ a1).set a2.toNat (w64 ((([] ++ a1).getD a2.toNat 0) + 1)))⟩]] [] [0, 1, 11, 12] (nd (spec.Clear.spec K a0 a1 a2 _ e1) (nd (nf c1) (nd (spec.l2Copy.spec a0 a1 _ e2) (nd (spec.l2Wipe.spec K ([] ++ a0) ([] ++ a1) a2 a3 _ e3) trivial)))) (by kernel_rfl)
  · obtain rfl := Option.some.inj h
    exact Den.Spec.of_walk tab mixed Tryz.func129 (by kernel_rfl) [.call [(0, false), (1, false)] [] (.tup [.agg [.sl 2 0 x1.1.length, .sl 3 0 x1.2.1.length], .c (.bool x1.2.2)]) [some ⟨false, .strs a0⟩, some ⟨false, .ints .i64 a1⟩, some ⟨true, .strs x1.1⟩, some ⟨true, .ints .i64 x1.2.1⟩], bT] [] [0, 1, 6, 7] (nd (spec.Clear.spec K a0 a1 a2 _ e1) (nd (nt c1) trivial)) (by kernel_rfl)
def spec.Cut.f (K : Nat) (a0 : List ByteArray) (a1 : List Int) (a2 : List (Int × Int × ByteArray)) (a3 : Int) (a4 : Int) : Option ((List ByteArray) × (List Int)) :=
  Option.bind (spec.l1Min.f a3 (a2.length : Int)) fun x1 => Option.bind (spec.l1Max.f x1 0) fun x2 => ck (0 ≤ x2) (ck (x2 ≤ (a2.length : Int)) (Option.bind (spec.ApplyAll.f K a0 a1 ((a2.drop 0).take x2.toNat)) fun x3 => ck (0 + x2.toNat ≤ a2.length) (cond (x3.2.2) (cond (x2 == (a2.length : Int)) (some (x3.1, x3.2.1)) (ck (x2 < (a2.length : Int)) (cond (((a2.getD x2.toNat (0, 0, noVal)).1) == 1) (Option.bind (spec.Torn.f K x3.1 x3.2.1 ((a2.getD x2.toNat (0, 0, noVal)).2.1) ((a2.getD x2.toNat (0, 0, noVal)).2.2) a4) fun x4 => some (x4.1, x4.2)) (cond (((a2.getD x2.toNat (0, 0, noVal)).1) == 2) (Option.bind (spec.Half.f K x3.1 x3.2.1 ((a2.getD x2.toNat (0, 0, noVal)).2.1) a4) fun x4 => some (x4.1, x4.2)) (some (x3.1, x3.2.1)))))) (some (x3.1, x3.2.1)))))
theorem spec.Cut.spec (K : Nat) (a0 : List ByteArray) (a1 : List Int) (a2 : List (Int × Int × ByteArray)) (a3 : Int) (a4 : Int) (o : (List ByteArray) × (List Int)) (h : spec.Cut.f K a0 a1 a2 a3 a4 = some o) : Den.Spec Tryz.prog 104 [.v (.agg [.sl 0 0 a0.length, .sl 1 0 a1.length]), one (.sl 2 0 a2.length), one (.int .i64 a3), one (.int .i64 a4)] [some ⟨false, .strs a0⟩, some ⟨false, .ints .i64 a1⟩, some ⟨false, .acts a2⟩] (.v (.agg [.sl 3 0 o.1.length, .sl 4 0 o.2.length])) [some ⟨false, .strs a0⟩, some ⟨false, .ints .i64 a1⟩, some ⟨false, .acts a2⟩, some ⟨true, .strs o.1⟩, some ⟨true, .ints .i64 o.2⟩] := by
  unfold spec.Cut.f at h
  obtain ⟨x1, e1, h⟩ := bind_some h
  obtain ⟨x2, e2, h⟩ := bind_some h
  obtain ⟨p1, h⟩ := ck_some h
  obtain ⟨p2, h⟩ := ck_some h
  obtain ⟨x3, e3, h⟩ := bind_some h
  obtain ⟨p3, h⟩ := ck_some h
  rcases br_cases h with ⟨c1, h⟩ | ⟨c1, h⟩
  · rcases br_cases h with ⟨c2, h⟩ | ⟨c2, h⟩
    · obtain rfl := Option.some.inj h
      exact Den.Spec.of_walk tab mixed Tryz.func104 (by kernel_rfl) [.call [] [] (one (.int .i64 x1)) [], .call [] [] (one (.int .i64 x2)) [], .call [(0, false), (1, false)] [(1, false)] (.tup [.agg [.sl 3 0 x3.1.length, .sl 4 0 x3.2.1.length], .c (.bool x3.2.2)]) [some ⟨false, .strs a0⟩, some ⟨false, .ints .i64 a1⟩, some ⟨false, .acts ((a2.drop 0).take x2.toNat)⟩, some ⟨true, .strs x3.1⟩, some ⟨true, .ints .i64 x3.2.1⟩], bF, bF, bF, bF, bF, bT] [] [0, 1, 2, 39, 40] (nd (spec.l1Min.spec a3 (a2.length : Int) _ e1) (nd (spec.l1Max.spec x1 0 _ e2) (nd (Int.le_refl 0) (nd p1 (nd p2 (nd ((spec.ApplyAll.spec K a0 a1 ((a2.drop 0).take x2.toNat) _ e3).args (congrArg (fun n => ([.v (.agg [.sl 0 0 a0.length, .sl 1 0 a1.length]), one (.sl 2 0 n)] : List AV)) (win_len p3))) (nd (nf c1) (nd (nf c1) (nd (nf c1) (nd (nf c1) (nd (nf c1) (nd c2 trivial)))))))))))) (by kernel_rfl)
    · obtain ⟨p4, h⟩ := ck_some h
      rcases br_cases h with ⟨c3, h⟩ | ⟨c3, h⟩
      · obtain ⟨x4, e4, h⟩ := bind_some h
        obtain rfl := Option.some.inj h
        exact Den.Spec.of_walk tab mixed Tryz.func104 (by kernel_rfl) [.call [] [] (one (.int .i64 x1)) [], .call [] [] (one (.int .i64 x2)) [], .call [(0, false), (1, false)] [(1, false)] (.tup [.agg [.sl 3 0 x3.1.length, .sl 4 0 x3.2.1.length], .c (.bool x3.2.2)]) [some ⟨false, .strs a0⟩, some ⟨false, .ints .i64 a1⟩, some ⟨false, .acts ((a2.drop 0).take x2.toNat)⟩, some ⟨true, .strs x3.1⟩, some ⟨true, .ints .i64 x3.2.1⟩], bF, bF, bF, bF, bF, bF, bT, .call [(39, false), (40, false)] [] (.v (.agg [.sl 2 0 x4.1.length, .sl 3 0 x4.2.length])) [some ⟨false, .strs x3.1⟩, some ⟨false, .ints .i64 x3.2.1⟩, some ⟨true, .strs x4.1⟩, some ⟨true, .ints .i64 x4.2⟩]] [] [0, 1, 2, 96, 97] (nd (spec.l1Min.spec a3 (a2.length : Int) _ e1) (nd (spec.l1Max.spec x1 0 _ e2) (nd (Int.le_refl 0) (nd p1 (nd p2 (nd ((spec.ApplyAll.spec K a0 a1 ((a2.drop 0).take x2.toNat) _ e3).args (congrArg (fun n => ([.v (.agg [.sl 0 0 a0.length, .sl 1 0 a1.length]), one (.sl 2 0 n)] : List AV)) (win_len p3))) (nd (nf c1) (nd (nf c1) (nd (nf c1) (nd (nf c1) (nd (nf c1) (nd c2 (nd p1 (nd p4 (nd (tn p1 p4) (nd c3 (nd (spec.Torn.spec K x3.1 x3.2.1 ((a2.getD x2.toNat (0, 0, noVal)).2.1) ((a2.getD x2.toNat (0, 0, noVal)).2.2) a4 _ e4) trivial))))))))))))))))) (by kernel_rfl)
      · rcases br_cases h with ⟨c4, h⟩ | ⟨c4, h⟩
        · obtain ⟨x4, e4, h⟩ := bind_some h
          obtain rfl := Option.some.inj h
          exact Den.Spec.of_walk tab mixed Tryz.func104 (by kernel_rfl) [.call [] [] (one (.int .i64 x1)) [], .call [] [] (one (.int .i64 x2)) [], .call [(0, false), (1, false)] [(1, false)] (.tup [.agg [.sl 3 0 x3.1.length, .sl 4 0 x3.2.1.length], .c (.bool x3.2.2)]) [some ⟨false, .strs a0⟩, some ⟨false, .ints .i64 a1⟩, some ⟨false, .acts ((a2.drop 0).take x2.toNat)⟩, some ⟨true, .strs x3.1⟩, some ⟨true, .ints .i64 x3.2.1⟩], bF, bF, bF, bF, bF, bF, bF, bT, .call [(39, false), (40, false)] [] (.v (.agg [.sl 2 0 x4.1.length, .sl 3 0 x4.2.length])) [some ⟨false, .strs x3.1⟩, some ⟨false, .ints .i64 x3.2.1⟩, some ⟨true, .strs x4.1⟩, some ⟨true, .ints .i64 x4.2⟩]] [] [0, 1, 2, 96, 97] (nd (spec.l1Min.spec a3 (a2.length : Int) _ e1) (nd (spec.l1Max.spec x1 0 _ e2) (nd (Int.le_refl 0) (nd p1 (nd p2 (nd ((spec.ApplyAll.spec K a0 a1 ((a2.drop 0).take x2.toNat) _ e3).args (congrArg (fun n => ([.v (.agg [.sl 0 0 a0.length, .sl 1 0 a1.length]), one (.sl 2 0 n)] : List AV)) (win_len p3))) (nd (nf c1) (nd (nf c1) (nd (nf c1) (nd (nf c1) (nd (nf c1) (nd c2 (nd p1 (nd p4 (nd (tn p1 p4) (nd c3 (nd c4 (nd (spec.Half.spec K x3.1 x3.2.1 ((a2.getD x2.toNat (0, 0, noVal)).2.1) a4 _ e4) trivial)))))))))))))))))) (by kernel_rfl)
        · obtain rfl := Option.some.inj h
          exact Den.Spec.of_walk tab mixed Tryz.func104 (by kernel_rfl) [.call [] [] (one (.int .i64 x1)) [], .call [] [] (one (.int .i64 x2)) [], .call [(0, false), (1, false)] [(1, false)] (.tup [.agg [.sl 3 0 x3.1.length, .sl 4 0 x3.2.1.length], .c (.bool x3.2.2)]) [some ⟨false, .strs a0⟩, some ⟨false, .ints .i64 a1⟩, some ⟨false, .acts ((a2.drop 0).take x2.toNat)⟩, some ⟨true, .strs x3.1⟩, some ⟨true, .ints .i64 x3.2.1⟩], bF, bF, bF, bF, bF, bF, bF, bF] [] [0, 1, 2, 39, 40] (nd (spec.l1Min.spec a3 (a2.length : Int) _ e1) (nd (spec.l1Max.spec x1 0 _ e2) (nd (Int.le_refl 0) (nd p1 (nd p2 (nd ((spec.ApplyAll.spec K a0 a1 ((a2.drop 0).take x2.toNat) _ e3).args (congrArg (fun n => ([.v (.agg [.sl 0 0 a0.length, .sl 1 0 a1.length]), one (.sl 2 0 n)] : List AV)) (win_len p3))) (nd (nf c1) (nd (nf c1) (nd (nf c1) (nd (nf c1) (nd (nf c1) (nd c2 (nd p1 (nd p4 (nd (tn p1 p4) (nd c3 (nd c4 trivial))))))))))))))))) (by kernel_rfl)
  · obtain rfl := Option.some.inj h
    exact Den.Spec.of_walk tab mixed Tryz.func104 (by kernel_rfl) [.call [] [] (one (.int .i64 x1)) [], .call [] [] (one (.int .i64 x2)) [], .call [(0, false), (1, false)] [(1, false)] (.tup [.agg [.sl 3 0 x3.1.length, .sl 4 0 x3.2.1.length], .c (.bool x3.2.2)]) [some ⟨false, .strs a0⟩, some ⟨false, .ints .i64 a1⟩, some ⟨false, .acts ((a2.drop 0).take x2.toNat)⟩, some ⟨true, .strs x3.1⟩, some ⟨true, .ints .i64 x3.2.1⟩], bT, bT, bT, bT, bT, bT] [] [0, 1, 2, 39, 40] (nd (spec.l1Min.spec a3 (a2.length : Int) _ e1) (nd (spec.l1Max.spec x1 0 _ e2) (nd (Int.le_refl 0) (nd p1 (nd p2 (nd ((spec.ApplyAll.spec K a0 a1 ((a2.drop 0).take x2.toNat) _ e3).args (congrArg (fun n => ([.v (.agg [.sl 0 0 a0.length, .sl 1 0 a1.length]), one (.sl 2 0 n)] : List AV)) (win_len p3))) (nd (nt c1) (nd (nt c1) (nd (nt c1) (nd (nt c1) (nd (nt c1) (nd tt trivial)))))))))))) (by kernel_rfl)
def spec.l5DrawRight.l0.f (K : Nat) (a0 : List Int) : Nat → Int → Int → (List ByteArray) → (List Int) → (List Int) → Int → Int → Int → Option (((List ByteArray) × (List Int) × (List Int) × Int × Int × Int) ⊕ ((List ByteArray) × (List Int) × (List Int) × Int × Int × Int))
  | 0, _, _, _, _, _, _, _, _ => none
  | k + 1, v101_0, v101_1, v101_2, v101_3, v101_4, v101_5, v101_6, v101_7 =>
    cond (decide (v101_7 < v101_6)) (Option.bind (spec.l1Below.f a0 v101_0 v101_1 26) fun x1 => Option.bind (spec.l1Once.f a0 x1.2.1 x1.2.2 2) fun x2 => cond (x2.1) (Option.bind (spec.l1Pick.f a0 x2.2.1 x2.2.2 [noVal, (ByteArray.mk #[97]), (ByteArray.mk #[98, 98]), (ByteArray.mk #[104, 101, 108, 108, 111])]) fun x3 => Option.bind (spec.Plan.f K v101_2 v101_3 v101_4 v101_5 (x1.1.tmod 4) x3.1) fun x4 => cond (x4.2.2.2.2.2) (Option.bind (spec.l1Once.f a0 x3.2.1 x3.2.2 12) fun x5 => cond (x5.1) (Option.bind (spec.l1Below.f a0 x5.2.1 x5.2.2 (w64 ((x4.1.length : Int) + 1))) fun x6 => Option.bind (spec.l1Below.f a0 x6.2.1 x6.2.2 9) fun x7 => Option.bind (spec.Cut.f K v101_2 v101_3 x4.1 x6.1 x7.1) fun x8 => Option.bind (spec.Mount.f K x8.1 x8.2) fun x9 => spec.l5DrawRight.l0.f K a0 k x7.2.1 x7.2.2 x9.1 x9.2.1 x9.2.2.1 x9.2.2.2 v101_6 (w64 (v101_7 + 1))) (spec.l5DrawRight.l0.f K a0 k x5.2.1 x5.2.2 x4.2.1 x4.2.2.1 x4.2.2.2.1 x4.2.2.2.2.1 v101_6 (w64 (v101_7 + 1)))) (some (.inl (v101_2, v101_3, v101_4, v101_5, x3.2.1, x3.2.2)))) (Option.bind (spec.l1Pick.f a0 x2.2.1 x2.2.2 [noVal, (ByteArray.mk #[97]), (ByteArray.mk #[98, 98]), (ByteArray.mk #[104, 101, 108, 108, 111])]) fun x3 => Option.bind (spec.Plan.f K v101_2 v101_3 v101_4 v101_5 x1.1 x3.1) fun x4 => cond (x4.2.2.2.2.2) (Option.bind (spec.l1Once.f a0 x3.2.1 x3.2.2 12) fun x5 => cond (x5.1) (Option.bind (spec.l1Below.f a0 x5.2.1 x5.2.2 (w64 ((x4.1.length : Int) + 1))) fun x6 => Option.bind (spec.l1Below.f a0 x6.2.1 x6.2.2 9) fun x7 => Option.bind (spec.Cut.f K v101_2 v101_3 x4.1 x6.1 x7.1) fun x8 => Option.bind (spec.Mount.f K x8.1 x8.2) fun x9 => spec.l5DrawRight.l0.f K a0 k x7.2.1 x7.2.2 x9.1 x9.2.1 x9.2.2.1 x9.2.2.2 v101_6 (w64 (v101_7 + 1))) (spec.l5DrawRight.l0.f K a0 k x5.2.1 x5.2.2 x4.2.1 x4.2.2.1 x4.2.2.2.1 x4.2.2.2.2.1 v101_6 (w64 (v101_7 + 1)))) (some (.inl (v101_2, v101_3, v101_4, v101_5, x3.2.1, x3.2.2))))) (some (.inr ((v101_2, v101_3, v101_4, v101_5, v101_0, v101_1))))
def spec.l5DrawRight.l0.s (K : Nat) (a0 : List Int) (v101_0 : Int) (v101_1 : Int) (v101_2 : List ByteArray) (v101_3 : List Int) (v101_4 : List Int) (v101_5 : Int) (v101_6 : Int) (v101_7 : Int) : St := mkSt 54 [(0, one (.ptr 0 0 0)), (2, one (.ptr 2 0 0)), (3, one (.ptr 6 0 0)), (4, one (.int .i64 v101_6)), (5, one (.int .i64 v101_7))] [some ⟨true, .cells [.sl 1 0 a0.length, .int .i64 v101_0, .int .i64 v101_1]⟩, some ⟨false, .ints .u8 a0⟩, some ⟨true, .cells [.sl 3 0 0, .sl 4 0 0, .sl 5 0 0, .int .i64 0]⟩, some ⟨true, .strs []⟩, some ⟨true, .ints .i64 []⟩, some ⟨true, .ints .i64 []⟩, some ⟨true, .cells [.sl 7 0 v101_2.length, .sl 8 0 v101_3.length, .sl 9 0 v101_4.length, .int .i64 v101_5]⟩, some ⟨true, .strs v101_2⟩, some ⟨true, .ints .i64 v101_3⟩, some ⟨true, .ints .i64 v101_4⟩]
def spec.l5DrawRight.l0.e0 (K : Nat) (a0 : List Int) (o : (List ByteArray) × (List Int) × (List Int) × Int × Int × Int) : St := mkSt 54 [(2, one (.ptr 2 0 0))] [some ⟨true, .cells [.sl 1 0 a0.length, .int .i64 o.2.2.2.2.1, .int .i64 o.2.2.2.2.2]⟩, some ⟨false, .ints .u8 a0⟩, some ⟨true, .cells [.sl 3 0 o.1.length, .sl 4 0 o.2.1.length, .sl 5 0 o.2.2.1.length, .int .i64 o.2.2.2.1]⟩, some ⟨true, .strs o.1⟩, some ⟨true, .ints .i64 o.2.1⟩, some ⟨true, .ints .i64 o.2.2.1⟩]
def spec.l5DrawRight.l0.e1 (K : Nat) (a0 : List Int) (o : (List ByteArray) × (List Int) × (List Int) × Int × Int × Int) : St := mkSt 54 [(2, one (.ptr 2 0 0)), (3, one (.ptr 6 0 0))] [some ⟨true, .cells [.sl 1 0 a0.length, .int .i64 o.2.2.2.2.1, .int .i64 o.2.2.2.2.2]⟩, some ⟨false, .ints .u8 a0⟩, some ⟨true, .cells [.sl 3 0 0, .sl 4 0 0, .sl 5 0 0, .int .i64 0]⟩, some ⟨true, .strs []⟩, some ⟨true, .ints .i64 []⟩, some ⟨true, .ints .i64 []⟩, some ⟨true, .cells [.sl 7 0 o.1.length, .sl 8 0 o.2.1.length, .sl 9 0 o.2.2.1.length, .int .i64 o.2.2.2.1]⟩, some ⟨true, .strs o.1⟩, some ⟨true, .ints .i64 o.2.1⟩, some ⟨true, .ints .i64 o.2.2.1⟩]
def spec.l5DrawRight.l0.x (K : Nat) (a0 : List Int) : (((List ByteArray) × (List Int) × (List Int) × Int × Int × Int) ⊕ ((List ByteArray) × (List Int) × (List Int) × Int × Int × Int)) → AExit × St := Sum.elim (fun o => (.ret, spec.l5DrawRight.l0.e0 K a0 o)) (fun o => (.exit 0, spec.l5DrawRight.l0.e1 K a0 o))
theorem spec.l5DrawRight.l0.spec (K : Nat) (a0 : List Int) : ∀ (k : Nat) (v101_0 : Int) (v101_1 : Int) (v101_2 : List ByteArray) (v101_3 : List Int) (v101_4 : List Int) (v101_5 : Int) (v101_6 : Int) (v101_7 : Int) (o : ((List ByteArray) × (List Int) × (List Int) × Int × Int × Int) ⊕ ((List ByteArray) × (List Int) × (List Int) × Int × Int × Int)), spec.l5DrawRight.l0.f K a0 k v101_0 v101_1 v101_2 v101_3 v101_4 v101_5 v101_6 v101_7 = some o → LoopSpec Tryz.prog 2 (loopN Tryz.f72 0) (spec.l5DrawRight.l0.s K a0 v101_0 v101_1 v101_2 v101_3 v101_4 v101_5 v101_6 v101_7) (spec.l5DrawRight.l0.x K a0 o).1 (spec.l5DrawRight.l0.x K a0 o).2
  | 0, _, _, _, _, _, _, _, _, _, h => by cases h
  | k + 1, v101_0, v101_1, v101_2, v101_3, v101_4, v101_5, v101_6, v101_7, o, h => by
    unfold spec.l5DrawRight.l0.f at h
    rcases br_cases h with ⟨c1, h⟩ | ⟨c1, h⟩
    · obtain ⟨x1, e1, h⟩ := bind_some h
      obtain ⟨x2, e2, h⟩ := bind_some h
      rcases br_cases h with ⟨c2, h⟩ | ⟨c2, h⟩
      · obtain ⟨x3, e3, h⟩ := bind_some h
        obtain ⟨x4, e4, h⟩ := bind_some h
        rcases br_cases h with ⟨c3, h⟩ | ⟨c3, h⟩
        · obtain ⟨x5, e5, h⟩ := bind_some h
          rcases br_cases h with ⟨c4, h⟩ | ⟨c4, h⟩
          · obtain ⟨x6, e6, h⟩ := bind_some h
            obtain ⟨x7, e7, h⟩ := bind_some h
            obtain ⟨x8, e8, h⟩ := bind_some h
            obtain ⟨x9, e9, h⟩ := bind_some h
            exact .of_step tab mixed [bT, .call [(0, true), (1, false)] [] (one (.int .i64 x1.1)) [some ⟨true, .cells [.sl 1 0 a0.length, .int .i64 x1.2.1, .int .i64 x1.2.2]⟩, some ⟨false, .ints .u8 a0⟩], .call [(0, true), (1, false)] [] (one (.bool x2.1)) [some ⟨true, .cells [.sl 1 0 a0.length, .int .i64 x2.2.1, .int .i64 x2.2.2]⟩, some ⟨false, .ints .u8 a0⟩], bT, .call [(0, true), (1, false)] [(1, true)] (one (.str x3.1)) [some ⟨true, .cells [.sl 1 0 a0.length, .int .i64 x3.2.1, .int .i64 x3.2.2]⟩, some ⟨false, .ints .u8 a0⟩, some ⟨false, .strs [noVal, (ByteArray.mk #[97]), (ByteArray.mk #[98, 98]), (ByteArray.mk #[104, 101, 108, 108, 111])]⟩], .call [(7, false), (8, false), (9, false)] [] (.tup [.c (.sl 3 0 x4.1.length), .agg [.sl 4 0 x4.2.1.length, .sl 5 0 x4.2.2.1.length, .sl 6 0 x4.2.2.2.1.length, .int .i64 x4.2.2.2.2.1], .c (.bool x4.2.2.2.2.2)]) [some ⟨false, .strs v101_2⟩, some ⟨false, .ints .i64 v101_3⟩, some ⟨false, .ints .i64 v101_4⟩, some ⟨true, .acts x4.1⟩, some ⟨true, .strs x4.2.1⟩, some ⟨true, .ints .i64 x4.2.2.1⟩, some ⟨true, .ints .i64 x4.2.2.2.1⟩], bF, .call [(0, true), (1, false)] [] (one (.bool x5.1)) [some ⟨true, .cells [.sl 1 0 a0.length, .int .i64 x5.2.1, .int .i64 x5.2.2]⟩, some ⟨false, .ints .u8 a0⟩], bT, .call [(0, true), (1, false)] [] (one (.int .i64 x6.1)) [some ⟨true, .cells [.sl 1 0 a0.length, .int .i64 x6.2.1, .int .i64 x6.2.2]⟩, some ⟨false, .ints .u8 a0⟩], .call [(0, true), (1, false)] [] (one (.int .i64 x7.1)) [some ⟨true, .cells [.sl 1 0 a0.length, .int .i64 x7.2.1, .int .i64 x7.2.2]⟩, some ⟨false, .ints .u8 a0⟩], .call [(7, false), (8, false)] [(1, true)] (.v (.agg [.sl 3 0 x8.1.length, .sl 4 0 x8.2.length])) [some ⟨false, .strs v101_2⟩, some ⟨false, .ints .i64 v101_3⟩, some ⟨false, .acts x4.1⟩, some ⟨true, .strs x8.1⟩, some ⟨true, .ints .i64 x8.2⟩], .call [(202, false), (203, false)] [] (.v (.agg [.sl 2 0 x9.1.length, .sl 3 0 x9.2.1.length, .sl 4 0 x9.2.2.1.length, .int .i64 x9.2.2.2])) [some ⟨false, .strs x8.1⟩, some ⟨false, .ints .i64 x8.2⟩, some ⟨true, .strs x9.1⟩, some ⟨true, .ints .i64 x9.2.1⟩, some ⟨true, .ints .i64 x9.2.2.1⟩]] [] [0, 2, 3, 4, 5] [0, 1, 2, 3, 4, 5, 6, 210, 211, 212] (s1 := spec.l5DrawRight.l0.s K a0 x7.2.1 x7.2.2 x9.1 x9.2.1 x9.2.2.1 x9.2.2.2 v101_6 (w64 (v101_7 + 1))) (nd c1 (nd (spec.l1Below.spec a0 v101_0 v101_1 26 _ e1) (nd (spec.l1Once.spec a0 x1.2.1 x1.2.2 2 _ e2) (nd c2 (nd (by decide : (4 : Int) ≠ 0) (nd (spec.l1Pick.spec a0 x2.2.1 x2.2.2 [noVal, (ByteArray.mk #[97]), (ByteArray.mk #[98, 98]), (ByteArray.mk #[104, 101, 108, 108, 111])] _ e3) (n0 (nn 4 (nd (spec.Plan.spec K v101_2 v101_3 v101_4 v101_5 (x1.1.tmod 4) x3.1 _ e4) (nd (nf c3) (nd (spec.l1Once.spec a0 x3.2.1 x3.2.2 12 _ e5) (nd c4 (nd (spec.l1Below.spec a0 x5.2.1 x5.2.2 (w64 ((x4.1.length : Int) + 1)) _ e6) (nd (spec.l1Below.spec a0 x6.2.1 x6.2.2 9 _ e7) (nd (spec.Cut.spec K v101_2 v101_3 x4.1 x6.1 x7.1 _ e8) (n0 (nl x4.1 (nd (spec.Mount.spec K x8.1 x8.2 _ e9) trivial)))))))))))))))))) (by kernel_rfl) (spec.l5DrawRight.l0.spec K a0 k x7.2.1 x7.2.2 x9.1 x9.2.1 x9.2.2.1 x9.2.2.2 v101_6 (w64 (v101_7 + 1)) _ h)
          · exact .of_step tab mixed [bT, .call [(0, true), (1, false)] [] (one (.int .i64 x1.1)) [some ⟨true, .cells [.sl 1 0 a0.length, .int .i64 x1.2.1, .int .i64 x1.2.2]⟩, some ⟨false, .ints .u8 a0⟩], .call [(0, true), (1, false)] [] (one (.bool x2.1)) [some ⟨true, .cells [.sl 1 0 a0.length, .int .i64 x2.2.1, .int .i64 x2.2.2]⟩, some ⟨false, .ints .u8 a0⟩], bT, .call [(0, true), (1, false)] [(1, true)] (one (.str x3.1)) [some ⟨true, .cells [.sl 1 0 a0.length, .int .i64 x3.2.1, .int .i64 x3.2.2]⟩, some ⟨false, .ints .u8 a0⟩, some ⟨false, .strs [noVal, (ByteArray.mk #[97]), (ByteArray.mk #[98, 98]), (ByteArray.mk #[104, 101, 108, 108, 111])]⟩], .call [(7, false), (8, false), (9, false)] [] (.tup [.c (.sl 3 0 x4.1.length), .agg [.sl 4 0 x4.2.1.length, .sl 5 0 x4.2.2.1.length, .sl 6 0 x4.2.2.2.1.length, .int .i64 x4.2.2.2.2.1], .c (.bool x4.2.2.2.2.2)]) [some ⟨false, .strs v101_2⟩, some ⟨false, .ints .i64 v101_3⟩, some ⟨false, .ints .i64 v101_4⟩, some ⟨true, .acts x4.1⟩, some ⟨true, .strs x4.2.1⟩, some ⟨true, .ints .i64 x4.2.2.1⟩, some ⟨true, .ints .i64 x4.2.2.2.1⟩], bF, .call [(0, true), (1, false)] [] (one (.bool x5.1)) [some ⟨true, .cells [.sl 1 0 a0.length, .int .i64 x5.2.1, .int .i64 x5.2.2]⟩, some ⟨false, .ints .u8 a0⟩], bF] [] [0, 2, 3, 4, 5] [0, 1, 2, 3, 4, 5, 6, 51, 52, 53] (s1 := spec.l5DrawRight.l0.s K a0 x5.2.1 x5.2.2 x4.2.1 x4.2.2.1 x4.2.2.2.1 x4.2.2.2.2.1 v101_6 (w64 (v101_7 + 1))) (nd c1 (nd (spec.l1Below.spec a0 v101_0 v101_1 26 _ e1) (nd (spec.l1Once.spec a0 x1.2.1 x1.2.2 2 _ e2) (nd c2 (nd (by decide : (4 : Int) ≠ 0) (nd (spec.l1Pick.spec a0 x2.2.1 x2.2.2 [noVal, (ByteArray.mk #[97]), (ByteArray.mk #[98, 98]), (ByteArray.mk #[104, 101, 108, 108, 111])] _ e3) (n0 (nn 4 (nd (spec.Plan.spec K v101_2 v101_3 v101_4 v101_5 (x1.1.tmod 4) x3.1 _ e4) (nd (nf c3) (nd (spec.l1Once.spec a0 x3.2.1 x3.2.2 12 _ e5) (nd c4 trivial)))))))))))) (by kernel_rfl) (spec.l5DrawRight.l0.spec K a0 k x5.2.1 x5.2.2 x4.2.1 x4.2.2.1 x4.2.2.2.1 x4.2.2.2.2.1 v101_6 (w64 (v101_7 + 1)) _ h)
        · obtain rfl := Option.some.inj h
          exact .of_done tab mixed [bT, .call [(0, true), (1, false)] [] (one (.int .i64 x1.1)) [some ⟨true, .cells [.sl 1 0 a0.length, .int .i64 x1.2.1, .int .i64 x1.2.2]⟩, some ⟨false, .ints .u8 a0⟩], .call [(0, true), (1, false)] [] (one (.bool x2.1)) [some ⟨true, .cells [.sl 1 0 a0.length, .int .i64 x2.2.1, .int .i64 x2.2.2]⟩, some ⟨false, .ints .u8 a0⟩], bT, .call [(0, true), (1, false)] [(1, true)] (one (.str x3.1)) [some ⟨true, .cells [.sl 1 0 a0.length, .int .i64 x3.2.1, .int .i64 x3.2.2]⟩, some ⟨false, .ints .u8 a0⟩, some ⟨false, .strs [noVal, (ByteArray.mk #[97]), (ByteArray.mk #[98, 98]), (ByteArray.mk #[104, 101, 108, 108, 111])]⟩], .call [(7, false), (8, false), (9, false)] [] (.tup [.c (.sl 3 0 x4.1.length), .agg [.sl 4 0 x4.2.1.length, .sl 5 0 x4.2.2.1.length, .sl 6 0 x4.2.2.2.1.length, .int .i64 x4.2.2.2.2.1], .c (.bool x4.2.2.2.2.2)]) [some ⟨false, .strs v101_2⟩, some ⟨false, .ints .i64 v101_3⟩, some ⟨false, .ints .i64 v101_4⟩, some ⟨true, .acts x4.1⟩, some ⟨true, .strs x4.2.1⟩, some ⟨true, .ints .i64 x4.2.2.1⟩, some ⟨true, .ints .i64 x4.2.2.2.1⟩], bT] [] [2] [0, 1, 2, 7, 8, 9] rfl (nd c1 (nd (spec.l1Below.spec a0 v101_0 v101_1 26 _ e1) (nd (spec.l1Once.spec a0 x1.2.1 x1.2.2 2 _ e2) (nd c2 (nd (by decide : (4 : Int) ≠ 0) (nd (spec.l1Pick.spec a0 x2.2.1 x2.2.2 [noVal, (ByteArray.mk #[97]), (ByteArray.mk #[98, 98]), (ByteArray.mk #[104, 101, 108, 108, 111])] _ e3) (n0 (nn 4 (nd (spec.Plan.spec K v101_2 v101_3 v101_4 v101_5 (x1.1.tmod 4) x3.1 _ e4) (nd (nt c3) trivial)))))))))) (by kernel_rfl)
      · obtain ⟨x3, e3, h⟩ := bind_some h
        obtain ⟨x4, e4, h⟩ := bind_some h
        rcases br_cases h with ⟨c3, h⟩ | ⟨c3, h⟩
        · obtain ⟨x5, e5, h⟩ := bind_some h
          rcases br_cases h with ⟨c4, h⟩ | ⟨c4, h⟩
          · obtain ⟨x6, e6, h⟩ := bind_some h
            obtain ⟨x7, e7, h⟩ := bind_some h
            obtain ⟨x8, e8, h⟩ := bind_some h
            obtain ⟨x9, e9, h⟩ := bind_some h
            exact .of_step tab mixed [bT, .call [(0, true), (1, false)] [] (one (.int .i64 x1.1)) [some ⟨true, .cells [.sl 1 0 a0.length, .int .i64 x1.2.1, .int .i64 x1.2.2]⟩, some ⟨false, .ints .u8 a0⟩], .call [(0, true), (1, false)] [] (one (.bool x2.1)) [some ⟨true, .cells [.sl 1 0 a0.length, .int .i64 x2.2.1, .int .i64 x2.2.2]⟩, some ⟨false, .ints .u8 a0⟩], bF, .call [(0, true), (1, false)] [(1, true)] (one (.str x3.1)) [some ⟨true, .cells [.sl 1 0 a0.length, .int .i64 x3.2.1, .int .i64 x3.2.2]⟩, some ⟨false, .ints .u8 a0⟩, some ⟨false, .strs [noVal, (ByteArray.mk #[97]), (ByteArray.mk #[98, 98]), (ByteArray.mk #[104, 101, 108, 108, 111])]⟩], .call [(7, false), (8, false), (9, false)] [] (.tup [.c (.sl 3 0 x4.1.length), .agg [.sl 4 0 x4.2.1.length, .sl 5 0 x4.2.2.1.length, .sl 6 0 x4.2.2.2.1.length, .int .i64 x4.2.2.2.2.1], .c (.bool x4.2.2.2.2.2)]) [some ⟨false, .strs v101_2⟩, some ⟨false, .ints .i64 v101_3⟩, some ⟨false, .ints .i64 v101_4⟩, some ⟨true, .acts x4.1⟩, some ⟨true, .strs x4.2.1⟩, some ⟨true, .ints .i64 x4.2.2.1⟩, some ⟨true, .ints .i64 x4.2.2.2.1⟩], bF, .call [(0, true), (1, false)] [] (one (.bool x5.1)) [some ⟨true, .cells [.sl 1 0 a0.length, .int .i64 x5.2.1, .int .i64 x5.2.2]⟩, some ⟨false, .ints .u8 a0⟩], bT, .call [(0, true), (1, false)] [] (one (.int .i64 x6.1)) [some ⟨true, .cells [.sl 1 0 a0.length, .int .i64 x6.2.1, .int .i64 x6.2.2]⟩, some ⟨false, .ints .u8 a0⟩], .call [(0, true), (1, false)] [] (one (.int .i64 x7.1)) [some ⟨true, .cells [.sl 1 0 a0.length, .int .i64 x7.2.1, .int .i64 x7.2.2]⟩, some ⟨false, .ints .u8 a0⟩], .call [(7, false), (8, false)] [(1, true)] (.v (.agg [.sl 3 0 x8.1.length, .sl 4 0 x8.2.length])) [some ⟨false, .strs v101_2⟩, some ⟨false, .ints .i64 v101_3⟩, some ⟨false, .acts x4.1⟩, some ⟨true, .strs x8.1⟩, some ⟨true, .ints .i64 x8.2⟩], .call [(202, false), (203, false)] [] (.v (.agg [.sl 2 0 x9.1.length, .sl 3 0 x9.2.1.length, .sl 4 0 x9.2.2.1.length, .int .i64 x9.2.2.2])) [some ⟨false, .strs x8.1⟩, some ⟨false, .ints .i64 x8.2⟩, some ⟨true, .strs x9.1⟩, some ⟨true, .ints .i64 x9.2.1⟩, some ⟨true, .ints .i64 x9.2.2.1⟩]] [] [0, 2, 3, 4, 5] [0, 1, 2, 3, 4, 5, 6, 210, 211, 212] (s1 := spec.l5DrawRight.l0.s K a0 x7.2.1 x7.2.2 x9.1 x9.2.1 x9.2.2.1 x9.2.2.2 v101_6 (w64 (v101_7 + 1))) (nd c1 (nd (spec.l1Below.spec a0 v101_0 v101_1 26 _ e1) (nd (spec.l1Once.spec a0 x1.2.1 x1.2.2 2 _ e2) (nd c2 (nd (spec.l1Pick.spec a0 x2.2.1 x2.2.2 [noVal, (ByteArray.mk #[97]), (ByteArray.mk #[98, 98]), (ByteArray.mk #[104, 101, 108, 108, 111])] _ e3) (n0 (nn 4 (nd (spec.Plan.spec K v101_2 v101_3 v101_4 v101_5 x1.1 x3.1 _ e4) (nd (nf c3) (nd (spec.l1Once.spec a0 x3.2.1 x3.2.2 12 _ e5) (nd c4 (nd (spec.l1Below.spec a0 x5.2.1 x5.2.2 (w64 ((x4.1.length : Int) + 1)) _ e6) (nd (spec.l1Below.spec a0 x6.2.1 x6.2.2 9 _ e7) (nd (spec.Cut.spec K v101_2 v101_3 x4.1 x6.1 x7.1 _ e8) (n0 (nl x4.1 (nd (spec.Mount.spec K x8.1 x8.2 _ e9) trivial))))))))))))))))) (by kernel_rfl) (spec.l5DrawRight.l0.spec K a0 k x7.2.1 x7.2.2 x9.1 x9.2.1 x9.2.2.1 x9.2.2.2 v101_6 (w64 (v101_7 + 1)) _ h)
          · exact .of_step tab mixed [bT, .call [(0, true), (1, false)] [] (one (.int .i64 x1.1)) [some ⟨true, .cells [.sl 1 0 a0.length, .int .i64 x1.2.1, .int .i64 x1.2.2]⟩, some ⟨false, .ints .u8 a0⟩], .call [(0, true), (1, false)] [] (one (.bool x2.1)) [some ⟨true, .cells [.sl 1 0 a0.length, .int .i64 x2.2.1, .int .i64 x2.2.2]⟩, some ⟨false, .ints .u8 a0⟩], bF, .call [(0, true), (1, false)] [(1, true)] (one (.str x3.1)) [some ⟨true, .cells [.sl 1 0 a0.length, .int .i64 x3.2.1, .int .i64 x3.2.2]⟩, some ⟨false, .ints .u8 a0⟩, some ⟨false, .strs [noVal, (ByteArray.mk #[97]), (ByteArray.mk #[98, 98]), (ByteArray.mk #[104, 101, 108, 108, 111])]⟩], .call [(7, false), (8, false), (9, false)] [] (.tup [.c (.sl 3 0 x4.1.length), .agg [.sl 4 0 x4.2.1.length, .sl 5 0 x4.2.2.1.length, .sl 6 0 x4.2.2.2.1.length, .int .i64 x4.2.2.2.2.1], .c (.bool x4.2.2.2.2.2)]) [some ⟨false, .strs v101_2⟩, some ⟨false, .ints .i64 v101_3⟩, some ⟨false, .ints .i64 v101_4⟩, some ⟨true, .acts x4.1⟩, some ⟨true, .strs x4.2.1⟩, some ⟨true, .ints .i64 x4.2.2.1⟩, some ⟨true, .ints .i64 x4.2.2.2.1⟩], bF, .call [(0, true), (1, false)] [] (one (.bool x5.1)) [some ⟨true, .cells [.sl 1 0 a0.length, .int .i64 x5.2.1, .int .i64 x5.2.2]⟩, some ⟨false, .ints .u8 a0⟩], bF] [] [0, 2, 3, 4, 5] [0, 1, 2, 3, 4, 5, 6, 51, 52, 53] (s1 := spec.l5DrawRight.l0.s K a0 x5.2.1 x5.2.2 x4.2.1 x4.2.2.1 x4.2.2.2.1 x4.2.2.2.2.1 v101_6 (w64 (v101_7 + 1))) (nd c1 (nd (spec.l1Below.spec a0 v101_0 v101_1 26 _ e1) (nd (spec.l1Once.spec a0 x1.2.1 x1.2.2 2 _ e2) (nd c2 (nd (spec.l1Pick.spec a0 x2.2.1 x2.2.2 [noVal, (ByteArray.mk #[97]), (ByteArray.mk #[98, 98]), (ByteArray.mk #[104, 101, 108, 108, 111])] _ e3) (n0 (nn 4 (nd (spec.Plan.spec K v101_2 v101_3 v101_4 v101_5 x1.1 x3.1 _ e4) (nd (nf c3) (nd (spec.l1Once.spec a0 x3.2.1 x3.2.2 12 _ e5) (nd c4 trivial))))))))))) (by kernel_rfl) (spec.l5DrawRight.l0.spec K a0 k x5.2.1 x5.2.2 x4.2.1 x4.2.2.1 x4.2.2.2.1 x4.2.2.2.2.1 v101_6 (w64 (v101_7 + 1)) _ h)
        · obtain rfl := Option.some.inj h
          exact .of_done tab mixed [bT, .call [(0, true), (1, false)] [] (one (.int .i64 x1.1)) [some ⟨true, .cells [.sl 1 0 a0.length, .int .i64 x1.2.1, .int .i64 x1.2.2]⟩, some ⟨false, .ints .u8 a0⟩], .call [(0, true), (1, false)] [] (one (.bool x2.1)) [some ⟨true, .cells [.sl 1 0 a0.length, .int .i64 x2.2.1, .int .i64 x2.2.2]⟩, some ⟨false, .ints .u8 a0⟩], bF, .call [(0, true), (1, false)] [(1, true)] (one (.str x3.1)) [some ⟨true, .cells [.sl 1 0 a0.length, .int .i64 x3.2.1, .int .i64 x3.2.2]⟩, some ⟨false, .ints .u8 a0⟩, some ⟨false, .strs [noVal, (ByteArray.mk #[97]), (ByteArray.mk #[98, 98]), (ByteArray.mk #[104, 101, 108, 108, 111])]⟩], .call [(7, false), (8, false), (9, false)] [] (.tup [.c (.sl 3 0 x4.1.length), .agg [.sl 4 0 x4.2.1.length, .sl 5 0 x4.2.2.1.length, .sl 6 0 x4.2.2.2.1.length, .int .i64 x4.2.2.2.2.1], .c (.bool x4.2.2.2.2.2)]) [some ⟨false, .strs v101_2⟩, some ⟨false, .ints .i64 v101_3⟩, some ⟨false, .ints .i64 v101_4⟩, some ⟨true, .acts x4.1⟩, some ⟨true, .strs x4.2.1⟩, some ⟨true, .ints .i64 x4.2.2.1⟩, some ⟨true, .ints .i64 x4.2.2.2.1⟩], bT] [] [2] [0, 1, 2, 7, 8, 9] rfl (nd c1 (nd (spec.l1Below.spec a0 v101_0 v101_1 26 _ e1) (nd (spec.l1Once.spec a0 x1.2.1 x1.2.2 2 _ e2) (nd c2 (nd (spec.l1Pick.spec a0 x2.2.1 x2.2.2 [noVal, (ByteArray.mk #[97]), (ByteArray.mk #[98, 98]), (ByteArray.mk #[104, 101, 108, 108, 111])] _ e3) (n0 (nn 4 (nd (spec.Plan.spec K v101_2 v101_3 v101_4 v101_5 x1.1 x3.1 _ e4) (nd (nt c3) trivial))))))))) (by kernel_rfl)
    · obtain rfl := Option.some.inj h
      exact .of_done tab mixed [bF] [] [2, 3] [0, 1, 2, 3, 4, 5, 6, 7, 8, 9] rfl (nd c1 trivial) (by kernel_rfl)
def spec.l5DrawRight.f (K : Nat) (a0 : List Int) (a1 : Int) (a2 : Int) : Option ((List ByteArray) × (List Int) × (List Int) × Int × Int × Int) :=
  Option.bind (spec.ChipNew.f) fun x1 => Option.bind (spec.Mount.f K (List.replicate 60 noVal) (List.replicate 10 (0 : Int))) fun x2 => Option.bind (spec.l1Below.f a0 a1 a2 70) fun x3 => Option.bind (spec.l5DrawRight.l0.f K a0 K x3.2.1 x3.2.2 x2.1 x2.2.1 x2.2.2.1 x2.2.2.2 x3.1 0) fun x4 => (Sum.elim (fun x4 => some (x4.1, x4.2.1, x4.2.2.1, x4.2.2.2.1, x4.2.2.2.2.1, x4.2.2.2.2.2)) (fun x4 => some (x4.1, x4.2.1, x4.2.2.1, x4.2.2.2.1, x4.2.2.2.2.1, x4.2.2.2.2.2))) x4
theorem spec.l5DrawRight.spec (K : Nat) (a0 : List Int) (a1 : Int) (a2 : Int) (o : (List ByteArray) × (List Int) × (List Int) × Int × Int × Int) (h : spec.l5DrawRight.f K a0 a1 a2 = some o) : Den.Spec Tryz.prog 72 [one (.ptr 0 0 0)] [some ⟨true, .cells [.sl 1 0 a0.length, .int .i64 a1, .int .i64 a2]⟩, some ⟨false, .ints .u8 a0⟩] (.v (.agg [.sl 2 0 o.1.length, .sl 3 0 o.2.1.length, .sl 4 0 o.2.2.1.length, .int .i64 o.2.2.2.1])) [some ⟨true, .cells [.sl 1 0 a0.length, .int .i64 o.2.2.2.2.1, .int .i64 o.2.2.2.2.2]⟩, some ⟨false, .ints .u8 a0⟩, some ⟨true, .strs o.1⟩, some ⟨true, .ints .i64 o.2.1⟩, some ⟨true, .ints .i64 o.2.2.1⟩] := by
  unfold spec.l5DrawRight.f at h
  obtain ⟨x1, e1, h⟩ := bind_some h
  obtain ⟨x2, e2, h⟩ := bind_some h
  obtain ⟨x3, e3, h⟩ := bind_some h
  obtain ⟨x4, e4, h⟩ := bind_some h
  rcases x4 with x4 | x4
  · obtain rfl := Option.some.inj h
    exact Den.Spec.of_walk tab mixed Tryz.func72 (by kernel_rfl) [.call [] [] (.v (.agg [.sl 0 0 ((List.replicate 60 noVal).length), .sl 1 0 ((List.replicate 10 (0 : Int)).length)])) [some ⟨true, .strs (List.replicate 60 noVal)⟩, some ⟨true, .ints .i64 (List.replicate 10 (0 : Int))⟩], .call [(6, false), (7, false)] [] (.v (.agg [.sl 2 0 x2.1.length, .sl 3 0 x2.2.1.length, .sl 4 0 x2.2.2.1.length, .int .i64 x2.2.2.2])) [some ⟨false, .strs (List.replicate 60 noVal)⟩, some ⟨false, .ints .i64 (List.replicate 10 (0 : Int))⟩, some ⟨true, .strs x2.1⟩, some ⟨true, .ints .i64 x2.2.1⟩, some ⟨true, .ints .i64 x2.2.2.1⟩], .call [(0, true), (1, false)] [] (one (.int .i64 x3.1)) [some ⟨true, .cells [.sl 1 0 a0.length, .int .i64 x3.2.1, .int .i64 x3.2.2]⟩, some ⟨false, .ints .u8 a0⟩], .loop [] [0, 2, 3, 4, 5] [0, 1, 2, 3, 4, 5, 11, 8, 9, 10] (.ret) (spec.l5DrawRight.l0.e0 K a0 x4)] [] [0, 1, 3, 4, 5] (nd (spec.ChipNew.spec _ e1) (nd (spec.Mount.spec K (List.replicate 60 noVal) (List.replicate 10 (0 : Int)) _ e2) (nd (spec.l1Below.spec a0 a1 a2 70 _ e3) (nd (spec.l5DrawRight.l0.spec K a0 K x3.2.1 x3.2.2 x2.1 x2.2.1 x2.2.2.1 x2.2.2.2 x3.1 0 _ e4) trivial)))) (by kernel_rfl)
  · obtain rfl := Option.some.inj h
    exact Den.Spec.of_walk tab mixed Tryz.func72 (by kernel_rfl) [.call [] [] (.v (.agg [.sl 0 0 ((List.replicate 60 noVal).length), .sl 1 0 ((List.replicate 10 (0 : Int)).length)])) [some ⟨true, .strs (List.replicate 60 noVal)⟩, some ⟨true, .ints .i64 (List.replicate 10 (0 : Int))⟩], .call [(6, false), (7, false)] [] (.v (.agg [.sl 2 0 x2.1.length, .sl 3 0 x2.2.1.length, .sl 4 0 x2.2.2.1.length, .int .i64 x2.2.2.2])) [some ⟨false, .strs (List.replicate 60 noVal)⟩, some ⟨false, .ints .i64 (List.replicate 10 (0 : Int))⟩, some ⟨true, .strs x2.1⟩, some ⟨true, .ints .i64 x2.2.1⟩, some ⟨true, .ints .i64 x2.2.2.1⟩], .call [(0, true), (1, false)] [] (one (.int .i64 x3.1)) [some ⟨true, .cells [.sl 1 0 a0.length, .int .i64 x3.2.1, .int .i64 x3.2.2]⟩, some ⟨false, .ints .u8 a0⟩], .loop [] [0, 2, 3, 4, 5] [0, 1, 2, 3, 4, 5, 11, 8, 9, 10] (.exit 0) (spec.l5DrawRight.l0.e1 K a0 x4)] [] [0, 1, 7, 8, 9] (nd (spec.ChipNew.spec _ e1) (nd (spec.Mount.spec K (List.replicate 60 noVal) (List.replicate 10 (0 : Int)) _ e2) (nd (spec.l1Below.spec a0 a1 a2 70 _ e3) (nd (spec.l5DrawRight.l0.spec K a0 K x3.2.1 x3.2.2 x2.1 x2.2.1 x2.2.2.1 x2.2.2.2 x3.1 0 _ e4) trivial)))) (by kernel_rfl)
def spec.l6DrawPuts.l0.f (a0 : List Int) : Nat → Int → Int → (List (Int × ByteArray)) → Int → Option (Int × Int × (List (Int × ByteArray)))
  | 0, _, _, _, _ => none
  | k + 1, v105_0, v105_1, v105_2, v105_3 =>
    Option.bind (spec.l1Below.f a0 v105_0 v105_1 5) fun x1 => cond (decide (v105_3 < x1.1)) (Option.bind (spec.l1Below.f a0 x1.2.1 x1.2.2 26) fun x2 => Option.bind (spec.l1Pick.f a0 x2.2.1 x2.2.2 [noVal, (ByteArray.mk #[120]), (ByteArray.mk #[121, 121]), (ByteArray.mk #[122, 122, 122])]) fun x3 => ck ((v105_2 ++ [(x2.1, x3.1)]).length * 24 ≤ 70368744177664) (spec.l6DrawPuts.l0.f a0 k x3.2.1 x3.2.2 (v105_2 ++ [(x2.1, x3.1)]) (w64 (v105_3 + 1)))) (some (x1.2.1, x1.2.2, v105_2))
def spec.l6DrawPuts.l0.s (a0 : List Int) (v105_0 : Int) (v105_1 : Int) (v105_2 : List (Int × ByteArray)) (v105_3 : Int) : St := mkSt 42 [(0, one (.ptr 0 0 0)), (3, one (.sl 2 0 v105_2.length)), (4, one (.int .i64 v105_3))] [some ⟨true, .cells [.sl 1 0 a0.length, .int .i64 v105_0, .int .i64 v105_1]⟩, some ⟨false, .ints .u8 a0⟩, some ⟨true, .puts v105_2⟩]
def spec.l6DrawPuts.l0.e0 (a0 : List Int) (o : Int × Int × (List (Int × ByteArray))) : St := mkSt 42 [(0, one (.ptr 0 0 0)), (3, one (.sl 2 0 o.2.2.length))] [some ⟨true, .cells [.sl 1 0 a0.length, .int .i64 o.1, .int .i64 o.2.1]⟩, some ⟨false, .ints .u8 a0⟩, some ⟨true, .puts o.2.2⟩]
def spec.l6DrawPuts.l0.x (a0 : List Int) : (Int × Int × (List (Int × ByteArray))) → AExit × St := fun o => (.exit 0, spec.l6DrawPuts.l0.e0 a0 o)
theorem spec.l6DrawPuts.l0.spec (a0 : List Int) : ∀ (k : Nat) (v105_0 : Int) (v105_1 : Int) (v105_2 : List (Int × ByteArray)) (v105_3 : Int) (o : Int × Int × (List (Int × ByteArray))), spec.l6DrawPuts.l0.f a0 k v105_0 v105_1 v105_2 v105_3 = some o → LoopSpec Tryz.prog 2 (loopN Tryz.f73 0) (spec.l6DrawPuts.l0.s a0 v105_0 v105_1 v105_2 v105_3) (spec.l6DrawPuts.l0.x a0 o).1 (spec.l6DrawPuts.l0.x a0 o).2
  | 0, _, _, _, _, _, h => by cases h
  | k + 1, v105_0, v105_1, v105_2, v105_3, o, h => by
    unfold spec.l6DrawPuts.l0.f at h
    obtain ⟨x1, e1, h⟩ := bind_some h
    rcases br_cases h with ⟨c1, h⟩ | ⟨c1, h⟩
    · obtain ⟨x2, e2, h⟩ := bind_some h
      obtain ⟨x3, e3, h⟩ := bind_some h
      obtain ⟨p1, h⟩ := ck_some h
      exact .of_step tab mixed [.call [(0, true), (1, false)] [] (one (.int .i64 x1.1)) [some ⟨true, .cells [.sl 1 0 a0.length, .int .i64 x1.2.1, .int .i64 x1.2.2]⟩, some ⟨false, .ints .u8 a0⟩], bT, .call [(0, true), (1, false)] [] (one (.int .i64 x2.1)) [some ⟨true, .cells [.sl 1 0 a0.length, .int .i64 x2.2.1, .int .i64 x2.2.2]⟩, some ⟨false, .ints .u8 a0⟩], .call [(0, true), (1, false)] [(1, true)] (one (.str x3.1)) [some ⟨true, .cells [.sl 1 0 a0.length, .int .i64 x3.2.1, .int .i64 x3.2.2]⟩, some ⟨false, .ints .u8 a0⟩, some ⟨false, .strs [noVal, (ByteArray.mk #[120]), (ByteArray.mk #[121, 121]), (ByteArray.mk #[122, 122, 122])]⟩], bT] [] [0, 3, 4] [0, 1, 5] (s1 := spec.l6DrawPuts.l0.s a0 x3.2.1 x3.2.2 (v105_2 ++ [(x2.1, x3.1)]) (w64 (v105_3 + 1))) (nd (spec.l1Below.spec a0 v105_0 v105_1 5 _ e1) (nd c1 (nd (spec.l1Below.spec a0 x1.2.1 x1.2.2 26 _ e2) (nd (spec.l1Pick.spec a0 x2.2.1 x2.2.2 [noVal, (ByteArray.mk #[120]), (ByteArray.mk #[121, 121]), (ByteArray.mk #[122, 122, 122])] _ e3) (n0 (nn 4 (n0 (nl v105_2 (nd p1 (n0 (nn 1 trivial))))))))))) (by kernel_rfl) (spec.l6DrawPuts.l0.spec a0 k x3.2.1 x3.2.2 (v105_2 ++ [(x2.1, x3.1)]) (w64 (v105_3 + 1)) _ h)
    · obtain rfl := Option.some.inj h
      exact .of_done tab mixed [.call [(0, true), (1, false)] [] (one (.int .i64 x1.1)) [some ⟨true, .cells [.sl 1 0 a0.length, .int .i64 x1.2.1, .int .i64 x1.2.2]⟩, some ⟨false, .ints .u8 a0⟩], bF] [] [0, 3] [0, 1, 2] rfl (nd (spec.l1Below.spec a0 v105_0 v105_1 5 _ e1) (nd c1 trivial)) (by kernel_rfl)
def spec.l6DrawPuts.l1.f (a0 : List Int) : Nat → Int → Int → (List (Int × ByteArray)) → Option ((List (Int × ByteArray)) × Int × Int)
  | 0, _, _, _ => none
  | k + 1, v106_0, v106_1, v106_2 =>
    Option.bind (spec.l1Below.f a0 v106_0 v106_1 2) fun x1 => cond (decide ((v106_2.length : Int) < (w64 (8 + x1.1)))) (ck ((v106_2 ++ [((3 : Int), noVal)]).length * 24 ≤ 70368744177664) (spec.l6DrawPuts.l1.f a0 k x1.2.1 x1.2.2 (v106_2 ++ [((3 : Int), noVal)]))) (some (v106_2, x1.2.1, x1.2.2))
def spec.l6DrawPuts.l1.s (a0 : List Int) (v106_0 : Int) (v106_1 : Int) (v106_2 : List (Int × ByteArray)) : St := mkSt 42 [(0, one (.ptr 0 0 0)), (3, one (.sl 2 0 v106_2.length))] [some ⟨true, .cells [.sl 1 0 a0.length, .int .i64 v106_0, .int .i64 v106_1]⟩, some ⟨false, .ints .u8 a0⟩, some ⟨true, .puts v106_2⟩]
def spec.l6DrawPuts.l1.e0 (a0 : List Int) (o : (List (Int × ByteArray)) × Int × Int) : St := mkSt 42 [(3, one (.sl 2 0 o.1.length))] [some ⟨true, .cells [.sl 1 0 a0.length, .int .i64 o.2.1, .int .i64 o.2.2]⟩, some ⟨false, .ints .u8 a0⟩, some ⟨true, .puts o.1⟩]
def spec.l6DrawPuts.l1.x (a0 : List Int) : ((List (Int × ByteArray)) × Int × Int) → AExit × St := fun o => (.exit 3, spec.l6DrawPuts.l1.e0 a0 o)
theorem spec.l6DrawPuts.l1.spec (a0 : List Int) : ∀ (k : Nat) (v106_0 : Int) (v106_1 : Int) (v106_2 : List (Int × ByteArray)) (o : (List (Int × ByteArray)) × Int × Int), spec.l6DrawPuts.l1.f a0 k v106_0 v106_1 v106_2 = some o → LoopSpec Tryz.prog 2 (loopN Tryz.f73 1) (spec.l6DrawPuts.l1.s a0 v106_0 v106_1 v106_2) (spec.l6DrawPuts.l1.x a0 o).1 (spec.l6DrawPuts.l1.x a0 o).2
  | 0, _, _, _, _, h => by cases h
  | k + 1, v106_0, v106_1, v106_2, o, h => by
    unfold spec.l6DrawPuts.l1.f at h
    obtain ⟨x1, e1, h⟩ := bind_some h
    rcases br_cases h with ⟨c1, h⟩ | ⟨c1, h⟩
    · obtain ⟨p1, h⟩ := ck_some h
      exact .of_step tab mixed [.call [(0, true), (1, false)] [] (one (.int .i64 x1.1)) [some ⟨true, .cells [.sl 1 0 a0.length, .int .i64 x1.2.1, .int .i64 x1.2.2]⟩, some ⟨false, .ints .u8 a0⟩], bT, bT] [] [0, 3] [0, 1, 4] (s1 := spec.l6DrawPuts.l1.s a0 x1.2.1 x1.2.2 (v106_2 ++ [((3 : Int), noVal)])) (nd (spec.l1Below.spec a0 v106_0 v106_1 2 _ e1) (nd c1 (n0 (nl v106_2 (nd p1 (n0 (nn 1 trivial))))))) (by kernel_rfl) (spec.l6DrawPuts.l1.spec a0 k x1.2.1 x1.2.2 (v106_2 ++ [((3 : Int), noVal)]) _ h)
    · obtain rfl := Option.some.inj h
      exact .of_done tab mixed [.call [(0, true), (1, false)] [] (one (.int .i64 x1.1)) [some ⟨true, .cells [.sl 1 0 a0.length, .int .i64 x1.2.1, .int .i64 x1.2.2]⟩, some ⟨false, .ints .u8 a0⟩], bF] [] [3] [0, 1, 2] rfl (nd (spec.l1Below.spec a0 v106_0 v106_1 2 _ e1) (nd c1 trivial)) (by kernel_rfl)
def spec.l6DrawPuts.f (K : Nat) (a0 : List Int) (a1 : Int) (a2 : Int) : Option ((List (Int × ByteArray)) × Int × Int) :=
  Option.bind (spec.l6DrawPuts.l0.f a0 K a1 a2 [] 0) fun x1 => Option.bind (spec.l1Below.f a0 x1.1 x1.2.1 20) fun x2 => cond (x2.1 == 0) (ck ((x1.2.2 ++ [((26 : Int), noVal)]).length * 24 ≤ 70368744177664) (some (x1.2.2 ++ [((26 : Int), noVal)], x2.2.1, x2.2.2))) (cond (x2.1 == 1) (Option.bind (spec.l6DrawPuts.l1.f a0 K x2.2.1 x2.2.2 x1.2.2) fun x3 => some (x3.1, x3.2.1, x3.2.2)) (some (x1.2.2, x2.2.1, x2.2.2)))
theorem spec.l6DrawPuts.spec (K : Nat) (a0 : List Int) (a1 : Int) (a2 : Int) (o : (List (Int × ByteArray)) × Int × Int) (h : spec.l6DrawPuts.f K a0 a1 a2 = some o) : Den.Spec Tryz.prog 73 [one (.ptr 0 0 0)] [some ⟨true, .cells [.sl 1 0 a0.length, .int .i64 a1, .int .i64 a2]⟩, some ⟨false, .ints .u8 a0⟩] (one (.sl 2 0 o.1.length)) [some ⟨true, .cells [.sl 1 0 a0.length, .int .i64 o.2.1, .int .i64 o.2.2]⟩, some ⟨false, .ints .u8 a0⟩, some ⟨true, .puts o.1⟩] := by
  unfold spec.l6DrawPuts.f at h
  obtain ⟨x1, e1, h⟩ := bind_some h
  obtain ⟨x2, e2, h⟩ := bind_some h
  rcases br_cases h with ⟨c1, h⟩ | ⟨c1, h⟩
  · obtain ⟨p1, h⟩ := ck_some h
    obtain rfl := Option.some.inj h
    exact Den.Spec.of_walk tab mixed Tryz.func73 (by kernel_rfl) [.loop [] [0, 3, 4] [0, 1, 2] (.exit 0) (spec.l6DrawPuts.l0.e0 a0 x1), .call [(0, true), (1, false)] [] (one (.int .i64 x2.1)) [some ⟨true, .cells [.sl 1 0 a0.length, .int .i64 x2.2.1, .int .i64 x2.2.2]⟩, some ⟨false, .ints .u8 a0⟩], bT, bT] [] [0, 1, 4] (nd (spec.l6DrawPuts.l0.spec a0 K a1 a2 [] 0 _ e1) (nd (spec.l1Below.spec a0 x1.1 x1.2.1 20 _ e2) (nd c1 (n0 (nl x1.2.2 (nd p1 (n0 (nn 1 trivial)))))))) (by kernel_rfl)
  · rcases br_cases h with ⟨c2, h⟩ | ⟨c2, h⟩
    · obtain ⟨x3, e3, h⟩ := bind_some h
      obtain rfl := Option.some.inj h
      exact Den.Spec.of_walk tab mixed Tryz.func73 (by kernel_rfl) [.loop [] [0, 3, 4] [0, 1, 2] (.exit 0) (spec.l6DrawPuts.l0.e0 a0 x1), .call [(0, true), (1, false)] [] (one (.int .i64 x2.1)) [some ⟨true, .cells [.sl 1 0 a0.length, .int .i64 x2.2.1, .int .i64 x2.2.2]⟩, some ⟨false, .ints .u8 a0⟩], bF, bT, .loop [] [0, 3] [0, 1, 2] (.exit 3) (spec.l6DrawPuts.l1.e0 a0 x3)] [] [0, 1, 2] (nd (spec.l6DrawPuts.l0.spec a0 K a1 a2 [] 0 _ e1) (nd (spec.l1Below.spec a0 x1.1 x1.2.1 20 _ e2) (nd c1 (nd c2 (nd (spec.l6DrawPuts.l1.spec a0 K x2.2.1 x2.2.2 x1.2.2 _ e3) trivial))))) (by kernel_rfl)
    · obtain rfl := Option.some.inj h
      exact Den.Spec.of_walk tab mixed Tryz.func73 (by kernel_rfl) [.loop [] [0, 3, 4] [0, 1, 2] (.exit 0) (spec.l6DrawPuts.l0.e0 a0 x1), .call [(0, true), (1, false)] [] (one (.int .i64 x2.1)) [some ⟨true, .cells [.sl 1 0 a0.length, .int .i64 x2.2.1, .int .i64 x2.2.2]⟩, some ⟨false, .ints .u8 a0⟩], bF, bF] [] [0, 1, 2] (nd (spec.l6DrawPuts.l0.spec a0 K a1 a2 [] 0 _ e1) (nd (spec.l1Below.spec a0 x1.1 x1.2.1 20 _ e2) (nd c1 (nd c2 trivial)))) (by kernel_rfl)
def spec.DrawCuts.f (K : Nat) (a0 : List Int) : Option ((List ByteArray) × (List Int) × (List Int) × Int × (List (Int × ByteArray)) × Int × Int) :=
  Option.bind (spec.l1New.f K a0) fun x1 => Option.bind (spec.l5DrawRight.f K a0 0 x1) fun x2 => Option.bind (spec.l6DrawPuts.f K a0 x2.2.2.2.2.1 x2.2.2.2.2.2) fun x3 => Option.bind (spec.l1Below.f a0 x3.2.1 x3.2.2 40) fun x4 => Option.bind (spec.l1Below.f a0 x4.2.1 x4.2.2 9) fun x5 => some (x2.1, x2.2.1, x2.2.2.1, x2.2.2.2.1, x3.1, x4.1, x5.1)
theorem spec.DrawCuts.spec (K : Nat) (a0 : List Int) (o : (List ByteArray) × (List Int) × (List Int) × Int × (List (Int × ByteArray)) × Int × Int) (h : spec.DrawCuts.f K a0 = some o) : Den.Spec Tryz.prog 29 [one (.sl 0 0 a0.length)] [some ⟨false, .ints .u8 a0⟩] (.tup [.agg [.sl 1 0 o.1.length, .sl 2 0 o.2.1.length, .sl 3 0 o.2.2.1.length, .int .i64 o.2.2.2.1], .c (.sl 4 0 o.2.2.2.2.1.length), .c (.int .i64 o.2.2.2.2.2.1), .c (.int .i64 o.2.2.2.2.2.2)]) [some ⟨false, .ints .u8 a0⟩, some ⟨true, .strs o.1⟩, some ⟨true, .ints .i64 o.2.1⟩, some ⟨true, .ints .i64 o.2.2.1⟩, some ⟨true, .puts o.2.2.2.2.1⟩] := by
  unfold spec.DrawCuts.f at h
  obtain ⟨x1, e1, h⟩ := bind_some h
  obtain ⟨x2, e2, h⟩ := bind_some h
  obtain ⟨x3, e3, h⟩ := bind_some h
  obtain ⟨x4, e4, h⟩ := bind_some h
  obtain ⟨x5, e5, h⟩ := bind_some h
  obtain rfl := Option.some.inj h
  exact Den.Spec.of_walk tab mixed Tryz.func29 (by kernel_rfl) [.call [(0, false)] [] (one (.ptr 1 0 0)) [some ⟨false, .ints .u8 a0⟩, some ⟨true, .cells [.sl 0 0 a0.length, .int .i64 0, .int .i64 x1]⟩], .call [(5, true), (0, false)] [] (.v (.agg [.sl 2 0 x2.1.length, .sl 3 0 x2.2.1.length, .sl 4 0 x2.2.2.1.length, .int .i64 x2.2.2.2.1])) [some ⟨true, .cells [.sl 1 0 a0.length, .int .i64 x2.2.2.2.2.1, .int .i64 x2.2.2.2.2.2]⟩, some ⟨false, .ints .u8 a0⟩, some ⟨true, .strs x2.1⟩, some ⟨true, .ints .i64 x2.2.1⟩, some ⟨true, .ints .i64 x2.2.2.1⟩], .call [(5, true), (0, false)] [] (one (.sl 2 0 x3.1.length)) [some ⟨true, .cells [.sl 1 0 a0.length, .int .i64 x3.2.1, .int .i64 x3.2.2]⟩, some ⟨false, .ints .u8 a0⟩, some ⟨true, .puts x3.1⟩], .call [(5, true), (0, false)] [] (one (.int .i64 x4.1)) [some ⟨true, .cells [.sl 1 0 a0.length, .int .i64 x4.2.1, .int .i64 x4.2.2]⟩, some ⟨false, .ints .u8 a0⟩], .call [(5, true), (0, false)] [] (one (.int .i64 x5.1)) [some ⟨true, .cells [.sl 1 0 a0.length, .int .i64 x5.2.1, .int .i64 x5.2.2]⟩, some ⟨false, .ints .u8 a0⟩]] [] [0, 6, 7, 8, 13] (nd (spec.l1New.spec K a0 _ e1) (nd (spec.l5DrawRight.spec K a0 0 x1 _ e2) (nd (spec.l6DrawPuts.spec K a0 x2.2.2.2.2.1 x2.2.2.2.2.2 _ e3) (nd (spec.l1Below.spec a0 x3.2.1 x3.2.2 40 _ e4) (nd (spec.l1Below.spec a0 x4.2.1 x4.2.2 9 _ e5) trivial))))) (by kernel_rfl)
def impl.ChipOk_1.f (a0 : ByteArray) : Option (Unit) :=
  some ()
theorem impl.ChipOk_1.spec (a0 : ByteArray) (o : Unit) (h : impl.ChipOk_1.f a0 = some o) : Den.Spec Tryz.prog 90 [one (.str a0)] [] (one (.bool (decide ((a0.size : Int) > 800)))) [] := by
  unfold impl.ChipOk_1.f at h
  obtain rfl := Option.some.inj h
  exact Den.Spec.of_walk tab mixed Tryz.func90 (by kernel_rfl) [] [] [] trivial (by kernel_rfl)
def slices.IndexFunc_string_string.l0.f (a0 : List ByteArray) : Nat → Int → Option (Int ⊕ Unit)
  | 0, _ => none
  | k + 1, v110_0 =>
    cond (decide (v110_0 < (a0.length : Int))) (ck (0 ≤ v110_0) (Option.bind (impl.ChipOk_1.f (a0.getD v110_0.toNat noVal)) fun x1 => cond (decide (((a0.getD v110_0.toNat noVal).size : Int) > 800)) (some (.inl v110_0)) (slices.IndexFunc_string_string.l0.f a0 k (w64 (v110_0 + 1))))) (some (.inr (())))
def slices.IndexFunc_string_string.l0.s (a0 : List ByteArray) (v110_0 : Int) : St := mkSt 19 [(0, one (.sl 0 0 a0.length)), (1, one (.fn 90 [])), (7, one (.int .i64 (a0.length : Int))), (8, one (.int .i64 v110_0))] [some ⟨false, .strs a0⟩]
def slices.IndexFunc_string_string.l0.e0 (a0 : List ByteArray) (o : Int) : St := mkSt 19 [(4, one (.int .i64 o))] [some ⟨false, .strs a0⟩]
def slices.IndexFunc_string_string.l0.e1 (a0 : List ByteArray) (o : Unit) : St := mkSt 19 [] [some ⟨false, .strs a0⟩]
def slices.IndexFunc_string_string.l0.x (a0 : List ByteArray) : (Int ⊕ Unit) → AExit × St := Sum.elim (fun o => (.ret, slices.IndexFunc_string_string.l0.e0 a0 o)) (fun o => (.exit 0, slices.IndexFunc_string_string.l0.e1 a0 o))
theorem slices.IndexFunc_string_string.l0.spec (a0 : List ByteArray) : ∀ (k : Nat) (v110_0 : Int) (o : Int ⊕ Unit), slices.IndexFunc_string_string.l0.f a0 k v110_0 = some o → LoopSpec Tryz.prog 1 (loopN Tryz.f115 0) (slices.IndexFunc_string_string.l0.s a0 v110_0) (slices.IndexFunc_string_string.l0.x a0 o).1 (slices.IndexFunc_string_string.l0.x a0 o).2
  | 0, _, _, h => by cases h
  | k + 1, v110_0, o, h => by
    unfold slices.IndexFunc_string_string.l0.f at h
    rcases br_cases h with ⟨c1, h⟩ | ⟨c1, h⟩
    · obtain ⟨p1, h⟩ := ck_some h
      obtain ⟨x1, e1, h⟩ := bind_some h
      rcases br_cases h with ⟨c2, h⟩ | ⟨c2, h⟩
      · obtain rfl := Option.some.inj h
        exact .of_done tab mixed [bT, .call [] [] (one (.bool (decide (((a0.getD v110_0.toNat noVal).size : Int) > 800)))) [], bT] [] [4] [0] rfl (nd c1 (nd p1 (nd (of_decide_eq_true c1) (nd (tn p1 (of_decide_eq_true c1)) (nd (impl.ChipOk_1.spec (a0.getD v110_0.toNat noVal) _ e1) (nd c2 trivial)))))) (by kernel_rfl)
      · exact .of_step tab mixed [bT, .call [] [] (one (.bool (decide (((a0.getD v110_0.toNat noVal).size : Int) > 800)))) [], bF] [] [0, 1, 7, 8] [0] (s1 := slices.IndexFunc_string_string.l0.s a0 (w64 (v110_0 + 1))) (nd c1 (nd p1 (nd (of_decide_eq_true c1) (nd (tn p1 (of_decide_eq_true c1)) (nd (impl.ChipOk_1.spec (a0.getD v110_0.toNat noVal) _ e1) (nd c2 trivial)))))) (by kernel_rfl) (slices.IndexFunc_string_string.l0.spec a0 k (w64 (v110_0 + 1)) _ h)
    · obtain rfl := Option.some.inj h
      exact .of_done tab mixed [bF] [] [] [0] rfl (nd c1 trivial) (by kernel_rfl)
def slices.IndexFunc_string_string.f (K : Nat) (a0 : List ByteArray) : Option (Int) :=
  Option.bind (slices.IndexFunc_string_string.l0.f a0 K 0) fun x1 => (Sum.elim (fun x1 => some x1) (fun x1 => some (-1))) x1
theorem slices.IndexFunc_string_string.spec (K : Nat) (a0 : List ByteArray) (o : Int) (h : slices.IndexFunc_string_string.f K a0 = some o) : Den.Spec Tryz.prog 115 [one (.sl 0 0 a0.length), one (.fn 90 [])] [some ⟨false, .strs a0⟩] (one (.int .i64 o)) [some ⟨false, .strs a0⟩] := by
  unfold slices.IndexFunc_string_string.f at h
  obtain ⟨x1, e1, h⟩ := bind_some h
  rcases x1 with x1 | x1
  · obtain rfl := Option.some.inj h
    exact Den.Spec.of_walk tab mixed Tryz.func115 (by kernel_rfl) [.loop [] [0, 1, 7, 8] [0] (.ret) (slices.IndexFunc_string_string.l0.e0 a0 x1)] [] [0] (nd (slices.IndexFunc_string_string.l0.spec a0 K 0 _ e1) trivial) (by kernel_rfl)
  · obtain rfl := Option.some.inj h
    exact Den.Spec.of_walk tab mixed Tryz.func115 (by kernel_rfl) [.loop [] [0, 1, 7, 8] [0] (.exit 0) (slices.IndexFunc_string_string.l0.e1 a0 x1)] [] [0] (nd (slices.IndexFunc_string_string.l0.spec a0 K 0 _ e1) trivial) (by kernel_rfl)
def slices.ContainsFunc_string_string.f (K : Nat) (a0 : List ByteArray) : Option (Bool) :=
  Option.bind (slices.IndexFunc_string_string.f K a0) fun x1 => some (decide (x1 ≥ 0))
theorem slices.ContainsFunc_string_string.spec (K : Nat) (a0 : List ByteArray) (o : Bool) (h : slices.ContainsFunc_string_string.f K a0 = some o) : Den.Spec Tryz.prog 89 [one (.sl 0 0 a0.length), one (.fn 90 [])] [some ⟨false, .strs a0⟩] (one (.bool o)) [some ⟨false, .strs a0⟩] := by
  unfold slices.ContainsFunc_string_string.f at h
  obtain ⟨x1, e1, h⟩ := bind_some h
  obtain rfl := Option.some.inj h
  exact Den.Spec.of_walk tab mixed Tryz.func89 (by kernel_rfl) [.call [] [(0, true)] (one (.int .i64 x1)) [some ⟨false, .strs a0⟩]] [] [0] (nd (slices.IndexFunc_string_string.spec K a0 _ e1) (n0 (nl a0 trivial))) (by kernel_rfl)
def impl.in_.f (a0 : Int) (a1 : Int) (a2 : Int) : Option (Bool) :=
  cond (decide (a0 ≥ a1)) (some (decide (a0 ≤ a2))) (some false)
theorem impl.in_.spec (a0 : Int) (a1 : Int) (a2 : Int) (o : Bool) (h : impl.in_.f a0 a1 a2 = some o) : Den.Spec Tryz.prog 54 [one (.int .i64 a0), one (.int .i64 a1), one (.int .i64 a2)] [] (one (.bool o)) [] := by
  unfold impl.in_.f at h
  rcases br_cases h with ⟨c1, h⟩ | ⟨c1, h⟩
  · obtain rfl := Option.some.inj h
    exact Den.Spec.of_walk tab mixed Tryz.func54 (by kernel_rfl) [bT, bT, bT, bT] [] [] (nd c1 (nd c1 (nd c1 (nd c1 trivial)))) (by kernel_rfl)
  · obtain rfl := Option.some.inj h
    exact Den.Spec.of_walk tab mixed Tryz.func54 (by kernel_rfl) [bF, bF, bF, bF] [] [] (nd c1 (nd c1 (nd c1 (nd c1 trivial)))) (by kernel_rfl)
def impl.ChipOk_2.f (a0 : Int) : Option (Bool) :=
  Option.bind (impl.in_.f a0 0 1000000000) fun x1 => some (!x1)
theorem impl.ChipOk_2.spec (a0 : Int) (o : Bool) (h : impl.ChipOk_2.f a0 = some o) : Den.Spec Tryz.prog 92 [one (.int .i64 a0)] [] (one (.bool o)) [] := by
  unfold impl.ChipOk_2.f at h
  obtain ⟨x1, e1, h⟩ := bind_some h
  obtain rfl := Option.some.inj h
  exact Den.Spec.of_walk tab mixed Tryz.func92 (by kernel_rfl) [.call [] [] (one (.bool x1)) []] [] [] (nd (impl.in_.spec a0 0 1000000000 _ e1) trivial) (by kernel_rfl)
def slices.IndexFunc_int_int.l0.f (a0 : List Int) : Nat → Int → Option (Int ⊕ Unit)
  | 0, _ => none
  | k + 1, v116_0 =>
    cond (decide (v116_0 < (a0.length : Int))) (ck (0 ≤ v116_0) (Option.bind (impl.ChipOk_2.f (a0.getD v116_0.toNat 0)) fun x1 => cond (x1) (some (.inl v116_0)) (slices.IndexFunc_int_int.l0.f a0 k (w64 (v116_0 + 1))))) (some (.inr (())))
def slices.IndexFunc_int_int.l0.s (a0 : List Int) (v116_0 : Int) : St := mkSt 19 [(0, one (.sl 0 0 a0.length)), (1, one (.fn 92 [])), (7, one (.int .i64 (a0.length : Int))), (8, one (.int .i64 v116_0))] [some ⟨false, .ints .i64 a0⟩]
def slices.IndexFunc_int_int.l0.e0 (a0 : List Int) (o : Int) : St := mkSt 19 [(4, one (.int .i64 o))] [some ⟨false, .ints .i64 a0⟩]
def slices.IndexFunc_int_int.l0.e1 (a0 : List Int) (o : Unit) : St := mkSt 19 [] [some ⟨false, .ints .i64 a0⟩]
def slices.IndexFunc_int_int.l0.x (a0 : List Int) : (Int ⊕ Unit) → AExit × St := Sum.elim (fun o => (.ret, slices.IndexFunc_int_int.l0.e0 a0 o)) (fun o => (.exit 0, slices.IndexFunc_int_int.l0.e1 a0 o))
theorem slices.IndexFunc_int_int.l0.spec (a0 : List Int) : ∀ (k : Nat) (v116_0 : Int) (o : Int ⊕ Unit), slices.IndexFunc_int_int.l0.f a0 k v116_0 = some o → LoopSpec Tryz.prog 1 (loopN Tryz.f116 0) (slices.IndexFunc_int_int.l0.s a0 v116_0) (slices.IndexFunc_int_int.l0.x a0 o).1 (slices.IndexFunc_int_int.l0.x a0 o).2
  | 0, _, _, h => by cases h
  | k + 1, v116_0, o, h => by
    unfold slices.IndexFunc_int_int.l0.f at h
    rcases br_cases h with ⟨c1, h⟩ | ⟨c1, h⟩
    · obtain ⟨p1, h⟩ := ck_some h
      obtain ⟨x1, e1, h⟩ := bind_some h
      rcases br_cases h with ⟨c2, h⟩ | ⟨c2, h⟩
      · obtain rfl := Option.some.inj h
        exact .of_done tab mixed [bT, .call [] [] (one (.bool x1)) [], bT] [] [4] [0] rfl (nd c1 (nd p1 (nd (of_decide_eq_true c1) (nd (tn p1 (of_decide_eq_true c1)) (nd (impl.ChipOk_2.spec (a0.getD v116_0.toNat 0) _ e1) (nd c2 trivial)))))) (by kernel_rfl)
      · exact .of_step tab mixed [bT, .call [] [] (one (.bool x1)) [], bF] [] [0, 1, 7, 8] [0] (s1 := slices.IndexFunc_int_int.l0.s a0 (w64 (v116_0 + 1))) (nd c1 (nd p1 (nd (of_decide_eq_true c1) (nd (tn p1 (of_decide_eq_true c1)) (nd (impl.ChipOk_2.spec (a0.getD v116_0.toNat 0) _ e1) (nd c2 trivial)))))) (by kernel_rfl) (slices.IndexFunc_int_int.l0.spec a0 k (w64 (v116_0 + 1)) _ h)
    · obtain rfl := Option.some.inj h
      exact .of_done tab mixed [bF] [] [] [0] rfl (nd c1 trivial) (by kernel_rfl)
def slices.IndexFunc_int_int.f (K : Nat) (a0 : List Int) : Option (Int) :=
  Option.bind (slices.IndexFunc_int_int.l0.f a0 K 0) fun x1 => (Sum.elim (fun x1 => some x1) (fun x1 => some (-1))) x1
theorem slices.IndexFunc_int_int.spec (K : Nat) (a0 : List Int) (o : Int) (h : slices.IndexFunc_int_int.f K a0 = some o) : Den.Spec Tryz.prog 116 [one (.sl 0 0 a0.length), one (.fn 92 [])] [some ⟨false, .ints .i64 a0⟩] (one (.int .i64 o)) [some ⟨false, .ints .i64 a0⟩] := by
  unfold slices.IndexFunc_int_int.f at h
  obtain ⟨x1, e1, h⟩ := bind_some h
  rcases x1 with x1 | x1
  · obtain rfl := Option.some.inj h
    exact Den.Spec.of_walk tab mixed Tryz.func116 (by kernel_rfl) [.loop [] [0, 1, 7, 8] [0] (.ret) (slices.IndexFunc_int_int.l0.e0 a0 x1)] [] [0] (nd (slices.IndexFunc_int_int.l0.spec a0 K 0 _ e1) trivial) (by kernel_rfl)
  · obtain rfl := Option.some.inj h
    exact Den.Spec.of_walk tab mixed Tryz.func116 (by kernel_rfl) [.loop [] [0, 1, 7, 8] [0] (.exit 0) (slices.IndexFunc_int_int.l0.e1 a0 x1)] [] [0] (nd (slices.IndexFunc_int_int.l0.spec a0 K 0 _ e1) trivial) (by kernel_rfl)
def slices.ContainsFunc_int_int.f (K : Nat) (a0 : List Int) : Option (Bool) :=
  Option.bind (slices.IndexFunc_int_int.f K a0) fun x1 => some (decide (x1 ≥ 0))
theorem slices.ContainsFunc_int_int.spec (K : Nat) (a0 : List Int) (o : Bool) (h : slices.ContainsFunc_int_int.f K a0 = some o) : Den.Spec Tryz.prog 91 [one (.sl 0 0 a0.length), one (.fn 92 [])] [some ⟨false, .ints .i64 a0⟩] (one (.bool o)) [some ⟨false, .ints .i64 a0⟩] := by
  unfold slices.ContainsFunc_int_int.f at h
  obtain ⟨x1, e1, h⟩ := bind_some h
  obtain rfl := Option.some.inj h
  exact Den.Spec.of_walk tab mixed Tryz.func91 (by kernel_rfl) [.call [] [(0, true)] (one (.int .i64 x1)) [some ⟨false, .ints .i64 a0⟩]] [] [0] (nd (slices.IndexFunc_int_int.spec K a0 _ e1) (n0 (nl a0 trivial))) (by kernel_rfl)
def impl.ChipOk.f (K : Nat) (a0 : List ByteArray) (a1 : List Int) : Option (Bool) :=
  cond ((a0.length : Int) == 60) (cond ((a1.length : Int) == 10) (Option.bind (slices.ContainsFunc_string_string.f K a0) fun x1 => cond (x1) (some false) (Option.bind (slices.ContainsFunc_int_int.f K a1) fun x2 => some (!x2))) (some false)) (some false)
theorem impl.ChipOk.spec (K : Nat) (a0 : List ByteArray) (a1 : List Int) (o : Bool) (h : impl.ChipOk.f K a0 a1 = some o) : Den.Spec Tryz.prog 60 [.v (.agg [.sl 0 0 a0.length, .sl 1 0 a1.length])] [some ⟨false, .strs a0⟩, some ⟨false, .ints .i64 a1⟩] (one (.bool o)) [some ⟨false, .strs a0⟩, some ⟨false, .ints .i64 a1⟩] := by
  unfold impl.ChipOk.f at h
  rcases br_cases h with ⟨c1, h⟩ | ⟨c1, h⟩
  · rcases br_cases h with ⟨c2, h⟩ | ⟨c2, h⟩
    · obtain ⟨x1, e1, h⟩ := bind_some h
      rcases br_cases h with ⟨c3, h⟩ | ⟨c3, h⟩
      · obtain rfl := Option.some.inj h
        exact Den.Spec.of_walk tab mixed Tryz.func60 (by kernel_rfl) [bT, bT, bT, bT, bT, bT, bT, bT, .call [] [(0, true)] (one (.bool x1)) [some ⟨false, .strs a0⟩], bT, bT, bF, bF, bF, bF, bF] [] [0, 1] (nd c1 (nd c1 (nd c1 (nd c1 (nd c1 (nd c2 (nd c2 (nd c2 (nd (slices.ContainsFunc_string_string.spec K a0 _ e1) (n0 (nl a0 (nd c2 (nd c2 (nd (nf c3) (nd (nf c3) (nd (nf c3) (nd (nf c3) (nd (nf c3) trivial)))))))))))))))))) (by kernel_rfl)
      · obtain ⟨x2, e2, h⟩ := bind_some h
        obtain rfl := Option.some.inj h
        exact Den.Spec.of_walk tab mixed Tryz.func60 (by kernel_rfl) [bT, bT, bT, bT, bT, bT, bT, bT, .call [] [(0, true)] (one (.bool x1)) [some ⟨false, .strs a0⟩], bT, bT, bT, bT, bT, .call [] [(0, true)] (one (.bool x2)) [some ⟨false, .ints .i64 a1⟩], bT, bT] [] [0, 1] (nd c1 (nd c1 (nd c1 (nd c1 (nd c1 (nd c2 (nd c2 (nd c2 (nd (slices.ContainsFunc_string_string.spec K a0 _ e1) (n0 (nl a0 (nd c2 (nd c2 (nd (nt c3) (nd (nt c3) (nd (nt c3) (nd (slices.ContainsFunc_int_int.spec K a1 _ e2) (n0 (nl a1 (nd (nt c3) (nd (nt c3) trivial))))))))))))))))))))) (by kernel_rfl)
    · obtain rfl := Option.some.inj h
      exact Den.Spec.of_walk tab mixed Tryz.func60 (by kernel_rfl) [bT, bT, bT, bT, bT, bF, bF, bF, bF, bF, bF, bF, bF, bF, bF] [] [0, 1] (nd c1 (nd c1 (nd c1 (nd c1 (nd c1 (nd c2 (nd c2 (nd c2 (nd c2 (nd c2 (nd ff (nd ff (nd ff (nd ff (nd ff trivial))))))))))))))) (by kernel_rfl)
  · obtain rfl := Option.some.inj h
    exact Den.Spec.of_walk tab mixed Tryz.func60 (by kernel_rfl) [bF, bF, bF, bF, bF, bF, bF, bF, bF, bF, bF, bF, bF, bF, bF] [] [0, 1] (nd c1 (nd c1 (nd c1 (nd c1 (nd c1 (nd ff (nd ff (nd ff (nd ff (nd ff (nd ff (nd ff (nd ff (nd ff (nd ff trivial))))))))))))))) (by kernel_rfl)
def slices.Clone_string_string.f (a0 : List ByteArray) : Option (List ByteArray) := ck (a0.length * 16 ≤ 70368744177664) (some a0)
theorem slices.Clone_string_string.spec (a0 : List ByteArray) (o : List ByteArray) (h : slices.Clone_string_string.f a0 = some o) : Den.Spec Tryz.prog 117 [one (.sl 0 0 a0.length)] [some ⟨false, .strs a0⟩] (one (.sl 1 0 o.length)) [some ⟨false, .strs a0⟩, some ⟨true, .strs o⟩] := by
  unfold slices.Clone_string_string.f at h
  obtain ⟨p, h⟩ := ck_some h
  obtain rfl := Option.some.inj h
  refine Den.Spec.fork tab mixed Tryz.func117 (by kernel_rfl) 4 (by kernel_rfl) (n := a0.length) [bT] [] [0, 2] (nd trivial (n0 (n0 (nd p (n0 (nl a0 trivial)))))) (by kernel_rfl) (fun h0 => ?_)
  obtain rfl := List.eq_nil_of_length_eq_zero h0
  exact ⟨[], [(2, [.strs])], [0, 1], True ∧ True, by kernel_rfl, trivial, trivial⟩
def slices.Clone_int_int.f (a0 : List Int) : Option (List Int) := ck (a0.length * 8 ≤ 70368744177664) (some a0)
theorem slices.Clone_int_int.spec (a0 : List Int) (o : List Int) (h : slices.Clone_int_int.f a0 = some o) : Den.Spec Tryz.prog 97 [one (.sl 0 0 a0.length)] [some ⟨false, .ints .i64 a0⟩] (one (.sl 1 0 o.length)) [some ⟨false, .ints .i64 a0⟩, some ⟨true, .ints .i64 o⟩] := by
  unfold slices.Clone_int_int.f at h
  obtain ⟨p, h⟩ := ck_some h
  obtain rfl := Option.some.inj h
  refine Den.Spec.fork tab mixed Tryz.func97 (by kernel_rfl) 4 (by kernel_rfl) (n := a0.length) [bT] [] [0, 2] (nd trivial (n0 (n0 (nd p (n0 (nl a0 trivial)))))) (by kernel_rfl) (fun h0 => ?_)
  obtain rfl := List.eq_nil_of_length_eq_zero h0
  exact ⟨[], [(2, [.ints .i64])], [0, 1], True ∧ True, by kernel_rfl, trivial, trivial⟩
def impl.cloneChip.f (a0 : List ByteArray) (a1 : List Int) : Option ((List ByteArray) × (List Int)) :=
  Option.bind (slices.Clone_string_string.f a0) fun x1 => Option.bind (slices.Clone_int_int.f a1) fun x2 => some (x1, x2)
theorem impl.cloneChip.spec (a0 : List ByteArray) (a1 : List Int) (o : (List ByteArray) × (List Int)) (h : impl.cloneChip.f a0 a1 = some o) : Den.Spec Tryz.prog 93 [.v (.agg [.sl 0 0 a0.length, .sl 1 0 a1.length])] [some ⟨false, .strs a0⟩, some ⟨false, .ints .i64 a1⟩] (.v (.agg [.sl 2 0 o.1.length, .sl 3 0 o.2.length])) [some ⟨false, .strs a0⟩, some ⟨false, .ints .i64 a1⟩, some ⟨true, .strs o.1⟩, some ⟨true, .ints .i64 o.2⟩] := by
  unfold impl.cloneChip.f at h
  obtain ⟨x1, e1, h⟩ := bind_some h
  obtain ⟨x2, e2, h⟩ := bind_some h
  obtain rfl := Option.some.inj h
  exact Den.Spec.of_walk tab mixed Tryz.func93 (by kernel_rfl) [.call [] [(0, true)] (one (.sl 1 0 x1.length)) [some ⟨false, .strs a0⟩, some ⟨true, .strs x1⟩], .call [] [(0, true)] (one (.sl 1 0 x2.length)) [some ⟨false, .ints .i64 a1⟩, some ⟨true, .ints .i64 x2⟩]] [] [0, 1, 22, 46] (nd (slices.Clone_string_string.spec a0 _ e1) (n0 (nl a0 (nd (slices.Clone_int_int.spec a1 _ e2) (n0 (nl a1 trivial)))))) (by kernel_rfl)
def math_bits.Mul64.f (a0 : Int) (a1 : Int) : Option (Unit) :=
  some ()
theorem math_bits.Mul64.spec (a0 : Int) (a1 : Int) (o : Unit) (h : math_bits.Mul64.f a0 a1 = some o) : Den.Spec Tryz.prog 137 [one (.int .u64 a0), one (.int .u64 a1)] [] (.tup [.c (.int .u64 (IntKind.u64.wrap ((IntKind.u64.wrap ((IntKind.u64.wrap ((a0.fdiv (2 ^ 32)) * (a1.fdiv (2 ^ 32)))) + ((IntKind.u64.wrap ((IntKind.u64.wrap ((a0.fdiv (2 ^ 32)) * (bits2 .u64 (· &&& ·) a1 4294967295))) + ((IntKind.u64.wrap ((bits2 .u64 (· &&& ·) a0 4294967295) * (bits2 .u64 (· &&& ·) a1 4294967295))).fdiv (2 ^ 32)))).fdiv (2 ^ 32)))) + ((IntKind.u64.wrap ((bits2 .u64 (· &&& ·) (IntKind.u64.wrap ((IntKind.u64.wrap ((a0.fdiv (2 ^ 32)) * (bits2 .u64 (· &&& ·) a1 4294967295))) + ((IntKind.u64.wrap ((bits2 .u64 (· &&& ·) a0 4294967295) * (bits2 .u64 (· &&& ·) a1 4294967295))).fdiv (2 ^ 32)))) 4294967295) + (IntKind.u64.wrap ((bits2 .u64 (· &&& ·) a0 4294967295) * (a1.fdiv (2 ^ 32)))))).fdiv (2 ^ 32))))), .c (.int .u64 (IntKind.u64.wrap (a0 * a1)))]) [] := by
  unfold math_bits.Mul64.f at h
  obtain rfl := Option.some.inj h
  exact Den.Spec.of_walk tab mixed Tryz.func137 (by kernel_rfl) [] [] [] (nd (by decide : (0 : Int) ≤ 32) (nd (by decide : (0 : Int) ≤ 32) (nd (by decide : (0 : Int) ≤ 32) (nd (by decide : (0 : Int) ≤ 32) (nd (by decide : (0 : Int) ≤ 32) trivial))))) (by kernel_rfl)
def math_bits.Mul.f (a0 : Int) (a1 : Int) : Option (Unit) :=
  Option.bind (math_bits.Mul64.f a0 a1) fun x1 => some ()
theorem math_bits.Mul.spec (a0 : Int) (a1 : Int) (o : Unit) (h : math_bits.Mul.f a0 a1 = some o) : Den.Spec Tryz.prog 118 [one (.int .u64 a0), one (.int .u64 a1)] [] (.tup [.c (.int .u64 (IntKind.u64.wrap ((IntKind.u64.wrap ((IntKind.u64.wrap ((a0.fdiv (2 ^ 32)) * (a1.fdiv (2 ^ 32)))) + ((IntKind.u64.wrap ((IntKind.u64.wrap ((a0.fdiv (2 ^ 32)) * (bits2 .u64 (· &&& ·) a1 4294967295))) + ((IntKind.u64.wrap ((bits2 .u64 (· &&& ·) a0 4294967295) * (bits2 .u64 (· &&& ·) a1 4294967295))).fdiv (2 ^ 32)))).fdiv (2 ^ 32)))) + ((IntKind.u64.wrap ((bits2 .u64 (· &&& ·) (IntKind.u64.wrap ((IntKind.u64.wrap ((a0.fdiv (2 ^ 32)) * (bits2 .u64 (· &&& ·) a1 4294967295))) + ((IntKind.u64.wrap ((bits2 .u64 (· &&& ·) a0 4294967295) * (bits2 .u64 (· &&& ·) a1 4294967295))).fdiv (2 ^ 32)))) 4294967295) + (IntKind.u64.wrap ((bits2 .u64 (· &&& ·) a0 4294967295) * (a1.fdiv (2 ^ 32)))))).fdiv (2 ^ 32))))), .c (.int .u64 (IntKind.u64.wrap (a0 * a1)))]) [] := by
  unfold math_bits.Mul.f at h
  obtain ⟨x1, e1, h⟩ := bind_some h
  obtain rfl := Option.some.inj h
  exact Den.Spec.of_walk tab mixed Tryz.func118 (by kernel_rfl) [bF, .call [] [] (.tup [.c (.int .u64 (IntKind.u64.wrap ((IntKind.u64.wrap ((IntKind.u64.wrap ((a0.fdiv (2 ^ 32)) * (a1.fdiv (2 ^ 32)))) + ((IntKind.u64.wrap ((IntKind.u64.wrap ((a0.fdiv (2 ^ 32)) * (bits2 .u64 (· &&& ·) a1 4294967295))) + ((IntKind.u64.wrap ((bits2 .u64 (· &&& ·) a0 4294967295) * (bits2 .u64 (· &&& ·) a1 4294967295))).fdiv (2 ^ 32)))).fdiv (2 ^ 32)))) + ((IntKind.u64.wrap ((bits2 .u64 (· &&& ·) (IntKind.u64.wrap ((IntKind.u64.wrap ((a0.fdiv (2 ^ 32)) * (bits2 .u64 (· &&& ·) a1 4294967295))) + ((IntKind.u64.wrap ((bits2 .u64 (· &&& ·) a0 4294967295) * (bits2 .u64 (· &&& ·) a1 4294967295))).fdiv (2 ^ 32)))) 4294967295) + (IntKind.u64.wrap ((bits2 .u64 (· &&& ·) a0 4294967295) * (a1.fdiv (2 ^ 32)))))).fdiv (2 ^ 32))))), .c (.int .u64 (IntKind.u64.wrap (a0 * a1)))]) []] [] [] (nd ff (nd (math_bits.Mul64.spec a0 a1 _ e1) trivial)) (by kernel_rfl)
def slices.Repeat_int_int.l0.f (a0 : List Int) : Nat → (List Int) → Int → Option ((List Int))
  | 0, _, _ => none
  | k + 1, v127_0, v127_1 =>
    cond (decide (v127_1 < (v127_0.length : Int))) (ck (0 ≤ v127_1) (ck (v127_1 ≤ (v127_0.length : Int)) (cond (decide (v127_1.toNat ≤ v127_0.length - v127_1.toNat)) (ck (v127_1.toNat + (v127_0.length - v127_1.toNat) ≤ v127_0.length) (ck (0 + v127_1.toNat ≤ v127_0.length) (slices.Repeat_int_int.l0.f a0 k (overL v127_0 v127_1.toNat v127_0 0 v127_1.toNat) (w64 (v127_1 + (v127_1.toNat : Int)))))) (ck (v127_1.toNat + (v127_0.length - v127_1.toNat) ≤ v127_0.length) (ck (0 + v127_1.toNat ≤ v127_0.length) (slices.Repeat_int_int.l0.f a0 k (overL v127_0 v127_1.toNat v127_0 0 (v127_0.length - v127_1.toNat)) (w64 (v127_1 + ((v127_0.length - v127_1.toNat : Nat) : Int))))))))) (some v127_0)
def slices.Repeat_int_int.l0.s (a0 : List Int) (v127_0 : List Int) (v127_1 : Int) : St := mkSt 48 [(7, one (.sl 1 0 v127_0.length)), (8, one (.int .i64 v127_1))] [some ⟨false, .ints .i64 a0⟩, some ⟨true, .ints .i64 v127_0⟩]
def slices.Repeat_int_int.l0.e0 (a0 : List Int) (o : (List Int)) : St := mkSt 48 [(7, one (.sl 1 0 o.length))] [some ⟨false, .ints .i64 a0⟩, some ⟨true, .ints .i64 o⟩]
def slices.Repeat_int_int.l0.x (a0 : List Int) : ((List Int)) → AExit × St := fun o => (.exit 0, slices.Repeat_int_int.l0.e0 a0 o)
theorem slices.Repeat_int_int.l0.spec (a0 : List Int) : ∀ (k : Nat) (v127_0 : List Int) (v127_1 : Int) (o : (List Int)), slices.Repeat_int_int.l0.f a0 k v127_0 v127_1 = some o → LoopSpec Tryz.prog 1 (loopN Tryz.f94 0) (slices.Repeat_int_int.l0.s a0 v127_0 v127_1) (slices.Repeat_int_int.l0.x a0 o).1 (slices.Repeat_int_int.l0.x a0 o).2
  | 0, _, _, _, h => by cases h
  | k + 1, v127_0, v127_1, o, h => by
    unfold slices.Repeat_int_int.l0.f at h
    rcases br_cases h with ⟨c1, h⟩ | ⟨c1, h⟩
    · obtain ⟨p1, h⟩ := ck_some h
      obtain ⟨p2, h⟩ := ck_some h
      rcases br_cases h with ⟨c2, h⟩ | ⟨c2, h⟩
      · obtain ⟨p3, h⟩ := ck_some h
        obtain ⟨p4, h⟩ := ck_some h
        exact .of_step tab mixed [bT, bT] [] [7, 8] [0, 1] (s1 := mkSt 48 [(7, one (.sl 1 0 v127_0.length)), (8, one (.int .i64 (w64 (v127_1 + (v127_1.toNat : Int)))))] [some ⟨false, .ints .i64 a0⟩, some ⟨true, .ints .i64 (overL v127_0 v127_1.toNat v127_0 0 v127_1.toNat)⟩]) (nd c1 (nd p1 (nd p2 (nd (Int.le_refl (v127_0.length : Int)) (nd (Int.le_refl 0) (nd p1 (nd p2 (nd (of_decide_eq_true c2) (nd p3 (nd p4 trivial)))))))))) (by kernel_rfl) (LoopSpec.eqs (slices.Repeat_int_int.l0.spec a0 k (overL v127_0 v127_1.toNat v127_0 0 v127_1.toNat) (w64 (v127_1 + (v127_1.toNat : Int))) _ h) (by simp only [slices.Repeat_int_int.l0.s, List.length_set, overL_length] : slices.Repeat_int_int.l0.s a0 (overL v127_0 v127_1.toNat v127_0 0 v127_1.toNat) (w64 (v127_1 + (v127_1.toNat : Int))) = mkSt 48 [(7, one (.sl 1 0 v127_0.length)), (8, one (.int .i64 (w64 (v127_1 + (v127_1.toNat : Int)))))] [some ⟨false, .ints .i64 a0⟩, some ⟨true, .ints .i64 (overL v127_0 v127_1.toNat v127_0 0 v127_1.toNat)⟩]))
      · obtain ⟨p3, h⟩ := ck_some h
        obtain ⟨p4, h⟩ := ck_some h
        exact .of_step tab mixed [bT, bF] [] [7, 8] [0, 1] (s1 := mkSt 48 [(7, one (.sl 1 0 v127_0.length)), (8, one (.int .i64 (w64 (v127_1 + ((v127_0.length - v127_1.toNat : Nat) : Int)))))] [some ⟨false, .ints .i64 a0⟩, some ⟨true, .ints .i64 (overL v127_0 v127_1.toNat v127_0 0 (v127_0.length - v127_1.toNat))⟩]) (nd c1 (nd p1 (nd p2 (nd (Int.le_refl (v127_0.length : Int)) (nd (Int.le_refl 0) (nd p1 (nd p2 (nd (Nat.le_of_lt (Nat.lt_of_not_le (of_decide_eq_false c2))) (nd p3 (nd p4 trivial)))))))))) (by kernel_rfl) (LoopSpec.eqs (slices.Repeat_int_int.l0.spec a0 k (overL v127_0 v127_1.toNat v127_0 0 (v127_0.length - v127_1.toNat)) (w64 (v127_1 + ((v127_0.length - v127_1.toNat : Nat) : Int))) _ h) (by simp only [slices.Repeat_int_int.l0.s, List.length_set, overL_length] : slices.Repeat_int_int.l0.s a0 (overL v127_0 v127_1.toNat v127_0 0 (v127_0.length - v127_1.toNat)) (w64 (v127_1 + ((v127_0.length - v127_1.toNat : Nat) : Int))) = mkSt 48 [(7, one (.sl 1 0 v127_0.length)), (8, one (.int .i64 (w64 (v127_1 + ((v127_0.length - v127_1.toNat : Nat) : Int)))))] [some ⟨false, .ints .i64 a0⟩, some ⟨true, .ints .i64 (overL v127_0 v127_1.toNat v127_0 0 (v127_0.length - v127_1.toNat))⟩]))
    · obtain rfl := Option.some.inj h
      exact .of_done tab mixed [bF] [] [7] [0, 1] rfl (nd c1 trivial) (by kernel_rfl)
def slices.Repeat_int_int.l0_1.f (a0 : List Int) : Nat → (List Int) → Int → Option ((List Int))
  | 0, _, _ => none
  | k + 1, v128_0, v128_1 =>
    cond (decide (v128_1 < (v128_0.length : Int))) (ck (0 ≤ v128_1) (ck (v128_1 ≤ (v128_0.length : Int)) (cond (decide (v128_1.toNat ≤ v128_0.length - v128_1.toNat)) (ck (v128_1.toNat + (v128_0.length - v128_1.toNat) ≤ v128_0.length) (ck (0 + v128_1.toNat ≤ v128_0.length) (slices.Repeat_int_int.l0_1.f a0 k (overL v128_0 v128_1.toNat v128_0 0 v128_1.toNat) (w64 (v128_1 + (v128_1.toNat : Int)))))) (ck (v128_1.toNat + (v128_0.length - v128_1.toNat) ≤ v128_0.length) (ck (0 + v128_1.toNat ≤ v128_0.length) (slices.Repeat_int_int.l0_1.f a0 k (overL v128_0 v128_1.toNat v128_0 0 (v128_0.length - v128_1.toNat)) (w64 (v128_1 + ((v128_0.length - v128_1.toNat : Nat) : Int))))))))) (some v128_0)
def slices.Repeat_int_int.l0_1.s (a0 : List Int) (v128_0 : List Int) (v128_1 : Int) : St := mkSt 48 [(7, one (.sl 1 0 v128_0.length)), (8, one (.int .i64 v128_1))] [some ⟨false, .ints .i64 a0⟩, some ⟨true, .ints .i64 v128_0⟩]
def slices.Repeat_int_int.l0_1.e0 (a0 : List Int) (o : (List Int)) : St := mkSt 48 [(7, one (.sl 1 0 o.length))] [some ⟨false, .ints .i64 a0⟩, some ⟨true, .ints .i64 o⟩]
def slices.Repeat_int_int.l0_1.x (a0 : List Int) : ((List Int)) → AExit × St := fun o => (.exit 0, slices.Repeat_int_int.l0_1.e0 a0 o)
theorem slices.Repeat_int_int.l0_1.spec (a0 : List Int) : ∀ (k : Nat) (v128_0 : List Int) (v128_1 : Int) (o : (List Int)), slices.Repeat_int_int.l0_1.f a0 k v128_0 v128_1 = some o → LoopSpec Tryz.prog 1 (loopN Tryz.f94 0) (slices.Repeat_int_int.l0_1.s a0 v128_0 v128_1) (slices.Repeat_int_int.l0_1.x a0 o).1 (slices.Repeat_int_int.l0_1.x a0 o).2
  | 0, _, _, _, h => by cases h
  | k + 1, v128_0, v128_1, o, h => by
    unfold slices.Repeat_int_int.l0_1.f at h
    rcases br_cases h with ⟨c1, h⟩ | ⟨c1, h⟩
    · obtain ⟨p1, h⟩ := ck_some h
      obtain ⟨p2, h⟩ := ck_some h
      rcases br_cases h with ⟨c2, h⟩ | ⟨c2, h⟩
      · obtain ⟨p3, h⟩ := ck_some h
        obtain ⟨p4, h⟩ := ck_some h
        exact .of_step tab mixed [bT, bT] [] [7, 8] [0, 1] (s1 := mkSt 48 [(7, one (.sl 1 0 v128_0.length)), (8, one (.int .i64 (w64 (v128_1 + (v128_1.toNat : Int)))))] [some ⟨false, .ints .i64 a0⟩, some ⟨true, .ints .i64 (overL v128_0 v128_1.toNat v128_0 0 v128_1.toNat)⟩]) (nd c1 (nd p1 (nd p2 (nd (Int.le_refl (v128_0.length : Int)) (nd (Int.le_refl 0) (nd p1 (nd p2 (nd (of_decide_eq_true c2) (nd p3 (nd p4 trivial)))))))))) (by kernel_rfl) (LoopSpec.eqs (slices.Repeat_int_int.l0_1.spec a0 k (overL v128_0 v128_1.toNat v128_0 0 v128_1.toNat) (w64 (v128_1 + (v128_1.toNat : Int))) _ h) (by simp only [slices.Repeat_int_int.l0_1.s, List.length_set, overL_length] : slices.Repeat_int_int.l0_1.s a0 (overL v128_0 v128_1.toNat v128_0 0 v128_1.toNat) (w64 (v128_1 + (v128_1.toNat : Int))) = mkSt 48 [(7, one (.sl 1 0 v128_0.length)), (8, one (.int .i64 (w64 (v128_1 + (v128_1.toNat : Int)))))] [some ⟨false, .ints .i64 a0⟩, some ⟨true, .ints .i64 (overL v128_0 v128_1.toNat v128_0 0 v128_1.toNat)⟩]))
      · obtain ⟨p3, h⟩ := ck_some h
        obtain ⟨p4, h⟩ := ck_some h
        exact .of_step tab mixed [bT, bF] [] [7, 8] [0, 1] (s1 := mkSt 48 [(7, one (.sl 1 0 v128_0.length)), (8, one (.int .i64 (w64 (v128_1 + ((v128_0.length - v128_1.toNat : Nat) : Int)))))] [some ⟨false, .ints .i64 a0⟩, some ⟨true, .ints .i64 (overL v128_0 v128_1.toNat v128_0 0 (v128_0.length - v128_1.toNat))⟩]) (nd c1 (nd p1 (nd p2 (nd (Int.le_refl (v128_0.length : Int)) (nd (Int.le_refl 0) (nd p1 (nd p2 (nd (Nat.le_of_lt (Nat.lt_of_not_le (of_decide_eq_false c2))) (nd p3 (nd p4 trivial)))))))))) (by kernel_rfl) (LoopSpec.eqs (slices.Repeat_int_int.l0_1.spec a0 k (overL v128_0 v128_1.toNat v128_0 0 (v128_0.length - v128_1.toNat)) (w64 (v128_1 + ((v128_0.length - v128_1.toNat : Nat) : Int))) _ h) (by simp only [slices.Repeat_int_int.l0_1.s, List.length_set, overL_length] : slices.Repeat_int_int.l0_1.s a0 (overL v128_0 v128_1.toNat v128_0 0 (v128_0.length - v128_1.toNat)) (w64 (v128_1 + ((v128_0.length - v128_1.toNat : Nat) : Int))) = mkSt 48 [(7, one (.sl 1 0 v128_0.length)), (8, one (.int .i64 (w64 (v128_1 + ((v128_0.length - v128_1.toNat : Nat) : Int)))))] [some ⟨false, .ints .i64 a0⟩, some ⟨true, .ints .i64 (overL v128_0 v128_1.toNat v128_0 0 (v128_0.length - v128_1.toNat))⟩]))
    · obtain rfl := Option.some.inj h
      exact .of_done tab mixed [bF] [] [7] [0, 1] rfl (nd c1 trivial) (by kernel_rfl)
def slices.Repeat_int_int.f (K : Nat) (a0 : List Int) (a1 : Int) : Option ((List Int)) :=
  cond (decide (a1 < 0)) (none) (Option.bind (math_bits.Mul.f (IntKind.u64.wrap (a0.length : Int)) (IntKind.u64.wrap a1)) fun x1 => cond (decide ((IntKind.u64.wrap ((IntKind.u64.wrap ((IntKind.u64.wrap (((IntKind.u64.wrap (a0.length : Int)).fdiv (2 ^ 32)) * ((IntKind.u64.wrap a1).fdiv (2 ^ 32)))) + ((IntKind.u64.wrap ((IntKind.u64.wrap (((IntKind.u64.wrap (a0.length : Int)).fdiv (2 ^ 32)) * (bits2 .u64 (· &&& ·) (IntKind.u64.wrap a1) 4294967295))) + ((IntKind.u64.wrap ((bits2 .u64 (· &&& ·) (IntKind.u64.wrap (a0.length : Int)) 4294967295) * (bits2 .u64 (· &&& ·) (IntKind.u64.wrap a1) 4294967295))).fdiv (2 ^ 32)))).fdiv (2 ^ 32)))) + ((IntKind.u64.wrap ((bits2 .u64 (· &&& ·) (IntKind.u64.wrap ((IntKind.u64.wrap (((IntKind.u64.wrap (a0.length : Int)).fdiv (2 ^ 32)) * (bits2 .u64 (· &&& ·) (IntKind.u64.wrap a1) 4294967295))) + ((IntKind.u64.wrap ((bits2 .u64 (· &&& ·) (IntKind.u64.wrap (a0.length : Int)) 4294967295) * (bits2 .u64 (· &&& ·) (IntKind.u64.wrap a1) 4294967295))).fdiv (2 ^ 32)))) 4294967295) + (IntKind.u64.wrap ((bits2 .u64 (· &&& ·) (IntKind.u64.wrap (a0.length : Int)) 4294967295) * ((IntKind.u64.wrap a1).fdiv (2 ^ 32)))))).fdiv (2 ^ 32)))) > 0)) (none) (cond (decide ((IntKind.u64.wrap ((IntKind.u64.wrap (a0.length : Int)) * (IntKind.u64.wrap a1))) > 9223372036854775807)) (none) (ck (0 ≤ (w64 (IntKind.u64.wrap ((IntKind.u64.wrap (a0.length : Int)) * (IntKind.u64.wrap a1))))) (ck (((w64 (IntKind.u64.wrap ((IntKind.u64.wrap (a0.length : Int)) * (IntKind.u64.wrap a1)))) * (8 : Int)) ≤ 70368744177664) (cond (decide (a0.length ≤ (List.replicate (w64 (IntKind.u64.wrap ((IntKind.u64.wrap (a0.length : Int)) * (IntKind.u64.wrap a1)))).toNat (0 : Int)).length)) (ck (0 + ((List.replicate (w64 (IntKind.u64.wrap ((IntKind.u64.wrap (a0.length : Int)) * (IntKind.u64.wrap a1)))).toNat (0 : Int)).length) ≤ (List.replicate (w64 (IntKind.u64.wrap ((IntKind.u64.wrap (a0.length : Int)) * (IntKind.u64.wrap a1)))).toNat (0 : Int)).length) (ck (0 + a0.length ≤ a0.length) (Option.bind (slices.Repeat_int_int.l0.f a0 K (overL (List.replicate (w64 (IntKind.u64.wrap ((IntKind.u64.wrap (a0.length : Int)) * (IntKind.u64.wrap a1)))).toNat (0 : Int)) 0 a0 0 a0.length) (a0.length : Int)) fun x2 => some x2))) (ck (0 + ((List.replicate (w64 (IntKind.u64.wrap ((IntKind.u64.wrap (a0.length : Int)) * (IntKind.u64.wrap a1)))).toNat (0 : Int)).length) ≤ (List.replicate (w64 (IntKind.u64.wrap ((IntKind.u64.wrap (a0.length : Int)) * (IntKind.u64.wrap a1)))).toNat (0 : Int)).length) (ck (0 + a0.length ≤ a0.length) (Option.bind (slices.Repeat_int_int.l0_1.f a0 K (overL (List.replicate (w64 (IntKind.u64.wrap ((IntKind.u64.wrap (a0.length : Int)) * (IntKind.u64.wrap a1)))).toNat (0 : Int)) 0 a0 0 ((List.replicate (w64 (IntKind.u64.wrap ((IntKind.u64.wrap (a0.length : Int)) * (IntKind.u64.wrap a1)))).toNat (0 : Int)).length)) ((List.replicate (w64 (IntKind.u64.wrap ((IntKind.u64.wrap (a0.length : Int)) * (IntKind.u64.wrap a1)))).toNat (0 : Int)).length : Int)) fun x2 => some x2))))))))
theorem slices.Repeat_int_int.spec (K : Nat) (a0 : List Int) (a1 : Int) (o : (List Int)) (h : slices.Repeat_int_int.f K a0 a1 = some o) : Den.Spec Tryz.prog 94 [one (.sl 0 0 a0.length), one (.int .i64 a1)] [some ⟨false, .ints .i64 a0⟩] (one (.sl 1 0 o.length)) [some ⟨false, .ints .i64 a0⟩, some ⟨true, .ints .i64 o⟩] := by
  unfold slices.Repeat_int_int.f at h
  rcases br_cases h with ⟨c1, h⟩ | ⟨c1, h⟩
  · cases h
  · obtain ⟨x1, e1, h⟩ := bind_some h
    rcases br_cases h with ⟨c2, h⟩ | ⟨c2, h⟩
    · cases h
    · rcases br_cases h with ⟨c3, h⟩ | ⟨c3, h⟩
      · cases h
      · obtain ⟨p1, h⟩ := ck_some h
        obtain ⟨p2, h⟩ := ck_some h
        rcases br_cases h with ⟨c4, h⟩ | ⟨c4, h⟩
        · obtain ⟨p3, h⟩ := ck_some h
          obtain ⟨p4, h⟩ := ck_some h
          obtain ⟨x2, e2, h⟩ := bind_some h
          obtain rfl := Option.some.inj h
          exact Den.Spec.of_walk tab mixed Tryz.func94 (by kernel_rfl) [bF, .call [] [] (.tup [.c (.int .u64 (IntKind.u64.wrap ((IntKind.u64.wrap ((IntKind.u64.wrap (((IntKind.u64.wrap (a0.length : Int)).fdiv (2 ^ 32)) * ((IntKind.u64.wrap a1).fdiv (2 ^ 32)))) + ((IntKind.u64.wrap ((IntKind.u64.wrap (((IntKind.u64.wrap (a0.length : Int)).fdiv (2 ^ 32)) * (bits2 .u64 (· &&& ·) (IntKind.u64.wrap a1) 4294967295))) + ((IntKind.u64.wrap ((bits2 .u64 (· &&& ·) (IntKind.u64.wrap (a0.length : Int)) 4294967295) * (bits2 .u64 (· &&& ·) (IntKind.u64.wrap a1) 4294967295))).fdiv (2 ^ 32)))).fdiv (2 ^ 32)))) + ((IntKind.u64.wrap ((bits2 .u64 (· &&& ·) (IntKind.u64.wrap ((IntKind.u64.wrap (((IntKind.u64.wrap (a0.length : Int)).fdiv (2 ^ 32)) * (bits2 .u64 (· &&& ·) (IntKind.u64.wrap a1) 4294967295))) + ((IntKind.u64.wrap ((bits2 .u64 (· &&& ·) (IntKind.u64.wrap (a0.length : Int)) 4294967295) * (bits2 .u64 (· &&& ·) (IntKind.u64.wrap a1) 4294967295))).fdiv (2 ^ 32)))) 4294967295) + (IntKind.u64.wrap ((bits2 .u64 (· &&& ·) (IntKind.u64.wrap (a0.length : Int)) 4294967295) * ((IntKind.u64.wrap a1).fdiv (2 ^ 32)))))).fdiv (2 ^ 32))))), .c (.int .u64 (IntKind.u64.wrap ((IntKind.u64.wrap (a0.length : Int)) * (IntKind.u64.wrap a1))))]) [], bF, bF, bF, bF, bT, .loop [] [7, 8] [0, 1] (.exit 0) (slices.Repeat_int_int.l0.e0 a0 x2)] [] [0, 1] (nd c1 (nd (math_bits.Mul.spec (IntKind.u64.wrap (a0.length : Int)) (IntKind.u64.wrap a1) _ e1) (nd c2 (nd c2 (nd c2 (nd c3 (nd p1 (nd (rfl : (w64 (IntKind.u64.wrap ((IntKind.u64.wrap (a0.length : Int)) * (IntKind.u64.wrap a1)))) = (w64 (IntKind.u64.wrap ((IntKind.u64.wrap (a0.length : Int)) * (IntKind.u64.wrap a1))))) (nd p2 (nd (of_decide_eq_true c4) (nd p3 (nd p4 (nd (LoopSpec.eqs (slices.Repeat_int_int.l0.spec a0 K (overL (List.replicate (w64 (IntKind.u64.wrap ((IntKind.u64.wrap (a0.length : Int)) * (IntKind.u64.wrap a1)))).toNat (0 : Int)) 0 a0 0 a0.length) (a0.length : Int) _ e2) (by simp only [slices.Repeat_int_int.l0.s, List.length_set, overL_length] : slices.Repeat_int_int.l0.s a0 (overL (List.replicate (w64 (IntKind.u64.wrap ((IntKind.u64.wrap (a0.length : Int)) * (IntKind.u64.wrap a1)))).toNat (0 : Int)) 0 a0 0 a0.length) (a0.length : Int) = mkSt 48 [(7, one (.sl 1 0 ((List.replicate (w64 (IntKind.u64.wrap ((IntKind.u64.wrap (a0.length : Int)) * (IntKind.u64.wrap a1)))).toNat (0 : Int)).length))), (8, one (.int .i64 (a0.length : Int)))] [some ⟨false, .ints .i64 a0⟩, some ⟨true, .ints .i64 (overL (List.replicate (w64 (IntKind.u64.wrap ((IntKind.u64.wrap (a0.length : Int)) * (IntKind.u64.wrap a1)))).toNat (0 : Int)) 0 a0 0 a0.length)⟩])) trivial))))))))))))) (by kernel_rfl)
        · obtain ⟨p3, h⟩ := ck_some h
          obtain ⟨p4, h⟩ := ck_some h
          obtain ⟨x2, e2, h⟩ := bind_some h
          obtain rfl := Option.some.inj h
          exact Den.Spec.of_walk tab mixed Tryz.func94 (by kernel_rfl) [bF, .call [] [] (.tup [.c (.int .u64 (IntKind.u64.wrap ((IntKind.u64.wrap ((IntKind.u64.wrap (((IntKind.u64.wrap (a0.length : Int)).fdiv (2 ^ 32)) * ((IntKind.u64.wrap a1).fdiv (2 ^ 32)))) + ((IntKind.u64.wrap ((IntKind.u64.wrap (((IntKind.u64.wrap (a0.length : Int)).fdiv (2 ^ 32)) * (bits2 .u64 (· &&& ·) (IntKind.u64.wrap a1) 4294967295))) + ((IntKind.u64.wrap ((bits2 .u64 (· &&& ·) (IntKind.u64.wrap (a0.length : Int)) 4294967295) * (bits2 .u64 (· &&& ·) (IntKind.u64.wrap a1) 4294967295))).fdiv (2 ^ 32)))).fdiv (2 ^ 32)))) + ((IntKind.u64.wrap ((bits2 .u64 (· &&& ·) (IntKind.u64.wrap ((IntKind.u64.wrap (((IntKind.u64.wrap (a0.length : Int)).fdiv (2 ^ 32)) * (bits2 .u64 (· &&& ·) (IntKind.u64.wrap a1) 4294967295))) + ((IntKind.u64.wrap ((bits2 .u64 (· &&& ·) (IntKind.u64.wrap (a0.length : Int)) 4294967295) * (bits2 .u64 (· &&& ·) (IntKind.u64.wrap a1) 4294967295))).fdiv (2 ^ 32)))) 4294967295) + (IntKind.u64.wrap ((bits2 .u64 (· &&& ·) (IntKind.u64.wrap (a0.length : Int)) 4294967295) * ((IntKind.u64.wrap a1).fdiv (2 ^ 32)))))).fdiv (2 ^ 32))))), .c (.int .u64 (IntKind.u64.wrap ((IntKind.u64.wrap (a0.length : Int)) * (IntKind.u64.wrap a1))))]) [], bF, bF, bF, bF, bF, .loop [] [7, 8] [0, 1] (.exit 0) (slices.Repeat_int_int.l0_1.e0 a0 x2)] [] [0, 1] (nd c1 (nd (math_bits.Mul.spec (IntKind.u64.wrap (a0.length : Int)) (IntKind.u64.wrap a1) _ e1) (nd c2 (nd c2 (nd c2 (nd c3 (nd p1 (nd (rfl : (w64 (IntKind.u64.wrap ((IntKind.u64.wrap (a0.length : Int)) * (IntKind.u64.wrap a1)))) = (w64 (IntKind.u64.wrap ((IntKind.u64.wrap (a0.length : Int)) * (IntKind.u64.wrap a1))))) (nd p2 (nd (Nat.le_of_lt (Nat.lt_of_not_le (of_decide_eq_false c4))) (nd p3 (nd p4 (nd (LoopSpec.eqs (slices.Repeat_int_int.l0_1.spec a0 K (overL (List.replicate (w64 (IntKind.u64.wrap ((IntKind.u64.wrap (a0.length : Int)) * (IntKind.u64.wrap a1)))).toNat (0 : Int)) 0 a0 0 ((List.replicate (w64 (IntKind.u64.wrap ((IntKind.u64.wrap (a0.length : Int)) * (IntKind.u64.wrap a1)))).toNat (0 : Int)).length)) ((List.replicate (w64 (IntKind.u64.wrap ((IntKind.u64.wrap (a0.length : Int)) * (IntKind.u64.wrap a1)))).toNat (0 : Int)).length : Int) _ e2) (by simp only [slices.Repeat_int_int.l0_1.s, List.length_set, overL_length] : slices.Repeat_int_int.l0_1.s a0 (overL (List.replicate (w64 (IntKind.u64.wrap ((IntKind.u64.wrap (a0.length : Int)) * (IntKind.u64.wrap a1)))).toNat (0 : Int)) 0 a0 0 ((List.replicate (w64 (IntKind.u64.wrap ((IntKind.u64.wrap (a0.length : Int)) * (IntKind.u64.wrap a1)))).toNat (0 : Int)).length)) ((List.replicate (w64 (IntKind.u64.wrap ((IntKind.u64.wrap (a0.length : Int)) * (IntKind.u64.wrap a1)))).toNat (0 : Int)).length : Int) = mkSt 48 [(7, one (.sl 1 0 ((List.replicate (w64 (IntKind.u64.wrap ((IntKind.u64.wrap (a0.length : Int)) * (IntKind.u64.wrap a1)))).toNat (0 : Int)).length))), (8, one (.int .i64 ((List.replicate (w64 (IntKind.u64.wrap ((IntKind.u64.wrap (a0.length : Int)) * (IntKind.u64.wrap a1)))).toNat (0 : Int)).length : Int)))] [some ⟨false, .ints .i64 a0⟩, some ⟨true, .ints .i64 (overL (List.replicate (w64 (IntKind.u64.wrap ((IntKind.u64.wrap (a0.length : Int)) * (IntKind.u64.wrap a1)))).toNat (0 : Int)) 0 a0 0 ((List.replicate (w64 (IntKind.u64.wrap ((IntKind.u64.wrap (a0.length : Int)) * (IntKind.u64.wrap a1)))).toNat (0 : Int)).length))⟩])) trivial))))))))))))) (by kernel_rfl)
def impl.GetNum.l0.f (a0 : List Int) (a1 : Int) : Nat → Int → Int → Option ((Int × Int × Bool) ⊕ Unit)
  | 0, _, _ => none
  | k + 1, v132_0, v132_1 =>
    cond (decide (v132_1 < 5)) (cond (decide ((w64 (a1 + v132_1)) < (a0.length : Int))) (ck (0 ≤ (w64 (a1 + v132_1))) (ck (0 ≤ (w64 (7 * v132_1))) (cond (decide ((w64 (a0.getD ((w64 (a1 + v132_1)).toNat) 0)) > 127)) (impl.GetNum.l0.f a0 a1 k (bits2 .i64 (· ||| ·) v132_0 (w64 ((bits2 .i64 (· &&& ·) (w64 (a0.getD ((w64 (a1 + v132_1)).toNat) 0)) 127) * 2 ^ (min (w64 (7 * v132_1)).toNat 64)))) (w64 (v132_1 + 1))) (cond ((w64 (a0.getD ((w64 (a1 + v132_1)).toNat) 0)) == 0) (cond (decide (v132_1 > 0)) (some (.inl (0, 0, false))) (cond (decide ((bits2 .i64 (· ||| ·) v132_0 (w64 ((bits2 .i64 (· &&& ·) (w64 (a0.getD ((w64 (a1 + v132_1)).toNat) 0)) 127) * 2 ^ (min (w64 (7 * v132_1)).toNat 64)))) > 1000000000)) (some (.inl (0, 0, false))) (some (.inl (bits2 .i64 (· ||| ·) v132_0 (w64 ((bits2 .i64 (· &&& ·) (w64 (a0.getD ((w64 (a1 + v132_1)).toNat) 0)) 127) * 2 ^ (min (w64 (7 * v132_1)).toNat 64))), w64 ((w64 (a1 + v132_1)) + 1), true))))) (cond (decide ((bits2 .i64 (· ||| ·) v132_0 (w64 ((bits2 .i64 (· &&& ·) (w64 (a0.getD ((w64 (a1 + v132_1)).toNat) 0)) 127) * 2 ^ (min (w64 (7 * v132_1)).toNat 64)))) > 1000000000)) (some (.inl (0, 0, false))) (some (.inl (bits2 .i64 (· ||| ·) v132_0 (w64 ((bits2 .i64 (· &&& ·) (w64 (a0.getD ((w64 (a1 + v132_1)).toNat) 0)) 127) * 2 ^ (min (w64 (7 * v132_1)).toNat 64))), w64 ((w64 (a1 + v132_1)) + 1), true)))))))) (some (.inr (())))) (some (.inr (())))
def impl.GetNum.l0.s (a0 : List Int) (a1 : Int) (v132_0 : Int) (v132_1 : Int) : St := mkSt 58 [(0, one (.sl 0 0 a0.length)), (1, one (.int .i64 a1)), (7, one (.int .i64 v132_0)), (8, one (.int .i64 v132_1))] [some ⟨false, .ints .u8 a0⟩]
def impl.GetNum.l0.e0 (a0 : List Int) (a1 : Int) (o : Int × Int × Bool) : St := mkSt 58 [(4, one (.int .i64 o.1)), (5, one (.int .i64 o.2.1)), (6, one (.bool o.2.2))] [some ⟨false, .ints .u8 a0⟩]
def impl.GetNum.l0.e1 (a0 : List Int) (a1 : Int) (o : Unit) : St := mkSt 58 [] [some ⟨false, .ints .u8 a0⟩]
def impl.GetNum.l0.x (a0 : List Int) (a1 : Int) : ((Int × Int × Bool) ⊕ Unit) → AExit × St := Sum.elim (fun o => (.ret, impl.GetNum.l0.e0 a0 a1 o)) (fun o => (.exit 0, impl.GetNum.l0.e1 a0 a1 o))
theorem impl.GetNum.l0.spec (a0 : List Int) (a1 : Int) : ∀ (k : Nat) (v132_0 : Int) (v132_1 : Int) (o : (Int × Int × Bool) ⊕ Unit), impl.GetNum.l0.f a0 a1 k v132_0 v132_1 = some o → LoopSpec Tryz.prog 1 (loopN Tryz.f84 0) (impl.GetNum.l0.s a0 a1 v132_0 v132_1) (impl.GetNum.l0.x a0 a1 o).1 (impl.GetNum.l0.x a0 a1 o).2
  | 0, _, _, _, h => by cases h
  | k + 1, v132_0, v132_1, o, h => by
    unfold impl.GetNum.l0.f at h
    rcases br_cases h with ⟨c1, h⟩ | ⟨c1, h⟩
    · rcases br_cases h with ⟨c2, h⟩ | ⟨c2, h⟩
      · obtain ⟨p1, h⟩ := ck_some h
        obtain ⟨p2, h⟩ := ck_some h
        rcases br_cases h with ⟨c3, h⟩ | ⟨c3, h⟩
        · exact .of_step tab mixed [bT, bT, bT, bT, bT, bT, bT, bT, bT] [] [0, 1, 7, 8] [0] (s1 := impl.GetNum.l0.s a0 a1 (bits2 .i64 (· ||| ·) v132_0 (w64 ((bits2 .i64 (· &&& ·) (w64 (a0.getD ((w64 (a1 + v132_1)).toNat) 0)) 127) * 2 ^ (min (w64 (7 * v132_1)).toNat 64)))) (w64 (v132_1 + 1))) (nd c1 (nd c1 (nd c1 (nd c1 (nd c1 (nd c1 (nd c1 (nd c2 (nd p1 (nd (of_decide_eq_true c2) (nd (tn p1 (of_decide_eq_true c2)) (nd p2 (nd c3 trivial))))))))))))) (by kernel_rfl) (impl.GetNum.l0.spec a0 a1 k (bits2 .i64 (· ||| ·) v132_0 (w64 ((bits2 .i64 (· &&& ·) (w64 (a0.getD ((w64 (a1 + v132_1)).toNat) 0)) 127) * 2 ^ (min (w64 (7 * v132_1)).toNat 64)))) (w64 (v132_1 + 1)) _ h)
        · rcases br_cases h with ⟨c4, h⟩ | ⟨c4, h⟩
          · rcases br_cases h with ⟨c5, h⟩ | ⟨c5, h⟩
            · obtain rfl := Option.some.inj h
              exact .of_done tab mixed [bT, bT, bT, bT, bT, bT, bT, bT, bF, bT, bT, bT, bT, bT, bT, bT] [] [4, 5, 6] [0] rfl (nd c1 (nd c1 (nd c1 (nd c1 (nd c1 (nd c1 (nd c1 (nd c2 (nd p1 (nd (of_decide_eq_true c2) (nd (tn p1 (of_decide_eq_true c2)) (nd p2 (nd c3 (nd c4 (nd c4 (nd c4 (nd c5 (nd c5 (nd c5 (nd tt trivial)))))))))))))))))))) (by kernel_rfl)
            · rcases br_cases h with ⟨c6, h⟩ | ⟨c6, h⟩
              · obtain rfl := Option.some.inj h
                exact .of_done tab mixed [bT, bT, bT, bT, bT, bT, bT, bT, bF, bT, bT, bT, bF, bF, bF, bT] [] [4, 5, 6] [0] rfl (nd c1 (nd c1 (nd c1 (nd c1 (nd c1 (nd c1 (nd c1 (nd c2 (nd p1 (nd (of_decide_eq_true c2) (nd (tn p1 (of_decide_eq_true c2)) (nd p2 (nd c3 (nd c4 (nd c4 (nd c4 (nd c5 (nd c5 (nd c5 (nd c6 trivial)))))))))))))))))))) (by kernel_rfl)
              · obtain rfl := Option.some.inj h
                exact .of_done tab mixed [bT, bT, bT, bT, bT, bT, bT, bT, bF, bT, bT, bT, bF, bF, bF, bF] [] [4, 5, 6] [0] rfl (nd c1 (nd c1 (nd c1 (nd c1 (nd c1 (nd c1 (nd c1 (nd c2 (nd p1 (nd (of_decide_eq_true c2) (nd (tn p1 (of_decide_eq_true c2)) (nd p2 (nd c3 (nd c4 (nd c4 (nd c4 (nd c5 (nd c5 (nd c5 (nd c6 trivial)))))))))))))))))))) (by kernel_rfl)
          · rcases br_cases h with ⟨c5, h⟩ | ⟨c5, h⟩
            · obtain rfl := Option.some.inj h
              exact .of_done tab mixed [bT, bT, bT, bT, bT, bT, bT, bT, bF, bF, bF, bF, bF, bF, bF, bT] [] [4, 5, 6] [0] rfl (nd c1 (nd c1 (nd c1 (nd c1 (nd c1 (nd c1 (nd c1 (nd c2 (nd p1 (nd (of_decide_eq_true c2) (nd (tn p1 (of_decide_eq_true c2)) (nd p2 (nd c3 (nd c4 (nd c4 (nd c4 (nd ff (nd ff (nd ff (nd c5 trivial)))))))))))))))))))) (by kernel_rfl)
            · obtain rfl := Option.some.inj h
              exact .of_done tab mixed [bT, bT, bT, bT, bT, bT, bT, bT, bF, bF, bF, bF, bF, bF, bF, bF] [] [4, 5, 6] [0] rfl (nd c1 (nd c1 (nd c1 (nd c1 (nd c1 (nd c1 (nd c1 (nd c2 (nd p1 (nd (of_decide_eq_true c2) (nd (tn p1 (of_decide_eq_true c2)) (nd p2 (nd c3 (nd c4 (nd c4 (nd c4 (nd ff (nd ff (nd ff (nd c5 trivial)))))))))))))))))))) (by kernel_rfl)
      · obtain rfl := Option.some.inj h
        exact .of_done tab mixed [bT, bT, bT, bT, bT, bT, bT, bF] [] [] [0] rfl (nd c1 (nd c1 (nd c1 (nd c1 (nd c1 (nd c1 (nd c1 (nd c2 trivial)))))))) (by kernel_rfl)
    · obtain rfl := Option.some.inj h
      exact .of_done tab mixed [bF, bF, bF, bF, bF, bF, bF, bF] [] [] [0] rfl (nd c1 (nd c1 (nd c1 (nd c1 (nd c1 (nd c1 (nd c1 (nd ff trivial)))))))) (by kernel_rfl)
def impl.GetNum.f (K : Nat) (a0 : List Int) (a1 : Int) : Option (Int × Int × Bool) :=
  Option.bind (impl.in_.f a1 0 (a0.length : Int)) fun x1 => cond (x1) (Option.bind (impl.GetNum.l0.f a0 a1 K 0 0) fun x2 => (Sum.elim (fun x2 => some (x2.1, x2.2.1, x2.2.2)) (fun x2 => some (0, 0, false))) x2) (some (0, 0, false))
theorem impl.GetNum.spec (K : Nat) (a0 : List Int) (a1 : Int) (o : Int × Int × Bool) (h : impl.GetNum.f K a0 a1 = some o) : Den.Spec Tryz.prog 84 [one (.sl 0 0 a0.length), one (.int .i64 a1)] [some ⟨false, .ints .u8 a0⟩] (.tup [.c (.int .i64 o.1), .c (.int .i64 o.2.1), .c (.bool o.2.2)]) [some ⟨false, .ints .u8 a0⟩] := by
  unfold impl.GetNum.f at h
  obtain ⟨x1, e1, h⟩ := bind_some h
  rcases br_cases h with ⟨c1, h⟩ | ⟨c1, h⟩
  · obtain ⟨x2, e2, h⟩ := bind_some h
    rcases x2 with x2 | x2
    · obtain rfl := Option.some.inj h
      exact Den.Spec.of_walk tab mixed Tryz.func84 (by kernel_rfl) [.call [] [] (one (.bool x1)) [], bF, .loop [] [0, 1, 7, 8] [0] (.ret) (impl.GetNum.l0.e0 a0 a1 x2)] [] [0] (nd (impl.in_.spec a1 0 (a0.length : Int) _ e1) (nd (nf c1) (nd (impl.GetNum.l0.spec a0 a1 K 0 0 _ e2) trivial))) (by kernel_rfl)
    · obtain rfl := Option.some.inj h
      exact Den.Spec.of_walk tab mixed Tryz.func84 (by kernel_rfl) [.call [] [] (one (.bool x1)) [], bF, .loop [] [0, 1, 7, 8] [0] (.exit 0) (impl.GetNum.l0.e1 a0 a1 x2)] [] [0] (nd (impl.in_.spec a1 0 (a0.length : Int) _ e1) (nd (nf c1) (nd (impl.GetNum.l0.spec a0 a1 K 0 0 _ e2) trivial))) (by kernel_rfl)
  · obtain rfl := Option.some.inj h
    exact Den.Spec.of_walk tab mixed Tryz.func84 (by kernel_rfl) [.call [] [] (one (.bool x1)) [], bT] [] [0] (nd (impl.in_.spec a1 0 (a0.length : Int) _ e1) (nd (nt c1) trivial)) (by kernel_rfl)
def impl.reader.number.f (K : Nat) (a0 : List Int) (a1 : Int) (a2 : Bool) : Option (Int × Int × Bool) :=
  Option.bind (impl.GetNum.f K a0 a1) fun x1 => cond (a2) (some (0, a1, true)) (cond (x1.2.2) (some (x1.1, x1.2.1, a2)) (some (0, a1, true)))
theorem impl.reader.number.spec (K : Nat) (a0 : List Int) (a1 : Int) (a2 : Bool) (o : Int × Int × Bool) (h : impl.reader.number.f K a0 a1 a2 = some o) : Den.Spec Tryz.prog 46 [one (.ptr 0 0 0)] [some ⟨true, .cells [.sl 1 0 a0.length, .int .i64 a1, .bool a2]⟩, some ⟨true, .ints .u8 a0⟩] (one (.int .i64 o.1)) [some ⟨true, .cells [.sl 1 0 a0.length, .int .i64 o.2.1, .bool o.2.2]⟩, some ⟨true, .ints .u8 a0⟩] := by
  unfold impl.reader.number.f at h
  obtain ⟨x1, e1, h⟩ := bind_some h
  rcases br_cases h with ⟨c1, h⟩ | ⟨c1, h⟩
  · obtain rfl := Option.some.inj h
    exact Den.Spec.of_walk tab mixed Tryz.func46 (by kernel_rfl) [.call [] [(0, true)] (.tup [.c (.int .i64 x1.1), .c (.int .i64 x1.2.1), .c (.bool x1.2.2)]) (iF a0), bT, bT, bT, bT] [] [0, 1] (nd (impl.GetNum.spec K a0 a1 _ e1) (n0 (nl a0 (nd c1 (nd c1 (nd c1 (nd tt trivial))))))) (by kernel_rfl)
  · rcases br_cases h with ⟨c2, h⟩ | ⟨c2, h⟩
    · obtain rfl := Option.some.inj h
      exact Den.Spec.of_walk tab mixed Tryz.func46 (by kernel_rfl) [.call [] [(0, true)] (.tup [.c (.int .i64 x1.1), .c (.int .i64 x1.2.1), .c (.bool x1.2.2)]) (iF a0), bF, bF, bF, bF] [] [0, 1] (nd (impl.GetNum.spec K a0 a1 _ e1) (n0 (nl a0 (nd c1 (nd c1 (nd c1 (nd (nf c2) trivial))))))) (by kernel_rfl)
    · obtain rfl := Option.some.inj h
      exact Den.Spec.of_walk tab mixed Tryz.func46 (by kernel_rfl) [.call [] [(0, true)] (.tup [.c (.int .i64 x1.1), .c (.int .i64 x1.2.1), .c (.bool x1.2.2)]) (iF a0), bF, bF, bF, bT] [] [0, 1] (nd (impl.GetNum.spec K a0 a1 _ e1) (n0 (nl a0 (nd c1 (nd c1 (nd c1 (nd (nt c2) trivial))))))) (by kernel_rfl)
def impl.Sum.l0.f (a0 : List Int) : Nat → Int → Int → Option (Int)
  | 0, _, _ => none
  | k + 1, v136_0, v136_1 =>
    cond (decide (v136_1 < (a0.length : Int))) (ck (0 ≤ v136_1) (impl.Sum.l0.f a0 k ((w64 ((w64 (31 * v136_0)) + (w64 (a0.getD v136_1.toNat 0)))).tmod 1000003) (w64 (v136_1 + 1)))) (some v136_0)
def impl.Sum.l0.s (a0 : List Int) (v136_0 : Int) (v136_1 : Int) : St := mkSt 20 [(3, one (.int .i64 v136_0)), (6, one (.sl 0 0 a0.length)), (7, one (.int .i64 (a0.length : Int))), (8, one (.int .i64 v136_1))] [some ⟨false, .ints .u8 a0⟩]
def impl.Sum.l0.e0 (a0 : List Int) (o : Int) : St := mkSt 20 [(3, one (.int .i64 o))] [some ⟨false, .ints .u8 a0⟩]
def impl.Sum.l0.x (a0 : List Int) : (Int) → AExit × St := fun o => (.exit 0, impl.Sum.l0.e0 a0 o)
theorem impl.Sum.l0.spec (a0 : List Int) : ∀ (k : Nat) (v136_0 : Int) (v136_1 : Int) (o : Int), impl.Sum.l0.f a0 k v136_0 v136_1 = some o → LoopSpec Tryz.prog 1 (loopN Tryz.f83 0) (impl.Sum.l0.s a0 v136_0 v136_1) (impl.Sum.l0.x a0 o).1 (impl.Sum.l0.x a0 o).2
  | 0, _, _, _, h => by cases h
  | k + 1, v136_0, v136_1, o, h => by
    unfold impl.Sum.l0.f at h
    rcases br_cases h with ⟨c1, h⟩ | ⟨c1, h⟩
    · obtain ⟨p1, h⟩ := ck_some h
      exact .of_step tab mixed [bT] [] [3, 6, 7, 8] [0] (s1 := impl.Sum.l0.s a0 ((w64 ((w64 (31 * v136_0)) + (w64 (a0.getD v136_1.toNat 0)))).tmod 1000003) (w64 (v136_1 + 1))) (nd c1 (nd p1 (nd (of_decide_eq_true c1) (nd (tn p1 (of_decide_eq_true c1)) (nd (by decide : (1000003 : Int) ≠ 0) trivial))))) (by kernel_rfl) (impl.Sum.l0.spec a0 k ((w64 ((w64 (31 * v136_0)) + (w64 (a0.getD v136_1.toNat 0)))).tmod 1000003) (w64 (v136_1 + 1)) _ h)
    · obtain rfl := Option.some.inj h
      exact .of_done tab mixed [bF] [] [3] [0] rfl (nd c1 trivial) (by kernel_rfl)
def impl.Sum.f (K : Nat) (a0 : List Int) : Option (Int) :=
  Option.bind (impl.Sum.l0.f a0 K 7 0) fun x1 => some x1
theorem impl.Sum.spec (K : Nat) (a0 : List Int) (o : Int) (h : impl.Sum.f K a0 = some o) : Den.Spec Tryz.prog 83 [one (.sl 0 0 a0.length)] [some ⟨false, .ints .u8 a0⟩] (one (.int .i64 o)) [some ⟨false, .ints .u8 a0⟩] := by
  unfold impl.Sum.f at h
  obtain ⟨x1, e1, h⟩ := bind_some h
  obtain rfl := Option.some.inj h
  exact Den.Spec.of_walk tab mixed Tryz.func83 (by kernel_rfl) [.loop [] [3, 6, 7, 8] [0] (.exit 0) (impl.Sum.l0.e0 a0 x1)] [] [0] (nd (impl.Sum.l0.spec a0 K 7 0 _ e1) trivial) (by kernel_rfl)
def impl.unsummed.f (K : Nat) (a0 : ByteArray) : Option (Int × Bool) :=
  Option.bind (impl.reader.number.f K (bytesL a0) 0 false) fun x1 => cond (x1.2.2) (some (x1.2.1, true)) (ck (0 ≤ x1.2.1) (ck (x1.2.1 ≤ ((bytesL a0).length : Int)) (Option.bind (impl.Sum.f K (((bytesL a0).drop x1.2.1.toNat).take ((bytesL a0).length - x1.2.1.toNat))) fun x2 => ck (x1.2.1.toNat + ((bytesL a0).length - x1.2.1.toNat) ≤ (bytesL a0).length) (some (x1.2.1, x1.1 != x2)))))
theorem impl.unsummed.spec (K : Nat) (a0 : ByteArray) (o : Int × Bool) (h : impl.unsummed.f K a0 = some o) : Den.Spec Tryz.prog 45 [one (.str a0)] [] (one (.ptr 0 0 0)) [some ⟨true, .cells [.sl 1 0 ((bytesL a0).length), .int .i64 o.1, .bool o.2]⟩, some ⟨true, .ints .u8 (bytesL a0)⟩] := by
  unfold impl.unsummed.f at h
  obtain ⟨x1, e1, h⟩ := bind_some h
  rcases br_cases h with ⟨c1, h⟩ | ⟨c1, h⟩
  · obtain rfl := Option.some.inj h
    exact Den.Spec.of_walk tab mixed Tryz.func45 (by kernel_rfl) [.call [(1, true), (0, true)] [] (one (.int .i64 x1.1)) [some ⟨true, .cells [.sl 1 0 ((bytesL a0).length), .int .i64 x1.2.1, .bool x1.2.2]⟩, some ⟨true, .ints .u8 (bytesL a0)⟩], bT, bT, bT, bT, bT, bT, bT, bT, bT, bT, bT, bT, bT] [] [1, 0] (nd (impl.reader.number.spec K (bytesL a0) 0 false _ e1) (nd c1 (nd c1 (nd c1 (nd c1 (nd c1 (nd c1 (nd c1 (nd c1 (nd c1 (nd c1 (nd c1 (nd c1 (nd c1 trivial)))))))))))))) (by kernel_rfl)
  · obtain ⟨p1, h⟩ := ck_some h
    obtain ⟨p2, h⟩ := ck_some h
    obtain ⟨x2, e2, h⟩ := bind_some h
    obtain ⟨p3, h⟩ := ck_some h
    obtain rfl := Option.some.inj h
    exact Den.Spec.of_walk tab mixed Tryz.func45 (by kernel_rfl) [.call [(1, true), (0, true)] [] (one (.int .i64 x1.1)) [some ⟨true, .cells [.sl 1 0 ((bytesL a0).length), .int .i64 x1.2.1, .bool x1.2.2]⟩, some ⟨true, .ints .u8 (bytesL a0)⟩], bF, bF, bF, bF, bF, bF, bF, bF, bF, bF, bF, .call [] [(0, false)] (one (.int .i64 x2)) [some ⟨false, .ints .u8 (((bytesL a0).drop x1.2.1.toNat).take ((bytesL a0).length - x1.2.1.toNat))⟩], bF, bF] [] [1, 0] (nd (impl.reader.number.spec K (bytesL a0) 0 false _ e1) (nd c1 (nd c1 (nd c1 (nd c1 (nd c1 (nd c1 (nd c1 (nd c1 (nd c1 (nd c1 (nd p1 (nd p2 (nd (Int.le_refl ((bytesL a0).length : Int)) (nd c1 (nd ((impl.Sum.spec K (((bytesL a0).drop x1.2.1.toNat).take ((bytesL a0).length - x1.2.1.toNat)) _ e2).args (congrArg (fun n => ([one (.sl 0 0 n)] : List AV)) (win_len p3))) (nd c1 (nd c1 trivial)))))))))))))))))) (by kernel_rfl)
def impl.GetText.f (K : Nat) (a0 : List Int) (a1 : Int) : Option (ByteArray × Int × Bool) :=
  Option.bind (impl.GetNum.f K a0 a1) fun x1 => cond (x1.2.2) (cond (decide (x1.1 > 400)) (some (noVal, 0, false)) (cond (decide (x1.1 > (w64 ((a0.length : Int) - x1.2.1)))) (some (noVal, 0, false)) (ck (0 ≤ x1.2.1) (ck (x1.2.1 ≤ (w64 (x1.2.1 + x1.1))) (ck ((w64 (x1.2.1 + x1.1)) ≤ (a0.length : Int)) (ck (x1.2.1.toNat + ((w64 (x1.2.1 + x1.1)).toNat - x1.2.1.toNat) ≤ a0.length) (some (ofBytes ((a0.drop x1.2.1.toNat).take ((w64 (x1.2.1 + x1.1)).toNat - x1.2.1.toNat)), w64 (x1.2.1 + x1.1), true)))))))) (some (noVal, 0, false))
theorem impl.GetText.spec (K : Nat) (a0 : List Int) (a1 : Int) (o : ByteArray × Int × Bool) (h : impl.GetText.f K a0 a1 = some o) : Den.Spec Tryz.prog 85 [one (.sl 0 0 a0.length), one (.int .i64 a1)] [some ⟨false, .ints .u8 a0⟩] (.tup [.c (.str o.1), .c (.int .i64 o.2.1), .c (.bool o.2.2)]) [some ⟨false, .ints .u8 a0⟩] := by
  unfold impl.GetText.f at h
  obtain ⟨x1, e1, h⟩ := bind_some h
  rcases br_cases h with ⟨c1, h⟩ | ⟨c1, h⟩
  · rcases br_cases h with ⟨c2, h⟩ | ⟨c2, h⟩
    · obtain rfl := Option.some.inj h
      exact Den.Spec.of_walk tab mixed Tryz.func85 (by kernel_rfl) [.call [] [(0, true)] (.tup [.c (.int .i64 x1.1), .c (.int .i64 x1.2.1), .c (.bool x1.2.2)]) (iF a0), bF, bF, bF, bT, bT, bT, bT, bT, bT, bT, bT] [] [0] (nd (impl.GetNum.spec K a0 a1 _ e1) (n0 (nl a0 (nd (nf c1) (nd (nf c1) (nd (nf c1) (nd c2 (nd c2 (nd c2 (nd c2 (nd c2 (nd c2 (nd c2 (nd tt trivial)))))))))))))) (by kernel_rfl)
    · rcases br_cases h with ⟨c3, h⟩ | ⟨c3, h⟩
      · obtain rfl := Option.some.inj h
        exact Den.Spec.of_walk tab mixed Tryz.func85 (by kernel_rfl) [.call [] [(0, true)] (.tup [.c (.int .i64 x1.1), .c (.int .i64 x1.2.1), .c (.bool x1.2.2)]) (iF a0), bF, bF, bF, bF, bF, bF, bF, bF, bF, bF, bT] [] [0] (nd (impl.GetNum.spec K a0 a1 _ e1) (n0 (nl a0 (nd (nf c1) (nd (nf c1) (nd (nf c1) (nd c2 (nd c2 (nd c2 (nd c2 (nd c2 (nd c2 (nd c2 (nd c3 trivial)))))))))))))) (by kernel_rfl)
      · obtain ⟨p1, h⟩ := ck_some h
        obtain ⟨p2, h⟩ := ck_some h
        obtain ⟨p3, h⟩ := ck_some h
        obtain ⟨p4, h⟩ := ck_some h
        obtain rfl := Option.some.inj h
        exact Den.Spec.of_walk tab mixed Tryz.func85 (by kernel_rfl) [.call [] [(0, true)] (.tup [.c (.int .i64 x1.1), .c (.int .i64 x1.2.1), .c (.bool x1.2.2)]) (iF a0), bF, bF, bF, bF, bF, bF, bF, bF, bF, bF, bF, bF] [] [0] (nd (impl.GetNum.spec K a0 a1 _ e1) (n0 (nl a0 (nd (nf c1) (nd (nf c1) (nd (nf c1) (nd c2 (nd c2 (nd c2 (nd c2 (nd c2 (nd c2 (nd c2 (nd c3 (nd p1 (nd p2 (nd p3 (nd p4 trivial)))))))))))))))))) (by kernel_rfl)
  · obtain rfl := Option.some.inj h
    exact Den.Spec.of_walk tab mixed Tryz.func85 (by kernel_rfl) [.call [] [(0, true)] (.tup [.c (.int .i64 x1.1), .c (.int .i64 x1.2.1), .c (.bool x1.2.2)]) (iF a0), bT, bT, bT, bT, bT, bT, bT, bT, bT, bT, bT] [] [0] (nd (impl.GetNum.spec K a0 a1 _ e1) (n0 (nl a0 (nd (nt c1) (nd (nt c1) (nd (nt c1) (nd tt (nd tt (nd tt (nd tt (nd tt (nd tt (nd tt (nd tt trivial)))))))))))))) (by kernel_rfl)
def impl.reader.text.f (K : Nat) (a0 : List Int) (a1 : Int) (a2 : Bool) : Option (ByteArray × Int × Bool) :=
  Option.bind (impl.GetText.f K a0 a1) fun x1 => cond (a2) (some (noVal, a1, true)) (cond (x1.2.2) (some (x1.1, x1.2.1, a2)) (some (noVal, a1, true)))
theorem impl.reader.text.spec (K : Nat) (a0 : List Int) (a1 : Int) (a2 : Bool) (o : ByteArray × Int × Bool) (h : impl.reader.text.f K a0 a1 a2 = some o) : Den.Spec Tryz.prog 47 [one (.ptr 0 0 0)] [some ⟨true, .cells [.sl 1 0 a0.length, .int .i64 a1, .bool a2]⟩, some ⟨true, .ints .u8 a0⟩] (one (.str o.1)) [some ⟨true, .cells [.sl 1 0 a0.length, .int .i64 o.2.1, .bool o.2.2]⟩, some ⟨true, .ints .u8 a0⟩] := by
  unfold impl.reader.text.f at h
  obtain ⟨x1, e1, h⟩ := bind_some h
  rcases br_cases h with ⟨c1, h⟩ | ⟨c1, h⟩
  · obtain rfl := Option.some.inj h
    exact Den.Spec.of_walk tab mixed Tryz.func47 (by kernel_rfl) [.call [] [(0, true)] (.tup [.c (.str x1.1), .c (.int .i64 x1.2.1), .c (.bool x1.2.2)]) (iF a0), bT, bT, bT, bT] [] [0, 1] (nd (impl.GetText.spec K a0 a1 _ e1) (n0 (nl a0 (nd c1 (nd c1 (nd c1 (nd tt trivial))))))) (by kernel_rfl)
  · rcases br_cases h with ⟨c2, h⟩ | ⟨c2, h⟩
    · obtain rfl := Option.some.inj h
      exact Den.Spec.of_walk tab mixed Tryz.func47 (by kernel_rfl) [.call [] [(0, true)] (.tup [.c (.str x1.1), .c (.int .i64 x1.2.1), .c (.bool x1.2.2)]) (iF a0), bF, bF, bF, bF] [] [0, 1] (nd (impl.GetText.spec K a0 a1 _ e1) (n0 (nl a0 (nd c1 (nd c1 (nd c1 (nd (nf c2) trivial))))))) (by kernel_rfl)
    · obtain rfl := Option.some.inj h
      exact Den.Spec.of_walk tab mixed Tryz.func47 (by kernel_rfl) [.call [] [(0, true)] (.tup [.c (.str x1.1), .c (.int .i64 x1.2.1), .c (.bool x1.2.2)]) (iF a0), bF, bF, bF, bT] [] [0, 1] (nd (impl.GetText.spec K a0 a1 _ e1) (n0 (nl a0 (nd c1 (nd c1 (nd c1 (nd (nt c2) trivial))))))) (by kernel_rfl)
def impl.reader.done.f (a0 : List Int) (a1 : Int) (a2 : Bool) : Option (Bool) :=
  cond (a2) (some false) (some (a1 == (a0.length : Int)))
theorem impl.reader.done.spec (a0 : List Int) (a1 : Int) (a2 : Bool) (o : Bool) (h : impl.reader.done.f a0 a1 a2 = some o) : Den.Spec Tryz.prog 48 [one (.ptr 0 0 0)] [some ⟨false, .cells [.sl 1 0 a0.length, .int .i64 a1, .bool a2]⟩, some ⟨false, .ints .u8 a0⟩] (one (.bool o)) [some ⟨false, .cells [.sl 1 0 a0.length, .int .i64 a1, .bool a2]⟩, some ⟨false, .ints .u8 a0⟩] := by
  unfold impl.reader.done.f at h
  rcases br_cases h with ⟨c1, h⟩ | ⟨c1, h⟩
  · obtain rfl := Option.some.inj h
    exact Den.Spec.of_walk tab mixed Tryz.func48 (by kernel_rfl) [bF, bF, bF, bF, bF, bF, bF, bF, bF, bF, bF] [] [0, 1] (nd (nf c1) (nd (nf c1) (nd (nf c1) (nd (nf c1) (nd (nf c1) (nd (nf c1) (nd (nf c1) (nd (nf c1) (nd (nf c1) (nd (nf c1) (nd (nf c1) trivial))))))))))) (by kernel_rfl)
  · obtain rfl := Option.some.inj h
    exact Den.Spec.of_walk tab mixed Tryz.func48 (by kernel_rfl) [bT, bT, bT, bT, bT, bT, bT, bT, bT, bT, bT] [] [0, 1] (nd (nt c1) (nd (nt c1) (nd (nt c1) (nd (nt c1) (nd (nt c1) (nd (nt c1) (nd (nt c1) (nd (nt c1) (nd (nt c1) (nd (nt c1) (nd (nt c1) trivial))))))))))) (by kernel_rfl)
def impl.isSector.f (a0 : Int) : Option (Bool) :=
  Option.bind (impl.in_.f a0 0 25) fun x1 => some x1
theorem impl.isSector.spec (a0 : Int) (o : Bool) (h : impl.isSector.f a0 = some o) : Den.Spec Tryz.prog 102 [one (.int .i64 a0)] [] (one (.bool o)) [] := by
  unfold impl.isSector.f at h
  obtain ⟨x1, e1, h⟩ := bind_some h
  obtain rfl := Option.some.inj h
  exact Den.Spec.of_walk tab mixed Tryz.func102 (by kernel_rfl) [.call [] [] (one (.bool x1)) []] [] [] (nd (impl.in_.spec a0 0 25 _ e1) trivial) (by kernel_rfl)
def impl.RecOk.f (a0 : Int) (a1 : Int) (a2 : ByteArray) : Option (Bool) :=
  Option.bind (impl.isSector.f a0) fun x1 => cond (x1) (Option.bind (impl.in_.f a1 1 1000000000) fun x2 => cond (x2) (some (decide ((a2.size : Int) ≤ 400))) (some false)) (some false)
theorem impl.RecOk.spec (a0 : Int) (a1 : Int) (a2 : ByteArray) (o : Bool) (h : impl.RecOk.f a0 a1 a2 = some o) : Den.Spec Tryz.prog 119 [.v (.agg [.int .i64 a0, .int .i64 a1, .str a2])] [] (one (.bool o)) [] := by
  unfold impl.RecOk.f at h
  obtain ⟨x1, e1, h⟩ := bind_some h
  rcases br_cases h with ⟨c1, h⟩ | ⟨c1, h⟩
  · obtain ⟨x2, e2, h⟩ := bind_some h
    rcases br_cases h with ⟨c2, h⟩ | ⟨c2, h⟩
    · obtain rfl := Option.some.inj h
      exact Den.Spec.of_walk tab mixed Tryz.func119 (by kernel_rfl) [.call [] [] (one (.bool x1)) [], bT, bT, bT, .call [] [] (one (.bool x2)) [], bT, bT, bT, bT, bT, bT] [] [] (nd (impl.isSector.spec a0 _ e1) (nd c1 (nd c1 (nd c1 (nd (impl.in_.spec a1 1 1000000000 _ e2) (nd c1 (nd c2 (nd c2 (nd c2 (nd c2 (nd c2 trivial))))))))))) (by kernel_rfl)
    · obtain rfl := Option.some.inj h
      exact Den.Spec.of_walk tab mixed Tryz.func119 (by kernel_rfl) [.call [] [] (one (.bool x1)) [], bT, bT, bT, .call [] [] (one (.bool x2)) [], bT, bF, bF, bF, bF, bF] [] [] (nd (impl.isSector.spec a0 _ e1) (nd c1 (nd c1 (nd c1 (nd (impl.in_.spec a1 1 1000000000 _ e2) (nd c1 (nd c2 (nd c2 (nd c2 (nd c2 (nd c2 trivial))))))))))) (by kernel_rfl)
  · obtain rfl := Option.some.inj h
    exact Den.Spec.of_walk tab mixed Tryz.func119 (by kernel_rfl) [.call [] [] (one (.bool x1)) [], bF, bF, bF, bF, bF, bF, bF, bF, bF] [] [] (nd (impl.isSector.spec a0 _ e1) (nd c1 (nd c1 (nd c1 (nd c1 (nd ff (nd ff (nd ff (nd ff (nd ff trivial)))))))))) (by kernel_rfl)
def impl.RecRead.f (K : Nat) (a0 : ByteArray) : Option (Int × Int × ByteArray × Bool) :=
  Option.bind (impl.unsummed.f K a0) fun x1 => Option.bind (impl.reader.number.f K (bytesL a0) x1.1 x1.2) fun x2 => Option.bind (impl.reader.number.f K (bytesL a0) x2.2.1 x2.2.2) fun x3 => Option.bind (impl.reader.text.f K (bytesL a0) x3.2.1 x3.2.2) fun x4 => Option.bind (impl.reader.done.f (bytesL a0) x4.2.1 x4.2.2) fun x5 => cond (x5) (Option.bind (impl.RecOk.f x2.1 x3.1 x4.1) fun x6 => cond (x6) (some (x2.1, x3.1, x4.1, true)) (some (0, 0, noVal, false))) (some (0, 0, noVal, false))
theorem impl.RecRead.spec (K : Nat) (a0 : ByteArray) (o : Int × Int × ByteArray × Bool) (h : impl.RecRead.f K a0 = some o) : Den.Spec Tryz.prog 95 [one (.str a0)] [] (.tup [.agg [.int .i64 o.1, .int .i64 o.2.1, .str o.2.2.1], .c (.bool o.2.2.2)]) [] := by
  unfold impl.RecRead.f at h
  obtain ⟨x1, e1, h⟩ := bind_some h
  obtain ⟨x2, e2, h⟩ := bind_some h
  obtain ⟨x3, e3, h⟩ := bind_some h
  obtain ⟨x4, e4, h⟩ := bind_some h
  obtain ⟨x5, e5, h⟩ := bind_some h
  rcases br_cases h with ⟨c1, h⟩ | ⟨c1, h⟩
  · obtain ⟨x6, e6, h⟩ := bind_some h
    rcases br_cases h with ⟨c2, h⟩ | ⟨c2, h⟩
    · obtain rfl := Option.some.inj h
      exact Den.Spec.of_walk tab mixed Tryz.func95 (by kernel_rfl) [.call [] [] (one (.ptr 0 0 0)) [some ⟨true, .cells [.sl 1 0 ((bytesL a0).length), .int .i64 x1.1, .bool x1.2]⟩, some ⟨true, .ints .u8 (bytesL a0)⟩], .call [(1, true), (2, true)] [] (one (.int .i64 x2.1)) [some ⟨true, .cells [.sl 1 0 ((bytesL a0).length), .int .i64 x2.2.1, .bool x2.2.2]⟩, some ⟨true, .ints .u8 (bytesL a0)⟩], .call [(1, true), (2, true)] [] (one (.int .i64 x3.1)) [some ⟨true, .cells [.sl 1 0 ((bytesL a0).length), .int .i64 x3.2.1, .bool x3.2.2]⟩, some ⟨true, .ints .u8 (bytesL a0)⟩], .call [(1, true), (2, true)] [] (one (.str x4.1)) [some ⟨true, .cells [.sl 1 0 ((bytesL a0).length), .int .i64 x4.2.1, .bool x4.2.2]⟩, some ⟨true, .ints .u8 (bytesL a0)⟩], .call [(1, false), (2, false)] [] (one (.bool x5)) [some ⟨false, .cells [.sl 1 0 ((bytesL a0).length), .int .i64 x4.2.1, .bool x4.2.2]⟩, some ⟨false, .ints .u8 (bytesL a0)⟩], bF, bF, .call [] [] (one (.bool x6)) [], bF, bF, bF] [] [] (nd (impl.unsummed.spec K a0 _ e1) (nd (impl.reader.number.spec K (bytesL a0) x1.1 x1.2 _ e2) (nd (impl.reader.number.spec K (bytesL a0) x2.2.1 x2.2.2 _ e3) (nd (impl.reader.text.spec K (bytesL a0) x3.2.1 x3.2.2 _ e4) (nd (impl.reader.done.spec (bytesL a0) x4.2.1 x4.2.2 _ e5) (nd (nf c1) (nd (nf c1) (nd (impl.RecOk.spec x2.1 x3.1 x4.1 _ e6) (nd (nf c1) (nd (nf c1) (nd (nf c2) trivial))))))))))) (by kernel_rfl)
    · obtain rfl := Option.some.inj h
      exact Den.Spec.of_walk tab mixed Tryz.func95 (by kernel_rfl) [.call [] [] (one (.ptr 0 0 0)) [some ⟨true, .cells [.sl 1 0 ((bytesL a0).length), .int .i64 x1.1, .bool x1.2]⟩, some ⟨true, .ints .u8 (bytesL a0)⟩], .call [(1, true), (2, true)] [] (one (.int .i64 x2.1)) [some ⟨true, .cells [.sl 1 0 ((bytesL a0).length), .int .i64 x2.2.1, .bool x2.2.2]⟩, some ⟨true, .ints .u8 (bytesL a0)⟩], .call [(1, true), (2, true)] [] (one (.int .i64 x3.1)) [some ⟨true, .cells [.sl 1 0 ((bytesL a0).length), .int .i64 x3.2.1, .bool x3.2.2]⟩, some ⟨true, .ints .u8 (bytesL a0)⟩], .call [(1, true), (2, true)] [] (one (.str x4.1)) [some ⟨true, .cells [.sl 1 0 ((bytesL a0).length), .int .i64 x4.2.1, .bool x4.2.2]⟩, some ⟨true, .ints .u8 (bytesL a0)⟩], .call [(1, false), (2, false)] [] (one (.bool x5)) [some ⟨false, .cells [.sl 1 0 ((bytesL a0).length), .int .i64 x4.2.1, .bool x4.2.2]⟩, some ⟨false, .ints .u8 (bytesL a0)⟩], bF, bF, .call [] [] (one (.bool x6)) [], bF, bF, bT] [] [] (nd (impl.unsummed.spec K a0 _ e1) (nd (impl.reader.number.spec K (bytesL a0) x1.1 x1.2 _ e2) (nd (impl.reader.number.spec K (bytesL a0) x2.2.1 x2.2.2 _ e3) (nd (impl.reader.text.spec K (bytesL a0) x3.2.1 x3.2.2 _ e4) (nd (impl.reader.done.spec (bytesL a0) x4.2.1 x4.2.2 _ e5) (nd (nf c1) (nd (nf c1) (nd (impl.RecOk.spec x2.1 x3.1 x4.1 _ e6) (nd (nf c1) (nd (nf c1) (nd (nt c2) trivial))))))))))) (by kernel_rfl)
  · obtain rfl := Option.some.inj h
    exact Den.Spec.of_walk tab mixed Tryz.func95 (by kernel_rfl) [.call [] [] (one (.ptr 0 0 0)) [some ⟨true, .cells [.sl 1 0 ((bytesL a0).length), .int .i64 x1.1, .bool x1.2]⟩, some ⟨true, .ints .u8 (bytesL a0)⟩], .call [(1, true), (2, true)] [] (one (.int .i64 x2.1)) [some ⟨true, .cells [.sl 1 0 ((bytesL a0).length), .int .i64 x2.2.1, .bool x2.2.2]⟩, some ⟨true, .ints .u8 (bytesL a0)⟩], .call [(1, true), (2, true)] [] (one (.int .i64 x3.1)) [some ⟨true, .cells [.sl 1 0 ((bytesL a0).length), .int .i64 x3.2.1, .bool x3.2.2]⟩, some ⟨true, .ints .u8 (bytesL a0)⟩], .call [(1, true), (2, true)] [] (one (.str x4.1)) [some ⟨true, .cells [.sl 1 0 ((bytesL a0).length), .int .i64 x4.2.1, .bool x4.2.2]⟩, some ⟨true, .ints .u8 (bytesL a0)⟩], .call [(1, false), (2, false)] [] (one (.bool x5)) [some ⟨false, .cells [.sl 1 0 ((bytesL a0).length), .int .i64 x4.2.1, .bool x4.2.2]⟩, some ⟨false, .ints .u8 (bytesL a0)⟩], bT, bT, bT, bT, bT] [] [] (nd (impl.unsummed.spec K a0 _ e1) (nd (impl.reader.number.spec K (bytesL a0) x1.1 x1.2 _ e2) (nd (impl.reader.number.spec K (bytesL a0) x2.2.1 x2.2.2 _ e3) (nd (impl.reader.text.spec K (bytesL a0) x3.2.1 x3.2.2 _ e4) (nd (impl.reader.done.spec (bytesL a0) x4.2.1 x4.2.2 _ e5) (nd (nt c1) (nd (nt c1) (nd (nt c1) (nd (nt c1) (nd tt trivial)))))))))) (by kernel_rfl)
def impl.mount.l0.f (K : Nat) (a0 : List ByteArray) (a1 : List Int) : Nat → (List ByteArray) → (List Int) → (List Int) → Int → (List Int) → Int → Option ((List ByteArray) × (List Int) × (List Int) × Int)
  | 0, _, _, _, _, _, _ => none
  | k + 1, v145_0, v145_1, v145_2, v145_3, v145_4, v145_5 =>
    cond (decide (v145_5 < (a0.length : Int))) (ck (0 ≤ v145_5) (cond (strEq (a0.getD v145_5.toNat noVal) noVal) (impl.mount.l0.f K a0 a1 k v145_0 v145_1 v145_2 v145_3 v145_4 (w64 (v145_5 + 1))) (Option.bind (impl.RecRead.f K (a0.getD v145_5.toNat noVal)) fun x1 => cond (x1.2.2.2) (ck (0 ≤ x1.1) (ck (x1.1 < (v145_4.length : Int)) (cond (decide (x1.2.1 > (v145_4.getD x1.1.toNat 0))) (ck (x1.1 < (v145_2.length : Int)) (impl.mount.l0.f K a0 a1 k v145_0 v145_1 (v145_2.set x1.1.toNat v145_5) (minI 1000000000 (maxI v145_3 (w64 (x1.2.1 + 1)))) (v145_4.set x1.1.toNat x1.2.1) (w64 (v145_5 + 1)))) (impl.mount.l0.f K a0 a1 k v145_0 v145_1 v145_2 (minI 1000000000 (maxI v145_3 (w64 (x1.2.1 + 1)))) v145_4 (w64 (v145_5 + 1)))))) (impl.mount.l0.f K a0 a1 k v145_0 v145_1 v145_2 v145_3 v145_4 (w64 (v145_5 + 1)))))) (some (v145_0, v145_1, v145_2, v145_3))
def impl.mount.l0.s (K : Nat) (a0 : List ByteArray) (a1 : List Int) (v145_0 : List ByteArray) (v145_1 : List Int) (v145_2 : List Int) (v145_3 : Int) (v145_4 : List Int) (v145_5 : Int) : St := mkSt 62 [(2, one (.ptr 2 0 0)), (3, one (.ptr 6 0 0)), (4, one (.sl 10 0 v145_4.length)), (16, one (.sl 0 0 a0.length)), (17, one (.int .i64 (a0.length : Int))), (18, one (.int .i64 v145_5))] [some ⟨false, .strs a0⟩, some ⟨false, .ints .i64 a1⟩, some ⟨true, .cells [.sl 3 0 0, .sl 4 0 0, .sl 5 0 0, .int .i64 0]⟩, some ⟨true, .strs []⟩, some ⟨true, .ints .i64 []⟩, some ⟨true, .ints .i64 []⟩, some ⟨true, .cells [.sl 7 0 v145_0.length, .sl 8 0 v145_1.length, .sl 9 0 v145_2.length, .int .i64 v145_3]⟩, some ⟨true, .strs v145_0⟩, some ⟨true, .ints .i64 v145_1⟩, some ⟨true, .ints .i64 v145_2⟩, some ⟨true, .ints .i64 v145_4⟩]
def impl.mount.l0.e0 (K : Nat) (a0 : List ByteArray) (a1 : List Int) (o : (List ByteArray) × (List Int) × (List Int) × Int) : St := mkSt 62 [(2, one (.ptr 2 0 0)), (3, one (.ptr 6 0 0))] [some ⟨false, .strs a0⟩, some ⟨false, .ints .i64 a1⟩, some ⟨true, .cells [.sl 3 0 0, .sl 4 0 0, .sl 5 0 0, .int .i64 0]⟩, some ⟨true, .strs []⟩, some ⟨true, .ints .i64 []⟩, some ⟨true, .ints .i64 []⟩, some ⟨true, .cells [.sl 7 0 o.1.length, .sl 8 0 o.2.1.length, .sl 9 0 o.2.2.1.length, .int .i64 o.2.2.2]⟩, some ⟨true, .strs o.1⟩, some ⟨true, .ints .i64 o.2.1⟩, some ⟨true, .ints .i64 o.2.2.1⟩]
def impl.mount.l0.x (K : Nat) (a0 : List ByteArray) (a1 : List Int) : ((List ByteArray) × (List Int) × (List Int) × Int) → AExit × St := fun o => (.exit 0, impl.mount.l0.e0 K a0 a1 o)
theorem impl.mount.l0.spec (K : Nat) (a0 : List ByteArray) (a1 : List Int) : ∀ (k : Nat) (v145_0 : List ByteArray) (v145_1 : List Int) (v145_2 : List Int) (v145_3 : Int) (v145_4 : List Int) (v145_5 : Int) (o : (List ByteArray) × (List Int) × (List Int) × Int), impl.mount.l0.f K a0 a1 k v145_0 v145_1 v145_2 v145_3 v145_4 v145_5 = some o → LoopSpec Tryz.prog 2 (loopN Tryz.f61 0) (impl.mount.l0.s K a0 a1 v145_0 v145_1 v145_2 v145_3 v145_4 v145_5) (impl.mount.l0.x K a0 a1 o).1 (impl.mount.l0.x K a0 a1 o).2
  | 0, _, _, _, _, _, _, _, h => by cases h
  | k + 1, v145_0, v145_1, v145_2, v145_3, v145_4, v145_5, o, h => by
    unfold impl.mount.l0.f at h
    rcases br_cases h with ⟨c1, h⟩ | ⟨c1, h⟩
    · obtain ⟨p1, h⟩ := ck_some h
      rcases br_cases h with ⟨c2, h⟩ | ⟨c2, h⟩
      · exact .of_step tab mixed [bT, bT] [] [2, 3, 4, 16, 17, 18] [0, 1, 2, 3, 4, 5, 6, 7, 8, 9, 10] (s1 := impl.mount.l0.s K a0 a1 v145_0 v145_1 v145_2 v145_3 v145_4 (w64 (v145_5 + 1))) (nd c1 (nd p1 (nd (of_decide_eq_true c1) (nd (tn p1 (of_decide_eq_true c1)) (nd c2 trivial))))) (by kernel_rfl) (impl.mount.l0.spec K a0 a1 k v145_0 v145_1 v145_2 v145_3 v145_4 (w64 (v145_5 + 1)) _ h)
      · obtain ⟨x1, e1, h⟩ := bind_some h
        rcases br_cases h with ⟨c3, h⟩ | ⟨c3, h⟩
        · obtain ⟨p2, h⟩ := ck_some h
          obtain ⟨p3, h⟩ := ck_some h
          rcases br_cases h with ⟨c4, h⟩ | ⟨c4, h⟩
          · obtain ⟨p4, h⟩ := ck_some h
            exact .of_step tab mixed [bT, bF, .call [] [] (.tup [.agg [.int .i64 x1.1, .int .i64 x1.2.1, .str x1.2.2.1], .c (.bool x1.2.2.2)]) [], bF, bT] [] [2, 3, 4, 16, 17, 18] [0, 1, 2, 3, 4, 5, 6, 7, 8, 9, 10] (s1 := mkSt 62 [(2, one (.ptr 2 0 0)), (3, one (.ptr 6 0 0)), (4, one (.sl 10 0 v145_4.length)), (16, one (.sl 0 0 a0.length)), (17, one (.int .i64 (a0.length : Int))), (18, one (.int .i64 (w64 (v145_5 + 1))))] [some ⟨false, .strs a0⟩, some ⟨false, .ints .i64 a1⟩, some ⟨true, .cells [.sl 3 0 0, .sl 4 0 0, .sl 5 0 0, .int .i64 0]⟩, some ⟨true, .strs []⟩, some ⟨true, .ints .i64 []⟩, some ⟨true, .ints .i64 []⟩, some ⟨true, .cells [.sl 7 0 v145_0.length, .sl 8 0 v145_1.length, .sl 9 0 v145_2.length, .int .i64 (minI 1000000000 (maxI v145_3 (w64 (x1.2.1 + 1))))]⟩, some ⟨true, .strs v145_0⟩, some ⟨true, .ints .i64 v145_1⟩, some ⟨true, .ints .i64 (v145_2.set x1.1.toNat v145_5)⟩, some ⟨true, .ints .i64 (v145_4.set x1.1.toNat x1.2.1)⟩]) (nd c1 (nd p1 (nd (of_decide_eq_true c1) (nd (tn p1 (of_decide_eq_true c1)) (nd c2 (nd (impl.RecRead.spec K (a0.getD v145_5.toNat noVal) _ e1) (nd (nf c3) (nd p2 (nd p3 (nd (tn p2 p3) (nd c4 (nd p2 (nd p3 (nd (tn p2 p3) (nd p2 (nd p4 (nd (tn p2 p4) trivial))))))))))))))))) (by kernel_rfl) (LoopSpec.eqs (impl.mount.l0.spec K a0 a1 k v145_0 v145_1 (v145_2.set x1.1.toNat v145_5) (minI 1000000000 (maxI v145_3 (w64 (x1.2.1 + 1)))) (v145_4.set x1.1.toNat x1.2.1) (w64 (v145_5 + 1)) _ h) (by simp only [impl.mount.l0.s, List.length_set, overL_length] : impl.mount.l0.s K a0 a1 v145_0 v145_1 (v145_2.set x1.1.toNat v145_5) (minI 1000000000 (maxI v145_3 (w64 (x1.2.1 + 1)))) (v145_4.set x1.1.toNat x1.2.1) (w64 (v145_5 + 1)) = mkSt 62 [(2, one (.ptr 2 0 0)), (3, one (.ptr 6 0 0)), (4, one (.sl 10 0 v145_4.length)), (16, one (.sl 0 0 a0.length)), (17, one (.int .i64 (a0.length : Int))), (18, one (.int .i64 (w64 (v145_5 + 1))))] [some ⟨false, .strs a0⟩, some ⟨false, .ints .i64 a1⟩, some ⟨true, .cells [.sl 3 0 0, .sl 4 0 0, .sl 5 0 0, .int .i64 0]⟩, some ⟨true, .strs []⟩, some ⟨true, .ints .i64 []⟩, some ⟨true, .ints .i64 []⟩, some ⟨true, .cells [.sl 7 0 v145_0.length, .sl 8 0 v145_1.length, .sl 9 0 v145_2.length, .int .i64 (minI 1000000000 (maxI v145_3 (w64 (x1.2.1 + 1))))]⟩, some ⟨true, .strs v145_0⟩, some ⟨true, .ints .i64 v145_1⟩, some ⟨true, .ints .i64 (v145_2.set x1.1.toNat v145_5)⟩, some ⟨true, .ints .i64 (v145_4.set x1.1.toNat x1.2.1)⟩]))
          · exact .of_step tab mixed [bT, bF, .call [] [] (.tup [.agg [.int .i64 x1.1, .int .i64 x1.2.1, .str x1.2.2.1], .c (.bool x1.2.2.2)]) [], bF, bF] [] [2, 3, 4, 16, 17, 18] [0, 1, 2, 3, 4, 5, 6, 7, 8, 9, 10] (s1 := impl.mount.l0.s K a0 a1 v145_0 v145_1 v145_2 (minI 1000000000 (maxI v145_3 (w64 (x1.2.1 + 1)))) v145_4 (w64 (v145_5 + 1))) (nd c1 (nd p1 (nd (of_decide_eq_true c1) (nd (tn p1 (of_decide_eq_true c1)) (nd c2 (nd (impl.RecRead.spec K (a0.getD v145_5.toNat noVal) _ e1) (nd (nf c3) (nd p2 (nd p3 (nd (tn p2 p3) (nd c4 trivial))))))))))) (by kernel_rfl) (impl.mount.l0.spec K a0 a1 k v145_0 v145_1 v145_2 (minI 1000000000 (maxI v145_3 (w64 (x1.2.1 + 1)))) v145_4 (w64 (v145_5 + 1)) _ h)
        · exact .of_step tab mixed [bT, bF, .call [] [] (.tup [.agg [.int .i64 x1.1, .int .i64 x1.2.1, .str x1.2.2.1], .c (.bool x1.2.2.2)]) [], bT] [] [2, 3, 4, 16, 17, 18] [0, 1, 2, 3, 4, 5, 6, 7, 8, 9, 10] (s1 := impl.mount.l0.s K a0 a1 v145_0 v145_1 v145_2 v145_3 v145_4 (w64 (v145_5 + 1))) (nd c1 (nd p1 (nd (of_decide_eq_true c1) (nd (tn p1 (of_decide_eq_true c1)) (nd c2 (nd (impl.RecRead.spec K (a0.getD v145_5.toNat noVal) _ e1) (nd (nt c3) trivial))))))) (by kernel_rfl) (impl.mount.l0.spec K a0 a1 k v145_0 v145_1 v145_2 v145_3 v145_4 (w64 (v145_5 + 1)) _ h)
    · obtain rfl := Option.some.inj h
      exact .of_done tab mixed [bF] [] [2, 3] [0, 1, 2, 3, 4, 5, 6, 7, 8, 9] rfl (nd c1 trivial) (by kernel_rfl)
def impl.mount.f (K : Nat) (a0 : List ByteArray) (a1 : List Int) : Option ((List ByteArray) × (List Int) × (List Int) × Int) :=
  Option.bind (impl.cloneChip.f a0 a1) fun x1 => Option.bind (slices.Repeat_int_int.f K [(-1)] 26) fun x2 => ck ((26 * (8 : Int)) ≤ 70368744177664) (Option.bind (impl.mount.l0.f K a0 a1 K x1.1 x1.2 x2 1 (List.replicate 26 (0 : Int)) 0) fun x3 => some (x3.1, x3.2.1, x3.2.2.1, x3.2.2.2))
theorem impl.mount.spec (K : Nat) (a0 : List ByteArray) (a1 : List Int) (o : (List ByteArray) × (List Int) × (List Int) × Int) (h : impl.mount.f K a0 a1 = some o) : Den.Spec Tryz.prog 61 [.v (.agg [.sl 0 0 a0.length, .sl 1 0 a1.length])] [some ⟨false, .strs a0⟩, some ⟨false, .ints .i64 a1⟩] (.v (.agg [.sl 2 0 o.1.length, .sl 3 0 o.2.1.length, .sl 4 0 o.2.2.1.length, .int .i64 o.2.2.2])) [some ⟨false, .strs a0⟩, some ⟨false, .ints .i64 a1⟩, some ⟨true, .strs o.1⟩, some ⟨true, .ints .i64 o.2.1⟩, some ⟨true, .ints .i64 o.2.2.1⟩] := by
  unfold impl.mount.f at h
  obtain ⟨x1, e1, h⟩ := bind_some h
  obtain ⟨x2, e2, h⟩ := bind_some h
  obtain ⟨p1, h⟩ := ck_some h
  obtain ⟨x3, e3, h⟩ := bind_some h
  obtain rfl := Option.some.inj h
  exact Den.Spec.of_walk tab mixed Tryz.func61 (by kernel_rfl) [.call [(0, false), (1, false)] [] (.v (.agg [.sl 2 0 x1.1.length, .sl 3 0 x1.2.length])) [some ⟨false, .strs a0⟩, some ⟨false, .ints .i64 a1⟩, some ⟨true, .strs x1.1⟩, some ⟨true, .ints .i64 x1.2⟩], .call [] [(0, true)] (one (.sl 1 0 x2.length)) [some ⟨false, .ints .i64 [(-1)]⟩, some ⟨true, .ints .i64 x2⟩], .loop [] [2, 3, 4, 16, 17, 18] [0, 1, 3, 4, 5, 6, 11, 7, 8, 10, 15] (.exit 0) (impl.mount.l0.e0 K a0 a1 x3)] [] [0, 1, 7, 8, 9] (nd (impl.cloneChip.spec a0 a1 _ e1) (nd (slices.Repeat_int_int.spec K [(-1)] 26 _ e2) (n0 (nn 1 (nd (by decide : (0 : Int) ≤ 26) (nd (rfl : (26 : Int) = (26 : Int)) (nd p1 (nd (impl.mount.l0.spec K a0 a1 K x1.1 x1.2 x2 1 (List.replicate 26 (0 : Int)) 0 _ e3) trivial)))))))) (by kernel_rfl)
def slices.Equal_int_int.l0.f (a0 : List Int) (a1 : List Int) : Nat → Int → Option (Unit ⊕ Unit)
  | 0, _ => none
  | k + 1, v148_0 =>
    cond (decide (v148_0 < (a0.length : Int))) (ck (0 ≤ v148_0) (ck (v148_0 < (a1.length : Int)) (cond ((a0.getD v148_0.toNat 0) != (a1.getD v148_0.toNat 0)) (some (.inl ())) (slices.Equal_int_int.l0.f a0 a1 k (w64 (v148_0 + 1)))))) (some (.inr (())))
def slices.Equal_int_int.l0.s (a0 : List Int) (a1 : List Int) (v148_0 : Int) : St := mkSt 26 [(0, one (.sl 0 0 a0.length)), (1, one (.sl 1 0 a1.length)), (12, one (.int .i64 (a0.length : Int))), (13, one (.int .i64 v148_0))] [some ⟨false, .ints .i64 a0⟩, some ⟨false, .ints .i64 a1⟩]
def slices.Equal_int_int.l0.e0 (a0 : List Int) (a1 : List Int) (o : Unit) : St := mkSt 26 [(4, one (.bool false))] [some ⟨false, .ints .i64 a0⟩, some ⟨false, .ints .i64 a1⟩]
def slices.Equal_int_int.l0.e1 (a0 : List Int) (a1 : List Int) (o : Unit) : St := mkSt 26 [] [some ⟨false, .ints .i64 a0⟩, some ⟨false, .ints .i64 a1⟩]
def slices.Equal_int_int.l0.x (a0 : List Int) (a1 : List Int) : (Unit ⊕ Unit) → AExit × St := Sum.elim (fun o => (.ret, slices.Equal_int_int.l0.e0 a0 a1 o)) (fun o => (.exit 0, slices.Equal_int_int.l0.e1 a0 a1 o))
theorem slices.Equal_int_int.l0.spec (a0 : List Int) (a1 : List Int) : ∀ (k : Nat) (v148_0 : Int) (o : Unit ⊕ Unit), slices.Equal_int_int.l0.f a0 a1 k v148_0 = some o → LoopSpec Tryz.prog 2 (loopN Tryz.f71 0) (slices.Equal_int_int.l0.s a0 a1 v148_0) (slices.Equal_int_int.l0.x a0 a1 o).1 (slices.Equal_int_int.l0.x a0 a1 o).2
  | 0, _, _, h => by cases h
  | k + 1, v148_0, o, h => by
    unfold slices.Equal_int_int.l0.f at h
    rcases br_cases h with ⟨c1, h⟩ | ⟨c1, h⟩
    · obtain ⟨p1, h⟩ := ck_some h
      obtain ⟨p2, h⟩ := ck_some h
      rcases br_cases h with ⟨c2, h⟩ | ⟨c2, h⟩
      · obtain rfl := Option.some.inj h
        exact .of_done tab mixed [bT, bT] [] [4] [0, 1] rfl (nd c1 (nd p1 (nd (of_decide_eq_true c1) (nd (tn p1 (of_decide_eq_true c1)) (nd p1 (nd p2 (nd (tn p1 p2) (nd c2 trivial)))))))) (by kernel_rfl)
      · exact .of_step tab mixed [bT, bF] [] [0, 1, 12, 13] [0, 1] (s1 := slices.Equal_int_int.l0.s a0 a1 (w64 (v148_0 + 1))) (nd c1 (nd p1 (nd (of_decide_eq_true c1) (nd (tn p1 (of_decide_eq_true c1)) (nd p1 (nd p2 (nd (tn p1 p2) (nd c2 trivial)))))))) (by kernel_rfl) (slices.Equal_int_int.l0.spec a0 a1 k (w64 (v148_0 + 1)) _ h)
    · obtain rfl := Option.some.inj h
      exact .of_done tab mixed [bF] [] [] [0, 1] rfl (nd c1 trivial) (by kernel_rfl)
def slices.Equal_int_int.f (K : Nat) (a0 : List Int) (a1 : List Int) : Option (Bool) :=
  cond ((a0.length : Int) != (a1.length : Int)) (some false) (Option.bind (slices.Equal_int_int.l0.f a0 a1 K 0) fun x1 => (Sum.elim (fun x1 => some false) (fun x1 => some true)) x1)
theorem slices.Equal_int_int.spec (K : Nat) (a0 : List Int) (a1 : List Int) (o : Bool) (h : slices.Equal_int_int.f K a0 a1 = some o) : Den.Spec Tryz.prog 71 [one (.sl 0 0 a0.length), one (.sl 1 0 a1.length)] [some ⟨false, .ints .i64 a0⟩, some ⟨false, .ints .i64 a1⟩] (one (.bool o)) [some ⟨false, .ints .i64 a0⟩, some ⟨false, .ints .i64 a1⟩] := by
  unfold slices.Equal_int_int.f at h
  rcases br_cases h with ⟨c1, h⟩ | ⟨c1, h⟩
  · obtain rfl := Option.some.inj h
    exact Den.Spec.of_walk tab mixed Tryz.func71 (by kernel_rfl) [bT] [] [0, 1] (nd c1 trivial) (by kernel_rfl)
  · obtain ⟨x1, e1, h⟩ := bind_some h
    rcases x1 with x1 | x1
    · obtain rfl := Option.some.inj h
      exact Den.Spec.of_walk tab mixed Tryz.func71 (by kernel_rfl) [bF, .loop [] [0, 1, 12, 13] [0, 1] (.ret) (slices.Equal_int_int.l0.e0 a0 a1 x1)] [] [0, 1] (nd c1 (nd (slices.Equal_int_int.l0.spec a0 a1 K 0 _ e1) trivial)) (by kernel_rfl)
    · obtain rfl := Option.some.inj h
      exact Den.Spec.of_walk tab mixed Tryz.func71 (by kernel_rfl) [bF, .loop [] [0, 1, 12, 13] [0, 1] (.exit 0) (slices.Equal_int_int.l0.e1 a0 a1 x1)] [] [0, 1] (nd c1 (nd (slices.Equal_int_int.l0.spec a0 a1 K 0 _ e1) trivial)) (by kernel_rfl)
def impl.FtlOk.f (K : Nat) (a0 : List ByteArray) (a1 : List Int) (a2 : List Int) (a3 : Int) : Option (Bool) :=
  Option.bind (impl.ChipOk.f K a0 a1) fun x1 => cond (x1) (Option.bind (impl.mount.f K a0 a1) fun x2 => Option.bind (slices.Equal_int_int.f K a2 x2.2.2.1) fun x3 => cond (x3) (some (a3 == x2.2.2.2)) (some false)) (some false)
theorem impl.FtlOk.spec (K : Nat) (a0 : List ByteArray) (a1 : List Int) (a2 : List Int) (a3 : Int) (o : Bool) (h : impl.FtlOk.f K a0 a1 a2 a3 = some o) : Den.Spec Tryz.prog 28 [.v (.agg [.sl 0 0 a0.length, .sl 1 0 a1.length, .sl 2 0 a2.length, .int .i64 a3])] [some ⟨false, .strs a0⟩, some ⟨false, .ints .i64 a1⟩, some ⟨false, .ints .i64 a2⟩] (one (.bool o)) [some ⟨false, .strs a0⟩, some ⟨false, .ints .i64 a1⟩, some ⟨false, .ints .i64 a2⟩] := by
  unfold impl.FtlOk.f at h
  obtain ⟨x1, e1, h⟩ := bind_some h
  rcases br_cases h with ⟨c1, h⟩ | ⟨c1, h⟩
  · obtain ⟨x2, e2, h⟩ := bind_some h
    obtain ⟨x3, e3, h⟩ := bind_some h
    rcases br_cases h with ⟨c2, h⟩ | ⟨c2, h⟩
    · obtain rfl := Option.some.inj h
      exact Den.Spec.of_walk tab mixed Tryz.func28 (by kernel_rfl) [.call [(0, false), (1, false)] [] (one (.bool x1)) [some ⟨false, .strs a0⟩, some ⟨false, .ints .i64 a1⟩], bF, .call [(0, false), (1, false)] [] (.v (.agg [.sl 2 0 x2.1.length, .sl 3 0 x2.2.1.length, .sl 4 0 x2.2.2.1.length, .int .i64 x2.2.2.2])) [some ⟨false, .strs a0⟩, some ⟨false, .ints .i64 a1⟩, some ⟨true, .strs x2.1⟩, some ⟨true, .ints .i64 x2.2.1⟩, some ⟨true, .ints .i64 x2.2.2.1⟩], .call [] [(0, true), (1, true)] (one (.bool x3)) [some ⟨false, .ints .i64 a2⟩, some ⟨false, .ints .i64 x2.2.2.1⟩], bT, bT, bT, bT, bT, bT] [] [0, 1, 2] (nd (impl.ChipOk.spec K a0 a1 _ e1) (nd (nf c1) (nd (impl.mount.spec K a0 a1 _ e2) (nd (slices.Equal_int_int.spec K a2 x2.2.2.1 _ e3) (n0 (nl a2 (n0 (nl x2.2.2.1 (nd c2 (nd c2 (nd c2 (nd c2 (nd c2 (nd c2 trivial)))))))))))))) (by kernel_rfl)
    · obtain rfl := Option.some.inj h
      exact Den.Spec.of_walk tab mixed Tryz.func28 (by kernel_rfl) [.call [(0, false), (1, false)] [] (one (.bool x1)) [some ⟨false, .strs a0⟩, some ⟨false, .ints .i64 a1⟩], bF, .call [(0, false), (1, false)] [] (.v (.agg [.sl 2 0 x2.1.length, .sl 3 0 x2.2.1.length, .sl 4 0 x2.2.2.1.length, .int .i64 x2.2.2.2])) [some ⟨false, .strs a0⟩, some ⟨false, .ints .i64 a1⟩, some ⟨true, .strs x2.1⟩, some ⟨true, .ints .i64 x2.2.1⟩, some ⟨true, .ints .i64 x2.2.2.1⟩], .call [] [(0, true), (1, true)] (one (.bool x3)) [some ⟨false, .ints .i64 a2⟩, some ⟨false, .ints .i64 x2.2.2.1⟩], bF, bF, bF, bF, bF, bF] [] [0, 1, 2] (nd (impl.ChipOk.spec K a0 a1 _ e1) (nd (nf c1) (nd (impl.mount.spec K a0 a1 _ e2) (nd (slices.Equal_int_int.spec K a2 x2.2.2.1 _ e3) (n0 (nl a2 (n0 (nl x2.2.2.1 (nd c2 (nd c2 (nd c2 (nd c2 (nd c2 (nd c2 trivial)))))))))))))) (by kernel_rfl)
  · obtain rfl := Option.some.inj h
    exact Den.Spec.of_walk tab mixed Tryz.func28 (by kernel_rfl) [.call [(0, false), (1, false)] [] (one (.bool x1)) [some ⟨false, .strs a0⟩, some ⟨false, .ints .i64 a1⟩], bT] [] [0, 1, 2] (nd (impl.ChipOk.spec K a0 a1 _ e1) (nd (nt c1) trivial)) (by kernel_rfl)
def impl.cloneFtl.f (a0 : List ByteArray) (a1 : List Int) (a2 : List Int) (a3 : Int) : Option ((List ByteArray) × (List Int) × (List Int)) :=
  Option.bind (impl.cloneChip.f a0 a1) fun x1 => Option.bind (slices.Clone_int_int.f a2) fun x2 => some (x1.1, x1.2, x2)
theorem impl.cloneFtl.spec (a0 : List ByteArray) (a1 : List Int) (a2 : List Int) (a3 : Int) (o : (List ByteArray) × (List Int) × (List Int)) (h : impl.cloneFtl.f a0 a1 a2 a3 = some o) : Den.Spec Tryz.prog 67 [.v (.agg [.sl 0 0 a0.length, .sl 1 0 a1.length, .sl 2 0 a2.length, .int .i64 a3])] [some ⟨false, .strs a0⟩, some ⟨false, .ints .i64 a1⟩, some ⟨false, .ints .i64 a2⟩] (.v (.agg [.sl 3 0 o.1.length, .sl 4 0 o.2.1.length, .sl 5 0 o.2.2.length, .int .i64 a3])) [some ⟨false, .strs a0⟩, some ⟨false, .ints .i64 a1⟩, some ⟨false, .ints .i64 a2⟩, some ⟨true, .strs o.1⟩, some ⟨true, .ints .i64 o.2.1⟩, some ⟨true, .ints .i64 o.2.2⟩] := by
  unfold impl.cloneFtl.f at h
  obtain ⟨x1, e1, h⟩ := bind_some h
  obtain ⟨x2, e2, h⟩ := bind_some h
  obtain rfl := Option.some.inj h
  exact Den.Spec.of_walk tab mixed Tryz.func67 (by kernel_rfl) [.call [(0, false), (1, false)] [] (.v (.agg [.sl 2 0 x1.1.length, .sl 3 0 x1.2.length])) [some ⟨false, .strs a0⟩, some ⟨false, .ints .i64 a1⟩, some ⟨true, .strs x1.1⟩, some ⟨true, .ints .i64 x1.2⟩], .call [] [(0, true)] (one (.sl 1 0 x2.length)) [some ⟨false, .ints .i64 a2⟩, some ⟨true, .ints .i64 x2⟩]] [] [0, 1, 2, 24, 25, 48] (nd (impl.cloneChip.spec a0 a1 _ e1) (nd (slices.Clone_int_int.spec a2 _ e2) (n0 (nl a2 trivial)))) (by kernel_rfl)
def slices.Index_string_string.l0.f (a0 : List ByteArray) (a1 : ByteArray) : Nat → Int → Option (Int ⊕ Unit)
  | 0, _ => none
  | k + 1, v156_0 =>
    cond (decide (v156_0 < (a0.length : Int))) (ck (0 ≤ v156_0) (cond (strEq a1 (a0.getD v156_0.toNat noVal)) (some (.inl v156_0)) (slices.Index_string_string.l0.f a0 a1 k (w64 (v156_0 + 1))))) (some (.inr (())))
def slices.Index_string_string.l0.s (a0 : List ByteArray) (a1 : ByteArray) (v156_0 : Int) : St := mkSt 19 [(0, one (.sl 0 0 a0.length)), (1, one (.str a1)), (7, one (.int .i64 (a0.length : Int))), (8, one (.int .i64 v156_0))] [some ⟨false, .strs a0⟩]
def slices.Index_string_string.l0.e0 (a0 : List ByteArray) (a1 : ByteArray) (o : Int) : St := mkSt 19 [(4, one (.int .i64 o))] [some ⟨false, .strs a0⟩]
def slices.Index_string_string.l0.e1 (a0 : List ByteArray) (a1 : ByteArray) (o : Unit) : St := mkSt 19 [] [some ⟨false, .strs a0⟩]
def slices.Index_string_string.l0.x (a0 : List ByteArray) (a1 : ByteArray) : (Int ⊕ Unit) → AExit × St := Sum.elim (fun o => (.ret, slices.Index_string_string.l0.e0 a0 a1 o)) (fun o => (.exit 0, slices.Index_string_string.l0.e1 a0 a1 o))
theorem slices.Index_string_string.l0.spec (a0 : List ByteArray) (a1 : ByteArray) : ∀ (k : Nat) (v156_0 : Int) (o : Int ⊕ Unit), slices.Index_string_string.l0.f a0 a1 k v156_0 = some o → LoopSpec Tryz.prog 1 (loopN Tryz.f147 0) (slices.Index_string_string.l0.s a0 a1 v156_0) (slices.Index_string_string.l0.x a0 a1 o).1 (slices.Index_string_string.l0.x a0 a1 o).2
  | 0, _, _, h => by cases h
  | k + 1, v156_0, o, h => by
    unfold slices.Index_string_string.l0.f at h
    rcases br_cases h with ⟨c1, h⟩ | ⟨c1, h⟩
    · obtain ⟨p1, h⟩ := ck_some h
      rcases br_cases h with ⟨c2, h⟩ | ⟨c2, h⟩
      · obtain rfl := Option.some.inj h
        exact .of_done tab mixed [bT, bT] [] [4] [0] rfl (nd c1 (nd p1 (nd (of_decide_eq_true c1) (nd (tn p1 (of_decide_eq_true c1)) (nd c2 trivial))))) (by kernel_rfl)
      · exact .of_step tab mixed [bT, bF] [] [0, 1, 7, 8] [0] (s1 := slices.Index_string_string.l0.s a0 a1 (w64 (v156_0 + 1))) (nd c1 (nd p1 (nd (of_decide_eq_true c1) (nd (tn p1 (of_decide_eq_true c1)) (nd c2 trivial))))) (by kernel_rfl) (slices.Index_string_string.l0.spec a0 a1 k (w64 (v156_0 + 1)) _ h)
    · obtain rfl := Option.some.inj h
      exact .of_done tab mixed [bF] [] [] [0] rfl (nd c1 trivial) (by kernel_rfl)
def slices.Index_string_string.f (K : Nat) (a0 : List ByteArray) (a1 : ByteArray) : Option (Int) :=
  Option.bind (slices.Index_string_string.l0.f a0 a1 K 0) fun x1 => (Sum.elim (fun x1 => some x1) (fun x1 => some (-1))) x1
theorem slices.Index_string_string.spec (K : Nat) (a0 : List ByteArray) (a1 : ByteArray) (o : Int) (h : slices.Index_string_string.f K a0 a1 = some o) : Den.Spec Tryz.prog 147 [one (.sl 0 0 a0.length), one (.str a1)] [some ⟨false, .strs a0⟩] (one (.int .i64 o)) [some ⟨false, .strs a0⟩] := by
  unfold slices.Index_string_string.f at h
  obtain ⟨x1, e1, h⟩ := bind_some h
  rcases x1 with x1 | x1
  · obtain rfl := Option.some.inj h
    exact Den.Spec.of_walk tab mixed Tryz.func147 (by kernel_rfl) [.loop [] [0, 1, 7, 8] [0] (.ret) (slices.Index_string_string.l0.e0 a0 a1 x1)] [] [0] (nd (slices.Index_string_string.l0.spec a0 a1 K 0 _ e1) trivial) (by kernel_rfl)
  · obtain rfl := Option.some.inj h
    exact Den.Spec.of_walk tab mixed Tryz.func147 (by kernel_rfl) [.loop [] [0, 1, 7, 8] [0] (.exit 0) (slices.Index_string_string.l0.e1 a0 a1 x1)] [] [0] (nd (slices.Index_string_string.l0.spec a0 a1 K 0 _ e1) trivial) (by kernel_rfl)
def impl.firstClear_1.f (a0 : ByteArray) : Option (Unit) :=
  some ()
theorem impl.firstClear_1.spec (a0 : ByteArray) (o : Unit) (h : impl.firstClear_1.f a0 = some o) : Den.Spec Tryz.prog 148 [one (.str a0)] [] (one (.bool (!(strEq a0 noVal)))) [] := by
  unfold impl.firstClear_1.f at h
  obtain rfl := Option.some.inj h
  exact Den.Spec.of_walk tab mixed Tryz.func148 (by kernel_rfl) [] [] [] trivial (by kernel_rfl)
def slices.IndexFunc_string_string_1.l0.f (a0 : List ByteArray) : Nat → Int → Option (Int ⊕ Unit)
  | 0, _ => none
  | k + 1, v160_0 =>
    cond (decide (v160_0 < (a0.length : Int))) (ck (0 ≤ v160_0) (Option.bind (impl.firstClear_1.f (a0.getD v160_0.toNat noVal)) fun x1 => cond (strEq (a0.getD v160_0.toNat noVal) noVal) (slices.IndexFunc_string_string_1.l0.f a0 k (w64 (v160_0 + 1))) (some (.inl v160_0)))) (some (.inr (())))
def slices.IndexFunc_string_string_1.l0.s (a0 : List ByteArray) (v160_0 : Int) : St := mkSt 19 [(0, one (.sl 0 0 a0.length)), (1, one (.fn 148 [])), (7, one (.int .i64 (a0.length : Int))), (8, one (.int .i64 v160_0))] [some ⟨false, .strs a0⟩]
def slices.IndexFunc_string_string_1.l0.e0 (a0 : List ByteArray) (o : Int) : St := mkSt 19 [(4, one (.int .i64 o))] [some ⟨false, .strs a0⟩]
def slices.IndexFunc_string_string_1.l0.e1 (a0 : List ByteArray) (o : Unit) : St := mkSt 19 [] [some ⟨false, .strs a0⟩]
def slices.IndexFunc_string_string_1.l0.x (a0 : List ByteArray) : (Int ⊕ Unit) → AExit × St := Sum.elim (fun o => (.ret, slices.IndexFunc_string_string_1.l0.e0 a0 o)) (fun o => (.exit 0, slices.IndexFunc_string_string_1.l0.e1 a0 o))
theorem slices.IndexFunc_string_string_1.l0.spec (a0 : List ByteArray) : ∀ (k : Nat) (v160_0 : Int) (o : Int ⊕ Unit), slices.IndexFunc_string_string_1.l0.f a0 k v160_0 = some o → LoopSpec Tryz.prog 1 (loopN Tryz.f115 0) (slices.IndexFunc_string_string_1.l0.s a0 v160_0) (slices.IndexFunc_string_string_1.l0.x a0 o).1 (slices.IndexFunc_string_string_1.l0.x a0 o).2
  | 0, _, _, h => by cases h
  | k + 1, v160_0, o, h => by
    unfold slices.IndexFunc_string_string_1.l0.f at h
    rcases br_cases h with ⟨c1, h⟩ | ⟨c1, h⟩
    · obtain ⟨p1, h⟩ := ck_some h
      obtain ⟨x1, e1, h⟩ := bind_some h
      rcases br_cases h with ⟨c2, h⟩ | ⟨c2, h⟩
      · exact .of_step tab mixed [bT, .call [] [] (one (.bool (!(strEq (a0.getD v160_0.toNat noVal) noVal)))) [], bF] [] [0, 1, 7, 8] [0] (s1 := slices.IndexFunc_string_string_1.l0.s a0 (w64 (v160_0 + 1))) (nd c1 (nd p1 (nd (of_decide_eq_true c1) (nd (tn p1 (of_decide_eq_true c1)) (nd (impl.firstClear_1.spec (a0.getD v160_0.toNat noVal) _ e1) (nd (nf c2) trivial)))))) (by kernel_rfl) (slices.IndexFunc_string_string_1.l0.spec a0 k (w64 (v160_0 + 1)) _ h)
      · obtain rfl := Option.some.inj h
        exact .of_done tab mixed [bT, .call [] [] (one (.bool (!(strEq (a0.getD v160_0.toNat noVal) noVal)))) [], bT] [] [4] [0] rfl (nd c1 (nd p1 (nd (of_decide_eq_true c1) (nd (tn p1 (of_decide_eq_true c1)) (nd (impl.firstClear_1.spec (a0.getD v160_0.toNat noVal) _ e1) (nd (nt c2) trivial)))))) (by kernel_rfl)
    · obtain rfl := Option.some.inj h
      exact .of_done tab mixed [bF] [] [] [0] rfl (nd c1 trivial) (by kernel_rfl)
def slices.IndexFunc_string_string_1.f (K : Nat) (a0 : List ByteArray) : Option (Int) :=
  Option.bind (slices.IndexFunc_string_string_1.l0.f a0 K 0) fun x1 => (Sum.elim (fun x1 => some x1) (fun x1 => some (-1))) x1
theorem slices.IndexFunc_string_string_1.spec (K : Nat) (a0 : List ByteArray) (o : Int) (h : slices.IndexFunc_string_string_1.f K a0 = some o) : Den.Spec Tryz.prog 115 [one (.sl 0 0 a0.length), one (.fn 148 [])] [some ⟨false, .strs a0⟩] (one (.int .i64 o)) [some ⟨false, .strs a0⟩] := by
  unfold slices.IndexFunc_string_string_1.f at h
  obtain ⟨x1, e1, h⟩ := bind_some h
  rcases x1 with x1 | x1
  · obtain rfl := Option.some.inj h
    exact Den.Spec.of_walk tab mixed Tryz.func115 (by kernel_rfl) [.loop [] [0, 1, 7, 8] [0] (.ret) (slices.IndexFunc_string_string_1.l0.e0 a0 x1)] [] [0] (nd (slices.IndexFunc_string_string_1.l0.spec a0 K 0 _ e1) trivial) (by kernel_rfl)
  · obtain rfl := Option.some.inj h
    exact Den.Spec.of_walk tab mixed Tryz.func115 (by kernel_rfl) [.loop [] [0, 1, 7, 8] [0] (.exit 0) (slices.IndexFunc_string_string_1.l0.e1 a0 x1)] [] [0] (nd (slices.IndexFunc_string_string_1.l0.spec a0 K 0 _ e1) trivial) (by kernel_rfl)
def slices.ContainsFunc_string_string_1.f (K : Nat) (a0 : List ByteArray) : Option (Bool) :=
  Option.bind (slices.IndexFunc_string_string_1.f K a0) fun x1 => some (decide (x1 ≥ 0))
theorem slices.ContainsFunc_string_string_1.spec (K : Nat) (a0 : List ByteArray) (o : Bool) (h : slices.ContainsFunc_string_string_1.f K a0 = some o) : Den.Spec Tryz.prog 89 [one (.sl 0 0 a0.length), one (.fn 148 [])] [some ⟨false, .strs a0⟩] (one (.bool o)) [some ⟨false, .strs a0⟩] := by
  unfold slices.ContainsFunc_string_string_1.f at h
  obtain ⟨x1, e1, h⟩ := bind_some h
  obtain rfl := Option.some.inj h
  exact Den.Spec.of_walk tab mixed Tryz.func89 (by kernel_rfl) [.call [] [(0, true)] (one (.int .i64 x1)) [some ⟨false, .strs a0⟩]] [] [0] (nd (slices.IndexFunc_string_string_1.spec K a0 _ e1) (n0 (nl a0 trivial))) (by kernel_rfl)
def impl.firstClear.f (K : Nat) (a0 : List ByteArray) (a1 : List Int) (a2 : Int) : Option (Int) :=
  ck (0 ≤ (w64 (a2 * 6))) (ck ((w64 (a2 * 6)) ≤ (w64 ((w64 (a2 + 1)) * 6))) (ck ((w64 ((w64 (a2 + 1)) * 6)) ≤ (a0.length : Int)) (Option.bind (slices.Index_string_string.f K ((a0.drop ((w64 (a2 * 6)).toNat)).take ((w64 ((w64 (a2 + 1)) * 6)).toNat - (w64 (a2 * 6)).toNat)) noVal) fun x1 => ck (((w64 (a2 * 6)).toNat) + ((w64 ((w64 (a2 + 1)) * 6)).toNat - (w64 (a2 * 6)).toNat) ≤ a0.length) (cond (decide (x1 < 0)) (some (-1)) (ck (x1 ≤ (((w64 ((w64 (a2 + 1)) * 6)).toNat - (w64 (a2 * 6)).toNat : Nat) : Int)) (Option.bind (slices.ContainsFunc_string_string_1.f K ((a0.drop (addO ((w64 (a2 * 6)).toNat) x1.toNat)).take ((w64 ((w64 (a2 + 1)) * 6)).toNat - (w64 (a2 * 6)).toNat - x1.toNat))) fun x2 => ck ((addO ((w64 (a2 * 6)).toNat) x1.toNat) + ((w64 ((w64 (a2 + 1)) * 6)).toNat - (w64 (a2 * 6)).toNat - x1.toNat) ≤ a0.length) (cond (x2) (some (-1)) (some x1))))))))
theorem impl.firstClear.spec (K : Nat) (a0 : List ByteArray) (a1 : List Int) (a2 : Int) (o : Int) (h : impl.firstClear.f K a0 a1 a2 = some o) : Den.Spec Tryz.prog 139 [.v (.agg [.sl 0 0 a0.length, .sl 1 0 a1.length]), one (.int .i64 a2)] [some ⟨false, .strs a0⟩, some ⟨false, .ints .i64 a1⟩] (one (.int .i64 o)) [some ⟨false, .strs a0⟩, some ⟨false, .ints .i64 a1⟩] := by
  unfold impl.firstClear.f at h
  obtain ⟨p1, h⟩ := ck_some h
  obtain ⟨p2, h⟩ := ck_some h
  obtain ⟨p3, h⟩ := ck_some h
  obtain ⟨x1, e1, h⟩ := bind_some h
  obtain ⟨p4, h⟩ := ck_some h
  rcases br_cases h with ⟨c1, h⟩ | ⟨c1, h⟩
  · obtain rfl := Option.some.inj h
    exact Den.Spec.of_walk tab mixed Tryz.func139 (by kernel_rfl) [.call [] [(0, false)] (one (.int .i64 x1)) [some ⟨false, .strs ((a0.drop ((w64 (a2 * 6)).toNat)).take ((w64 ((w64 (a2 + 1)) * 6)).toNat - (w64 (a2 * 6)).toNat))⟩], bT, bT, bT, bT, bT, bT] [] [0, 1] (nd p1 (nd p2 (nd p3 (nd ((slices.Index_string_string.spec K ((a0.drop ((w64 (a2 * 6)).toNat)).take ((w64 ((w64 (a2 + 1)) * 6)).toNat - (w64 (a2 * 6)).toNat)) noVal _ e1).args (congrArg (fun n => ([one (.sl 0 0 n), one (.str noVal)] : List AV)) (win_len p4))) (nd c1 (nd c1 (nd c1 (nd c1 (nd c1 (nd tt trivial)))))))))) (by kernel_rfl)
  · obtain ⟨p5, h⟩ := ck_some h
    obtain ⟨x2, e2, h⟩ := bind_some h
    obtain ⟨p6, h⟩ := ck_some h
    rcases br_cases h with ⟨c2, h⟩ | ⟨c2, h⟩
    · obtain rfl := Option.some.inj h
      exact Den.Spec.of_walk tab mixed Tryz.func139 (by kernel_rfl) [.call [] [(0, false)] (one (.int .i64 x1)) [some ⟨false, .strs ((a0.drop ((w64 (a2 * 6)).toNat)).take ((w64 ((w64 (a2 + 1)) * 6)).toNat - (w64 (a2 * 6)).toNat))⟩], bF, bF, bF, bF, .call [] [(0, false)] (one (.bool x2)) [some ⟨false, .strs ((a0.drop (addO ((w64 (a2 * 6)).toNat) x1.toNat)).take ((w64 ((w64 (a2 + 1)) * 6)).toNat - (w64 (a2 * 6)).toNat - x1.toNat))⟩], bF, bT] [] [0, 1] (nd p1 (nd p2 (nd p3 (nd ((slices.Index_string_string.spec K ((a0.drop ((w64 (a2 * 6)).toNat)).take ((w64 ((w64 (a2 + 1)) * 6)).toNat - (w64 (a2 * 6)).toNat)) noVal _ e1).args (congrArg (fun n => ([one (.sl 0 0 n), one (.str noVal)] : List AV)) (win_len p4))) (nd c1 (nd c1 (nd c1 (nd (Int.not_lt.1 (of_decide_eq_false c1)) (nd p5 (nd (Int.le_refl (((w64 ((w64 (a2 + 1)) * 6)).toNat - (w64 (a2 * 6)).toNat : Nat) : Int)) (nd c1 (nd ((slices.ContainsFunc_string_string_1.spec K ((a0.drop (addO ((w64 (a2 * 6)).toNat) x1.toNat)).take ((w64 ((w64 (a2 + 1)) * 6)).toNat - (w64 (a2 * 6)).toNat - x1.toNat)) _ e2).args (congrArg (fun n => ([one (.sl 0 0 n), one (.fn 148 [])] : List AV)) (win_len p6))) (nd c1 (nd c2 trivial)))))))))))))) (by kernel_rfl)
    · obtain rfl := Option.some.inj h
      exact Den.Spec.of_walk tab mixed Tryz.func139 (by kernel_rfl) [.call [] [(0, false)] (one (.int .i64 x1)) [some ⟨false, .strs ((a0.drop ((w64 (a2 * 6)).toNat)).take ((w64 ((w64 (a2 + 1)) * 6)).toNat - (w64 (a2 * 6)).toNat))⟩], bF, bF, bF, bF, .call [] [(0, false)] (one (.bool x2)) [some ⟨false, .strs ((a0.drop (addO ((w64 (a2 * 6)).toNat) x1.toNat)).take ((w64 ((w64 (a2 + 1)) * 6)).toNat - (w64 (a2 * 6)).toNat - x1.toNat))⟩], bF, bF] [] [0, 1] (nd p1 (nd p2 (nd p3 (nd ((slices.Index_string_string.spec K ((a0.drop ((w64 (a2 * 6)).toNat)).take ((w64 ((w64 (a2 + 1)) * 6)).toNat - (w64 (a2 * 6)).toNat)) noVal _ e1).args (congrArg (fun n => ([one (.sl 0 0 n), one (.str noVal)] : List AV)) (win_len p4))) (nd c1 (nd c1 (nd c1 (nd (Int.not_lt.1 (of_decide_eq_false c1)) (nd p5 (nd (Int.le_refl (((w64 ((w64 (a2 + 1)) * 6)).toNat - (w64 (a2 * 6)).toNat : Nat) : Int)) (nd c1 (nd ((slices.ContainsFunc_string_string_1.spec K ((a0.drop (addO ((w64 (a2 * 6)).toNat) x1.toNat)).take ((w64 ((w64 (a2 + 1)) * 6)).toNat - (w64 (a2 * 6)).toNat - x1.toNat)) _ e2).args (congrArg (fun n => ([one (.sl 0 0 n), one (.fn 148 [])] : List AV)) (win_len p6))) (nd c1 (nd c2 trivial)))))))))))))) (by kernel_rfl)
def impl.isFree.f (K : Nat) (a0 : List ByteArray) (a1 : List Int) (a2 : Int) : Option (Bool) :=
  Option.bind (impl.firstClear.f K a0 a1 a2) fun x1 => some (x1 == 0)
theorem impl.isFree.spec (K : Nat) (a0 : List ByteArray) (a1 : List Int) (a2 : Int) (o : Bool) (h : impl.isFree.f K a0 a1 a2 = some o) : Den.Spec Tryz.prog 123 [.v (.agg [.sl 0 0 a0.length, .sl 1 0 a1.length]), one (.int .i64 a2)] [some ⟨false, .strs a0⟩, some ⟨false, .ints .i64 a1⟩] (one (.bool o)) [some ⟨false, .strs a0⟩, some ⟨false, .ints .i64 a1⟩] := by
  unfold impl.isFree.f at h
  obtain ⟨x1, e1, h⟩ := bind_some h
  obtain rfl := Option.some.inj h
  exact Den.Spec.of_walk tab mixed Tryz.func123 (by kernel_rfl) [.call [(0, false), (1, false)] [] (one (.int .i64 x1)) [some ⟨false, .strs a0⟩, some ⟨false, .ints .i64 a1⟩]] [] [0, 1] (nd (impl.firstClear.spec K a0 a1 a2 _ e1) trivial) (by kernel_rfl)
def impl.freeBlocks.l0.f (K : Nat) (a0 : List ByteArray) (a1 : List Int) : Nat → (List Int) → Int → Option ((List Int))
  | 0, _, _ => none
  | k + 1, v165_0, v165_1 =>
    cond (decide (v165_1 < 10)) (Option.bind (impl.isFree.f K a0 a1 v165_1) fun x1 => cond (x1) (ck ((v165_0 ++ [v165_1]).length * 8 ≤ 70368744177664) (impl.freeBlocks.l0.f K a0 a1 k (v165_0 ++ [v165_1]) (w64 (v165_1 + 1)))) (impl.freeBlocks.l0.f K a0 a1 k v165_0 (w64 (v165_1 + 1)))) (some v165_0)
def impl.freeBlocks.l0.s (K : Nat) (a0 : List ByteArray) (a1 : List Int) (v165_0 : List Int) (v165_1 : Int) : St := mkSt 18 [(1, one (.ptr 2 0 0)), (3, one (.sl 3 0 v165_0.length)), (6, one (.int .i64 v165_1))] [some ⟨false, .strs a0⟩, some ⟨false, .ints .i64 a1⟩, some ⟨true, .cells [.sl 0 0 a0.length, .sl 1 0 a1.length]⟩, some ⟨true, .ints .i64 v165_0⟩]
def impl.freeBlocks.l0.e0 (K : Nat) (a0 : List ByteArray) (a1 : List Int) (o : (List Int)) : St := mkSt 18 [(3, one (.sl 2 0 o.length))] [some ⟨false, .strs a0⟩, some ⟨false, .ints .i64 a1⟩, some ⟨true, .ints .i64 o⟩]
def impl.freeBlocks.l0.x (K : Nat) (a0 : List ByteArray) (a1 : List Int) : ((List Int)) → AExit × St := fun o => (.exit 0, impl.freeBlocks.l0.e0 K a0 a1 o)
theorem impl.freeBlocks.l0.spec (K : Nat) (a0 : List ByteArray) (a1 : List Int) : ∀ (k : Nat) (v165_0 : List Int) (v165_1 : Int) (o : (List Int)), impl.freeBlocks.l0.f K a0 a1 k v165_0 v165_1 = some o → LoopSpec Tryz.prog 2 (loopN Tryz.f120 0) (impl.freeBlocks.l0.s K a0 a1 v165_0 v165_1) (impl.freeBlocks.l0.x K a0 a1 o).1 (impl.freeBlocks.l0.x K a0 a1 o).2
  | 0, _, _, _, h => by cases h
  | k + 1, v165_0, v165_1, o, h => by
    unfold impl.freeBlocks.l0.f at h
    rcases br_cases h with ⟨c1, h⟩ | ⟨c1, h⟩
    · obtain ⟨x1, e1, h⟩ := bind_some h
      rcases br_cases h with ⟨c2, h⟩ | ⟨c2, h⟩
      · obtain ⟨p1, h⟩ := ck_some h
        exact .of_step tab mixed [bT, .call [(0, false), (1, false)] [] (one (.bool x1)) [some ⟨false, .strs a0⟩, some ⟨false, .ints .i64 a1⟩], bT, bT] [] [1, 3, 6] [0, 1, 2, 5] (s1 := impl.freeBlocks.l0.s K a0 a1 (v165_0 ++ [v165_1]) (w64 (v165_1 + 1))) (nd c1 (nd (impl.isFree.spec K a0 a1 v165_1 _ e1) (nd c2 (n0 (nl v165_0 (nd p1 (n0 (nn 1 trivial)))))))) (by kernel_rfl) (impl.freeBlocks.l0.spec K a0 a1 k (v165_0 ++ [v165_1]) (w64 (v165_1 + 1)) _ h)
      · exact .of_step tab mixed [bT, .call [(0, false), (1, false)] [] (one (.bool x1)) [some ⟨false, .strs a0⟩, some ⟨false, .ints .i64 a1⟩], bF] [] [1, 3, 6] [0, 1, 2, 3] (s1 := impl.freeBlocks.l0.s K a0 a1 v165_0 (w64 (v165_1 + 1))) (nd c1 (nd (impl.isFree.spec K a0 a1 v165_1 _ e1) (nd c2 trivial))) (by kernel_rfl) (impl.freeBlocks.l0.spec K a0 a1 k v165_0 (w64 (v165_1 + 1)) _ h)
    · obtain rfl := Option.some.inj h
      exact .of_done tab mixed [bF] [] [3] [0, 1, 3] rfl (nd c1 trivial) (by kernel_rfl)
def impl.freeBlocks.f (K : Nat) (a0 : List ByteArray) (a1 : List Int) : Option ((List Int)) :=
  Option.bind (impl.freeBlocks.l0.f K a0 a1 K [] 0) fun x1 => some x1
theorem impl.freeBlocks.spec (K : Nat) (a0 : List ByteArray) (a1 : List Int) (o : (List Int)) (h : impl.freeBlocks.f K a0 a1 = some o) : Den.Spec Tryz.prog 120 [.v (.agg [.sl 0 0 a0.length, .sl 1 0 a1.length])] [some ⟨false, .strs a0⟩, some ⟨false, .ints .i64 a1⟩] (one (.sl 2 0 o.length)) [some ⟨false, .strs a0⟩, some ⟨false, .ints .i64 a1⟩, some ⟨true, .ints .i64 o⟩] := by
  unfold impl.freeBlocks.f at h
  obtain ⟨x1, e1, h⟩ := bind_some h
  obtain rfl := Option.some.inj h
  exact Den.Spec.of_walk tab mixed Tryz.func120 (by kernel_rfl) [.loop [] [1, 3, 6] [0, 1, 2, 3] (.exit 0) (impl.freeBlocks.l0.e0 K a0 a1 x1)] [] [0, 1, 2] (nd (impl.freeBlocks.l0.spec K a0 a1 K [] 0 _ e1) trivial) (by kernel_rfl)
def impl.nextPage.l0.f (K : Nat) (a0 : List ByteArray) (a1 : List Int) (a2 : Int) : Nat → Int → Option (Int ⊕ Unit)
  | 0, _ => none
  | k + 1, v169_0 =>
    cond (decide (v169_0 < 10)) (Option.bind (impl.firstClear.f K a0 a1 v169_0) fun x1 => cond (decide (x1 > 0)) (cond (v169_0 != a2) (some (.inl (w64 ((w64 (v169_0 * 6)) + x1)))) (impl.nextPage.l0.f K a0 a1 a2 k (w64 (v169_0 + 1)))) (impl.nextPage.l0.f K a0 a1 a2 k (w64 (v169_0 + 1)))) (some (.inr (())))
def impl.nextPage.l0.s (K : Nat) (a0 : List ByteArray) (a1 : List Int) (a2 : Int) (v169_0 : Int) : St := mkSt 61 [(1, one (.int .i64 a2)), (2, one (.ptr 2 0 0)), (10, one (.int .i64 v169_0))] [some ⟨false, .strs a0⟩, some ⟨false, .ints .i64 a1⟩, some ⟨true, .cells [.sl 0 0 a0.length, .sl 1 0 a1.length]⟩]
def impl.nextPage.l0.e0 (K : Nat) (a0 : List ByteArray) (a1 : List Int) (a2 : Int) (o : Int) : St := mkSt 61 [(4, one (.int .i64 o))] [some ⟨false, .strs a0⟩, some ⟨false, .ints .i64 a1⟩]
def impl.nextPage.l0.e1 (K : Nat) (a0 : List ByteArray) (a1 : List Int) (a2 : Int) (o : Unit) : St := mkSt 61 [(1, one (.int .i64 a2)), (2, one (.ptr 2 0 0))] [some ⟨false, .strs a0⟩, some ⟨false, .ints .i64 a1⟩, some ⟨true, .cells [.sl 0 0 a0.length, .sl 1 0 a1.length]⟩]
def impl.nextPage.l0.x (K : Nat) (a0 : List ByteArray) (a1 : List Int) (a2 : Int) : (Int ⊕ Unit) → AExit × St := Sum.elim (fun o => (.ret, impl.nextPage.l0.e0 K a0 a1 a2 o)) (fun o => (.exit 0, impl.nextPage.l0.e1 K a0 a1 a2 o))
theorem impl.nextPage.l0.spec (K : Nat) (a0 : List ByteArray) (a1 : List Int) (a2 : Int) : ∀ (k : Nat) (v169_0 : Int) (o : Int ⊕ Unit), impl.nextPage.l0.f K a0 a1 a2 k v169_0 = some o → LoopSpec Tryz.prog 2 (loopN Tryz.f122 0) (impl.nextPage.l0.s K a0 a1 a2 v169_0) (impl.nextPage.l0.x K a0 a1 a2 o).1 (impl.nextPage.l0.x K a0 a1 a2 o).2
  | 0, _, _, h => by cases h
  | k + 1, v169_0, o, h => by
    unfold impl.nextPage.l0.f at h
    rcases br_cases h with ⟨c1, h⟩ | ⟨c1, h⟩
    · obtain ⟨x1, e1, h⟩ := bind_some h
      rcases br_cases h with ⟨c2, h⟩ | ⟨c2, h⟩
      · rcases br_cases h with ⟨c3, h⟩ | ⟨c3, h⟩
        · obtain rfl := Option.some.inj h
          exact .of_done tab mixed [bT, .call [(0, false), (1, false)] [] (one (.int .i64 x1)) [some ⟨false, .strs a0⟩, some ⟨false, .ints .i64 a1⟩], bT, bT, bT, bT, bT] [] [4] [0, 1] rfl (nd c1 (nd (impl.firstClear.spec K a0 a1 v169_0 _ e1) (nd c2 (nd c2 (nd c2 (nd c2 (nd c3 trivial))))))) (by kernel_rfl)
        · exact .of_step tab mixed [bT, .call [(0, false), (1, false)] [] (one (.int .i64 x1)) [some ⟨false, .strs a0⟩, some ⟨false, .ints .i64 a1⟩], bT, bT, bT, bT, bF] [] [1, 2, 10] [0, 1, 2] (s1 := impl.nextPage.l0.s K a0 a1 a2 (w64 (v169_0 + 1))) (nd c1 (nd (impl.firstClear.spec K a0 a1 v169_0 _ e1) (nd c2 (nd c2 (nd c2 (nd c2 (nd c3 trivial))))))) (by kernel_rfl) (impl.nextPage.l0.spec K a0 a1 a2 k (w64 (v169_0 + 1)) _ h)
      · exact .of_step tab mixed [bT, .call [(0, false), (1, false)] [] (one (.int .i64 x1)) [some ⟨false, .strs a0⟩, some ⟨false, .ints .i64 a1⟩], bF, bF, bF, bF, bF] [] [1, 2, 10] [0, 1, 2] (s1 := impl.nextPage.l0.s K a0 a1 a2 (w64 (v169_0 + 1))) (nd c1 (nd (impl.firstClear.spec K a0 a1 v169_0 _ e1) (nd c2 (nd c2 (nd c2 (nd c2 (nd ff trivial))))))) (by kernel_rfl) (impl.nextPage.l0.spec K a0 a1 a2 k (w64 (v169_0 + 1)) _ h)
    · obtain rfl := Option.some.inj h
      exact .of_done tab mixed [bF] [] [1, 2] [0, 1, 2] rfl (nd c1 trivial) (by kernel_rfl)
def impl.nextPage.l1.f (a0 : List ByteArray) (a1 : List Int) (a2 : Int) : Nat → Int → (List Int) → Int → Int → Option (Int)
  | 0, _, _, _, _ => none
  | k + 1, v170_0, v170_1, v170_2, v170_3 =>
    cond (decide (v170_3 < v170_2)) (ck (0 ≤ v170_3) (ck (v170_3 < (v170_1.length : Int)) (cond ((v170_1.getD v170_3.toNat 0) != a2) (cond (decide (v170_0 < 0)) (impl.nextPage.l1.f a0 a1 a2 k (v170_1.getD v170_3.toNat 0) v170_1 v170_2 (w64 (v170_3 + 1))) (ck (0 ≤ (v170_1.getD v170_3.toNat 0)) (ck ((v170_1.getD v170_3.toNat 0) < (a1.length : Int)) (ck (v170_0 < (a1.length : Int)) (cond (decide ((a1.getD ((v170_1.getD v170_3.toNat 0).toNat) 0) < (a1.getD v170_0.toNat 0))) (impl.nextPage.l1.f a0 a1 a2 k (v170_1.getD v170_3.toNat 0) v170_1 v170_2 (w64 (v170_3 + 1))) (impl.nextPage.l1.f a0 a1 a2 k v170_0 v170_1 v170_2 (w64 (v170_3 + 1)))))))) (impl.nextPage.l1.f a0 a1 a2 k v170_0 v170_1 v170_2 (w64 (v170_3 + 1)))))) (some v170_0)
def impl.nextPage.l1.s (a0 : List ByteArray) (a1 : List Int) (a2 : Int) (v170_0 : Int) (v170_1 : List Int) (v170_2 : Int) (v170_3 : Int) : St := mkSt 61 [(1, one (.int .i64 a2)), (2, one (.ptr 2 0 0)), (7, one (.int .i64 v170_0)), (29, one (.sl 3 0 v170_1.length)), (30, one (.int .i64 v170_2)), (31, one (.int .i64 v170_3))] [some ⟨false, .strs a0⟩, some ⟨false, .ints .i64 a1⟩, some ⟨true, .cells [.sl 0 0 a0.length, .sl 1 0 a1.length]⟩, some ⟨true, .ints .i64 v170_1⟩]
def impl.nextPage.l1.e0 (a0 : List ByteArray) (a1 : List Int) (a2 : Int) (o : Int) : St := mkSt 61 [(7, one (.int .i64 o))] [some ⟨false, .strs a0⟩, some ⟨false, .ints .i64 a1⟩]
def impl.nextPage.l1.x (a0 : List ByteArray) (a1 : List Int) (a2 : Int) : (Int) → AExit × St := fun o => (.exit 2, impl.nextPage.l1.e0 a0 a1 a2 o)
theorem impl.nextPage.l1.spec (a0 : List ByteArray) (a1 : List Int) (a2 : Int) : ∀ (k : Nat) (v170_0 : Int) (v170_1 : List Int) (v170_2 : Int) (v170_3 : Int) (o : Int), impl.nextPage.l1.f a0 a1 a2 k v170_0 v170_1 v170_2 v170_3 = some o → LoopSpec Tryz.prog 2 (loopN Tryz.f122 1) (impl.nextPage.l1.s a0 a1 a2 v170_0 v170_1 v170_2 v170_3) (impl.nextPage.l1.x a0 a1 a2 o).1 (impl.nextPage.l1.x a0 a1 a2 o).2
  | 0, _, _, _, _, _, h => by cases h
  | k + 1, v170_0, v170_1, v170_2, v170_3, o, h => by
    unfold impl.nextPage.l1.f at h
    rcases br_cases h with ⟨c1, h⟩ | ⟨c1, h⟩
    · obtain ⟨p1, h⟩ := ck_some h
      obtain ⟨p2, h⟩ := ck_some h
      rcases br_cases h with ⟨c2, h⟩ | ⟨c2, h⟩
      · rcases br_cases h with ⟨c3, h⟩ | ⟨c3, h⟩
        · exact .of_step tab mixed [bT, bT, bT, bT, bT, bT, bT, bT, bT, bT, bT, bT, bT, bT, bT, bT, bT, bT, bT] [] [1, 2, 7, 29, 30, 31] [0, 1, 2, 3] (s1 := impl.nextPage.l1.s a0 a1 a2 (v170_1.getD v170_3.toNat 0) v170_1 v170_2 (w64 (v170_3 + 1))) (nd c1 (nd p1 (nd p2 (nd (tn p1 p2) (nd c2 (nd c2 (nd c2 (nd c3 (nd c3 (nd c3 (nd c3 (nd c3 (nd c3 (nd c3 (nd c3 (nd c3 (nd c3 (nd c3 (nd c2 (nd c3 (nd c2 (nd tt trivial)))))))))))))))))))))) (by kernel_rfl) (impl.nextPage.l1.spec a0 a1 a2 k (v170_1.getD v170_3.toNat 0) v170_1 v170_2 (w64 (v170_3 + 1)) _ h)
        · obtain ⟨p3, h⟩ := ck_some h
          obtain ⟨p4, h⟩ := ck_some h
          obtain ⟨p5, h⟩ := ck_some h
          rcases br_cases h with ⟨c4, h⟩ | ⟨c4, h⟩
          · exact .of_step tab mixed [bT, bT, bT, bT, bF, bF, bF, bF, bF, bF, bF, bF, bF, bF, bF, bT, bF, bT, bT] [] [1, 2, 7, 29, 30, 31] [0, 1, 2, 3] (s1 := impl.nextPage.l1.s a0 a1 a2 (v170_1.getD v170_3.toNat 0) v170_1 v170_2 (w64 (v170_3 + 1))) (nd c1 (nd p1 (nd p2 (nd (tn p1 p2) (nd c2 (nd c2 (nd c2 (nd c3 (nd c3 (nd c3 (nd c3 (nd p3 (nd p4 (nd c3 (nd (tn p3 p4) (nd c3 (nd c3 (nd c3 (nd c3 (nd (Int.not_lt.1 (of_decide_eq_false c3)) (nd p5 (nd c3 (nd (tn (Int.not_lt.1 (of_decide_eq_false c3)) p5) (nd c3 (nd c2 (nd c3 (nd c2 (nd c4 trivial)))))))))))))))))))))))))))) (by kernel_rfl) (impl.nextPage.l1.spec a0 a1 a2 k (v170_1.getD v170_3.toNat 0) v170_1 v170_2 (w64 (v170_3 + 1)) _ h)
          · exact .of_step tab mixed [bT, bT, bT, bT, bF, bF, bF, bF, bF, bF, bF, bF, bF, bF, bF, bT, bF, bT, bF] [] [1, 2, 7, 29, 30, 31] [0, 1, 2, 3] (s1 := impl.nextPage.l1.s a0 a1 a2 v170_0 v170_1 v170_2 (w64 (v170_3 + 1))) (nd c1 (nd p1 (nd p2 (nd (tn p1 p2) (nd c2 (nd c2 (nd c2 (nd c3 (nd c3 (nd c3 (nd c3 (nd p3 (nd p4 (nd c3 (nd (tn p3 p4) (nd c3 (nd c3 (nd c3 (nd c3 (nd (Int.not_lt.1 (of_decide_eq_false c3)) (nd p5 (nd c3 (nd (tn (Int.not_lt.1 (of_decide_eq_false c3)) p5) (nd c3 (nd c2 (nd c3 (nd c2 (nd c4 trivial)))))))))))))))))))))))))))) (by kernel_rfl) (impl.nextPage.l1.spec a0 a1 a2 k v170_0 v170_1 v170_2 (w64 (v170_3 + 1)) _ h)
      · exact .of_step tab mixed [bT, bF, bF, bF, bF, bF, bF] [] [1, 2, 7, 29, 30, 31] [0, 1, 2, 3] (s1 := impl.nextPage.l1.s a0 a1 a2 v170_0 v170_1 v170_2 (w64 (v170_3 + 1))) (nd c1 (nd p1 (nd p2 (nd (tn p1 p2) (nd c2 (nd c2 (nd c2 (nd c2 (nd c2 (nd ff trivial)))))))))) (by kernel_rfl) (impl.nextPage.l1.spec a0 a1 a2 k v170_0 v170_1 v170_2 (w64 (v170_3 + 1)) _ h)
    · obtain rfl := Option.some.inj h
      exact .of_done tab mixed [bF] [] [7] [0, 1] rfl (nd c1 trivial) (by kernel_rfl)
def impl.nextPage.f (K : Nat) (a0 : List ByteArray) (a1 : List Int) (a2 : Int) : Option (Int) :=
  Option.bind (impl.nextPage.l0.f K a0 a1 a2 K 0) fun x1 => (Sum.elim (fun x1 => some x1) (fun x1 => Option.bind (impl.freeBlocks.f K a0 a1) fun x2 => Option.bind (impl.nextPage.l1.f a0 a1 a2 K (-1) x2 (x2.length : Int) 0) fun x3 => cond (decide (x3 < 0)) (some (-1)) (some (w64 (x3 * 6))))) x1
theorem impl.nextPage.spec (K : Nat) (a0 : List ByteArray) (a1 : List Int) (a2 : Int) (o : Int) (h : impl.nextPage.f K a0 a1 a2 = some o) : Den.Spec Tryz.prog 122 [.v (.agg [.sl 0 0 a0.length, .sl 1 0 a1.length]), one (.int .i64 a2)] [some ⟨false, .strs a0⟩, some ⟨false, .ints .i64 a1⟩] (one (.int .i64 o)) [some ⟨false, .strs a0⟩, some ⟨false, .ints .i64 a1⟩] := by
  unfold impl.nextPage.f at h
  obtain ⟨x1, e1, h⟩ := bind_some h
  rcases x1 with x1 | x1
  · obtain rfl := Option.some.inj h
    exact Den.Spec.of_walk tab mixed Tryz.func122 (by kernel_rfl) [.loop [] [1, 2, 10] [0, 1, 2] (.ret) (impl.nextPage.l0.e0 K a0 a1 a2 x1)] [] [0, 1] (nd (impl.nextPage.l0.spec K a0 a1 a2 K 0 _ e1) trivial) (by kernel_rfl)
  · obtain ⟨x2, e2, h⟩ := bind_some h
    obtain ⟨x3, e3, h⟩ := bind_some h
    rcases br_cases h with ⟨c1, h⟩ | ⟨c1, h⟩
    · obtain rfl := Option.some.inj h
      exact Den.Spec.of_walk tab mixed Tryz.func122 (by kernel_rfl) [.loop [] [1, 2, 10] [0, 1, 2] (.exit 0) (impl.nextPage.l0.e1 K a0 a1 a2 x1), .call [(0, false), (1, false)] [] (one (.sl 2 0 x2.length)) [some ⟨false, .strs a0⟩, some ⟨false, .ints .i64 a1⟩, some ⟨true, .ints .i64 x2⟩], .loop [] [1, 2, 7, 29, 30, 31] [0, 1, 2, 3] (.exit 2) (impl.nextPage.l1.e0 a0 a1 a2 x3), bT] [] [0, 1] (nd (impl.nextPage.l0.spec K a0 a1 a2 K 0 _ e1) (nd (impl.freeBlocks.spec K a0 a1 _ e2) (nd (impl.nextPage.l1.spec a0 a1 a2 K (-1) x2 (x2.length : Int) 0 _ e3) (nd c1 trivial)))) (by kernel_rfl)
    · obtain rfl := Option.some.inj h
      exact Den.Spec.of_walk tab mixed Tryz.func122 (by kernel_rfl) [.loop [] [1, 2, 10] [0, 1, 2] (.exit 0) (impl.nextPage.l0.e1 K a0 a1 a2 x1), .call [(0, false), (1, false)] [] (one (.sl 2 0 x2.length)) [some ⟨false, .strs a0⟩, some ⟨false, .ints .i64 a1⟩, some ⟨true, .ints .i64 x2⟩], .loop [] [1, 2, 7, 29, 30, 31] [0, 1, 2, 3] (.exit 2) (impl.nextPage.l1.e0 a0 a1 a2 x3), bF] [] [0, 1] (nd (impl.nextPage.l0.spec K a0 a1 a2 K 0 _ e1) (nd (impl.freeBlocks.spec K a0 a1 _ e2) (nd (impl.nextPage.l1.spec a0 a1 a2 K (-1) x2 (x2.length : Int) 0 _ e3) (nd c1 trivial)))) (by kernel_rfl)
def slices.Index_int_int.l0.f (a0 : List Int) (a1 : Int) : Nat → Int → Option (Int ⊕ Unit)
  | 0, _ => none
  | k + 1, v173_0 =>
    cond (decide (v173_0 < (a0.length : Int))) (ck (0 ≤ v173_0) (cond (a1 == (a0.getD v173_0.toNat 0)) (some (.inl v173_0)) (slices.Index_int_int.l0.f a0 a1 k (w64 (v173_0 + 1))))) (some (.inr (())))
def slices.Index_int_int.l0.s (a0 : List Int) (a1 : Int) (v173_0 : Int) : St := mkSt 19 [(0, one (.sl 0 0 a0.length)), (1, one (.int .i64 a1)), (7, one (.int .i64 (a0.length : Int))), (8, one (.int .i64 v173_0))] [some ⟨false, .ints .i64 a0⟩]
def slices.Index_int_int.l0.e0 (a0 : List Int) (a1 : Int) (o : Int) : St := mkSt 19 [(4, one (.int .i64 o))] [some ⟨false, .ints .i64 a0⟩]
def slices.Index_int_int.l0.e1 (a0 : List Int) (a1 : Int) (o : Unit) : St := mkSt 19 [] [some ⟨false, .ints .i64 a0⟩]
def slices.Index_int_int.l0.x (a0 : List Int) (a1 : Int) : (Int ⊕ Unit) → AExit × St := Sum.elim (fun o => (.ret, slices.Index_int_int.l0.e0 a0 a1 o)) (fun o => (.exit 0, slices.Index_int_int.l0.e1 a0 a1 o))
theorem slices.Index_int_int.l0.spec (a0 : List Int) (a1 : Int) : ∀ (k : Nat) (v173_0 : Int) (o : Int ⊕ Unit), slices.Index_int_int.l0.f a0 a1 k v173_0 = some o → LoopSpec Tryz.prog 1 (loopN Tryz.f138 0) (slices.Index_int_int.l0.s a0 a1 v173_0) (slices.Index_int_int.l0.x a0 a1 o).1 (slices.Index_int_int.l0.x a0 a1 o).2
  | 0, _, _, h => by cases h
  | k + 1, v173_0, o, h => by
    unfold slices.Index_int_int.l0.f at h
    rcases br_cases h with ⟨c1, h⟩ | ⟨c1, h⟩
    · obtain ⟨p1, h⟩ := ck_some h
      rcases br_cases h with ⟨c2, h⟩ | ⟨c2, h⟩
      · obtain rfl := Option.some.inj h
        exact .of_done tab mixed [bT, bT] [] [4] [0] rfl (nd c1 (nd p1 (nd (of_decide_eq_true c1) (nd (tn p1 (of_decide_eq_true c1)) (nd c2 trivial))))) (by kernel_rfl)
      · exact .of_step tab mixed [bT, bF] [] [0, 1, 7, 8] [0] (s1 := slices.Index_int_int.l0.s a0 a1 (w64 (v173_0 + 1))) (nd c1 (nd p1 (nd (of_decide_eq_true c1) (nd (tn p1 (of_decide_eq_true c1)) (nd c2 trivial))))) (by kernel_rfl) (slices.Index_int_int.l0.spec a0 a1 k (w64 (v173_0 + 1)) _ h)
    · obtain rfl := Option.some.inj h
      exact .of_done tab mixed [bF] [] [] [0] rfl (nd c1 trivial) (by kernel_rfl)
def slices.Index_int_int.f (K : Nat) (a0 : List Int) (a1 : Int) : Option (Int) :=
  Option.bind (slices.Index_int_int.l0.f a0 a1 K 0) fun x1 => (Sum.elim (fun x1 => some x1) (fun x1 => some (-1))) x1
theorem slices.Index_int_int.spec (K : Nat) (a0 : List Int) (a1 : Int) (o : Int) (h : slices.Index_int_int.f K a0 a1 = some o) : Den.Spec Tryz.prog 138 [one (.sl 0 0 a0.length), one (.int .i64 a1)] [some ⟨false, .ints .i64 a0⟩] (one (.int .i64 o)) [some ⟨false, .ints .i64 a0⟩] := by
  unfold slices.Index_int_int.f at h
  obtain ⟨x1, e1, h⟩ := bind_some h
  rcases x1 with x1 | x1
  · obtain rfl := Option.some.inj h
    exact Den.Spec.of_walk tab mixed Tryz.func138 (by kernel_rfl) [.loop [] [0, 1, 7, 8] [0] (.ret) (slices.Index_int_int.l0.e0 a0 a1 x1)] [] [0] (nd (slices.Index_int_int.l0.spec a0 a1 K 0 _ e1) trivial) (by kernel_rfl)
  · obtain rfl := Option.some.inj h
    exact Den.Spec.of_walk tab mixed Tryz.func138 (by kernel_rfl) [.loop [] [0, 1, 7, 8] [0] (.exit 0) (slices.Index_int_int.l0.e1 a0 a1 x1)] [] [0] (nd (slices.Index_int_int.l0.spec a0 a1 K 0 _ e1) trivial) (by kernel_rfl)
def slices.Contains_int_int.f (K : Nat) (a0 : List Int) (a1 : Int) : Option (Bool) :=
  Option.bind (slices.Index_int_int.f K a0 a1) fun x1 => some (decide (x1 ≥ 0))
theorem slices.Contains_int_int.spec (K : Nat) (a0 : List Int) (a1 : Int) (o : Bool) (h : slices.Contains_int_int.f K a0 a1 = some o) : Den.Spec Tryz.prog 121 [one (.sl 0 0 a0.length), one (.int .i64 a1)] [some ⟨false, .ints .i64 a0⟩] (one (.bool o)) [some ⟨false, .ints .i64 a0⟩] := by
  unfold slices.Contains_int_int.f at h
  obtain ⟨x1, e1, h⟩ := bind_some h
  obtain rfl := Option.some.inj h
  exact Den.Spec.of_walk tab mixed Tryz.func121 (by kernel_rfl) [.call [] [(0, true)] (one (.int .i64 x1)) [some ⟨false, .ints .i64 a0⟩]] [] [0] (nd (slices.Index_int_int.spec K a0 a1 _ e1) (n0 (nl a0 trivial))) (by kernel_rfl)
def impl.crowded.f (K : Nat) (a0 : List ByteArray) (a1 : List Int) : Option (Bool) :=
  Option.bind (impl.freeBlocks.f K a0 a1) fun x1 => cond ((x1.length : Int) != 2) (some (decide ((x1.length : Int) < 2))) (ck (0 < (x1.length : Int)) (ck (0 < x1.length) (ck (1 < (x1.length : Int)) (ck (1 < x1.length) (Option.bind (impl.nextPage.f K a0 a1 (-1)) fun x2 => Option.bind (slices.Contains_int_int.f K [w64 ((x1.getD 0 0) * 6), w64 ((x1.getD 1 0) * 6)] x2) fun x3 => some x3)))))
theorem impl.crowded.spec (K : Nat) (a0 : List ByteArray) (a1 : List Int) (o : Bool) (h : impl.crowded.f K a0 a1 = some o) : Den.Spec Tryz.prog 98 [.v (.agg [.sl 0 0 a0.length, .sl 1 0 a1.length])] [some ⟨false, .strs a0⟩, some ⟨false, .ints .i64 a1⟩] (one (.bool o)) [some ⟨false, .strs a0⟩, some ⟨false, .ints .i64 a1⟩] := by
  unfold impl.crowded.f at h
  obtain ⟨x1, e1, h⟩ := bind_some h
  rcases br_cases h with ⟨c1, h⟩ | ⟨c1, h⟩
  · obtain rfl := Option.some.inj h
    exact Den.Spec.of_walk tab mixed Tryz.func98 (by kernel_rfl) [.call [(0, false), (1, false)] [] (one (.sl 2 0 x1.length)) [some ⟨false, .strs a0⟩, some ⟨false, .ints .i64 a1⟩, some ⟨true, .ints .i64 x1⟩], bT] [] [0, 1] (nd (impl.freeBlocks.spec K a0 a1 _ e1) (nd c1 trivial)) (by kernel_rfl)
  · obtain ⟨p1, h⟩ := ck_some h
    obtain ⟨p2, h⟩ := ck_some h
    obtain ⟨p3, h⟩ := ck_some h
    obtain ⟨p4, h⟩ := ck_some h
    obtain ⟨x2, e2, h⟩ := bind_some h
    obtain ⟨x3, e3, h⟩ := bind_some h
    obtain rfl := Option.some.inj h
    exact Den.Spec.of_walk tab mixed Tryz.func98 (by kernel_rfl) [.call [(0, false), (1, false)] [] (one (.sl 2 0 x1.length)) [some ⟨false, .strs a0⟩, some ⟨false, .ints .i64 a1⟩, some ⟨true, .ints .i64 x1⟩], bF, .call [(0, false), (1, false)] [] (one (.int .i64 x2)) [some ⟨false, .strs a0⟩, some ⟨false, .ints .i64 a1⟩], .call [] [(0, true)] (one (.bool x3)) [some ⟨false, .ints .i64 [w64 ((x1.getD 0 0) * 6), w64 ((x1.getD 1 0) * 6)]⟩]] [] [0, 1] (nd (impl.freeBlocks.spec K a0 a1 _ e1) (nd c1 (nd (Int.le_refl 0) (nd p1 (nd p2 (nd (by decide : (0 : Int) ≤ 1) (nd p3 (nd p4 (nd (impl.nextPage.spec K a0 a1 (-1) _ e2) (nd (slices.Contains_int_int.spec K [w64 ((x1.getD 0 0) * 6), w64 ((x1.getD 1 0) * 6)] x2 _ e3) (n0 (nn 2 trivial)))))))))))) (by kernel_rfl)
def impl.lives.l0.f (a0 : List ByteArray) (a1 : List Int) (a2 : List Int) (a4 : Int) : Nat → (List Int) → Int → Option ((List Int))
  | 0, _, _ => none
  | k + 1, v194_0, v194_1 =>
    cond (decide (v194_1 < (a2.length : Int))) (ck (0 ≤ v194_1) (cond (decide ((a2.getD v194_1.toNat 0) ≥ 0)) (cond ((w64 ((a2.getD v194_1.toNat 0).tdiv 6)) == a4) (ck ((v194_0 ++ [a2.getD v194_1.toNat 0]).length * 8 ≤ 70368744177664) (impl.lives.l0.f a0 a1 a2 a4 k (v194_0 ++ [a2.getD v194_1.toNat 0]) (w64 (v194_1 + 1)))) (impl.lives.l0.f a0 a1 a2 a4 k v194_0 (w64 (v194_1 + 1)))) (impl.lives.l0.f a0 a1 a2 a4 k v194_0 (w64 (v194_1 + 1))))) (some v194_0)
def impl.lives.l0.s (a0 : List ByteArray) (a1 : List Int) (a2 : List Int) (a4 : Int) (v194_0 : List Int) (v194_1 : Int) : St := mkSt 32 [(1, one (.int .i64 a4)), (5, one (.sl 3 0 v194_0.length)), (10, one (.sl 2 0 a2.length)), (11, one (.int .i64 (a2.length : Int))), (12, one (.int .i64 v194_1))] [some ⟨false, .strs a0⟩, some ⟨false, .ints .i64 a1⟩, some ⟨false, .ints .i64 a2⟩, some ⟨true, .ints .i64 v194_0⟩]
def impl.lives.l0.e0 (a0 : List ByteArray) (a1 : List Int) (a2 : List Int) (a4 : Int) (o : (List Int)) : St := mkSt 32 [(5, one (.sl 3 0 o.length))] [some ⟨false, .strs a0⟩, some ⟨false, .ints .i64 a1⟩, some ⟨false, .ints .i64 a2⟩, some ⟨true, .ints .i64 o⟩]
def impl.lives.l0.x (a0 : List ByteArray) (a1 : List Int) (a2 : List Int) (a4 : Int) : ((List Int)) → AExit × St := fun o => (.exit 0, impl.lives.l0.e0 a0 a1 a2 a4 o)
theorem impl.lives.l0.spec (a0 : List ByteArray) (a1 : List Int) (a2 : List Int) (a4 : Int) : ∀ (k : Nat) (v194_0 : List Int) (v194_1 : Int) (o : (List Int)), impl.lives.l0.f a0 a1 a2 a4 k v194_0 v194_1 = some o → LoopSpec Tryz.prog 3 (loopN Tryz.f124 0) (impl.lives.l0.s a0 a1 a2 a4 v194_0 v194_1) (impl.lives.l0.x a0 a1 a2 a4 o).1 (impl.lives.l0.x a0 a1 a2 a4 o).2
  | 0, _, _, _, h => by cases h
  | k + 1, v194_0, v194_1, o, h => by
    unfold impl.lives.l0.f at h
    rcases br_cases h with ⟨c1, h⟩ | ⟨c1, h⟩
    · obtain ⟨p1, h⟩ := ck_some h
      rcases br_cases h with ⟨c2, h⟩ | ⟨c2, h⟩
      · rcases br_cases h with ⟨c3, h⟩ | ⟨c3, h⟩
        · obtain ⟨p2, h⟩ := ck_some h
          exact .of_step tab mixed [bT, bT, bT, bT, bT, bT, bT, bT] [] [1, 5, 10, 11, 12] [0, 1, 2, 5] (s1 := impl.lives.l0.s a0 a1 a2 a4 (v194_0 ++ [a2.getD v194_1.toNat 0]) (w64 (v194_1 + 1))) (nd c1 (nd p1 (nd (of_decide_eq_true c1) (nd (tn p1 (of_decide_eq_true c1)) (nd c2 (nd c2 (nd (by decide : (6 : Int) ≠ 0) (nd c2 (nd c2 (nd c2 (nd c3 (n0 (nl v194_0 (nd p2 (n0 (nn 1 trivial)))))))))))))))) (by kernel_rfl) (impl.lives.l0.spec a0 a1 a2 a4 k (v194_0 ++ [a2.getD v194_1.toNat 0]) (w64 (v194_1 + 1)) _ h)
        · exact .of_step tab mixed [bT, bT, bT, bT, bT, bT, bF] [] [1, 5, 10, 11, 12] [0, 1, 2, 3] (s1 := impl.lives.l0.s a0 a1 a2 a4 v194_0 (w64 (v194_1 + 1))) (nd c1 (nd p1 (nd (of_decide_eq_true c1) (nd (tn p1 (of_decide_eq_true c1)) (nd c2 (nd c2 (nd (by decide : (6 : Int) ≠ 0) (nd c2 (nd c2 (nd c2 (nd c3 trivial))))))))))) (by kernel_rfl) (impl.lives.l0.spec a0 a1 a2 a4 k v194_0 (w64 (v194_1 + 1)) _ h)
      · exact .of_step tab mixed [bT, bF, bF, bF, bF, bF, bF] [] [1, 5, 10, 11, 12] [0, 1, 2, 3] (s1 := impl.lives.l0.s a0 a1 a2 a4 v194_0 (w64 (v194_1 + 1))) (nd c1 (nd p1 (nd (of_decide_eq_true c1) (nd (tn p1 (of_decide_eq_true c1)) (nd c2 (nd c2 (nd c2 (nd c2 (nd c2 (nd ff trivial)))))))))) (by kernel_rfl) (impl.lives.l0.spec a0 a1 a2 a4 k v194_0 (w64 (v194_1 + 1)) _ h)
    · obtain rfl := Option.some.inj h
      exact .of_done tab mixed [bF] [] [5] [0, 1, 2, 3] rfl (nd c1 trivial) (by kernel_rfl)
def math_bits.Len64.f (a0 : Int) : Option (Int) :=
  cond (decide (a0 ≥ 4294967296)) (cond (decide ((a0.fdiv (2 ^ 32)) ≥ 65536)) (cond (decide (((a0.fdiv (2 ^ 32)).fdiv (2 ^ 16)) ≥ 256)) (ck (0 ≤ (IntKind.u8.wrap (((a0.fdiv (2 ^ 32)).fdiv (2 ^ 16)).fdiv (2 ^ 8)))) (ck ((IntKind.u8.wrap (((a0.fdiv (2 ^ 32)).fdiv (2 ^ 16)).fdiv (2 ^ 8))) < (bytes0.size : Int)) (some (w64 (56 + (w64 (byteAt bytes0 (IntKind.u8.wrap (((a0.fdiv (2 ^ 32)).fdiv (2 ^ 16)).fdiv (2 ^ 8)))))))))) (ck (0 ≤ (IntKind.u8.wrap ((a0.fdiv (2 ^ 32)).fdiv (2 ^ 16)))) (ck ((IntKind.u8.wrap ((a0.fdiv (2 ^ 32)).fdiv (2 ^ 16))) < (bytes0.size : Int)) (some (w64 (48 + (w64 (byteAt bytes0 (IntKind.u8.wrap ((a0.fdiv (2 ^ 32)).fdiv (2 ^ 16))))))))))) (cond (decide ((a0.fdiv (2 ^ 32)) ≥ 256)) (ck (0 ≤ (IntKind.u8.wrap ((a0.fdiv (2 ^ 32)).fdiv (2 ^ 8)))) (ck ((IntKind.u8.wrap ((a0.fdiv (2 ^ 32)).fdiv (2 ^ 8))) < (bytes0.size : Int)) (some (w64 (40 + (w64 (byteAt bytes0 (IntKind.u8.wrap ((a0.fdiv (2 ^ 32)).fdiv (2 ^ 8)))))))))) (ck (0 ≤ (IntKind.u8.wrap (a0.fdiv (2 ^ 32)))) (ck ((IntKind.u8.wrap (a0.fdiv (2 ^ 32))) < (bytes0.size : Int)) (some (w64 (32 + (w64 (byteAt bytes0 (IntKind.u8.wrap (a0.fdiv (2 ^ 32)))))))))))) (cond (decide (a0 ≥ 65536)) (cond (decide ((a0.fdiv (2 ^ 16)) ≥ 256)) (ck (0 ≤ (IntKind.u8.wrap ((a0.fdiv (2 ^ 16)).fdiv (2 ^ 8)))) (ck ((IntKind.u8.wrap ((a0.fdiv (2 ^ 16)).fdiv (2 ^ 8))) < (bytes0.size : Int)) (some (w64 (24 + (w64 (byteAt bytes0 (IntKind.u8.wrap ((a0.fdiv (2 ^ 16)).fdiv (2 ^ 8)))))))))) (ck (0 ≤ (IntKind.u8.wrap (a0.fdiv (2 ^ 16)))) (ck ((IntKind.u8.wrap (a0.fdiv (2 ^ 16))) < (bytes0.size : Int)) (some (w64 (16 + (w64 (byteAt bytes0 (IntKind.u8.wrap (a0.fdiv (2 ^ 16))))))))))) (cond (decide (a0 ≥ 256)) (ck (0 ≤ (IntKind.u8.wrap (a0.fdiv (2 ^ 8)))) (ck ((IntKind.u8.wrap (a0.fdiv (2 ^ 8))) < (bytes0.size : Int)) (some (w64 (8 + (w64 (byteAt bytes0 (IntKind.u8.wrap (a0.fdiv (2 ^ 8)))))))))) (ck (0 ≤ (IntKind.u8.wrap a0)) (ck ((IntKind.u8.wrap a0) < (bytes0.size : Int)) (some (w64 (0 + (w64 (byteAt bytes0 (IntKind.u8.wrap a0))))))))))
theorem math_bits.Len64.spec (a0 : Int) (o : Int) (h : math_bits.Len64.f a0 = some o) : Den.Spec Tryz.prog 161 [one (.int .u64 a0)] [] (one (.int .i64 o)) [] := by
  unfold math_bits.Len64.f at h
  rcases br_cases h with ⟨c1, h⟩ | ⟨c1, h⟩
  · rcases br_cases h with ⟨c2, h⟩ | ⟨c2, h⟩
    · rcases br_cases h with ⟨c3, h⟩ | ⟨c3, h⟩
      · obtain ⟨p1, h⟩ := ck_some h
        obtain ⟨p2, h⟩ := ck_some h
        obtain rfl := Option.some.inj h
        exact Den.Spec.of_walk tab mixed Tryz.func161 (by kernel_rfl) [bT, bT, bT] [] [] (nd c1 (nd (by decide : (0 : Int) ≤ 32) (nd c2 (nd (by decide : (0 : Int) ≤ 16) (nd c3 (nd (by decide : (0 : Int) ≤ 8) (nd p1 (nd p2 trivial)))))))) (by kernel_rfl)
      · obtain ⟨p1, h⟩ := ck_some h
        obtain ⟨p2, h⟩ := ck_some h
        obtain rfl := Option.some.inj h
        exact Den.Spec.of_walk tab mixed Tryz.func161 (by kernel_rfl) [bT, bT, bF] [] [] (nd c1 (nd (by decide : (0 : Int) ≤ 32) (nd c2 (nd (by decide : (0 : Int) ≤ 16) (nd c3 (nd p1 (nd p2 trivial))))))) (by kernel_rfl)
    · rcases br_cases h with ⟨c3, h⟩ | ⟨c3, h⟩
      · obtain ⟨p1, h⟩ := ck_some h
        obtain ⟨p2, h⟩ := ck_some h
        obtain rfl := Option.some.inj h
        exact Den.Spec.of_walk tab mixed Tryz.func161 (by kernel_rfl) [bT, bF, bT] [] [] (nd c1 (nd (by decide : (0 : Int) ≤ 32) (nd c2 (nd c3 (nd (by decide : (0 : Int) ≤ 8) (nd p1 (nd p2 trivial))))))) (by kernel_rfl)
      · obtain ⟨p1, h⟩ := ck_some h
        obtain ⟨p2, h⟩ := ck_some h
        obtain rfl := Option.some.inj h
        exact Den.Spec.of_walk tab mixed Tryz.func161 (by kernel_rfl) [bT, bF, bF] [] [] (nd c1 (nd (by decide : (0 : Int) ≤ 32) (nd c2 (nd c3 (nd p1 (nd p2 trivial)))))) (by kernel_rfl)
  · rcases br_cases h with ⟨c2, h⟩ | ⟨c2, h⟩
    · rcases br_cases h with ⟨c3, h⟩ | ⟨c3, h⟩
      · obtain ⟨p1, h⟩ := ck_some h
        obtain ⟨p2, h⟩ := ck_some h
        obtain rfl := Option.some.inj h
        exact Den.Spec.of_walk tab mixed Tryz.func161 (by kernel_rfl) [bF, bT, bT] [] [] (nd c1 (nd c2 (nd (by decide : (0 : Int) ≤ 16) (nd c3 (nd (by decide : (0 : Int) ≤ 8) (nd p1 (nd p2 trivial))))))) (by kernel_rfl)
      · obtain ⟨p1, h⟩ := ck_some h
        obtain ⟨p2, h⟩ := ck_some h
        obtain rfl := Option.some.inj h
        exact Den.Spec.of_walk tab mixed Tryz.func161 (by kernel_rfl) [bF, bT, bF] [] [] (nd c1 (nd c2 (nd (by decide : (0 : Int) ≤ 16) (nd c3 (nd p1 (nd p2 trivial)))))) (by kernel_rfl)
    · rcases br_cases h with ⟨c3, h⟩ | ⟨c3, h⟩
      · obtain ⟨p1, h⟩ := ck_some h
        obtain ⟨p2, h⟩ := ck_some h
        obtain rfl := Option.some.inj h
        exact Den.Spec.of_walk tab mixed Tryz.func161 (by kernel_rfl) [bF, bF, bT] [] [] (nd c1 (nd c2 (nd c3 (nd (by decide : (0 : Int) ≤ 8) (nd p1 (nd p2 trivial)))))) (by kernel_rfl)
      · obtain ⟨p1, h⟩ := ck_some h
        obtain ⟨p2, h⟩ := ck_some h
        obtain rfl := Option.some.inj h
        exact Den.Spec.of_walk tab mixed Tryz.func161 (by kernel_rfl) [bF, bF, bF] [] [] (nd c1 (nd c2 (nd c3 (nd p1 (nd p2 trivial))))) (by kernel_rfl)
def math_bits.Len.f (a0 : Int) : Option (Int) :=
  Option.bind (math_bits.Len64.f a0) fun x1 => some x1
theorem math_bits.Len.spec (a0 : Int) (o : Int) (h : math_bits.Len.f a0 = some o) : Den.Spec Tryz.prog 150 [one (.int .u64 a0)] [] (one (.int .i64 o)) [] := by
  unfold math_bits.Len.f at h
  obtain ⟨x1, e1, h⟩ := bind_some h
  obtain rfl := Option.some.inj h
  exact Den.Spec.of_walk tab mixed Tryz.func150 (by kernel_rfl) [bF, .call [] [] (one (.int .i64 x1)) []] [] [] (nd ff (nd (math_bits.Len64.spec a0 _ e1) trivial)) (by kernel_rfl)
def cmp.isNaN_int.f (a0 : Int) : Option (Unit) :=
  some ()
theorem cmp.isNaN_int.spec (a0 : Int) (o : Unit) (h : cmp.isNaN_int.f a0 = some o) : Den.Spec Tryz.prog 167 [one (.int .i64 a0)] [] (one (.bool (a0 != a0))) [] := by
  unfold cmp.isNaN_int.f at h
  obtain rfl := Option.some.inj h
  exact Den.Spec.of_walk tab mixed Tryz.func167 (by kernel_rfl) [] [] [] trivial (by kernel_rfl)
def cmp.Less_int.f (a0 : Int) (a1 : Int) : Option (Bool) :=
  Option.bind (cmp.isNaN_int.f a0) fun x1 => cond (a0 != a0) (Option.bind (cmp.isNaN_int.f a1) fun x2 => cond (a1 != a1) (some (decide (a0 < a1))) (some true)) (some (decide (a0 < a1)))
theorem cmp.Less_int.spec (a0 : Int) (a1 : Int) (o : Bool) (h : cmp.Less_int.f a0 a1 = some o) : Den.Spec Tryz.prog 157 [one (.int .i64 a0), one (.int .i64 a1)] [] (one (.bool o)) [] := by
  unfold cmp.Less_int.f at h
  obtain ⟨x1, e1, h⟩ := bind_some h
  rcases br_cases h with ⟨c1, h⟩ | ⟨c1, h⟩
  · obtain ⟨x2, e2, h⟩ := bind_some h
    rcases br_cases h with ⟨c2, h⟩ | ⟨c2, h⟩
    · obtain rfl := Option.some.inj h
      exact Den.Spec.of_walk tab mixed Tryz.func157 (by kernel_rfl) [.call [] [] (one (.bool (a0 != a0))) [], bT, bT, .call [] [] (one (.bool (a1 != a1))) [], bT, bT, bF, bF, bF, bF] [] [] (nd (cmp.isNaN_int.spec a0 _ e1) (nd c1 (nd c1 (nd (cmp.isNaN_int.spec a1 _ e2) (nd c1 (nd c1 (nd (nf c2) (nd (nf c2) (nd (nf c2) (nd (nf c2) trivial)))))))))) (by kernel_rfl)
    · obtain rfl := Option.some.inj h
      exact Den.Spec.of_walk tab mixed Tryz.func157 (by kernel_rfl) [.call [] [] (one (.bool (a0 != a0))) [], bT, bT, .call [] [] (one (.bool (a1 != a1))) [], bT, bT, bT, bT, bT, bT] [] [] (nd (cmp.isNaN_int.spec a0 _ e1) (nd c1 (nd c1 (nd (cmp.isNaN_int.spec a1 _ e2) (nd c1 (nd c1 (nd (nt c2) (nd (nt c2) (nd (nt c2) (nd (nt c2) trivial)))))))))) (by kernel_rfl)
  · obtain rfl := Option.some.inj h
    exact Den.Spec.of_walk tab mixed Tryz.func157 (by kernel_rfl) [.call [] [] (one (.bool (a0 != a0))) [], bF, bF, bF, bF, bF, bF, bF, bF] [] [] (nd (cmp.isNaN_int.spec a0 _ e1) (nd c1 (nd c1 (nd c1 (nd c1 (nd ff (nd ff (nd ff (nd ff trivial))))))))) (by kernel_rfl)
def slices.insertionSortOrdered_int.l1.f (a1 : Int) (a2 : Int) (v187_1 : Int) : Nat → (List Int) → Int → Option ((List Int))
  | 0, _, _ => none
  | k + 1, v189_0, v189_1 =>
    cond (decide (v189_1 > a1)) (ck (0 ≤ v189_1) (ck (v189_1 < (v189_0.length : Int)) (ck (0 ≤ (w64 (v189_1 - 1))) (ck ((w64 (v189_1 - 1)) < (v189_0.length : Int)) (Option.bind (cmp.Less_int.f (v189_0.getD v189_1.toNat 0) (v189_0.getD ((w64 (v189_1 - 1)).toNat) 0)) fun x1 => cond (x1) (slices.insertionSortOrdered_int.l1.f a1 a2 v187_1 k ((v189_0.set v189_1.toNat (v189_0.getD ((w64 (v189_1 - 1)).toNat) 0)).set ((w64 (v189_1 - 1)).toNat) (v189_0.getD v189_1.toNat 0)) (w64 (v189_1 - 1))) (some v189_0)))))) (some v189_0)
def slices.insertionSortOrdered_int.l1.s (a1 : Int) (a2 : Int) (v187_1 : Int) (v189_0 : List Int) (v189_1 : Int) : St := mkSt 49 [(0, one (.sl 0 0 v189_0.length)), (1, one (.int .i64 a1)), (2, one (.int .i64 a2)), (6, one (.int .i64 v187_1)), (7, one (.int .i64 v189_1))] [some ⟨true, .ints .i64 v189_0⟩]
def slices.insertionSortOrdered_int.l1.e0 (a1 : Int) (a2 : Int) (v187_1 : Int) (o : (List Int)) : St := mkSt 49 [(0, one (.sl 0 0 o.length)), (1, one (.int .i64 a1)), (2, one (.int .i64 a2)), (6, one (.int .i64 v187_1))] [some ⟨true, .ints .i64 o⟩]
def slices.insertionSortOrdered_int.l1.x (a1 : Int) (a2 : Int) (v187_1 : Int) : ((List Int)) → AExit × St := fun o => (.exit 2, slices.insertionSortOrdered_int.l1.e0 a1 a2 v187_1 o)
theorem slices.insertionSortOrdered_int.l1.spec (a1 : Int) (a2 : Int) (v187_1 : Int) : ∀ (k : Nat) (v189_0 : List Int) (v189_1 : Int) (o : (List Int)), slices.insertionSortOrdered_int.l1.f a1 a2 v187_1 k v189_0 v189_1 = some o → LoopSpec Tryz.prog 1 (loopN Tryz.f151 1) (slices.insertionSortOrdered_int.l1.s a1 a2 v187_1 v189_0 v189_1) (slices.insertionSortOrdered_int.l1.x a1 a2 v187_1 o).1 (slices.insertionSortOrdered_int.l1.x a1 a2 v187_1 o).2
  | 0, _, _, _, h => by cases h
  | k + 1, v189_0, v189_1, o, h => by
    unfold slices.insertionSortOrdered_int.l1.f at h
    rcases br_cases h with ⟨c1, h⟩ | ⟨c1, h⟩
    · obtain ⟨p1, h⟩ := ck_some h
      obtain ⟨p2, h⟩ := ck_some h
      obtain ⟨p3, h⟩ := ck_some h
      obtain ⟨p4, h⟩ := ck_some h
      obtain ⟨x1, e1, h⟩ := bind_some h
      rcases br_cases h with ⟨c2, h⟩ | ⟨c2, h⟩
      · exact .of_step tab mixed [bT, bT, bT, bT, bT, bT, bT, bT, bT, bT, .call [] [] (one (.bool x1)) [], bT, bT] [] [0, 1, 2, 6, 7] [0] (s1 := mkSt 49 [(0, one (.sl 0 0 v189_0.length)), (1, one (.int .i64 a1)), (2, one (.int .i64 a2)), (6, one (.int .i64 v187_1)), (7, one (.int .i64 (w64 (v189_1 - 1))))] [some ⟨true, .ints .i64 ((v189_0.set v189_1.toNat (v189_0.getD ((w64 (v189_1 - 1)).toNat) 0)).set ((w64 (v189_1 - 1)).toNat) (v189_0.getD v189_1.toNat 0))⟩]) (nd c1 (nd c1 (nd c1 (nd p1 (nd p2 (nd c1 (nd (tn p1 p2) (nd c1 (nd c1 (nd c1 (nd c1 (nd p3 (nd p4 (nd c1 (nd (tn p3 p4) (nd c1 (nd (cmp.Less_int.spec (v189_0.getD v189_1.toNat 0) (v189_0.getD ((w64 (v189_1 - 1)).toNat) 0) _ e1) (nd c1 (nd c2 (nd p3 (nd p4 (nd (tn p3 p4) (nd p1 (nd p2 (nd (tn p1 p2) (nd p1 (nd p2 (nd (tn p1 p2) (nd p3 (nd p4 (nd (lt_set (tn p3 p4) : (w64 (v189_1 - 1)).toNat < (v189_0.set v189_1.toNat (v189_0.getD ((w64 (v189_1 - 1)).toNat) 0)).length) trivial))))))))))))))))))))))))))))))) (by kernel_rfl) (LoopSpec.eqs (slices.insertionSortOrdered_int.l1.spec a1 a2 v187_1 k ((v189_0.set v189_1.toNat (v189_0.getD ((w64 (v189_1 - 1)).toNat) 0)).set ((w64 (v189_1 - 1)).toNat) (v189_0.getD v189_1.toNat 0)) (w64 (v189_1 - 1)) _ h) (by simp only [slices.insertionSortOrdered_int.l1.s, List.length_set, overL_length] : slices.insertionSortOrdered_int.l1.s a1 a2 v187_1 ((v189_0.set v189_1.toNat (v189_0.getD ((w64 (v189_1 - 1)).toNat) 0)).set ((w64 (v189_1 - 1)).toNat) (v189_0.getD v189_1.toNat 0)) (w64 (v189_1 - 1)) = mkSt 49 [(0, one (.sl 0 0 v189_0.length)), (1, one (.int .i64 a1)), (2, one (.int .i64 a2)), (6, one (.int .i64 v187_1)), (7, one (.int .i64 (w64 (v189_1 - 1))))] [some ⟨true, .ints .i64 ((v189_0.set v189_1.toNat (v189_0.getD ((w64 (v189_1 - 1)).toNat) 0)).set ((w64 (v189_1 - 1)).toNat) (v189_0.getD v189_1.toNat 0))⟩]))
      · obtain rfl := Option.some.inj h
        exact .of_done tab mixed [bT, bT, bT, bT, bT, bT, bT, bT, bT, bT, .call [] [] (one (.bool x1)) [], bT, bF] [] [0, 1, 2, 6] [0] rfl (nd c1 (nd c1 (nd c1 (nd p1 (nd p2 (nd c1 (nd (tn p1 p2) (nd c1 (nd c1 (nd c1 (nd c1 (nd p3 (nd p4 (nd c1 (nd (tn p3 p4) (nd c1 (nd (cmp.Less_int.spec (v189_0.getD v189_1.toNat 0) (v189_0.getD ((w64 (v189_1 - 1)).toNat) 0) _ e1) (nd c1 (nd c2 trivial))))))))))))))))))) (by kernel_rfl)
    · obtain rfl := Option.some.inj h
      exact .of_done tab mixed [bF, bF, bF, bF, bF, bF, bF, bF, bF, bF, bF, bF] [] [0, 1, 2, 6] [0] rfl (nd c1 (nd c1 (nd c1 (nd c1 (nd c1 (nd c1 (nd c1 (nd c1 (nd c1 (nd c1 (nd c1 (nd ff trivial)))))))))))) (by kernel_rfl)
def slices.insertionSortOrdered_int.l0.f (K : Nat) (a1 : Int) (a2 : Int) : Nat → (List Int) → Int → Option ((List Int))
  | 0, _, _ => none
  | k + 1, v187_0, v187_1 =>
    cond (decide (v187_1 < a2)) (Option.bind (slices.insertionSortOrdered_int.l1.f a1 a2 v187_1 K v187_0 v187_1) fun x1 => slices.insertionSortOrdered_int.l0.f K a1 a2 k x1 (w64 (v187_1 + 1))) (some v187_0)
def slices.insertionSortOrdered_int.l0.s (K : Nat) (a1 : Int) (a2 : Int) (v187_0 : List Int) (v187_1 : Int) : St := mkSt 49 [(0, one (.sl 0 0 v187_0.length)), (1, one (.int .i64 a1)), (2, one (.int .i64 a2)), (6, one (.int .i64 v187_1))] [some ⟨true, .ints .i64 v187_0⟩]
def slices.insertionSortOrdered_int.l0.e0 (K : Nat) (a1 : Int) (a2 : Int) (o : (List Int)) : St := mkSt 49 [] [some ⟨true, .ints .i64 o⟩]
def slices.insertionSortOrdered_int.l0.x (K : Nat) (a1 : Int) (a2 : Int) : ((List Int)) → AExit × St := fun o => (.exit 0, slices.insertionSortOrdered_int.l0.e0 K a1 a2 o)
theorem slices.insertionSortOrdered_int.l0.spec (K : Nat) (a1 : Int) (a2 : Int) : ∀ (k : Nat) (v187_0 : List Int) (v187_1 : Int) (o : (List Int)), slices.insertionSortOrdered_int.l0.f K a1 a2 k v187_0 v187_1 = some o → LoopSpec Tryz.prog 1 (loopN Tryz.f151 0) (slices.insertionSortOrdered_int.l0.s K a1 a2 v187_0 v187_1) (slices.insertionSortOrdered_int.l0.x K a1 a2 o).1 (slices.insertionSortOrdered_int.l0.x K a1 a2 o).2
  | 0, _, _, _, h => by cases h
  | k + 1, v187_0, v187_1, o, h => by
    unfold slices.insertionSortOrdered_int.l0.f at h
    rcases br_cases h with ⟨c1, h⟩ | ⟨c1, h⟩
    · obtain ⟨x1, e1, h⟩ := bind_some h
      exact .of_step tab mixed [bT, .loop [] [0, 1, 2, 6, 7] [0] (.exit 2) (slices.insertionSortOrdered_int.l1.e0 a1 a2 v187_1 x1)] [] [0, 1, 2, 6] [0] (s1 := slices.insertionSortOrdered_int.l0.s K a1 a2 x1 (w64 (v187_1 + 1))) (nd c1 (nd (slices.insertionSortOrdered_int.l1.spec a1 a2 v187_1 K v187_0 v187_1 _ e1) trivial)) (by kernel_rfl) (slices.insertionSortOrdered_int.l0.spec K a1 a2 k x1 (w64 (v187_1 + 1)) _ h)
    · obtain rfl := Option.some.inj h
      exact .of_done tab mixed [bF] [] [] [0] rfl (nd c1 trivial) (by kernel_rfl)
def slices.insertionSortOrdered_int.f (K : Nat) (a0 : List Int) (a1 : Int) (a2 : Int) : Option ((List Int)) :=
  Option.bind (slices.insertionSortOrdered_int.l0.f K a1 a2 K a0 (w64 (a1 + 1))) fun x1 => some x1
theorem slices.insertionSortOrdered_int.spec (K : Nat) (a0 : List Int) (a1 : Int) (a2 : Int) (o : (List Int)) (h : slices.insertionSortOrdered_int.f K a0 a1 a2 = some o) : Den.Spec Tryz.prog 151 [one (.sl 0 0 a0.length), one (.int .i64 a1), one (.int .i64 a2)] [some ⟨true, .ints .i64 a0⟩] (.tup []) [some ⟨true, .ints .i64 o⟩] := by
  unfold slices.insertionSortOrdered_int.f at h
  obtain ⟨x1, e1, h⟩ := bind_some h
  obtain rfl := Option.some.inj h
  exact Den.Spec.of_walk tab mixed Tryz.func151 (by kernel_rfl) [.loop [] [0, 1, 2, 6] [0] (.exit 0) (slices.insertionSortOrdered_int.l0.e0 K a1 a2 x1)] [] [0] (nd (slices.insertionSortOrdered_int.l0.spec K a1 a2 K a0 (w64 (a1 + 1)) _ e1) trivial) (by kernel_rfl)
def slices.pdqsortOrdered_int.l0.f (K : Nat) (a0 : List Int) (a1 : Int) (a2 : Int) (a3 : Int) : Nat → Option ((List Int))
  | 0 => none
  | k + 1 =>
    cond (decide ((w64 (a2 - a1)) ≤ 12)) (Option.bind (slices.insertionSortOrdered_int.f K a0 a1 a2) fun x1 => some x1) (cond (a3 == 0) (none) (none))
def slices.pdqsortOrdered_int.l0.s (K : Nat) (a0 : List Int) (a1 : Int) (a2 : Int) (a3 : Int) : St := mkSt 134 [(0, one (.sl 0 0 a0.length)), (1, one (.int .i64 a1)), (2, one (.int .i64 a2)), (3, one (.int .i64 a3)), (8, one (.bool true)), (9, one (.bool true))] [some ⟨true, .ints .i64 a0⟩]
def slices.pdqsortOrdered_int.l0.e0 (K : Nat) (a0 : List Int) (a1 : Int) (a2 : Int) (a3 : Int) (o : (List Int)) : St := mkSt 134 [] [some ⟨true, .ints .i64 o⟩]
def slices.pdqsortOrdered_int.l0.x (K : Nat) (a0 : List Int) (a1 : Int) (a2 : Int) (a3 : Int) : ((List Int)) → AExit × St := fun o => (.ret, slices.pdqsortOrdered_int.l0.e0 K a0 a1 a2 a3 o)
theorem slices.pdqsortOrdered_int.l0.spec (K : Nat) (a0 : List Int) (a1 : Int) (a2 : Int) (a3 : Int) : ∀ (k : Nat) (o : (List Int)), slices.pdqsortOrdered_int.l0.f K a0 a1 a2 a3 k = some o → LoopSpec Tryz.prog 1 (loopN Tryz.f149 0) (slices.pdqsortOrdered_int.l0.s K a0 a1 a2 a3) (slices.pdqsortOrdered_int.l0.x K a0 a1 a2 a3 o).1 (slices.pdqsortOrdered_int.l0.x K a0 a1 a2 a3 o).2
  | 0, _, h => by cases h
  | k + 1, o, h => by
    unfold slices.pdqsortOrdered_int.l0.f at h
    rcases br_cases h with ⟨c1, h⟩ | ⟨c1, h⟩
    · obtain ⟨x1, e1, h⟩ := bind_some h
      obtain rfl := Option.some.inj h
      exact .of_done tab mixed [bT, .call [(0, true)] [] (.tup []) [some ⟨true, .ints .i64 x1⟩]] [] [] [0] rfl (nd c1 (nd (slices.insertionSortOrdered_int.spec K a0 a1 a2 _ e1) trivial)) (by kernel_rfl)
    · rcases br_cases h with ⟨c2, h⟩ | ⟨c2, h⟩
      · cases h
      · cases h
def slices.pdqsortOrdered_int.f (K : Nat) (a0 : List Int) (a1 : Int) (a2 : Int) (a3 : Int) : Option ((List Int)) :=
  Option.bind (slices.pdqsortOrdered_int.l0.f K a0 a1 a2 a3 K) fun x1 => some x1
theorem slices.pdqsortOrdered_int.spec (K : Nat) (a0 : List Int) (a1 : Int) (a2 : Int) (a3 : Int) (o : (List Int)) (h : slices.pdqsortOrdered_int.f K a0 a1 a2 a3 = some o) : Den.Spec Tryz.prog 149 [one (.sl 0 0 a0.length), one (.int .i64 a1), one (.int .i64 a2), one (.int .i64 a3)] [some ⟨true, .ints .i64 a0⟩] (.tup []) [some ⟨true, .ints .i64 o⟩] := by
  unfold slices.pdqsortOrdered_int.f at h
  obtain ⟨x1, e1, h⟩ := bind_some h
  obtain rfl := Option.some.inj h
  exact Den.Spec.of_walk tab mixed Tryz.func149 (by kernel_rfl) [.loop [] [0, 1, 2, 3, 8, 9] [0] (.ret) (slices.pdqsortOrdered_int.l0.e0 K a0 a1 a2 a3 x1)] [] [0] (nd (slices.pdqsortOrdered_int.l0.spec K a0 a1 a2 a3 K _ e1) trivial) (by kernel_rfl)
def slices.Sort_int_int.f (K : Nat) (a0 : List Int) : Option ((List Int)) :=
  Option.bind (math_bits.Len.f (IntKind.u64.wrap (a0.length : Int))) fun x1 => Option.bind (slices.pdqsortOrdered_int.f K a0 0 (a0.length : Int) x1) fun x2 => some x2
theorem slices.Sort_int_int.spec (K : Nat) (a0 : List Int) (o : (List Int)) (h : slices.Sort_int_int.f K a0 = some o) : Den.Spec Tryz.prog 140 [one (.sl 0 0 a0.length)] [some ⟨true, .ints .i64 a0⟩] (.tup []) [some ⟨true, .ints .i64 o⟩] := by
  unfold slices.Sort_int_int.f at h
  obtain ⟨x1, e1, h⟩ := bind_some h
  obtain ⟨x2, e2, h⟩ := bind_some h
  obtain rfl := Option.some.inj h
  exact Den.Spec.of_walk tab mixed Tryz.func140 (by kernel_rfl) [.call [] [] (one (.int .i64 x1)) [], .call [(0, true)] [] (.tup []) [some ⟨true, .ints .i64 x2⟩]] [] [0] (nd (math_bits.Len.spec (IntKind.u64.wrap (a0.length : Int)) _ e1) (nd (slices.pdqsortOrdered_int.spec K a0 0 (a0.length : Int) x1 _ e2) trivial)) (by kernel_rfl)
def impl.lives.f (K : Nat) (a0 : List ByteArray) (a1 : List Int) (a2 : List Int) (a3 : Int) (a4 : Int) : Option ((List Int) × Nat) :=
  Option.bind (impl.lives.l0.f a0 a1 a2 a4 K [] 0) fun x1 => Option.bind (slices.Sort_int_int.f K x1) fun x2 => some (x2, x1.length)
theorem impl.lives.spec (K : Nat) (a0 : List ByteArray) (a1 : List Int) (a2 : List Int) (a3 : Int) (a4 : Int) (o : (List Int) × Nat) (h : impl.lives.f K a0 a1 a2 a3 a4 = some o) : Den.Spec Tryz.prog 124 [.v (.agg [.sl 0 0 a0.length, .sl 1 0 a1.length, .sl 2 0 a2.length, .int .i64 a3]), one (.int .i64 a4)] [some ⟨false, .strs a0⟩, some ⟨false, .ints .i64 a1⟩, some ⟨false, .ints .i64 a2⟩] (one (.sl 3 0 o.2)) [some ⟨false, .strs a0⟩, some ⟨false, .ints .i64 a1⟩, some ⟨false, .ints .i64 a2⟩, some ⟨true, .ints .i64 o.1⟩] := by
  unfold impl.lives.f at h
  obtain ⟨x1, e1, h⟩ := bind_some h
  obtain ⟨x2, e2, h⟩ := bind_some h
  obtain rfl := Option.some.inj h
  exact Den.Spec.of_walk tab mixed Tryz.func124 (by kernel_rfl) [.loop [] [1, 5, 10, 11, 12] [0, 1, 2, 4] (.exit 0) (impl.lives.l0.e0 a0 a1 a2 a4 x1), .call [(3, true)] [] (.tup []) [some ⟨true, .ints .i64 x2⟩]] [] [0, 1, 2, 3] (nd (impl.lives.l0.spec a0 a1 a2 a4 K [] 0 _ e1) (nd (slices.Sort_int_int.spec K x1 _ e2) trivial)) (by kernel_rfl)
end Go.Proofs.YtmodnnokcmabhaaGreat.GFnFlash
