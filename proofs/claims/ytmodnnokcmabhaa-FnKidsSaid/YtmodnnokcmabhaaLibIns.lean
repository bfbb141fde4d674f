/- slices.Delete and slices.Insert at numbers and texts: what the reckoner is told of them. No condition. -/
import Derived.Test.YtmodnnokcmabhaaDenIns
import Derived.Test.YtmodnnokcmabhaaProg
import Derived.Shelf.Slices.Cells
import Derived.Shelf.Spec.SlicesInsert
import Derived.Shelf.Spec.SlicesInsertGrow
namespace Go.Proofs.Ytmodnnokcmabhaa.LibIns
open Go Go.RowKit Go.Proofs Go.Shelf Go.Proofs.Ytmodnnokcmabhaa.Den
set_option linter.unusedVariables false
set_option linter.unusedSimpArgs false
def rf : Nat → Nat
  | 0 => 0
  | 1 => 1
  | 2 => 2
  | 15 => 100
  | 16 => 99
  | 17 => 133
  | 21 => 66
  | 22 => 65
  | 23 => 58
  | 24 => 57
  | 27 => 104
  | 28 => 105
  | 29 => 102
  | 30 => 103
  | 35 => 124
  | 36 => 123
  | 39 => 134
  | 40 => 150
  | 41 => 151
  | 42 => 152
  | 43 => 153
  | 44 => 154
  | 45 => 155
  | 46 => 156
  | 47 => 157
  | 48 => 158
  | 49 => 159
  | 50 => 160
  | 51 => 161
  | 52 => 162
  | 53 => 163
  | 54 => 164
  | 55 => 165
  | _ => 0
def rt : Nat → Nat
  | 0 => 0
  | 1 => 1
  | 2 => 2
  | 3 => 3
  | 4 => 4
  | 5 => 5
  | 6 => 6
  | 7 => 7
  | 8 => 8
  | 9 => 9
  | 10 => 10
  | 11 => 11
  | 12 => 12
  | 13 => 13
  | 14 => 14
  | 15 => 15
  | 16 => 16
  | 17 => 17
  | 18 => 18
  | 19 => 19
  | 20 => 20
  | 21 => 21
  | 22 => 23
  | 23 => 76
  | 24 => 22
  | 25 => 75
  | 26 => 134
  | 28 => 82
  | 29 => 80
  | 30 => 81
  | 32 => 79
  | 36 => 42
  | 37 => 109
  | 38 => 41
  | 39 => 108
  | 40 => 125
  | 42 => 104
  | 44 => 88
  | 45 => 135
  | 46 => 96
  | 47 => 160
  | 48 => 161
  | 49 => 162
  | 50 => 163
  | 51 => 164
  | 52 => 95
  | 53 => 136
  | 54 => 165
  | 55 => 166
  | 56 => 167
  | 57 => 168
  | 58 => 169
  | 59 => 170
  | 60 => 171
  | 61 => 172
  | 62 => 173
  | _ => 0
def rn : Ren := ⟨rf, rt, fun x => x⟩
theorem la {P : Program} {t : TypeId} {d : TypeDesc} (h : P.underlying t = some d) (hd : (match d with | .struct _ | .array _ _ => true | _ => false) = false) : ∀ w, (isAgg t).run P w = .ok false w := by
  intro w
  rw [← hd]; cases d <;> simp [Go.isAgg, run_underlying h]
theorem lz {P : Program} {t : TypeId} (h : (P.info? t).map (·.size) = some 1) : ∀ w, (Go.sizeOf t).run P w = .ok 1 w := by
  intro w
  cases hi : P.info? t with
  | none => rw [hi] at h; cases h
  | some i => rw [hi] at h; simp only [Option.map_some, Option.some.injEq] at h; simp [Go.sizeOf, typeInfo, hi, h]
theorem lv {P : Program} {t : TypeId} {z : Value} (h : (P.info? t).map (·.zero) = some (some z)) : ∀ w, (zeroValue t).run P w = .ok z w := by
  intro w
  cases hi : P.info? t with
  | none => rw [hi] at h; cases h
  | some i => rw [hi] at h; simp only [Option.map_some, Option.some.injEq] at h; simp [zeroValue, typeInfo, hi, h]
theorem l23 : Lays2.n23 Try.prog rn where
  mixed := by kernel_rfl
  f23 := by kernel_rfl
  t0 := by kernel_rfl
  a0 := la (d := TypeDesc.tuple #[]) (by kernel_rfl) rfl
  z0 := lz (by kernel_rfl)
  v0 := lv (by kernel_rfl)
  t3 := by kernel_rfl
  a3 := la (d := TypeDesc.int IntKind.i64) (by kernel_rfl) rfl
  z3 := lz (by kernel_rfl)
  v3 := lv (by kernel_rfl)
  t4 := by kernel_rfl
  a4 := la (d := TypeDesc.bool) (by kernel_rfl) rfl
  z4 := lz (by kernel_rfl)
  v4 := lv (by kernel_rfl)
  t22 := by kernel_rfl
  a22 := la (d := TypeDesc.slice (rn.t 3)) (by kernel_rfl) rfl
  z22 := lz (by kernel_rfl)
  v22 := lv (by kernel_rfl)
  i3 := by kernel_rfl
theorem l24 : Lays2.n24 Try.prog rn where
  mixed := by kernel_rfl
  f24 := by kernel_rfl
  t0 := by kernel_rfl
  a0 := la (d := TypeDesc.tuple #[]) (by kernel_rfl) rfl
  z0 := lz (by kernel_rfl)
  v0 := lv (by kernel_rfl)
  t3 := by kernel_rfl
  a3 := la (d := TypeDesc.int IntKind.i64) (by kernel_rfl) rfl
  z3 := lz (by kernel_rfl)
  v3 := lv (by kernel_rfl)
  t4 := by kernel_rfl
  a4 := la (d := TypeDesc.bool) (by kernel_rfl) rfl
  z4 := lz (by kernel_rfl)
  v4 := lv (by kernel_rfl)
  t9 := by kernel_rfl
  a9 := la (d := TypeDesc.string) (by kernel_rfl) rfl
  z9 := lz (by kernel_rfl)
  v9 := lv (by kernel_rfl)
  t24 := by kernel_rfl
  a24 := la (d := TypeDesc.slice (rn.t 9)) (by kernel_rfl) rfl
  z24 := lz (by kernel_rfl)
  v24 := lv (by kernel_rfl)
  i9 := by kernel_rfl
theorem l21 : Lays2.n21 Try.prog rn where
  mixed := by kernel_rfl
  f21 := by kernel_rfl
  f27 := by kernel_rfl
  f28 := by kernel_rfl
  f35 := by kernel_rfl
  f39 := by kernel_rfl
  t0 := by kernel_rfl
  a0 := la (d := TypeDesc.tuple #[]) (by kernel_rfl) rfl
  z0 := lz (by kernel_rfl)
  v0 := lv (by kernel_rfl)
  t3 := by kernel_rfl
  a3 := la (d := TypeDesc.int IntKind.i64) (by kernel_rfl) rfl
  z3 := lz (by kernel_rfl)
  v3 := lv (by kernel_rfl)
  t4 := by kernel_rfl
  a4 := la (d := TypeDesc.bool) (by kernel_rfl) rfl
  z4 := lz (by kernel_rfl)
  v4 := lv (by kernel_rfl)
  t22 := by kernel_rfl
  a22 := la (d := TypeDesc.slice (rn.t 3)) (by kernel_rfl) rfl
  z22 := lz (by kernel_rfl)
  v22 := lv (by kernel_rfl)
  i3 := by kernel_rfl
theorem l22 : Lays2.n22 Try.prog rn where
  mixed := by kernel_rfl
  f17 := by kernel_rfl
  f22 := by kernel_rfl
  f29 := by kernel_rfl
  f30 := by kernel_rfl
  f36 := by kernel_rfl
  t0 := by kernel_rfl
  a0 := la (d := TypeDesc.tuple #[]) (by kernel_rfl) rfl
  z0 := lz (by kernel_rfl)
  v0 := lv (by kernel_rfl)
  t3 := by kernel_rfl
  a3 := la (d := TypeDesc.int IntKind.i64) (by kernel_rfl) rfl
  z3 := lz (by kernel_rfl)
  v3 := lv (by kernel_rfl)
  t4 := by kernel_rfl
  a4 := la (d := TypeDesc.bool) (by kernel_rfl) rfl
  z4 := lz (by kernel_rfl)
  v4 := lv (by kernel_rfl)
  t9 := by kernel_rfl
  a9 := la (d := TypeDesc.string) (by kernel_rfl) rfl
  z9 := lz (by kernel_rfl)
  v9 := lv (by kernel_rfl)
  t24 := by kernel_rfl
  a24 := la (d := TypeDesc.slice (rn.t 9)) (by kernel_rfl) rfl
  z24 := lz (by kernel_rfl)
  v24 := lv (by kernel_rfl)
  i9 := by kernel_rfl
theorem ok {f : FuncId} {fn : Func} (h : Try.prog.funcs[f]? = some fn) (hok : (!(fn.name == "runtime.NumGoroutine") && fn.body.isSome) = true) : FnOk Try.prog f := by
  simp only [Bool.and_eq_true, Bool.not_eq_true'] at hok
  exact ⟨fn, h, hok.1, hok.2⟩
theorem vI (l : List Int) : (Data.ints .i64 l).vals = l.map (Value.int .i64) := by simp [Data.vals, Data.flat, C.val, Function.comp_def]
theorem vS (l : List ByteArray) : (Data.strs l).vals = l.map Value.string := by simp [Data.vals, Data.flat, C.val, Function.comp_def]
theorem strs_of (l : List ByteArray) : (Lib.strsOf (fun i => l.getD i noVal) l.length).map encStr = l.map Value.string := by
  unfold Lib.strsOf
  rw [List.map_map]
  apply List.ext_getElem?
  intro i
  by_cases h : i < l.length
  · simp [h]
  · rw [List.getElem?_eq_none (by simp; omega), List.getElem?_eq_none (by simp; omega)]
theorem delI (a0 : List Int) (a1 a2 : Int) (h0 : 0 ≤ a1) (h1 : a1 ≤ a2) (h2 : a2 ≤ (a0.length : Int)) (h3 : 0 < a0.length) :
    Den.Spec Try.prog 58 [one (.sl 0 0 a0.length), one (.int .i64 a1), one (.int .i64 a2)] [some ⟨true, .ints .i64 a0⟩] (one (.sl 0 0 (a0.take a1.toNat ++ a0.drop a2.toNat).length)) [some ⟨true, .ints .i64 (a0.take a1.toNat ++ a0.drop a2.toNat)⟩] := by
  obtain ⟨i, rfl⟩ := Int.eq_ofNat_of_zero_le h0
  obtain ⟨j, rfl⟩ := Int.eq_ofNat_of_zero_le (Int.le_trans h0 h1)
  refine Spec.delete (d := .ints .i64 a0) (r := .ints .i64 (a0.take i ++ a0.drop j)) (z := (.int .i64 0)) (ok Try.func58 (by kernel_rfl)) rfl rfl rfl rfl rfl (by omega) (by show j ≤ a0.length; omega) h3 (by simp only [vI, List.map_append, List.map_take, List.map_drop]) ?_
  · intro b off c w g1 g2 g3 g4
    have h := Any.slices_Delete_int_cells l23 b off a0.length c i j a0 w (Nat.le_refl _) (by simpa [vI] using g1) g2 (by omega) (by omega) (fun t ht => g3 t _ (by rw [vI, List.getElem?_map, List.getElem?_eq_getElem ht, List.getD_eq_getElem?_getD, List.getElem?_eq_getElem ht]; rfl)) (fun t ht => g4 t (by rw [vI, List.length_map]; exact ht))
    rw [List.take_of_length_le (Nat.le_refl _)] at h
    simp only [List.map_append, List.map_take, List.map_drop, List.map_replicate] at h
    rw [vI, List.length_map]
    exact h
theorem delS (a0 : List ByteArray) (a1 a2 : Int) (h0 : 0 ≤ a1) (h1 : a1 ≤ a2) (h2 : a2 ≤ (a0.length : Int)) (h3 : 0 < a0.length) :
    Den.Spec Try.prog 57 [one (.sl 0 0 a0.length), one (.int .i64 a1), one (.int .i64 a2)] [some ⟨true, .strs a0⟩] (one (.sl 0 0 (a0.take a1.toNat ++ a0.drop a2.toNat).length)) [some ⟨true, .strs (a0.take a1.toNat ++ a0.drop a2.toNat)⟩] := by
  obtain ⟨i, rfl⟩ := Int.eq_ofNat_of_zero_le h0
  obtain ⟨j, rfl⟩ := Int.eq_ofNat_of_zero_le (Int.le_trans h0 h1)
  refine Spec.delete (d := .strs a0) (r := .strs (a0.take i ++ a0.drop j)) (z := (.string ⟨#[]⟩)) (ok Try.func57 (by kernel_rfl)) rfl rfl rfl rfl rfl (by omega) (by show j ≤ a0.length; omega) h3 (by simp only [vS, List.map_append, List.map_take, List.map_drop]) ?_
  · intro b off c w g1 g2 g3 g4
    have h := Any.slices_Delete_string_cells l24 b off a0.length c i j (fun i => a0.getD i noVal) w (by simpa [vS] using g1) g2 (by omega) (by omega) (fun t ht => g3 t _ (by rw [vS, List.getElem?_map, List.getElem?_eq_getElem ht, List.getD_eq_getElem?_getD, List.getElem?_eq_getElem ht]; rfl)) (fun t ht => g4 t (by rw [vS, List.length_map]; exact ht))
    simp only [List.map_append, List.map_take, List.map_drop, List.map_replicate, strs_of] at h
    rw [vS, List.length_map]
    exact h
theorem insI (a0 : List Int) (a1 : Int) (a2 : List Int) (h0 : 0 ≤ a1) (h1 : a1 ≤ (a0.length : Int)) (h2 : 0 < a2.length) (h3 : (a0.length + a2.length) * 8 ≤ 140737488355328) :
    Den.Spec Try.prog 66 [one (.sl 0 0 a0.length), one (.int .i64 a1), one (.sl 1 0 a2.length)] [some ⟨true, .ints .i64 a0⟩, some ⟨true, .ints .i64 a2⟩] (one (.sl 2 0 (a0.take a1.toNat ++ (a2 ++ a0.drop a1.toNat)).length)) [none, some ⟨true, .ints .i64 a2⟩, some ⟨true, .ints .i64 (a0.take a1.toNat ++ (a2 ++ a0.drop a1.toNat))⟩] := by
  obtain ⟨i, rfl⟩ := Int.eq_ofNat_of_zero_le h0
  have hI : InsOk Try.prog 66 (rn.t 3) (.int .i64 0) 8 :=
    ⟨Any2.slices_Insert_int_shift l21, Any2.slices_Insert_int_end_room l21, Any2.slices_Insert_int_end_grow l21, Any2.slices_Insert_int_grow l21⟩
  exact Spec.insert (d := .ints .i64 a0) (v := .ints .i64 a2) (r := .ints .i64 (a0.take i ++ (a2 ++ a0.drop i))) (ok Try.func66 (by kernel_rfl)) hI rfl (by decide) rfl rfl rfl rfl rfl rfl rfl rfl (by show i ≤ a0.length; omega) h2 h3 (by simp only [vI, List.map_append, List.map_take, List.map_drop])
theorem insS (a0 : List ByteArray) (a1 : Int) (a2 : List ByteArray) (h0 : 0 ≤ a1) (h1 : a1 ≤ (a0.length : Int)) (h2 : 0 < a2.length) (h3 : (a0.length + a2.length) * 16 ≤ 140737488355328) :
    Den.Spec Try.prog 65 [one (.sl 0 0 a0.length), one (.int .i64 a1), one (.sl 1 0 a2.length)] [some ⟨true, .strs a0⟩, some ⟨true, .strs a2⟩] (one (.sl 2 0 (a0.take a1.toNat ++ (a2 ++ a0.drop a1.toNat)).length)) [none, some ⟨true, .strs a2⟩, some ⟨true, .strs (a0.take a1.toNat ++ (a2 ++ a0.drop a1.toNat))⟩] := by
  obtain ⟨i, rfl⟩ := Int.eq_ofNat_of_zero_le h0
  have hI : InsOk Try.prog 65 (rn.t 9) (.string ⟨#[]⟩) 16 :=
    ⟨Any2.slices_Insert_string_shift l22, Any2.slices_Insert_string_end_room l22, Any2.slices_Insert_string_end_grow l22, Any2.slices_Insert_string_grow l22⟩
  exact Spec.insert (d := .strs a0) (v := .strs a2) (r := .strs (a0.take i ++ (a2 ++ a0.drop i))) (ok Try.func65 (by kernel_rfl)) hI rfl (by decide) rfl rfl rfl rfl rfl rfl rfl rfl (by show i ≤ a0.length; omega) h2 h3 (by simp only [vS, List.map_append, List.map_take, List.map_drop])
end Go.Proofs.Ytmodnnokcmabhaa.LibIns
