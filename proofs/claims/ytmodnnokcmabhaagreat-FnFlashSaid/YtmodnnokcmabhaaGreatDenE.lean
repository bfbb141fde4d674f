/- Each step that the reckoner takes is the model's step: addresses, slices, loads, stores, new rows. -/
import Derived.Test.YtmodnnokcmabhaaGreatDenD
namespace Go.Proofs.YtmodnnokcmabhaaGreat.Den
open Go Go.RowKit
set_option linter.unusedSimpArgs false
set_option linter.unusedVariables false
variable {P : Program} {tb : TypeId → Option Ty} {B : Nat → Prop} {w0 w w' : World} {ρ ρ' : Rho} {fh fh' : Nat → Option Row} {fr : Nat} {ev : Operand → AV} {ee : Operand → Value}

theorem add_lit (b o n : Nat) : (⟨b, o, none⟩ : Addr).add n = ⟨b, o + n, none⟩ := by
  unfold Addr.add
  split
  · rename_i h; rw [h]; rfl
  · rfl
theorem exec_val {o : Oper} {s : Sem Value} {v : Value} {w w' : World} (h : execOp ee o = (do pure (.value (← s)))) (hr : s.run P w = .ok v w') : (execOp ee o).run P w = .ok (.value v) w' := by
  rw [h]; simp [Sem.run_bind, hr]
theorem exec_unit {o : Oper} {s : Sem Unit} {w w' : World} (h : execOp ee o = (do s; pure .skip)) (hr : s.run P w = .ok () w') : (execOp ee o).run P w = .ok .skip w' := by
  rw [h]; simp [Sem.run_bind, hr]

theorem pick_sound {o : Oper} {c a b : Operand} (ho : o.op = .pick c a b) {t b' : Bool} (hc : ee c = .bool t) (ht : t = b') {av : AV} (hv : AVR ρ av (if b' then ee a else ee b)) (hs : Sim B w0 ρ w fh) {ps : List Prop} : Good P o ee w (Res B w0 ρ fh fr (ef0 av ps)) := by
  refine .val (v := if b' then ee a else ee b) (w' := w) ?_ (.same hs hv)
  subst ht
  unfold execOp
  simp only [ho, hc]
  cases t <;> simp [asBool]

theorem field_sound {o : Oper} {s : TypeId} {x : Operand} {f : Nat} (ho : o.op = .fieldAddr s x f) {y : Ty} (hy : TyOk P s y) {fs : List (Nat × Nat)} (hk : y.k = .st fs) {off n : Nat} (hf : fs[f]? = some (off, n)) (hn : n ≠ 0)
    {l i j : Nat} (hx : CR ρ (.ptr l i j) (ee x)) (hs : Sim B w0 ρ w fh) {ps : List Prop} : Good P o ee w (Res B w0 ρ fh fr (ef0 (one (.ptr l i (j + off))) ps)) := by
  obtain ⟨lc, hlc, hv⟩ := hx
  obtain ⟨d, hd, _, hk'⟩ := hy.und
  rw [hk] at hk'
  obtain ⟨gs, rfl, hl, hg⟩ := hk'
  have hfl : f < gs.size := by rw [hl]; exact (List.getElem?_eq_some_iff.1 hf).1
  obtain ⟨q, hq, he, _⟩ := hg f gs[f] (Array.getElem?_eq_getElem hfl)
  rw [hf] at he
  simp only [Option.some.injEq, Prod.mk.injEq] at he
  obtain ⟨rfl, rfl⟩ := he
  refine .val (v := .pointer (some ⟨lc.b, lc.o + i * lc.sz + (j + gs[f].offset), none⟩)) (w' := w) (exec_val (s := Instr.fieldAt s (ee x) f) (by unfold execOp; simp only [ho]) ?_) (.same hs ⟨lc, hlc, rfl⟩)
  rw [hv]
  have hadd : (⟨lc.b, lc.o + i * lc.sz + j, none⟩ : Addr).add gs[f].offset = ⟨lc.b, lc.o + i * lc.sz + (j + gs[f].offset), none⟩ := by
    rw [add_lit, Nat.add_assoc]
  have hgf : gs[f]? = some gs[f] := Array.getElem?_eq_getElem hfl
  simp [Instr.fieldAt, run_underlying hd, hgf, Instr.sureAddr, fieldPlace, sizeOf, typeInfo, hq, hn, hadd]

theorem CsR.window {cs : List C} {us : List Value} (h : CsR ρ cs us) {off n : Nat} (hn : off + n ≤ cs.length) : CsR ρ ((cs.drop off).take n) ((us.drop off).take n) := by
  obtain ⟨h1, h2⟩ := h.get
  refine CsR.mk (by simp [h1]) (fun i c hc => ?_)
  rw [List.getElem?_take] at hc ⊢
  split at hc
  · rename_i hi
    rw [List.getElem?_drop] at hc ⊢
    rw [if_pos hi]
    exact h2 _ _ hc
  · cases hc
theorem fieldV_sound {o : Oper} {t : TypeId} {x : Operand} {f : Nat} (ho : o.op = .field t x f) {y : Ty} (hy : TyOk P t y) {fs : List (Nat × Nat)} (hk : y.k = .st fs) {off n : Nat} (hf : fs[f]? = some (off, n))
    {cs : List C} (hx : AVR ρ (.v (.agg cs)) (ee x)) (hs : Sim B w0 ρ w fh) {av : AV} (hav : (n = 1 ∧ ∃ c, cs[off]? = some c ∧ av = one c) ∨ (n ≠ 1 ∧ off + n ≤ cs.length ∧ av = .v (.agg ((cs.drop off).take n)))) {ps : List Prop} : Good P o ee w (Res B w0 ρ fh fr (ef0 av ps)) := by
  obtain ⟨us, hus, hcs⟩ := hx
  obtain ⟨d, hd, _, hk'⟩ := hy.und
  rw [hk] at hk'
  obtain ⟨gs, rfl, hl, hg⟩ := hk'
  have hfl : f < gs.size := by rw [hl]; exact (List.getElem?_eq_some_iff.1 hf).1
  have hgf : gs[f]? = some gs[f] := Array.getElem?_eq_getElem hfl
  obtain ⟨q, hq, he, hag⟩ := hg f gs[f] hgf
  rw [hf] at he
  simp only [Option.some.injEq, Prod.mk.injEq] at he
  obtain ⟨rfl, rfl⟩ := he
  have hagg : ∀ w, (isAgg gs[f].type).run P w = .ok (!(Nat.beq q.size 1)) w := by
    intro w
    unfold aggT at hag
    split at hag
    · rename_i d2 hu
      rw [← Option.some.inj hag]
      cases d2 <;> simp [Go.isAgg, run_underlying hu]
    · cases hag
  have hsz : ∀ w, (sizeOf gs[f].type).run P w = .ok q.size w := fun w => by simp [sizeOf, typeInfo, hq]
  rcases hav with ⟨h1, c, hc, rfl⟩ | ⟨h1, h2, rfl⟩
  · obtain ⟨u, hu, hr⟩ := (hcs.get).2 _ _ hc
    have hu' : us[gs[f].offset]? = some u := by simpa using hu
    refine .val (v := u) (w' := w) (exec_val (s := Instr.field t (ee x) f) (by unfold execOp; simp only [ho]) ?_) (.same hs hr)
    have hb : (isAgg gs[f].type).run P w = .ok false w := by rw [hagg, h1]; rfl
    rw [hus]
    simp [Instr.field, run_underlying hd, hgf, asAgg, part, Sem.run_bind, hb, hu']
  · refine .val (v := .agg (us.extract gs[f].offset (gs[f].offset + q.size))) (w' := w) (exec_val (s := Instr.field t (ee x) f) (by unfold execOp; simp only [ho]) ?_) (.same hs ⟨_, rfl, ?_⟩)
    · have hb : (isAgg gs[f].type).run P w = .ok true w := by
        rw [hagg]
        have : Nat.beq q.size 1 = false := by
          cases hb : Nat.beq q.size 1
          · rfl
          · exact absurd (Nat.eq_of_beq_eq_true hb) h1
        rw [this]; rfl
      rw [hus]
      simp [Instr.field, run_underlying hd, hgf, asAgg, part, Sem.run_bind, hb, hsz]
    · have := hcs.window h2
      have e : (us.extract gs[f].offset (gs[f].offset + q.size)).toList = (us.toList.drop gs[f].offset).take q.size := by
        rw [Array.toList_extract]
        simp [List.extract_eq_take_drop]
      rw [e]; exact this
theorem indexAddr_sound {o : Oper} {t : TypeId} {x ix : Operand} (ho : o.op = .indexAddr t x ix) {yt y : Ty} (hyt : TyOk P t yt) {e : TypeId} (hk : yt.k = .sl e) (hy : TyOk P e y) {l off len : Nat} {r : Row} (hr : fh l = some r) (hz : y.sz = r.d.sz)
    {k : IntKind} {i : Int} (hx : CR ρ (.sl l off len) (ee x)) (hi : ee ix = .int k i) (h0 : 0 ≤ i) (h1 : i < (len : Int)) (hs : Sim B w0 ρ w fh) {ps : List Prop} {rd : List Nat} : Good P o ee w (Res B w0 ρ fh fr ⟨one (.ptr l (off + i.toNat) 0), [], 0, rd, ps⟩) := by
  obtain ⟨lc, hlc, A, cap, hv, hcap, hA⟩ := hx
  obtain ⟨lc', hlc', hrow, _⟩ := hs.row l r hr
  rw [hlc] at hlc'
  obtain rfl := Option.some.inj hlc'
  rcases hA with ⟨rfl, _⟩ | ⟨h, _⟩
  case inr => omega
  obtain ⟨d, hd, _, hk'⟩ := hyt.und
  rw [hk] at hk'
  subst hk'
  refine .val (v := .pointer (some ⟨lc.b, lc.o + (off + i.toNat) * lc.sz + 0, none⟩)) (w' := w) (exec_val (s := Instr.indexAt t (ee x) (ee ix)) (by unfold execOp; simp only [ho]) ?_) (.same hs ⟨lc, hlc, rfl⟩)
  have hadd : (⟨lc.b, lc.o + off * lc.sz, none⟩ : Addr).add (i.toNat * y.sz) = ⟨lc.b, lc.o + (off + i.toNat) * lc.sz + 0, none⟩ := by
    rw [hz, ← hrow.1, Nat.add_mul, add_lit, Nat.add_assoc, Nat.add_zero]
  rw [hv, hi]
  simp [Instr.indexAt, asIntOf, run_underlying hd, hy.size, h0, h1, hadd]

theorem indexS_sound {o : Oper} {t : TypeId} {x ix : Operand} (ho : o.op = .index t x ix) (hd : P.underlying t = some .string) {s : ByteArray} {k : IntKind} {i : Int} (hx : ee x = .string s) (hi : ee ix = .int k i) (h0 : 0 ≤ i) (h1 : i < (s.size : Int)) (hs : Sim B w0 ρ w fh) {ps : List Prop} :
    Good P o ee w (Res B w0 ρ fh fr (ef0 (one (.int .u8 (byteAt s i))) ps)) := by
  have hlt : i.toNat < s.size := by omega
  have hb : s[i.toNat]? = some (s[i.toNat]'hlt) := by simp [hlt]
  refine .val (v := .int .u8 ((s[i.toNat]'hlt).toNat : Int)) (w' := w) (exec_val (s := Instr.index t (ee x) (ee ix)) (by unfold execOp; simp only [ho]) ?_) (.same hs ?_)
  · rw [hx, hi]
    simp [Instr.index, asIntOf, run_underlying hd, h0, hb]
  · show _ = Value.int .u8 (byteAt s i)
    have : s.data.toList.getD i.toNat 0 = s[i.toNat]'hlt := by
      have hlt' : i.toNat < s.data.toList.length := by simpa using hlt
      rw [List.getD_eq_getElem?_getD, List.getElem?_eq_getElem hlt']
      rfl
    rw [byteAt, this]

/-! ### loads -/
theorem cell_of_row {r : Row} {lc : Lc} (h : RowR ρ w r lc) {i : Nat} {c : C} (hi : r.d.flat[i]? = some c) : ∃ v, w.cell? ⟨lc.b, lc.o + i, none⟩ = some v ∧ CR ρ c v := h.2.2.1 i c hi
theorem getD_some {α : Type} {l : List α} {i : Nat} {d : α} (h : i < l.length) : l[i]? = some (l.getD i d) := by
  rw [List.getElem?_eq_getElem h, List.getD_eq_getElem?_getD, List.getElem?_eq_getElem h]; rfl
theorem flatMap_at {α : Type} (f : α → List C) (n : Nat) (hf : ∀ x, (f x).length = n) : ∀ (l : List α) (i j : Nat) (d : α), i < l.length → j < n → (l.flatMap f)[i * n + j]? = (f (l.getD i d))[j]?
  | [], i, j, d, h, _ => by simp at h
  | x :: r, 0, j, d, h, hj => by
    rw [List.flatMap_cons, Nat.zero_mul, Nat.zero_add, List.getElem?_append_left (by rw [hf]; exact hj)]; rfl
  | x :: r, i + 1, j, d, h, hj => by
    rw [List.flatMap_cons, List.getElem?_append_right (by rw [hf, Nat.add_mul]; omega), hf]
    have : (i + 1) * n + j - n = i * n + j := by rw [Nat.add_mul]; omega
    rw [this]
    exact flatMap_at f n hf r i j d (by simpa using h) hj
theorem get_flat {d : Data} {i j : Nat} {c : C} {ps : List Prop} (h : d.get i j = some (c, ps)) (hp : allP ps) : d.flat[i * d.sz + j]? = some c := by
  unfold Data.get at h
  split at h <;> first | (cases h; done) | skip
  all_goals try (simp only [Option.some.injEq, Prod.mk.injEq] at h; obtain ⟨rfl, rfl⟩ := h; have hi := hp.1)
  · simp only [Data.flat, Data.sz, Nat.mul_one, Nat.add_zero, List.getElem?_map]; rw [getD_some hi]; rfl
  · simp only [Data.flat, Data.sz, Nat.mul_one, Nat.add_zero, List.getElem?_map]; rw [getD_some hi]; rfl
  · simp only [Data.flat, Data.sz, Nat.mul_one, Nat.add_zero, List.getElem?_map]; rw [getD_some hi]; rfl
  · simpa [Data.flat, Data.sz, encP] using flatMap_at encP 2 (fun _ => rfl) _ i 0 (0, noVal) hi (by omega)
  · simpa [Data.flat, Data.sz, encP] using flatMap_at encP 2 (fun _ => rfl) _ i 1 (0, noVal) hi (by omega)
  · simpa [Data.flat, Data.sz, encA] using flatMap_at encA 3 (fun _ => rfl) _ i 0 (0, 0, noVal) hi (by omega)
  · simpa [Data.flat, Data.sz, encA] using flatMap_at encA 3 (fun _ => rfl) _ i 1 (0, 0, noVal) hi (by omega)
  · simpa [Data.flat, Data.sz, encA] using flatMap_at encA 3 (fun _ => rfl) _ i 2 (0, 0, noVal) hi (by omega)
  · split at h
    · simp only [Option.map_eq_some_iff, Prod.mk.injEq] at h
      obtain ⟨c', h1, rfl, rfl⟩ := h
      simpa [Data.flat, Data.sz] using h1
    · cases h
  · simp only [Option.map_eq_some_iff, Prod.mk.injEq] at h
    obtain ⟨c', h1, rfl, rfl⟩ := h
    simpa [Data.flat, Data.sz] using h1
theorem gets_flat {d : Data} {i j n : Nat} {cs : List C} {ps : List Prop} (h : d.gets i j n = some (cs, ps)) (hp : allP ps) : cs.length = n ∧ ∀ (q : Nat) (c : C), cs[q]? = some c → d.flat[i * d.sz + j + q]? = some c := by
  unfold Data.gets at h
  split at h
  · split at h
    · rename_i hc
      simp only [Bool.and_eq_true, beq_iff_eq] at hc
      obtain ⟨rfl, rfl⟩ := hc
      simp only [Option.some.injEq, Prod.mk.injEq] at h
      obtain ⟨rfl, rfl⟩ := h
      refine ⟨rfl, fun q c hq => ?_⟩
      have hql : q < 2 := (List.getElem?_eq_some_iff.1 hq).1
      simp only [Data.flat, Data.sz, Nat.add_zero]
      rw [flatMap_at encP 2 (fun _ => rfl) _ i q (0, noVal) hp.1 hql]
      exact hq
    · cases h
  · split at h
    · rename_i hc
      simp only [Bool.and_eq_true, beq_iff_eq] at hc
      obtain ⟨rfl, rfl⟩ := hc
      simp only [Option.some.injEq, Prod.mk.injEq] at h
      obtain ⟨rfl, rfl⟩ := h
      refine ⟨rfl, fun q c hq => ?_⟩
      have hql : q < 3 := (List.getElem?_eq_some_iff.1 hq).1
      simp only [Data.flat, Data.sz, Nat.add_zero]
      rw [flatMap_at encA 3 (fun _ => rfl) _ i q (0, 0, noVal) hp.1 hql]
      exact hq
    · cases h
  · split at h
    · split at h
      · cases h
      · rename_i hl
        simp only [Option.some.injEq, Prod.mk.injEq] at h
        obtain ⟨rfl, rfl⟩ := h
        refine ⟨by rw [List.length_take]; omega, fun q c hq => ?_⟩
        simp only [Data.flat, Nat.zero_mul, Nat.zero_add]
        rw [List.getElem?_take] at hq
        split at hq
        · rw [List.getElem?_drop] at hq; exact hq
        · cases hq
    · cases h
  · cases h
theorem run_load_one {t : TypeId} {pv : Value} {y : Ty} (hy : TyOk P t y) (ha : y.agg = false) {l i j : Nat} {r : Row} (hr : fh l = some r) (hx : CR ρ (.ptr l i j) pv) {c : C} {ps : List Prop} (hg : r.d.get i j = some (c, ps)) (hp : allP ps) (hs : Sim B w0 ρ w fh) : ∃ v, (Instr.loadAt t pv).run P w = .ok v w ∧ CR ρ c v := by
  obtain ⟨lc, hlc, hv⟩ := hx
  obtain ⟨lc', hlc', hrow, _⟩ := hs.row l r hr
  rw [hlc] at hlc'
  obtain rfl := Option.some.inj hlc'
  obtain ⟨v, h1, h2⟩ := cell_of_row hrow (get_flat hg hp)
  rw [← hrow.1] at h1
  have h1' : w.cell? ⟨lc.b, lc.o + i * lc.sz + j, none⟩ = some v := by rw [Nat.add_assoc]; exact h1
  refine ⟨v, ?_, h2⟩
  rw [hv]
  simp [Instr.loadAt, Instr.sureAddr, loadVar, hy.isAgg, ha, h1']
theorem run_load_agg {t : TypeId} {pv : Value} {y : Ty} (hy : TyOk P t y) (ha : y.agg = true) {l i j : Nat} {r : Row} (hr : fh l = some r) (hx : CR ρ (.ptr l i j) pv) {cs : List C} {ps : List Prop} (hg : r.d.gets i j y.sz = some (cs, ps)) (hp : allP ps) (hs : Sim B w0 ρ w fh) : ∃ v, (Instr.loadAt t pv).run P w = .ok v w ∧ VR ρ (.agg cs) v := by
  obtain ⟨lc, hlc, hv⟩ := hx
  obtain ⟨lc', hlc', hrow, _⟩ := hs.row l r hr
  rw [hlc] at hlc'
  obtain rfl := Option.some.inj hlc'
  obtain ⟨hl, hg'⟩ := gets_flat hg hp
  have key : ∀ q, q < cs.length → ∃ v, w.cell? ⟨lc.b, lc.o + i * lc.sz + j + q, none⟩ = some v ∧ ∀ c, cs[q]? = some c → CR ρ c v := by
    intro q hq
    obtain ⟨v, h1, h2⟩ := cell_of_row hrow (hg' q _ (List.getElem?_eq_getElem hq))
    rw [← hrow.1] at h1
    refine ⟨v, by rw [show lc.o + i * lc.sz + j + q = lc.o + (i * lc.sz + j + q) by omega]; exact h1, fun c hc => ?_⟩
    rw [List.getElem?_eq_getElem hq] at hc
    obtain rfl := Option.some.inj hc
    exact h2
  obtain ⟨us, hul, hus⟩ : ∃ us : List Value, us.length = cs.length ∧ ∀ q u, us[q]? = some u → w.cell? ⟨lc.b, lc.o + i * lc.sz + j + q, none⟩ = some u := by
    refine ⟨(List.range cs.length).map fun q => (w.cell? ⟨lc.b, lc.o + i * lc.sz + j + q, none⟩).getD undef, by simp, fun q u hq => ?_⟩
    rw [List.getElem?_map] at hq
    by_cases hql : q < cs.length
    · obtain ⟨v, h1, _⟩ := key q hql
      simp [hql, h1] at hq
      rw [h1, ← hq]
    · simp [hql] at hq
  refine ⟨.agg us.toArray, ?_, _, rfl, CsR.mk (by simpa using hul) (fun q c hc => ?_)⟩
  · rw [hv]
    have hld := run_loadCells_list (P := P) w ⟨lc.b, lc.o + i * lc.sz + j, none⟩ us (fun q u hq => by rw [add_lit]; exact hus q u hq)
    rw [hul, hl] at hld
    simp [Instr.loadAt, Instr.sureAddr, loadVar, hy.isAgg, ha, hy.size, hld]
  · have hql : q < cs.length := (List.getElem?_eq_some_iff.1 hc).1
    obtain ⟨v, h1, h2⟩ := key q hql
    have hq' : us[q]? = some (us[q]'(by omega)) := List.getElem?_eq_getElem (by omega)
    have := hus q _ hq'
    rw [h1] at this
    exact ⟨v, by simpa using hq'.trans this.symm, h2 c hc⟩
theorem load_one {o : Oper} {t : TypeId} {a : Operand} (ho : o.op = .load t a) {y : Ty} (hy : TyOk P t y) (ha : y.agg = false) {l i j : Nat} {r : Row} (hr : fh l = some r) (hx : CR ρ (.ptr l i j) (ee a)) {c : C} {ps : List Prop} (hg : r.d.get i j = some (c, ps)) (hp : allP ps) (hs : Sim B w0 ρ w fh) {rd : List Nat} :
    Good P o ee w (Res B w0 ρ fh fr ⟨one c, [], 0, rd, ps⟩) := by
  obtain ⟨v, h1, h2⟩ := run_load_one hy ha hr hx hg hp hs
  exact .val (exec_val (s := Instr.loadAt t (ee a)) (by unfold execOp; simp only [ho]) h1) (.same hs h2)
theorem load_agg {o : Oper} {t : TypeId} {a : Operand} (ho : o.op = .load t a) {y : Ty} (hy : TyOk P t y) (ha : y.agg = true) {l i j : Nat} {r : Row} (hr : fh l = some r) (hx : CR ρ (.ptr l i j) (ee a)) {cs : List C} {ps : List Prop} (hg : r.d.gets i j y.sz = some (cs, ps)) (hp : allP ps) (hs : Sim B w0 ρ w fh) {rd : List Nat} :
    Good P o ee w (Res B w0 ρ fh fr ⟨.v (.agg cs), [], 0, rd, ps⟩) := by
  obtain ⟨v, h1, h2⟩ := run_load_agg hy ha hr hx hg hp hs
  exact .val (exec_val (s := Instr.loadAt t (ee a)) (by unfold execOp; simp only [ho]) h1) (.same hs h2)
end Go.Proofs.YtmodnnokcmabhaaGreat.Den
