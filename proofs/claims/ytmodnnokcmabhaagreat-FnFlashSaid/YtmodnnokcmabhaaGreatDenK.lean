/- Each step that the reckoner takes is the model's step: rows written out, made, converted; slices; small ones. -/
import Derived.Test.YtmodnnokcmabhaaGreatDenJ
import Derived.Laws.OwnMore
import Derived.IntWalk
namespace Go.Proofs.YtmodnnokcmabhaaGreat.Den
open Go Go.RowKit
set_option linter.unusedSimpArgs false
set_option linter.unusedVariables false
variable {P : Program} {tb : TypeId → Option Ty} {B : Nat → Prop} {w0 w w' : World} {ρ ρ' : Rho} {fh fh' : Nat → Option Row} {fr : Nat} {ev : Operand → AV} {ee : Operand → Value}

theorem avs_map (hev : ∀ x, AVR ρ (ev x) (ee x)) : ∀ l : List Operand, AVsR ρ (l.map ev) (l.map ee)
  | [] => rfl
  | x :: r => ⟨_, _, rfl, hev x, avs_map hev r⟩
theorem no_kill {fr : Nat} {r : Option Row} : (fun k => if k = fr then r else if some k = none then none else fh k) = fun k => if k = fr then r else fh k := by
  funext k; simp
theorem slice_lit {lc : Lc} {d : Data} (hb : lc.b = w.heap.size) (ho : lc.o = 0) (hn : d.len * d.sz ≤ lc.n) (hz : lc.sz = d.sz) {cap : Nat} (hc : d.len ≤ cap) (hcn : cap * d.sz ≤ lc.n) : CR (rset ρ fr lc) (.sl fr 0 d.len) (.slice (some ⟨w.heap.size, 0, none⟩) d.len cap) :=
  ⟨lc, rset_at _ _ _, _, cap, rfl, hc, .inl ⟨by rw [hb, ho]; simp, fun _ => by rw [hz]; simpa using hcn⟩⟩
theorem newT (hs : Sim B w0 ρ w fh) (hfr : rat ρ fr = none) {d : Data} (hd : d.isCells = false) {cs : Array Value} (e : TypeId) {rest : List Value} (hcs : cs.toList = d.vals ++ rest) : Sim B w0 (rset ρ fr ⟨w.heap.size, 0, cs.size, d.sz, true⟩) { w with heap := w.heap.push (.cells cs e) } (fun k => if k = fr then some ⟨true, d⟩ else fh k) := by
  have := hs.typed hfr hd hcs (grown_push w (.cells cs e) w.drawn) (push_at w (.cells cs e) w.drawn) (.inl rfl) none
  rwa [no_kill] at this
theorem buildSlice_sound {o : Oper} {t : TypeId} {n : Nat} {parts : Array (Nat × Operand)} (ho : o.op = .buildSlice t n parts) {yt y : Ty} (hyt : TyOk P t yt) {e : TypeId} (hk : yt.k = .sl e) (hy : TyOk P e y) {d : Data} (hl : lit y.dk (parts.toList.map fun p => ev p.2) = some d)
    (hn : n = parts.toList.length) (hi : parts.toList.map (·.1) = List.range n) (hb : n ≤ 1000000) (hz : y.sz = d.sz) (hev : ∀ x, AVR ρ (ev x) (ee x)) (hs : Sim B w0 ρ w fh) (hfr : rat ρ fr = none) :
    Good P o ee w (Res B w0 ρ fh fr ⟨one (.sl fr 0 d.len), [(fr, some ⟨true, d⟩)], 1, [], []⟩) := by
  obtain ⟨h1, h2, h3, h4⟩ := lit_spec (ρ := ρ) hl
  have hav : AVsR ρ (parts.toList.map fun p => ev p.2) (parts.toList.map fun p => ee p.2) := by
    have := avs_map hev (parts.toList.map (·.2))
    simpa [List.map_map, Function.comp_def] using this
  obtain ⟨h5, h6⟩ := h4 hav
  have hlen : d.len = n := by rw [h2, List.length_map, hn]
  obtain ⟨z, hzv, hzc, _⟩ := hy.zero
  have hzlen : z.cells.size = y.sz := by
    obtain ⟨i, dd, z', q1, q2, q3, q4, q5, q6, q7, q8, q9, q10⟩ := hy.1
    have : z.cells.toList.length = (y.zero.map C.val).length := by rw [hzc]
    simp at this; omega
  have hsz3 : d.sz ≤ 3 := by cases d <;> simp_all [Data.sz, Data.isCells]
  obtain ⟨dd, hd, _, hk'⟩ := hyt.und
  rw [hk] at hk'
  subst hk'
  have main : ∀ (L : Array Value), L.size = n * y.sz → ∃ cells, Instr.fill (fun i => some (i * y.sz, y.sz)) L (parts.toList.map fun p => (p.1, ee p.2)) = some cells ∧ cells.toList = d.vals := by
    intro L hL
    obtain ⟨cells, g1, g2⟩ := fill_all y.sz (parts.toList.map fun p => (p.1, ee p.2)) 0 L (fun q p hq => by
      rw [List.getElem?_map] at hq
      cases hp : parts.toList[q]? with
      | none => rw [hp] at hq; cases hq
      | some pp =>
        rw [hp] at hq
        simp only [Option.map_some, Option.some.injEq] at hq
        subst hq
        refine ⟨?_, ?_⟩
        · have : (parts.toList.map (·.1))[q]? = some pp.1 := by rw [List.getElem?_map, hp]; rfl
          rw [hi] at this
          have hq' := List.getElem?_eq_some_iff.1 this
          obtain ⟨hq1, hq2⟩ := hq'
          simp at hq2
          simp; omega
        · rw [hz]
          exact h6 _ (List.mem_map.2 ⟨pp, List.mem_of_getElem? hp, rfl⟩)) (by simp only [List.length_map, Nat.zero_add]; rw [← hn, hL])
    refine ⟨cells, g1, ?_⟩
    rw [g2, Nat.zero_mul, List.take_zero, List.nil_append, ← h5, List.flatMap_map, List.flatMap_map]
  have fin : ∀ cells : Array Value, cells.toList = d.vals → Res B w0 ρ fh fr ⟨one (.sl fr 0 d.len), [(fr, some ⟨true, d⟩)], 1, [], []⟩ (.slice (some ⟨w.heap.size, 0, none⟩) n n) { w with heap := w.heap.push (.cells cells e) } := by
    intro cells hc
    have hcs : cells.size = d.len * d.sz := by rw [← vals_len h1, ← hc]; simp
    refine ⟨_, rset_sub hfr, fun k hk => rset_out (n := 1) (by omega) hk, newT hs hfr h1 e (rest := []) (by simpa using hc), ?_⟩
    have := slice_lit (ρ := ρ) (fr := fr) (w := w) (lc := ⟨w.heap.size, 0, cells.size, d.sz, true⟩) (d := d) rfl rfl (by simp [hcs]) rfl (cap := d.len) (Nat.le_refl _) (by simp [hcs])
    rw [hlen] at this ⊢
    exact this
  have hbig : ¬ (n * y.sz > 2 ^ 24) := by
    have : n * y.sz ≤ 1000000 * 3 := Nat.mul_le_mul hb (by omega)
    omega
  by_cases h0 : n * y.sz = 0
  · obtain ⟨cells, g1, g2⟩ := main (Array.map (fun _ => default) (Array.range 0)) (by simp [h0])
    refine .val (exec_val (s := Instr.buildSlice t n (parts.map fun (i, x) => (i, ee x))) (by unfold execOp; simp only [ho]) ?_) (fin cells g2)
    simp [Instr.buildSlice, run_underlying hd, hy.size, h0, g1, newRow]
  · obtain ⟨cells, g1, g2⟩ := main ((Array.range (n * y.sz)).map (fun x => z.cells[x % z.cells.size]!)) (by simp)
    refine .val (exec_val (s := Instr.buildSlice t n (parts.map fun (i, x) => (i, ee x))) (by unfold execOp; simp only [ho]) ?_) (fin cells g2)
    simp only [Instr.buildSlice, run_underlying hd, Sem.run_bind, hy.size, Result.andThen_ok, hbig, h0, if_false, hzv, Sem.run_pure]
    simp only [Array.toList_map, g1]
    simp [newRow]

theorem litR_spec : ∀ {xs : List AV} {cs : List C}, litR xs = some cs → cs.length = xs.length ∧ ∀ {vs : List Value}, AVsR ρ xs vs → CsR ρ cs vs ∧ ∀ v ∈ vs, v.cells = #[v]
  | [], cs, h => by
    simp only [litR, Option.some.injEq] at h
    subst h
    exact ⟨rfl, fun {vs} hv => by rw [show vs = [] from hv]; exact ⟨rfl, fun v hv => (List.not_mem_nil hv).elim⟩⟩
  | x :: xs, cs, h => by
    unfold litR at h
    split at h
    · rename_i he; cases he
    · rename_i c r he
      obtain ⟨rfl, rfl⟩ := List.cons.inj he
      split at h
      · cases h
      · rename_i hu
        simp only [Option.map_eq_some_iff] at h
        obtain ⟨cs', h1, rfl⟩ := h
        obtain ⟨h2, h3⟩ := litR_spec h1
        refine ⟨by simp [h2], fun {vs} hv => ?_⟩
        obtain ⟨u, us, rfl, hu1, hus⟩ := hv
        obtain ⟨h4, h5⟩ := h3 hus
        have hc : CR ρ c u := hu1
        refine ⟨⟨u, us, rfl, hc, h4⟩, fun v hv => ?_⟩
        rcases List.mem_cons.1 hv with rfl | hv
        · have h2 := hc.one (by simpa using hu)
          cases v <;> first | rfl | simp [Value.oneCell'] at h2
        · exact h5 v hv
    · cases h
theorem buildRefs_sound {o : Oper} {t : TypeId} {n : Nat} {parts : Array (Nat × Operand)} (ho : o.op = .buildSlice t n parts) {yt y : Ty} (hyt : TyOk P t yt) {e : TypeId} (hk : yt.k = .sl e) (hy : TyOk P e y) {cs : List C} (hl : litR (parts.toList.map fun p => ev p.2) = some cs)
    (hn : n = parts.toList.length) (hi : parts.toList.map (·.1) = List.range n) (hb : n ≤ 1000000) (hz : y.sz = 1) (hev : ∀ x, AVR ρ (ev x) (ee x)) (hs : Sim B w0 ρ w fh) (hfr : rat ρ fr = none) :
    Good P o ee w (Res B w0 ρ fh fr ⟨one (.sl fr 0 cs.length), [(fr, some ⟨true, .refs cs⟩)], 1, [], []⟩) := by
  obtain ⟨h2, h4⟩ := litR_spec (ρ := ρ) hl
  have hav : AVsR ρ (parts.toList.map fun p => ev p.2) (parts.toList.map fun p => ee p.2) := by
    have := avs_map hev (parts.toList.map (·.2))
    simpa [List.map_map, Function.comp_def] using this
  obtain ⟨h5, h6⟩ := h4 hav
  have hlen : cs.length = n := by rw [h2, List.length_map, hn]
  obtain ⟨z, hzv, hzc, _⟩ := hy.zero
  have hzlen : z.cells.size = 1 := by
    obtain ⟨i, dd, z', q1, q2, q3, q4, q5, q6, q7, q8, q9, q10⟩ := hy.1
    have : z.cells.toList.length = (y.zero.map C.val).length := by rw [hzc]
    simp at this; omega
  obtain ⟨dd, hd, _, hk'⟩ := hyt.und
  rw [hk] at hk'
  subst hk'
  have main : ∀ (L : Array Value), L.size = n * 1 → ∃ cells, Instr.fill (fun i => some (i * 1, 1)) L (parts.toList.map fun p => (p.1, ee p.2)) = some cells ∧ cells.toList = parts.toList.map fun p => ee p.2 := by
    intro L hL
    obtain ⟨cells, g1, g2⟩ := fill_all 1 (parts.toList.map fun p => (p.1, ee p.2)) 0 L (fun q p hq => by
      rw [List.getElem?_map] at hq
      cases hp : parts.toList[q]? with
      | none => rw [hp] at hq; cases hq
      | some pp =>
        rw [hp] at hq
        simp only [Option.map_some, Option.some.injEq] at hq
        subst hq
        refine ⟨?_, ?_⟩
        · have : (parts.toList.map (·.1))[q]? = some pp.1 := by rw [List.getElem?_map, hp]; rfl
          rw [hi] at this
          have hq' := List.getElem?_eq_some_iff.1 this
          obtain ⟨hq1, hq2⟩ := hq'
          simp at hq2
          simp; omega
        · have := h6 _ (List.mem_map.2 ⟨pp, List.mem_of_getElem? hp, rfl⟩)
          show (ee pp.2).cells.size = 1
          rw [this]; rfl) (by simp only [List.length_map, Nat.zero_add]; rw [← hn, hL])
    refine ⟨cells, g1, ?_⟩
    rw [g2, Nat.zero_mul, List.take_zero, List.nil_append, List.flatMap_map]
    have : ∀ l : List (Nat × Operand), (∀ p ∈ l, (ee p.2).cells = #[ee p.2]) → l.flatMap (fun p => (ee p.2).cells.toList) = l.map fun p => ee p.2 := by
      intro l
      induction l with
      | nil => intro _; rfl
      | cons p l ih => intro hp; rw [List.flatMap_cons, List.map_cons, hp p List.mem_cons_self, ih (fun q hq => hp q (List.mem_cons_of_mem _ hq))]; rfl
    exact this _ (fun p hp => h6 _ (List.mem_map.2 ⟨p, hp, rfl⟩))
  have fin : ∀ cells : Array Value, cells.toList = (parts.toList.map fun p => ee p.2) → Res B w0 ρ fh fr ⟨one (.sl fr 0 cs.length), [(fr, some ⟨true, .refs cs⟩)], 1, [], []⟩ (.slice (some ⟨w.heap.size, 0, none⟩) n n) { w with heap := w.heap.push (.cells cells e) } := by
    intro cells hc
    rw [← hc] at h5
    obtain ⟨g1, g2⟩ := h5.get
    have hcs : cells.size = n := by simpa [hlen] using g1
    refine ⟨_, rset_sub hfr, fun k hk => rset_out (n := 1) (by omega) hk, hs.alloc hfr (.refs cs) (grown_push w _ w.drawn) (push_at w _ w.drawn) (.inl rfl) (by show cs.length ≤ cells.size; omega) (fun i c hi => ?_), ⟨_, rset_at _ _ _, some ⟨w.heap.size, 0, none⟩, n, by rw [hlen], by omega, .inl ⟨by simp, fun _ => by simp [Data.sz, hcs]⟩⟩⟩
    obtain ⟨u, a1, a2⟩ := g2 i c hi
    exact ⟨u, by simpa using a1, a2⟩
  have hbig : ¬ (n * y.sz > 2 ^ 24) := by rw [hz]; omega
  by_cases h0 : n * y.sz = 0
  · obtain ⟨cells, g1, g2⟩ := main (Array.map (fun _ => default) (Array.range 0)) (by rw [hz] at h0; simp at h0; simp [h0])
    refine .val (exec_val (s := Instr.buildSlice t n (parts.map fun (i, x) => (i, ee x))) (by unfold execOp; simp only [ho]) ?_) (fin cells g2)
    rw [hz] at h0
    simp [Instr.buildSlice, run_underlying hd, hy.size, hz, h0, newRow]
    simp at h0
    simp [h0] at g1
    simp [h0, g1]
  · obtain ⟨cells, g1, g2⟩ := main ((Array.range (n * y.sz)).map (fun x => z.cells[x % z.cells.size]!)) (by simp [hz])
    refine .val (exec_val (s := Instr.buildSlice t n (parts.map fun (i, x) => (i, ee x))) (by unfold execOp; simp only [ho]) ?_) (fin cells g2)
    simp only [Instr.buildSlice, run_underlying hd, Sem.run_bind, hy.size, Result.andThen_ok, hbig, h0, if_false, hzv, Sem.run_pure]
    simp only [hz] at g1 ⊢
    simp only [Array.toList_map, g1]
    simp [newRow]
theorem rep_spec {dk : DK} {zero : List C} {n : Nat} {d : Data} (h : Data.rep n dk zero = some d) : d.isCells = false ∧ d.len = n ∧ d.sz = zero.length ∧ 0 < d.sz ∧ d.vals = (List.replicate n (zero.map C.val)).flatten := by
  have key : ∀ {α : Type} (f : α → List C) (x : α) (n : Nat), ((List.replicate n x).flatMap f).map C.val = (List.replicate n ((f x).map C.val)).flatten := by
    intro α f x n
    induction n with
    | zero => rfl
    | succ n ih => rw [List.replicate_succ, List.flatMap_cons, List.map_append, ih, List.replicate_succ, List.flatten_cons]
  have key1 : ∀ {α : Type} (f : α → C) (x : α) (n : Nat), ((List.replicate n x).map f).map C.val = (List.replicate n ([f x].map C.val)).flatten := by
    intro α f x n
    induction n with
    | zero => rfl
    | succ n ih => rw [List.replicate_succ, List.map_cons, List.map_cons, ih, List.replicate_succ, List.flatten_cons]; rfl
  unfold Data.rep at h
  split at h
  · split at h
    · rename_i hk
      obtain rfl := same_eq hk
      obtain rfl := Option.some.inj h
      exact ⟨rfl, by simp [Data.len], rfl, by simp [Data.sz], key1 _ _ _⟩
    · cases h
  · obtain rfl := Option.some.inj h
    exact ⟨rfl, by simp [Data.len], rfl, by simp [Data.sz], key1 _ _ _⟩
  · obtain rfl := Option.some.inj h
    exact ⟨rfl, by simp [Data.len], rfl, by simp [Data.sz], key1 _ _ _⟩
  · obtain rfl := Option.some.inj h
    exact ⟨rfl, by simp [Data.len], rfl, by simp [Data.sz], key encP _ _⟩
  · obtain rfl := Option.some.inj h
    exact ⟨rfl, by simp [Data.len], rfl, by simp [Data.sz], key encA _ _⟩
  · cases h
theorem flatten_rep_at {α : Type} (L : List α) (hL : 0 < L.length) : ∀ (n j : Nat), j < n * L.length → (List.replicate n L).flatten[j]? = L[j % L.length]?
  | 0, j, h => by omega
  | n + 1, j, h => by
    rw [List.replicate_succ, List.flatten_cons]
    by_cases hj : j < L.length
    · rw [List.getElem?_append_left hj, Nat.mod_eq_of_lt hj]
    · rw [List.getElem?_append_right (by omega), flatten_rep_at L hL n (j - L.length) (by rw [Nat.add_mul] at h; omega)]
      congr 1
      rw [Nat.mod_eq_sub_mod (by omega : L.length ≤ j)]
theorem makeSlice_sound {o : Oper} {t : TypeId} {l c : Operand} (ho : o.op = .makeSlice t l c) {yt y : Ty} (hyt : TyOk P t yt) {e : TypeId} (hk : yt.k = .sl e) (hy : TyOk P e y) {n m : Int} (hl : ee l = .int .i64 n) (hc : ee c = .int .i64 m) {d : Data}
    (hd : Data.rep n.toNat y.dk y.zero = some d) (hb : y.bytes ≠ 0) (h0 : 0 ≤ n) (hnm : n = m) (hbytes : n * (y.bytes : Int) ≤ 70368744177664) (hs : Sim B w0 ρ w fh) (hfr : rat ρ fr = none) {ps : List Prop} :
    Good P o ee w (Res B w0 ρ fh fr ⟨one (.sl fr 0 d.len), [(fr, some ⟨true, d⟩)], 1, [], ps⟩) := by
  subst hnm
  obtain ⟨h1, h2, h3, h3', hv⟩ := rep_spec hd
  obtain ⟨i, dd, z, q1, q2, q3, q4, q5, q6, q7, q8, q9, q10⟩ := hy.1
  have hzs : z.cells.size = y.sz := by
    have : z.cells.toList.length = (y.zero.map C.val).length := by rw [q6]
    simp at this; omega
  have hszd : y.sz = d.sz := by rw [h3, q10]
  obtain ⟨d2, hd2, _, hk'⟩ := hyt.und
  rw [hk] at hk'
  subst hk'
  have hbp : (1 : Int) ≤ (y.bytes : Int) := by omega
  have hn : n ≤ 70368744177664 := Int.le_trans (by have := Int.mul_le_mul_of_nonneg_left hbp h0; simpa using this) hbytes
  have hcells : ((Array.range (n.toNat * y.sz)).map (fun x => z.cells[x % z.cells.size]!)).toList = d.vals := by
    rw [hv, ← q6]
    have hzl : z.cells.toList.length = z.cells.size := by simp
    apply List.ext_getElem?
    intro j
    by_cases hj : j < n.toNat * y.sz
    · rw [flatten_rep_at z.cells.toList (by omega) n.toNat j (by rw [hzl, hzs]; exact hj)]
      have hm : j % z.cells.size < z.cells.size := Nat.mod_lt _ (by omega)
      simp [hj, hm]
    · have hfl : (List.replicate n.toNat z.cells.toList).flatten.length = n.toNat * z.cells.size := by simp
      rw [List.getElem?_eq_none (by simp; omega), List.getElem?_eq_none (by rw [hfl, hzs]; omega)]
  have fin : ∀ cells : Array Value, cells.toList = d.vals → Res B w0 ρ fh fr ⟨one (.sl fr 0 d.len), [(fr, some ⟨true, d⟩)], 1, [], ps⟩ (.slice (some ⟨w.heap.size, 0, none⟩) n.toNat n.toNat) { w with heap := w.heap.push (.cells cells e) } := by
    intro cells hc'
    have hcs : cells.size = d.len * d.sz := by rw [← vals_len h1, ← hc']; simp
    refine ⟨_, rset_sub hfr, fun k hk => rset_out (n := 1) (by omega) hk, newT hs hfr h1 e (rest := []) (by simpa using hc'), ?_⟩
    have := slice_lit (ρ := ρ) (fr := fr) (w := w) (lc := ⟨w.heap.size, 0, cells.size, d.sz, true⟩) (d := d) rfl rfl (by simp [hcs]) rfl (cap := n.toNat) (by omega) (by simp [hcs, h2])
    rw [h2] at this ⊢
    exact this
  refine .val (exec_val (s := Instr.makeSlice t (ee l) (ee c)) (by unfold execOp; simp only [ho]) ?_) (fin _ hcells)
  rw [hl, hc]
  have hr := run_make (P := P) w t e i z hd2 q1 q5 .i64 .i64 n n h0 (Int.le_refl _) (by rw [q4, Int.mul_comm]; omega) (by omega)
  rw [hr, q3]
  rfl
theorem run_append_zeros0 (w : World) (t tn ty e : TypeId) (i : TypeInfo) (z : Value) (k kn : IntKind) (ht : P.underlying t = some (.slice e)) (htn : P.underlying tn = some (.int kn)) (hi : P.info? e = some i) (hz : i.zero = some z)
    (A : Option Addr) (n : Nat) (h0 : 0 < n) (hs : 0 < i.size) (h63 : (n : Int) ≤ 9223372036854775807) (h48 : n * i.bytes ≤ 281474976710656) :
    (Builtin.append_ #[t, tn] ty #[.slice A 0 0, .int k n]).run P w =
      .ok (.slice (some ⟨w.heap.size, 0, none⟩) n (grownCap w n 0 e)) (w.drew.alloc (.cells (Builtin.zeroCells z.cells n ++ Builtin.zeroCells z.cells (grownCap w n 0 e - n)) e)) := by
  have hn : n ≠ 0 := by omega
  have hw : IntKind.i64.wrap (n : Int) = n := by rw [IntKind.wrap_i64]; omega
  have h63' : ¬ (9223372036854775807 < (n : Int)) := by omega
  have h48' : ¬ (281474976710656 < Builtin.nextslicecap n 0 * i.bytes) := by rw [nextslicecap_zero h0]; omega
  have h48i : ¬ (281474976710656 < (n : Int) * (i.bytes : Int)) := by
    rw [← Int.natCast_mul]
    omega
  have hneg : ¬ ((n : Int) < 0) := by omega
  have hns : ¬ (n * i.size = 0) := Nat.mul_ne_zero hn (by omega)
  have hf := firsts0 (P := P) i.size A w.drew
  simp [Builtin.append_, run_underlying ht, run_underlying htn, sizeOf, typeInfo, zeroValue, hi, hz, asInt, asIntOf, hw, hn, hneg, hns, h63', h48', h48i, Question.forced, hf, newRow, grownCap]
theorem zeros_sound {t u ty e : TypeId} {y : Ty} (hyt : P.underlying t = some (.slice e)) (hu : P.underlying u = some (.int .i64)) (hy : TyOk P e y) {A : Option Addr} {n : Int} {d : Data}
    (hd : Data.rep n.toNat y.dk y.zero = some d) (hb : y.bytes ≠ 0) (h0 : 0 < n) (hbytes : n * (y.bytes : Int) ≤ 70368744177664) (hs : Sim B w0 ρ w fh) (hfr : rat ρ fr = none) :
    ∃ v w', (Builtin.append_ #[t, u] ty #[.slice A 0 0, .int .i64 n]).run P w = .ok v w' ∧ ∃ ρ', Sub ρ ρ' ∧ (∀ l, ¬ (fr ≤ l ∧ l < fr + 1) → rat ρ' l = rat ρ l) ∧ Sim B w0 ρ' w' (fun k => if k = fr then some ⟨true, d⟩ else fh k) ∧ CR ρ' (.sl fr 0 d.len) v := by
  obtain ⟨h1, h2, h3, h3', hv⟩ := rep_spec hd
  obtain ⟨i, dd, z, q1, q2, q3, q4, q5, q6, q7, q8, q9, q10⟩ := hy.1
  have hzs : z.cells.size = y.sz := by
    have : z.cells.toList.length = (y.zero.map C.val).length := by rw [q6]
    simp at this; omega
  have hszd : y.sz = d.sz := by rw [h3, q10]
  have hbp : (1 : Int) ≤ (y.bytes : Int) := by omega
  have hn : n ≤ 70368744177664 := Int.le_trans (by have := Int.mul_le_mul_of_nonneg_left hbp (Int.le_of_lt h0); simpa using this) hbytes
  have hcells : (Builtin.zeroCells z.cells n.toNat).toList = d.vals := by
    unfold Builtin.zeroCells
    rw [hv, ← q6]
    have hzl : z.cells.toList.length = z.cells.size := by simp
    apply List.ext_getElem?
    intro j
    by_cases hj : j < n.toNat * z.cells.size
    · rw [flatten_rep_at z.cells.toList (by omega) n.toNat j (by rw [hzl]; exact hj)]
      have hm : j % z.cells.size < z.cells.size := Nat.mod_lt _ (by omega)
      simp [hj, hm]
    · have hfl : (List.replicate n.toNat z.cells.toList).flatten.length = n.toNat * z.cells.size := by simp
      rw [List.getElem?_eq_none (by simp; omega), List.getElem?_eq_none (by rw [hfl]; omega)]
  obtain ⟨m, rfl⟩ := Int.eq_ofNat_of_zero_le (Int.le_of_lt h0)
  simp only [Int.toNat_natCast] at *
  have hle : m * i.bytes ≤ 281474976710656 := by
    rw [q4]
    have : ((m * y.bytes : Nat) : Int) ≤ 70368744177664 := by push_cast; exact hbytes
    omega
  have hrun := run_append_zeros0 (P := P) w t u ty e i z .i64 .i64 hyt hu q1 q5 A m (by omega) (by omega) (by omega) hle
  have hge := grownCap_ge w m 0 e
  generalize hcap : grownCap w m 0 e = cap at hrun hge
  have hsim := hs.typed (w' := w.drew.alloc (.cells (Builtin.zeroCells z.cells m ++ Builtin.zeroCells z.cells (cap - m)) e)) hfr h1 (rest := (Builtin.zeroCells z.cells (cap - m)).toList) (by simp [hcells]) ⟨rfl, rfl, rfl, by simp [World.alloc], fun k hk _ => heap_alloc_old w.drew _ hk⟩ (heap_alloc_new w.drew _) (.inl rfl) none
  rw [no_kill] at hsim
  refine ⟨.slice (some ⟨w.heap.size, 0, none⟩) m cap, _, hrun, _, rset_sub hfr, fun k hk => rset_out (n := 1) (by omega) hk, hsim, _, rset_at _ _ _, some ⟨w.heap.size, 0, none⟩, cap, by rw [h2], by rw [h2]; exact hge, .inl ⟨by simp, fun _ => ?_⟩⟩
  simp only [Array.size_append, size_zeroCells, hzs, Nat.zero_add]
  rw [← hszd, ← Nat.add_mul]
  exact Nat.mul_le_mul_right _ (by omega)
end Go.Proofs.YtmodnnokcmabhaaGreat.Den
