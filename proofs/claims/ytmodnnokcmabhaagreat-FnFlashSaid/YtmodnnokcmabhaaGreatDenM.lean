/- Each step that the reckoner takes is the model's step: slices, builtins. -/
import Derived.Test.YtmodnnokcmabhaaGreatDenL
namespace Go.Proofs.YtmodnnokcmabhaaGreat.Den
open Go Go.RowKit
set_option linter.unusedSimpArgs false
set_option linter.unusedVariables false
variable {P : Program} {tb : TypeId → Option Ty} {B : Nat → Prop} {w0 w w' : World} {ρ ρ' : Rho} {fh fh' : Nat → Option Row} {fr : Nat} {ev : Operand → AV} {ee : Operand → Value}

def BndR (x : Option Int) (v : Option Value) : Prop := (x = none ∧ v = none) ∨ ∃ k n, x = some n ∧ v = some (.int k n)
theorem bound_sound {o : Option Operand} {x : Option Int} (h : bound? ev o = some x) (hev : ∀ x, AVR ρ (ev x) (ee x)) : BndR x (o.map ee) := by
  unfold bound? at h
  split at h
  · obtain rfl := Option.some.inj h
    exact .inl ⟨rfl, rfl⟩
  · rename_i q
    split at h
    · rename_i k n he
      obtain rfl := Option.some.inj h
      have := hev q
      rw [he] at this
      exact .inr ⟨k, n, rfl, congrArg some this⟩
    · cases h
theorem BndR.none {v : Option Value} (h : BndR none v) : v = none := by
  rcases h with ⟨_, h⟩ | ⟨k, n, h, _⟩
  · exact h
  · cases h
theorem bound_run {k : IntKind} {i : Int} {y : Nat} (h0 : 0 ≤ i) (h1 : i ≤ (y : Int)) (c : BoundsCode) (w : World) : (Instr.sliceBound (.int k i) y c).run P w = .ok i.toNat w := by
  simp [Instr.sliceBound, asIntOf, h0, h1]
theorem bounds2 {lo hi : Option Int} {low high : Option Value} (hl : BndR lo low) (hh : BndR hi high) (isS : Bool) {len cap : Nat} (h0 : 0 ≤ lo.getD 0) (h1 : lo.getD 0 ≤ hi.getD (len : Int)) (h2 : hi.getD (len : Int) ≤ (cap : Int)) (w : World) :
    (Instr.sliceBounds isS len cap low high none).run P w = .ok ((lo.getD 0).toNat, (hi.getD (len : Int)).toNat, cap) w := by
  rcases hl with ⟨rfl, rfl⟩ | ⟨k, n, rfl, rfl⟩ <;> rcases hh with ⟨rfl, rfl⟩ | ⟨k', n', rfl, rfl⟩ <;> simp only [Option.getD_none, Option.getD_some] at h0 h1 h2 ⊢
  · simp [Instr.sliceBounds]
  · have := bound_run (P := P) (k := k') (by omega : 0 ≤ n') h2 (if isS then .sliceAcap else .sliceAlen) w
    simp [Instr.sliceBounds, this]
  · have := bound_run (P := P) (k := k) (y := len) h0 h1 .sliceB w
    simp [Instr.sliceBounds, this]
  · have a1 := bound_run (P := P) (k := k') (by omega : 0 ≤ n') h2 (if isS then .sliceAcap else .sliceAlen) w
    have a2 := bound_run (P := P) (k := k) (y := n'.toNat) h0 (by omega) .sliceB w
    simp [Instr.sliceBounds, a1, a2]
theorem bounds3 {lo : Option Int} {h m : Int} {low high mxv : Option Value} (hl : BndR lo low) (hh : BndR (some h) high) (hm : BndR (some m) mxv) (isS : Bool) {len cap : Nat} (h0 : 0 ≤ lo.getD 0) (h1 : lo.getD 0 ≤ h) (h2 : h ≤ m) (h3 : m ≤ (cap : Int)) (w : World) :
    (Instr.sliceBounds isS len cap low high mxv).run P w = .ok ((lo.getD 0).toNat, h.toNat, m.toNat) w := by
  rcases hm with ⟨hc, _⟩ | ⟨k2, n2, hm, rfl⟩
  · cases hc
  obtain rfl := Option.some.inj hm
  rcases hh with ⟨hc, _⟩ | ⟨k1, n1, hh, rfl⟩
  · cases hc
  obtain rfl := Option.some.inj hh
  rcases hl with ⟨rfl, rfl⟩ | ⟨k, n, rfl, rfl⟩ <;> simp only [Option.getD_none, Option.getD_some] at h0 h1 ⊢
  · have a1 := bound_run (P := P) (k := k2) (y := cap) (by omega : 0 ≤ m) h3 (if isS then .slice3Acap else .slice3Alen) w
    have a2 := bound_run (P := P) (k := k1) (y := m.toNat) (by omega : 0 ≤ h) (by omega) .slice3B w
    simp [Instr.sliceBounds, a1, a2]
  · have a1 := bound_run (P := P) (k := k2) (y := cap) (by omega : 0 ≤ m) h3 (if isS then .slice3Acap else .slice3Alen) w
    have a2 := bound_run (P := P) (k := k1) (y := m.toNat) (by omega : 0 ≤ h) (by omega) .slice3B w
    have a3 := bound_run (P := P) (k := k) (y := h.toNat) (by omega : 0 ≤ n) (by omega) .slice3C w
    simp [Instr.sliceBounds, a1, a2, a3]
theorem sliceV {t e : TypeId} (hu : P.underlying t = some (.slice e)) {A : Option Addr} {len cap l h m sz : Nat} {low high mxv : Option Value} (hb : ∀ w, (Instr.sliceBounds true len cap low high mxv).run P w = .ok (l, h, m) w) (hz : ∀ w, (sizeOf e).run P w = .ok sz w) (w : World) :
    (Instr.sliceAt t (.slice A len cap) low high mxv).run P w = .ok (.slice (if m = l then A else A.map (·.add (l * sz))) (h - l) (m - l)) w := by
  simp [Instr.sliceAt, Instr.slice, run_underlying hu, hb, hz]
theorem sliceStr {t : TypeId} (hu : P.underlying t = some .string) {s : ByteArray} {l h m : Nat} {low high : Option Value} (hb : ∀ w, (Instr.sliceBounds false s.size s.size low high none).run P w = .ok (l, h, m) w) (w : World) :
    (Instr.sliceAt t (.string s) low high none).run P w = .ok (.string (s.extract l h)) w := by
  simp [Instr.sliceAt, Instr.slice, run_underlying hu, hb]
theorem sl_cut {lc : Lc} {off len l h m cap : Nat} {A : Option Addr} (hcap : len ≤ cap) (hA : (A = some ⟨lc.b, lc.o + off * lc.sz, none⟩ ∧ (lc.own = true → (off + cap) * lc.sz ≤ lc.n)) ∨ (len = 0 ∧ cap = 0)) (h1 : l ≤ h) (h2 : h ≤ len) (h3 : h ≤ m) (h4 : m ≤ cap) :
    SlR lc (off + l) (h - l) (.slice (if m = l then A else A.map (·.add (l * lc.sz))) (h - l) (m - l)) := by
  refine ⟨_, m - l, rfl, by omega, ?_⟩
  by_cases hm : m = l
  · exact .inr ⟨by omega, by omega⟩
  · rw [if_neg hm]
    rcases hA with ⟨rfl, hown⟩ | ⟨a, b⟩
    · refine .inl ⟨?_, fun ho => Nat.le_trans (Nat.mul_le_mul_right _ (by omega)) (hown ho)⟩
      simp only [Option.map_some, add_lit, Nat.add_mul, Nat.add_assoc]
    · omega
theorem szIs_spec (T : TabOk P tb) {e : TypeId} {l : Nat} (h : szIs tb fh e l = true) (hs : Sim B w0 ρ w fh) {lc : Lc} (hlc : rat ρ l = some lc) : ∀ w, (sizeOf e).run P w = .ok lc.sz w := by
  unfold szIs at h
  split at h
  · rename_i y r hy hr
    obtain ⟨lc', h1, h2, _⟩ := hs.row _ _ hr
    rw [hlc] at h1
    obtain rfl := Option.some.inj h1
    intro w
    rw [(T _ _ hy).size w, h2.1, Nat.eq_of_beq_eq_true h]
  · cases h
theorem Sim.weaken' {f g : Nat → Option Row} (hs : Sim B w0 ρ w f) (h : ∀ j, g j = f j) : Sim B w0 ρ w g := by
  have : g = f := funext h
  rw [this]; exact hs
theorem rew_sim (hs : Sim B w0 ρ w fh) (hfr : rat ρ fr = none) {k : Nat} {d : Data} (hd : d.isCells = false) (hf : fh k = some ⟨true, d⟩) {lc : Lc} (hlc : rat ρ k = some lc) {off l n : Nat} (hn : off + l + n ≤ d.len) {v : Value} (hv : SlR lc (off + l) n v) :
    Sim B w0 (rset ρ fr ⟨lc.b, lc.o + (off + l) * lc.sz, lc.n - (off + l) * lc.sz, lc.sz, true⟩) w (fun j => if j = fr then some ⟨true, d.win (off + l) n⟩ else if some j = some k then none else fh j) ∧ CR (rset ρ fr ⟨lc.b, lc.o + (off + l) * lc.sz, lc.n - (off + l) * lc.sz, lc.sz, true⟩) (.sl fr 0 (d.win (off + l) n).len) v := by
  obtain ⟨lc', h1, hrow, hpl⟩ := hs.row k _ hf
  rw [hlc] at h1
  obtain rfl := Option.some.inj h1
  obtain ⟨w1, w2, w3⟩ := win_flat hd (o := off + l) (n := n)
  have hd' : (d.win (off + l) n).isCells = false := by rw [win_cells]; exact hd
  have hlen : (d.win (off + l) n).len = n := by rw [w2]; omega
  have hlsz : lc.sz = d.sz := hrow.1
  have hown : lc.own = true := hrow.2.1
  obtain ⟨hfl, hblk⟩ := hrow.2.2.2 rfl
  have hfl : d.flat.length ≤ lc.n := hfl
  have hflat : d.flat.length = d.len * d.sz := flat_len hd
  have hfw : (d.win (off + l) n).flat.length = n * d.sz := by rw [flat_len hd', hlen, w1]
  have hfit : (off + l) * d.sz + n * d.sz ≤ lc.n := by
    rw [← Nat.add_mul]
    have : (off + l + n) * d.sz ≤ d.len * d.sz := Nat.mul_le_mul_right _ hn
    omega
  refine ⟨?_, ?_⟩
  · refine hs.fresh hfr (row := if lc.n - (off + l) * lc.sz = 0 then none else some lc.b) ⟨rfl, rfl, rfl, Nat.le_refl _, fun _ _ _ => rfl⟩ ⟨lc.b, lc.o + (off + l) * lc.sz, lc.n - (off + l) * lc.sz, lc.sz, true⟩ (d.win (off + l) n) (some k) (fun b hb => ?_) ⟨hlsz.trans w1.symm, rfl, fun i c hi => ?_, fun _ => ⟨?_, ?_⟩⟩ ?_
    · split at hb
      · cases hb
      · rename_i h0
        obtain rfl := Option.some.inj hb
        exact ⟨k, _, lc, rfl, hf, rfl, hlc, fun e => h0 (by rw [e]; simp), rfl⟩
    · obtain ⟨v, g1, g2⟩ := hrow.2.2.1 _ c (w3 i c hi)
      refine ⟨v, ?_, g2.sub (rset_sub hfr)⟩
      rw [hlsz]
      rw [Nat.add_assoc]; exact g1
    · show (d.win (off + l) n).flat.length ≤ lc.n - (off + l) * lc.sz
      rw [hfw, hlsz]; omega
    · show lc.n - (off + l) * lc.sz = 0 ∨ _
      rcases hblk with h0 | ⟨cur, e, fz, g1, g2, g3⟩
      · exact .inl (by omega)
      · by_cases hz : lc.n - (off + l) * lc.sz = 0
        · exact .inl hz
        · exact .inr ⟨cur, e, fz, g1, g2, by show lc.o + (off + l) * lc.sz + (lc.n - (off + l) * lc.sz) ≤ cur.size; omega⟩
    · by_cases hz : lc.n - (off + l) * lc.sz = 0
      · exact .inl hz
      · exact .inr (.inl (by rw [if_neg hz]))
  · obtain ⟨A, cap, rfl, hc, hA⟩ := hv
    rw [hlen]
    refine ⟨_, rset_at _ _ _, A, cap, rfl, hc, ?_⟩
    rcases hA with ⟨rfl, hq⟩ | hA
    · refine .inl ⟨by simp, fun _ => ?_⟩
      have := hq hown
      rw [Nat.add_mul] at this
      show (0 + cap) * lc.sz ≤ lc.n - (off + l) * lc.sz
      rw [Nat.zero_add]; omega
    · exact .inr hA
theorem slice_sound (T : TabOk P tb) {o : Oper} {t : TypeId} {x : Operand} {lo hi mx : Option Operand} (ho : o.op = .slice t x lo hi mx) {yt : Ty} (hyt : TyOk P t yt) {l' h' m' : Option Int} (hl : BndR l' (lo.map ee)) (hh : BndR h' (hi.map ee)) (hm : BndR m' (mx.map ee))
    {xv : AV} (hx : AVR ρ xv (ee x)) {as as' : List Ans} {ef : Ef} (h : aSlice tb fh fr yt.k xv l' h' m' as = some (ef, as')) (hfr1 : ef.n = 1 → rat ρ fr = none) (hp : allP ef.p) (hzr : ∀ e, yt.k = .sl e → ∃ sz, ∀ w, (sizeOf e).run P w = .ok sz w) (hs : Sim B w0 ρ w fh) : Good P o ee w (Res B w0 ρ fh fr ef) := by
  have fin : ∀ v, (Instr.sliceAt t (ee x) (lo.map ee) (hi.map ee) (mx.map ee)).run P w = .ok v w → Res B w0 ρ fh fr ef v w → Good P o ee w (Res B w0 ρ fh fr ef) := fun v hv hr =>
    .val (exec_val (s := Instr.sliceAt t (ee x) (lo.map ee) (hi.map ee) (mx.map ee)) (by unfold execOp; simp only [ho]) hv) hr
  generalize hk : yt.k = tk at h
  unfold aSlice at h
  simp only [addO_eq] at h
  split at h <;> first | (cases h; done) | skip
  · rename_i s
    simp only [Option.some.injEq, Prod.mk.injEq] at h
    obtain ⟨rfl, rfl⟩ := h
    obtain ⟨h0, h1, h2, _⟩ := hp
    have hmn : mx.map ee = none := hm.none
    rw [show ee x = .string s from hx] at fin
    rw [hmn] at fin
    exact fin _ (sliceStr (hyt.str hk) (fun w => bounds2 hl hh false h0 h1 h2 w) w) (.same hs rfl)
  · rename_i e k off len
    split at h
    · unfold aRew at h
      split at h <;> first | (cases h; done) | skip
      rename_i d hd
      split at h <;> first | (cases h; done) | skip
      rename_i hc
      simp only [Bool.or_eq_true, Bool.not_eq_true', not_or, Bool.not_eq_true, Bool.not_eq_false] at hc
      simp only [addO_eq, Option.some.injEq, Prod.mk.injEq] at h
      obtain ⟨rfl, rfl⟩ := h
      obtain ⟨h0, h1, h2, h3, _⟩ := hp
      obtain ⟨lc, hlc, A, cap, hv, hcap, hA⟩ := hx
      have hz := szIs_spec T hc.2 hs hlc
      have hmn : mx.map ee = none := hm.none
      rw [hv, hmn] at fin
      refine fin _ (sliceV (hyt.sl hk) (fun w => bounds2 hl hh true h0 h1 (by omega) w) hz w) ?_
      obtain ⟨hsim, hcr⟩ := rew_sim hs (hfr1 rfl) hc.1 hd hlc (off := off) (l := (l'.getD 0).toNat) (n := (h'.getD (len : Int)).toNat - (l'.getD 0).toNat) (by omega) (sl_cut hcap hA (by omega) (by omega) (by omega) (Nat.le_refl _))
      refine ⟨_, rset_sub (hfr1 rfl), fun j hj => rset_out (n := 1) (by omega) hj, ?_, hcr⟩
      refine hsim.weaken' ?_
      intro j
      show updF fh [(k, none), (fr, _)] j = _
      simp only [updF]
      by_cases e1 : j = fr
      · simp [e1]
      · simp only [e1, if_false, Option.some.injEq]
    split at h
    · rename_i hsz
      simp only [Option.some.injEq, Prod.mk.injEq] at h
      obtain ⟨rfl, rfl⟩ := h
      obtain ⟨h0, h1, h2, _⟩ := hp
      obtain ⟨lc, hlc, A, cap, hv, hcap, hA⟩ := hx
      have hz := szIs_spec T hsz hs hlc
      have hmn : mx.map ee = none := hm.none
      rw [hv, hmn] at fin
      exact fin _ (sliceV (hyt.sl hk) (fun w => bounds2 hl hh true h0 h1 (by omega) w) hz w) (.same hs ⟨lc, hlc, sl_cut hcap hA (by omega) (by omega) (by omega) (Nat.le_refl _)⟩)
    · cases h
  · rename_i e
    simp only [Option.some.injEq, Prod.mk.injEq] at h
    obtain ⟨rfl, rfl⟩ := h
    obtain ⟨h0, h1, _⟩ := hp
    obtain ⟨A, hv⟩ := hx
    have hmn : mx.map ee = none := hm.none
    rw [hv, hmn] at fin
    have hb := fun w => bounds2 (P := P) hl hh true (len := 0) (cap := 0) (by omega) (by show _ ≤ h'.getD 0; omega) (by show h'.getD 0 ≤ _; omega) w
    have hy0 : ∃ sz, ∀ w, (sizeOf e).run P w = .ok sz w := hzr e hk
    obtain ⟨sz, hz⟩ := hy0
    have hr := sliceV (hyt.sl hk) hb hz (A := A) w
    simp only [show l'.getD 0 = 0 from h0, show h'.getD ((0 : Nat) : Int) = 0 from h1, Int.toNat_zero, if_true, Nat.sub_self] at hr
    exact fin _ hr (.same hs ⟨A, rfl⟩)
  · rename_i e k off len m
    split at h
    · rename_i h'' as2
      simp only [Option.some.injEq, Prod.mk.injEq] at h
      obtain ⟨rfl, rfl⟩ := h
      obtain ⟨h0, h1, h2, h3, _⟩ := hp
      obtain ⟨lc, hlc, A, cap, hv, hcap, hA⟩ := hx
      obtain ⟨sz, hz⟩ := hzr e hk
      rw [hv] at fin
      have hr := sliceV (hyt.sl hk) (fun w => bounds3 hl hh hm true (len := len) (cap := cap) h0 (by omega) (by omega) (by omega) w) hz (A := A) w
      have e1 : h''.toNat - (l'.getD 0).toNat = 0 := by omega
      have e2 : m.toNat - (l'.getD 0).toNat = 0 := by omega
      rw [e1, e2] at hr
      exact fin _ hr (.same hs ⟨_, rfl⟩)
    · rename_i h'' as2
      split at h
      · rename_i hsz
        simp only [Option.some.injEq, Prod.mk.injEq] at h
        obtain ⟨rfl, rfl⟩ := h
        obtain ⟨h0, h1, h2, h3, _⟩ := hp
        obtain ⟨lc, hlc, A, cap, hv, hcap, hA⟩ := hx
        have hz := szIs_spec T hsz hs hlc
        rw [hv] at fin
        exact fin _ (sliceV (hyt.sl hk) (fun w => bounds3 hl hh hm true (len := len) (cap := cap) h0 h1 h2 (by omega) w) hz w) (.same hs ⟨lc, hlc, sl_cut hcap hA (by omega) (by omega) (by omega) (by omega)⟩)
      · cases h
    · cases h
  · rename_i e m
    split at h
    · rename_i h''
      simp only [Option.some.injEq, Prod.mk.injEq] at h
      obtain ⟨rfl, rfl⟩ := h
      obtain ⟨h0, h1, h2, _⟩ := hp
      obtain ⟨A, hv⟩ := hx
      obtain ⟨sz, hz⟩ := hzr e hk
      rw [hv] at fin
      have hr := sliceV (hyt.sl hk) (fun w => bounds3 hl hh hm true (len := 0) (cap := 0) (by omega) (by omega) (by omega) (by omega) w) hz (A := A) w
      have e1 : h''.toNat - (l'.getD 0).toNat = 0 := by omega
      have e2 : m.toNat - (l'.getD 0).toNat = 0 := by omega
      rw [e1, e2] at hr
      exact fin _ hr (.same hs ⟨_, rfl⟩)
    · cases h
end Go.Proofs.YtmodnnokcmabhaaGreat.Den
