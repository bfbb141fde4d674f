/- Each step that the reckoner takes is the model's step: conversions, slices, small ones. -/
import Derived.Test.YtmodnnokcmabhaaGreatDenK
namespace Go.Proofs.YtmodnnokcmabhaaGreat.Den
open Go Go.RowKit
set_option linter.unusedSimpArgs false
set_option linter.unusedVariables false
variable {P : Program} {tb : TypeId → Option Ty} {B : Nat → Prop} {w0 w w' : World} {ρ ρ' : Rho} {fh fh' : Nat → Option Row} {fr : Nat} {ev : Operand → AV} {ee : Operand → Value}

theorem ofBytes_foldl : ∀ (l : List Int) (r : ByteArray), l.foldl (fun r n => r.push (UInt8.ofNat n.toNat)) r = ⟨r.data ++ (l.map fun n => UInt8.ofNat n.toNat).toArray⟩
  | [], r => by simp
  | x :: l, r => by rw [List.foldl_cons, ofBytes_foldl l]; simp [ByteArray.push]
theorem ofBytes_run (l : List Int) : l.foldl (fun r n => r.push (UInt8.ofNat n.toNat)) ByteArray.empty = ofBytes l := by
  rw [ofBytes_foldl]
  have he : ByteArray.empty.data = #[] := rfl
  rw [he]
  simp [ofBytes]
theorem TyOk.sl {t : TypeId} {y : Ty} (h : TyOk P t y) {e : TypeId} (hk : y.k = .sl e) : P.underlying t = some (.slice e) := by
  obtain ⟨dd, h1, _, h2⟩ := h.und
  rw [hk] at h2
  rw [h1]; exact congrArg some h2
theorem TyOk.str {t : TypeId} {y : Ty} (h : TyOk P t y) (hk : y.k = .str) : P.underlying t = some .string := by
  obtain ⟨dd, h1, _, h2⟩ := h.und
  rw [hk] at h2
  rw [h1]; exact congrArg some h2
theorem TyOk.int {t : TypeId} {y : Ty} (h : TyOk P t y) {k : IntKind} (hk : y.k = .int k) : P.underlying t = some (.int k) := by
  obtain ⟨dd, h1, _, h2⟩ := h.und
  rw [hk] at h2
  rw [h1]; exact congrArg some h2
theorem conv_int {s d : TypeId} {u : TypeDesc} (hs : P.underlying s = some u) {k k0 : IntKind} (hd : P.underlying d = some (.int k)) (n : Int) (w : World) : (convert s d (.int k0 n)).run P w = .ok (.int k (k.wrap n)) w := by
  simp [convert, run_underlying hs, run_underlying hd, Conv.intToInt]
theorem conv_str {s d : TypeId} {u : TypeDesc} (hs : P.underlying s = some u) (hd : P.underlying d = some .string) (b : ByteArray) (w : World) : (convert s d (.string b)).run P w = .ok (.string b) w := by
  simp [convert, run_underlying hs, run_underlying hd]
theorem bytesWorld_heap (w : World) (e : TypeId) (s : ByteArray) : (Lib.bytesWorld w e s).heap[w.heap.size]? = some (.cells (Lib.bytesCells w e s) e ((Lib.bytesCells w e s).size, (Lib.bytesCells w e s).size + 1)) := by
  simp [Lib.bytesWorld, World.freeze, World.alloc, World.drew, -World.alloc_eq, -World.drew_eq, Array.getElem?_modify, Array.getElem_modify]
theorem bytesWorld_grown (w : World) (e : TypeId) (s : ByteArray) : w.grownBy (Lib.bytesWorld w e s) none := by
  refine ⟨?_, ?_, ?_, ?_, fun k hk _ => Lib.bytesWorld_at_old w e s k hk⟩
  all_goals simp [Lib.bytesWorld, World.freeze, World.alloc, World.drew, -World.alloc_eq, -World.drew_eq]
theorem conv_bytes (T : TabOk P tb) {s d e : TypeId} {us : TypeDesc} (hs' : P.underlying s = some us) (hd : P.underlying d = some (.slice e)) (he : P.underlying e = some (.int .u8)) (b : ByteArray) (hs : Sim B w0 ρ w fh) (hfr : rat ρ fr = none) :
    ∃ v w', (convert s d (.string b)).run P w = .ok v w' ∧ Res B w0 ρ fh fr ⟨one (.sl fr 0 (bytesL b).length), [(fr, some ⟨true, .ints .u8 (bytesL b)⟩)], 1, [], []⟩ v w' := by
  refine ⟨_, _, Lib.run_convert_string_bytes w s d e b hs' hd he, ?_⟩
  have hge := grownCap_ge w b.size 0 e
  have hc : (Lib.bytesCells w e b).toList = (Data.ints .u8 (bytesL b)).vals ++ List.replicate (grownCap w b.size 0 e - b.size) (.int .u8 0) := by
    simp [Lib.bytesCells, Data.vals, Data.flat, bytesL, C.val, Function.comp_def]
  have hsz : (Lib.bytesCells w e b).size = grownCap w b.size 0 e := by
    have : (Lib.bytesCells w e b).toList.length = _ := congrArg List.length hc
    simp [Data.vals, Data.flat, bytesL] at this
    have hd : b.data.size = b.size := rfl
    omega
  have hbl : (bytesL b).length = b.size := by simp [bytesL]
  have := hs.typed hfr (d := .ints .u8 (bytesL b)) rfl hc (bytesWorld_grown w e b) (bytesWorld_heap w e b) (.inr (Nat.le_refl _)) none
  rw [no_kill] at this
  refine ⟨_, rset_sub hfr, fun k hk => rset_out (n := 1) (by omega) hk, this, ⟨_, rset_at _ _ _, some ⟨w.heap.size, 0, none⟩, grownCap w b.size 0 e, by rw [hbl], by rw [hbl]; exact hge, .inl ⟨by simp, fun _ => ?_⟩⟩⟩
  simp [hsz, Data.sz]
theorem conv_string {s d e : TypeId} (hs' : P.underlying s = some (.slice e)) (he : P.underlying e = some (.int .u8)) (hd : P.underlying d = some .string) {L : List Int} {A : Option Addr} {len cap : Nat} (hl : L.length = len) (hA : (∃ b o, A = some ⟨b, o, none⟩ ∧ ∀ (j : Nat) n, L[j]? = some n → w.cell? ⟨b, o + j, none⟩ = some (.int .u8 n)) ∨ len = 0) :
    (convert s d (.slice A len cap)).run P w = .ok (.string (ofBytes L)) w := by
  rw [run_convert_bytes_string w s d e A len cap hs' he hd]
  have key : ∀ a : Addr, (loadCells a len).run P w = .ok (L.map (Value.int .u8)).toArray w → (Conv.bytesToString (.slice (some a) len cap)).run P w = .ok (.string (ofBytes L)) w := fun a h => by
    rw [run_bytesToString w a len cap L h, ofBytes_run]
  rcases hA with ⟨b, o, rfl, hc⟩ | h0
  · refine key _ ?_
    have := run_loadCells_list (P := P) w ⟨b, o, none⟩ (L.map (Value.int .u8)) (fun j v hj => by
      rw [List.getElem?_map] at hj
      cases hn : L[j]? with
      | none => rw [hn] at hj; cases hj
      | some n =>
        rw [hn] at hj
        simp only [Option.map_some, Option.some.injEq] at hj
        rw [add_lit, hc j n hn, hj])
    rw [List.length_map, hl] at this
    exact this
  · have hL : L = [] := List.eq_nil_of_length_eq_zero (by omega)
    subst hL
    subst h0
    cases A with
    | none => simp [Conv.bytesToString, ofBytes]; rfl
    | some a => exact key a (by simpa using run_loadCells_list (P := P) w a [] (fun j v hj => by simp at hj))
theorem convS_sound {s d e : TypeId} (hs' : P.underlying s = some (.slice e)) (he : P.underlying e = some (.int .u8)) (hd : P.underlying d = some .string) {l off len : Nat} {own : Bool} {L : List Int} (hf : fh l = some ⟨own, .ints .u8 L⟩) {v : Value} (hv : CR ρ (.sl l off len) v) (hle : off + len ≤ L.length) (hs : Sim B w0 ρ w fh) :
    (convert s d v).run P w = .ok (.string (ofBytes ((L.drop off).take len))) w := by
  obtain ⟨lc, hlc, A, cap, rfl, hcap, hA⟩ := hv
  obtain ⟨lc', hlc', hrow, _⟩ := hs.row l _ hf
  rw [hlc] at hlc'
  obtain rfl := Option.some.inj hlc'
  refine conv_string hs' he hd (by simp; omega) ?_
  rcases hA with ⟨rfl, _⟩ | ⟨h0, _⟩
  · refine .inl ⟨lc.b, lc.o + off * lc.sz, rfl, fun j n hj => ?_⟩
    have hsz : lc.sz = 1 := hrow.1
    rw [List.getElem?_take] at hj
    split at hj
    · rw [List.getElem?_drop] at hj
      obtain ⟨u, h1, h2⟩ := hrow.2.2.1 (off + j) (.int .u8 n) (by show (L.map (C.int .u8))[off + j]? = _; rw [List.getElem?_map, hj]; rfl)
      rw [hsz, Nat.mul_one, Nat.add_assoc, h1]
      exact congrArg some h2
    · cases hj
  · exact .inr h0

/-- A mark behind a row's last cell. -/
theorem conv_mark {s e : TypeId} (hs' : P.underlying s = some (.slice e)) (he : P.underlying e = some (.int .u8)) {l off len : Nat} {d : Data} (hf : fh l = some ⟨true, d⟩) (hd : d.isCells = false) {v : Value} (hv : CR ρ (.sl l off len) v) (h0 : 0 < len) (hs : Sim B w0 ρ w fh) :
    ∃ w', (convert s s v).run P w = .ok v w' ∧ Sim B w0 ρ w' (fun k => if k = l then some ⟨true, d⟩ else fh k) := by
  obtain ⟨lc, hlc, A, cap, rfl, hcap, hA⟩ := hv
  obtain ⟨lc', hlc', hrow, _⟩ := hs.row l _ hf
  rw [hlc] at hlc'
  obtain rfl := Option.some.inj hlc'
  rcases hA with ⟨rfl, hown⟩ | ⟨h, _⟩
  case inr => omega
  have hn0 : lc.n ≠ 0 := by
    have h1 := hown hrow.2.1
    have hszp : 0 < lc.sz := by
      rw [show lc.sz = d.sz from hrow.1]
      cases d <;> simp_all [Data.sz, Data.isCells]
    have := Nat.mul_pos (show 0 < off + cap by omega) hszp
    omega
  rcases (hrow.2.2.2 rfl).2 with h | ⟨cur, e', fz, g1, g2, g3⟩
  · exact absurd h hn0
  have hfz : ∃ fz', (w.freeze ⟨lc.b, cur.size, none⟩ 1).heap[lc.b]? = some (.cells cur e' fz') ∧ Unf cur.size fz' := by
    obtain ⟨lo, hi⟩ := fz
    simp only [World.freeze, Array.getElem?_modify, g1, if_neg (show ¬ (1 = 0) by decide)]
    simp only [if_true, Option.map_some]
    refine ⟨_, rfl, ?_⟩
    by_cases hlh : lo = hi
    · simp [hlh, Unf]
    · have hb : (lo == hi) = false := by simpa using hlh
      simp only [hb, Bool.false_eq_true, if_false, Unf]
      rcases g2 with g2 | g2
      · exact absurd g2 hlh
      · exact .inr (by simp at g2 ⊢; omega)
  refine ⟨w.freeze ⟨lc.b, cur.size, none⟩ 1, ?_, ?_⟩
  · simp [convert, run_underlying hs', run_underlying he, markStringish, World.shape?, g1]
  · obtain ⟨fz', hb, hz⟩ := hfz
    refine hs.step (Sub.refl ρ) (row := some lc.b) ⟨?_, ?_, ?_, ?_, fun k hk hne => ?_⟩ l (fun b hb' => ?_) (fun l' r hl' hf' => by simpa [hl'] using hf') (fun r hr => ?_)
    · simp [World.freeze]
    · simp [World.freeze]
    · simp [World.freeze]
    · simp [World.freeze]
    · have : k ≠ lc.b := fun e => hne (by rw [e])
      simp [World.freeze, Array.getElem?_modify, Ne.symm this]
    · obtain rfl := Option.some.inj hb'
      exact ⟨l, _, lc, hf, rfl, hlc, hn0, rfl, .inl rfl⟩
    · simp only [if_true] at hr
      obtain rfl := Option.some.inj hr
      refine ⟨lc, hlc, ⟨hrow.1, hrow.2.1, fun i c hi => ?_, fun _ => ⟨(hrow.2.2.2 rfl).1, .inr ⟨cur, e', fz', hb, hz, g3⟩⟩⟩, rfl, .inr (.inl rfl)⟩
      obtain ⟨u, h1, h2⟩ := hrow.2.2.1 i c hi
      refine ⟨u, ?_, h2⟩
      simp only [World.cell?, hb]
      simpa only [World.cell?, g1] using h1
end Go.Proofs.YtmodnnokcmabhaaGreat.Den
