/- The law FnFlash, in plain words: its function answers true. -/
import Derived.Test.YtmodnnokcmabhaaGreatGFnFlash
import Derived.Test.YtmodnnokcmabhaaGreatDenMod
import Derived.KernelRfl
import Derived.Test.YtmodnnokcmabhaaGreatPureFnFlasha
namespace Go.Proofs.YtmodnnokcmabhaaGreat.Pure
open Go Go.RowKit Go.Proofs.YtmodnnokcmabhaaGreat.Den Go.Proofs.YtmodnnokcmabhaaGreat.GFnFlash
set_option linter.unusedSimpArgs false
set_option linter.unusedVariables false
theorem impl_Concat3_eq (a b c : List Int) (h : a.length + b.length + c.length ≤ 70368744177664) : slices.Concat_byte_byte.f a b c = some ((a ++ b) ++ c) := by
  unfold slices.Concat_byte_byte.f
  have e0 : w64 (0 + (a.length : Int)) = (a.length : Int) := by rw [w64_id (by omega) (by omega)]; omega
  have e1 : w64 ((a.length : Int) + (b.length : Int)) = ((a.length + b.length : Nat) : Int) := by rw [w64_id (by omega) (by omega)]; omega
  have e2 : w64 (((a.length + b.length : Nat) : Int) + (c.length : Int)) = ((a.length + b.length + c.length : Nat) : Int) := by rw [w64_id (by omega) (by omega)]; omega
  simp only [e0, e1, e2]
  obtain ⟨l, hl⟩ := impl_Grow_eq ((a.length + b.length + c.length : Nat) : Int) (by omega) (by omega)
  refine ck_t (by decide) (br_n (by omega) (ck_t (by decide) (br_n (by omega) (ck_t (by decide) (br_n (by omega) (bind_t hl ?_))))))
  have : ((l.drop 0).take 0 : List Int) = [] := List.take_zero ..
  simp only [this, List.nil_append]
  exact ck_t (by omega) (ck_t (by omega) (ck_t (by rw [List.length_append]; omega) (ck_t (by simp only [List.length_append]; omega) rfl)))

theorem impl_summed_eq (K : Nat) (hK : 10000000000000 ≤ K) (l : List Int) (hb : Bytes l) (hl : l.length ≤ 1000000) : impl.summed.f K l = some (ofBytes (summedI l)) := by
  unfold impl.summed.f
  have := putI_length (sumF 7 l)
  exact bind_t (impl_Sum_eq K hK l hb (by omega)) (bind_t (impl_PutNum_eq K hK _) (bind_t (impl_Concat2_eq _ _ (by omega)) rfl))

theorem impl_RecText_eq (K : Nat) (hK : 10000000000000 ≤ K) (n q : Int) (d : ByteArray) : impl.RecText.f K n q d = some (if recOk n q d then ofBytes (recI n q d) else noVal) := by
  unfold impl.RecText.f
  refine bind_t (impl_RecOk_eq n q d) ?_
  by_cases c : recOk n q d
  · rw [if_pos c]
    have h1 := putI_length n
    have h2 := putI_length q
    have h3 := putI_length (d.size : Int)
    have h4 : (puttI d).length ≤ 405 := by unfold puttI; rw [List.length_append, bytesL_len]; have := c.2.2.2.2; omega
    have hp := impl_PutText_eq K hK d
    rw [if_pos c.2.2.2.2] at hp
    have hb := recB_bytes n q d
    refine br_d c (bind_t (impl_PutNum_eq K hK n) (bind_t (impl_PutNum_eq K hK q) (bind_t hp (bind_t (impl_Concat3_eq _ _ (puttI d) (by omega)) (bind_t (impl_summed_eq K hK (recB n q d) hb ?_) rfl)))))
    unfold recB; rw [List.length_append, List.length_append]; omega
  · rw [if_neg c]; exact br_n c rfl

theorem impl_Repeat_eq (K : Nat) (hK : 10000000000000 ≤ K) : slices.Repeat_int_int.f K [(-1)] 26 = some (List.replicate 26 (-1)) := by
  obtain ⟨k, rfl⟩ : ∃ k, K = k + 10 := ⟨K - 10, by omega⟩
  kernel_rfl
theorem minmax_seqN (s q : Int) : minI 1000000000 (maxI s (q + 1)) = seqN s q := by
  unfold minI maxI seqN
  by_cases c : s > q + 1
  · have e : (if s < q + 1 then q + 1 else s) = s := if_neg (by omega)
    rw [e, if_pos c]
  · have e : (if s < q + 1 then q + 1 else s) = q + 1 := by
      split
      · rfl
      · omega
    rw [e, if_neg c]
theorem pg_empty {a : List ByteArray} {i : Nat} (h : a.getD i noVal = noVal) : (pg a i).2.2.2 = false := by
  unfold pg
  rw [h]
  decide
theorem impl_mount_l0 (K : Nat) (hK : 10000000000000 ≤ K) (a : List ByteArray) (w : List Int) (hl : a.length ≤ 1000000) (hs : ∀ x ∈ a, x.size ≤ 1000000) (A : List ByteArray) (W : List Int) : ∀ (f i : Nat) (st : Mnt), a.length < i + f → i ≤ a.length → MntOk a i st →
    impl.mount.l0.f K a w f A W st.map st.seq st.best (i : Int) = some (A, W, (mRun a i (a.length - i) st).map, (mRun a i (a.length - i) st).seq) := by
  intro f
  induction f with
  | zero => intro i st h hi; omega
  | succ f ih =>
    intro i st h hi ho
    rw [impl.mount.l0.f]
    by_cases c : i < a.length
    · have e1 : w64 ((i : Int) + 1) = ((i + 1 : Nat) : Int) := wsucc (by omega)
      have hz : (a.getD i noVal).size ≤ 1000000000000 := by rw [getD_at c]; have := hs _ (List.getElem_mem c); omega
      have hr := impl_RecRead_eq K hK (a.getD i noVal) hz
      rw [show recR (bytesL (a.getD i noVal)) = pg a i from rfl] at hr
      rw [show a.length - i = (a.length - (i + 1)) + 1 by omega, mRun_succ]
      have hn := ih (i + 1) (mStep a st i) (by omega) (by omega) ho.step
      simp only [Int.toNat_natCast, e1]
      by_cases z : a.getD i noVal = noVal
      · have : mStep a st i = st := by unfold mStep; rw [pg_empty z, if_neg (by decide)]
        rw [this] at hn ⊢
        exact br_d (by omega) (ck_t (by omega) (br_t (strEq_iff.2 z) hn))
      have nz : strEq (a.getD i noVal) noVal = false := by rw [← Bool.not_eq_true, strEq_iff]; exact z
      by_cases d : (pg a i).2.2.2 = true
      case neg =>
        have : mStep a st i = st := by unfold mStep; rw [if_neg d]
        rw [this] at hn ⊢
        exact br_d (by omega) (ck_t (by omega) (br_f nz (bind_t hr (br_f (by simpa using d) hn))))
      obtain ⟨r1, r2, r3, r4, r5⟩ := pg_ok d
      have e2 : w64 ((pg a i).2.1 + 1) = (pg a i).2.1 + 1 := w64_id (by omega) (by omega)
      have hml := ho.mlen
      have hbl := ho.blen
      refine br_d (by omega) (ck_t (by omega) (br_f nz (bind_t hr (br_t d (ck_t r1 (ck_t (by omega) ?_))))))
      simp only [e2, minmax_seqN]
      by_cases e : (pg a i).2.1 > st.best.getD (pg a i).1.toNat 0
      · have : mStep a st i = ⟨st.map.set (pg a i).1.toNat i, seqN st.seq (pg a i).2.1, st.best.set (pg a i).1.toNat (pg a i).2.1⟩ := by unfold mStep; rw [if_pos d, if_pos e]
        rw [this] at hn ⊢
        exact br_d e (ck_t (by omega) hn)
      · have : mStep a st i = ⟨st.map, seqN st.seq (pg a i).2.1, st.best⟩ := by unfold mStep; rw [if_pos d, if_neg e]
        rw [this] at hn ⊢
        exact br_n e hn
    · rw [show a.length - i = 0 by omega]
      exact br_n (by omega) rfl
theorem impl_mount_eq (K : Nat) (hK : 10000000000000 ≤ K) (a : List ByteArray) (w : List Int) (c : chipOk a w) : impl.mount.f K a w = some (a, w, (mnt a).map, (mnt a).seq) := by
  unfold impl.mount.f
  have h1 := c.1
  have hm := impl_mount_l0 K hK a w (by omega) (fun x hx => by have := chip_page c x hx; omega) a w K 0 mInit (by omega) (by omega) (mInit_ok a)
  exact bind_t (impl_cloneChip_eq a w c) (bind_t (impl_Repeat_eq K hK) (ck_t (by decide) (bind_t hm rfl)))

theorem impl_Equal_l0 (m n : List Int) (hl : m.length ≤ 10000000) (hn : m.length = n.length) : ∀ (f i : Nat), m.length < i + f → i ≤ m.length →
    slices.Equal_int_int.l0.f m n f (i : Int) = some (if allF (fun j => m.getD j 0 = n.getD j 0) i m.length then .inr () else .inl ()) := by
  intro f
  induction f with
  | zero => intro i h hi; omega
  | succ f ih =>
    intro i h hi
    rw [slices.Equal_int_int.l0.f]
    by_cases c : i < m.length
    · have e1 : w64 ((i : Int) + 1) = ((i + 1 : Nat) : Int) := wsucc (by omega)
      simp only [Int.toNat_natCast, e1]
      by_cases d : m.getD i 0 = n.getD i 0
      · rw [if_iff ((allF_step c).trans ⟨fun g => g.2, fun g => ⟨d, g⟩⟩)]
        exact br_d (by omega) (ck_t (by omega) (ck_t (by omega) (br_f (by rw [d]; simp) (ih (i + 1) (by omega) (by omega)))))
      · rw [if_neg (fun g => d ((allF_step c).1 g).1)]
        exact br_d (by omega) (ck_t (by omega) (ck_t (by omega) (br_t (bne_iff_ne.2 d) rfl)))
    · rw [if_pos (allF_end (by omega))]
      exact br_n (by omega) rfl
theorem impl_Equal_eq (K : Nat) (hK : 10000000000000 ≤ K) (m n : List Int) (hl : m.length ≤ 10000000) : slices.Equal_int_int.f K m n = some (decide (m = n)) := by
  unfold slices.Equal_int_int.f
  by_cases c : m.length = n.length
  · refine br_f (by simp [c]) (bind_t (impl_Equal_l0 m n hl c K 0 (by omega) (by omega)) ?_)
    by_cases d : allF (fun j => m.getD j 0 = n.getD j 0) 0 m.length
    · rw [if_pos d, decide_eq_true (list_ext c (fun j hj => d j (by omega) hj))]; rfl
    · rw [if_neg d, decide_eq_false (fun e => d (fun j _ _ => by rw [e]))]; rfl
  · rw [decide_eq_false (fun e => c (by rw [e]))]
    exact br_t (bne_iff_ne.2 (by omega)) rfl
theorem impl_FtlOk_eq (K : Nat) (hK : 10000000000000 ≤ K) (a : List ByteArray) (w m : List Int) (s : Int) (hl : m.length ≤ 10000000) : impl.FtlOk.f K a w m s = some (decide (ftlOk a w m s)) := by
  unfold impl.FtlOk.f
  refine bind_t (impl_ChipOk_eq K hK a w) ?_
  by_cases c : chipOk a w
  case neg => rw [decide_eq_false (p := ftlOk a w m s) (fun g => c g.1)]; exact br_n c rfl
  refine br_d c (bind_t (impl_mount_eq K hK a w c) (bind_t (impl_Equal_eq K hK m _ hl) ?_))
  by_cases d : m = (mnt a).map
  case neg => rw [decide_eq_false (p := ftlOk a w m s) (fun g => d g.2.1)]; exact br_n d rfl
  refine br_d d ?_
  by_cases e : s = (mnt a).seq
  · rw [decide_eq_true (p := ftlOk a w m s) ⟨c, d, e⟩]; simp [e]
  · rw [decide_eq_false (p := ftlOk a w m s) (fun g => e g.2.2)]; simp [e]

theorem Index_l0 (l : List ByteArray) (hl : l.length ≤ 1000000) : ∀ (f i : Nat), l.length < i + f → i ≤ l.length →
    slices.Index_string_string.l0.f l noVal f (i : Int) = some (if (l.drop i).findIdx eB < (l.drop i).length then .inl (((i + (l.drop i).findIdx eB : Nat)) : Int) else .inr ()) := by
  intro f
  induction f with
  | zero => intro i h hi; omega
  | succ f ih =>
    intro i h hi
    rw [slices.Index_string_string.l0.f]
    by_cases c : i < l.length
    · have e1 : w64 ((i : Int) + 1) = ((i + 1 : Nat) : Int) := wsucc (by omega)
      rw [List.drop_eq_getElem_cons c, List.findIdx_cons, List.length_cons]
      simp only [e1, Int.toNat_natCast, getD_at c, eB_comm]
      refine br_d (by omega) (ck_t (by omega) ?_)
      by_cases d : eB l[i] = true
      · rw [d, if_pos (by simp)]
        exact br_t rfl (by simp)
      · rw [Bool.not_eq_true] at d
        rw [d, ih (i + 1) (by omega) (by omega)]
        refine br_f rfl ?_
        by_cases g : (l.drop (i + 1)).findIdx eB < (l.drop (i + 1)).length
        · rw [if_pos g, if_pos (by simpa using g)]
          simp only [cond_false]
          rw [show i + 1 + (l.drop (i + 1)).findIdx eB = i + ((l.drop (i + 1)).findIdx eB + 1) by omega]
        · rw [if_neg g, if_neg (by simpa using g)]
    · rw [List.drop_eq_nil_of_le (by omega)]
      exact br_n (by omega) rfl
theorem Index_eq (K : Nat) (hK : 10000000000000 ≤ K) (l : List ByteArray) (hl : l.length ≤ 1000000) : slices.Index_string_string.f K l noVal = some (if l.findIdx eB < l.length then (l.findIdx eB : Int) else -1) := by
  unfold slices.Index_string_string.f
  refine bind_t (Index_l0 l hl K 0 (by omega) (by omega)) ?_
  rw [List.drop_zero]
  by_cases g : l.findIdx eB < l.length
  · rw [if_pos g, if_pos g, Nat.zero_add]; rfl
  · rw [if_neg g, if_neg g]; rfl
theorem IndexF_l0 (l : List ByteArray) (hl : l.length ≤ 1000000) : ∀ (f i : Nat), l.length < i + f → i ≤ l.length →
    slices.IndexFunc_string_string_1.l0.f l f (i : Int) = some (if (l.drop i).findIdx (fun x => !eB x) < (l.drop i).length then .inl (((i + (l.drop i).findIdx (fun x => !eB x) : Nat)) : Int) else .inr ()) := by
  intro f
  induction f with
  | zero => intro i h hi; omega
  | succ f ih =>
    intro i h hi
    rw [slices.IndexFunc_string_string_1.l0.f]
    by_cases c : i < l.length
    · have e1 : w64 ((i : Int) + 1) = ((i + 1 : Nat) : Int) := wsucc (by omega)
      have e2 : strEq l[i] noVal = eB l[i] := rfl
      rw [List.drop_eq_getElem_cons c, List.findIdx_cons, List.length_cons]
      simp only [e1, Int.toNat_natCast, getD_at c, e2]
      refine br_d (by omega) (ck_t (by omega) (bind_t (a := ()) rfl ?_))
      by_cases d : eB l[i] = true
      · rw [d, ih (i + 1) (by omega) (by omega)]
        refine br_t rfl ?_
        by_cases g : (l.drop (i + 1)).findIdx (fun x => !eB x) < (l.drop (i + 1)).length
        · rw [if_pos g, if_pos (by simpa using g)]
          simp only [Bool.not_true, cond_false]
          rw [show i + 1 + (l.drop (i + 1)).findIdx (fun x => !eB x) = i + ((l.drop (i + 1)).findIdx (fun x => !eB x) + 1) by omega]
        · rw [if_neg g, if_neg (by simpa using g)]
      · rw [Bool.not_eq_true] at d
        rw [d, if_pos (by simp)]
        exact br_f rfl (by simp)
    · rw [List.drop_eq_nil_of_le (by omega)]
      exact br_n (by omega) rfl
theorem ContainsF_eq (K : Nat) (hK : 10000000000000 ≤ K) (l : List ByteArray) (hl : l.length ≤ 1000000) : slices.ContainsFunc_string_string_1.f K l = some (decide (l.findIdx (fun x => !eB x) < l.length)) := by
  unfold slices.ContainsFunc_string_string_1.f slices.IndexFunc_string_string_1.f
  have h := IndexF_l0 l hl K 0 (by omega) (by omega)
  rw [List.drop_zero] at h
  by_cases g : l.findIdx (fun x => !eB x) < l.length
  · rw [if_pos g, Nat.zero_add] at h
    rw [decide_eq_true g]
    exact bind_t (bind_t h rfl) (by simp)
  · rw [if_neg g] at h
    rw [decide_eq_false g]
    exact bind_t (bind_t h rfl) rfl
theorem impl_firstClear_eq (K : Nat) (hK : 10000000000000 ≤ K) (a : List ByteArray) (w : List Int) (b : Nat) (h : b * 6 + 6 ≤ a.length) (hl : a.length ≤ 1000000) : impl.firstClear.f K a w (b : Int) = some (fcl (blk a b)) := by
  unfold impl.firstClear.f
  have hb := blk_length h
  have e1 : w64 ((b : Int) * 6) = ((b * 6 : Nat) : Int) := by rw [w64_id (by omega) (by omega)]; omega
  have e2 : w64 (w64 ((b : Int) + 1) * 6) = ((b * 6 + 6 : Nat) : Int) := by rw [wsucc (by omega), w64_id (by omega) (by omega)]; omega
  have e3 : b * 6 + 6 - b * 6 = 6 := by omega
  simp only [e1, e2, Int.toNat_natCast, e3, addO_eq]
  have hi := Index_eq K hK (blk a b) (by omega)
  refine ck_t (by omega) (ck_t (by omega) (ck_t (by omega) (bind_t hi (ck_t (by omega) ?_))))
  unfold fcl
  by_cases g : (blk a b).findIdx eB < (blk a b).length
  · rw [if_pos g, if_pos g]
    refine br_n (by omega) (ck_t (by omega) ?_)
    rw [Int.toNat_natCast]
    have ew : (a.drop (b * 6 + (blk a b).findIdx eB)).take (6 - (blk a b).findIdx eB) = (blk a b).drop ((blk a b).findIdx eB) := by
      conv => rhs; arg 2; unfold blk
      rw [List.drop_take, List.drop_drop]
    rw [ew]
    refine bind_t (ContainsF_eq K hK _ (by rw [List.length_drop]; omega)) (ck_t (by omega) ?_)
    by_cases q : ((blk a b).drop ((blk a b).findIdx eB)).findIdx (fun x => !eB x) < ((blk a b).drop ((blk a b).findIdx eB)).length
    · rw [if_pos q]; exact br_d q rfl
    · rw [if_neg q]; exact br_n q rfl
  · rw [if_neg g, if_neg g]
    exact br_d (by decide) rfl

theorem impl_nextPage_l0 (K : Nat) (hK : 10000000000000 ≤ K) (a : List ByteArray) (w : List Int) (ha : a.length = 60) : ∀ (f i : Nat), 10 < i + f → i ≤ 10 →
    (∃ p, impl.nextPage.l0.f K a w (-1) f (i : Int) = some (.inl p) ∧ ∀ best, nx a w (List.range' i (10 - i)) best = p) ∨ (impl.nextPage.l0.f K a w (-1) f (i : Int) = some (.inr ()) ∧ ∀ v ∈ List.range' i (10 - i), ptB a v = false) := by
  intro f
  induction f with
  | zero => intro i h1 hi; omega
  | succ f ih =>
    intro i h1 hi
    rw [impl.nextPage.l0.f]
    by_cases c : i < 10
    · have e1 : w64 ((i : Int) + 1) = ((i + 1 : Nat) : Int) := wsucc (by omega)
      have hz := fcl_cases (a := a) (v := i) (by omega)
      have hf := impl_firstClear_eq K hK a w i (by omega) (by omega)
      have e0 : ((i : Int) != -1) = true := by simp
      rw [show 10 - i = (10 - (i + 1)) + 1 by omega, List.range'_succ]
      simp only [nx, e1]
      have hno : ptB a i = false → ¬ fcl (blk a i) > 0 → (∃ p, cond (decide ((i : Int) < 10)) (Option.bind (impl.firstClear.f K a w (i : Int)) fun x1 => cond (decide (x1 > 0)) (cond ((i : Int) != -1) (some (.inl (w64 ((w64 ((i : Int) * 6)) + x1)))) (impl.nextPage.l0.f K a w (-1) f ((i + 1 : Nat) : Int))) (impl.nextPage.l0.f K a w (-1) f ((i + 1 : Nat) : Int))) (some (.inr ())) = some (.inl p) ∧ ∀ best, (if ptB a i = true then ptP a i else nx a w (List.range' (i + 1) (10 - (i + 1))) (if frB a i = true then bst w best i else best)) = p) ∨ (cond (decide ((i : Int) < 10)) (Option.bind (impl.firstClear.f K a w (i : Int)) fun x1 => cond (decide (x1 > 0)) (cond ((i : Int) != -1) (some (.inl (w64 ((w64 ((i : Int) * 6)) + x1)))) (impl.nextPage.l0.f K a w (-1) f ((i + 1 : Nat) : Int))) (impl.nextPage.l0.f K a w (-1) f ((i + 1 : Nat) : Int))) (some (.inr ())) = some (.inr ()) ∧ ∀ v ∈ i :: List.range' (i + 1) (10 - (i + 1)), ptB a v = false) := by
        intro z2 z3
        rcases ih (i + 1) (by omega) (by omega) with ⟨p, g1, g2⟩ | ⟨g1, g2⟩
        · exact .inl ⟨p, br_d (by omega) (bind_t hf (br_n z3 g1)), fun best => by rw [z2, if_neg (by decide)]; exact g2 _⟩
        · refine .inr ⟨br_d (by omega) (bind_t hf (br_n z3 g1)), fun v hv => ?_⟩
          rcases List.mem_cons.1 hv with rfl | hv
          · exact z2
          · exact g2 v hv
      rcases hz with ⟨z1, z2, z3, z4⟩ | ⟨z1, z2, z3, z4, z5, z6⟩ | ⟨z1, z2, z3, z4, z5⟩
      · exact hno z2 (by omega)
      · refine .inl ⟨ptP a i, br_d (by omega) (bind_t hf (br_d (by omega) (br_t e0 ?_))), fun best => by rw [if_pos z2]⟩
        unfold ptP
        rw [w64_id (x := (i : Int) * 6) (by omega) (by omega), w64_id (by omega) (by omega), z6]
        congr 2; omega
      · exact hno z2 (by omega)
    · rw [show 10 - i = 0 by omega]
      exact .inr ⟨br_n (by omega) rfl, fun v hv => by simp at hv⟩
theorem impl_isFree_eq (K : Nat) (hK : 10000000000000 ≤ K) (a : List ByteArray) (w : List Int) (ha : a.length = 60) (i : Nat) (hi : i < 10) : impl.isFree.f K a w (i : Int) = some (frB a i) := by
  unfold impl.isFree.f
  refine bind_t (impl_firstClear_eq K hK a w i (by omega) (by omega)) ?_
  rcases fcl_cases (a := a) (v := i) (by omega) with ⟨z1, z2, z3, z4⟩ | ⟨z1, z2, z3, z4, z5, z6⟩ | ⟨z1, z2, z3, z4, z5⟩
  · rw [z1, z3]; rfl
  · rw [z1]
    have : (fcl (blk a i) == 0) = false := by simp; omega
    rw [this]
  · rw [z1, z4]; rfl
theorem impl_freeBlocks_l0 (K : Nat) (hK : 10000000000000 ≤ K) (a : List ByteArray) (w : List Int) (ha : a.length = 60) : ∀ (f i : Nat) (v : List Int), 10 < i + f → i ≤ 10 → v.length ≤ i →
    impl.freeBlocks.l0.f K a w f v (i : Int) = some (v ++ ((List.range' i (10 - i)).filter (frB a)).map fun (v : Nat) => (v : Int)) := by
  intro f
  induction f with
  | zero => intro i v h1 hi; omega
  | succ f ih =>
    intro i v h1 hi hv
    rw [impl.freeBlocks.l0.f]
    by_cases c : i < 10
    · have e1 : w64 ((i : Int) + 1) = ((i + 1 : Nat) : Int) := wsucc (by omega)
      rw [show 10 - i = (10 - (i + 1)) + 1 by omega, List.range'_succ]
      simp only [e1]
      refine br_d (by omega) (bind_t (impl_isFree_eq K hK a w ha i c) ?_)
      by_cases d : frB a i = true
      · rw [List.filter_cons_of_pos d]
        refine br_t d (ck_t (by simp; omega) ?_)
        rw [ih (i + 1) (v ++ [(i : Int)]) (by omega) (by omega) (by simp; omega)]
        simp
      · rw [List.filter_cons_of_neg d]
        exact br_f (by simpa using d) (ih (i + 1) v (by omega) (by omega) (by omega))
    · rw [show 10 - i = 0 by omega]
      exact br_n (by omega) (by simp)
theorem impl_nextPage_l1 (a : List ByteArray) (w : List Int) (hw : w.length = 10) (L : List Int) (hL : L.length ≤ 10) (hx : ∀ x ∈ L, 0 ≤ x ∧ x < 10) : ∀ (f i : Nat) (best : Int), L.length < i + f → i ≤ L.length → best < 10 →
    impl.nextPage.l1.f a w (-1) f best L (L.length : Int) (i : Int) = some ((L.drop i).foldl (bst w) best) := by
  intro f
  induction f with
  | zero => intro i best h1 hi; omega
  | succ f ih =>
    intro i best h1 hi hb
    rw [impl.nextPage.l1.f]
    by_cases c : i < L.length
    · have e1 : w64 ((i : Int) + 1) = ((i + 1 : Nat) : Int) := wsucc (by omega)
      have hm := hx L[i] (List.getElem_mem c)
      rw [List.drop_eq_getElem_cons c, List.foldl_cons]
      simp only [e1, Int.toNat_natCast, getD_at c]
      have e0 : (L[i] != -1) = true := by simp; omega
      refine br_d (by omega) (ck_t (by omega) (ck_t (by omega) (br_t e0 ?_)))
      unfold bst
      by_cases d : best < 0
      · rw [if_pos d]
        exact br_d d (ih (i + 1) _ (by omega) (by omega) (by omega))
      · rw [if_neg d]
        refine br_n d (ck_t (by omega) (ck_t (by omega) (ck_t (by omega) ?_)))
        by_cases q : w.getD L[i].toNat 0 < w.getD best.toNat 0
        · rw [if_pos q]
          exact br_d q (ih (i + 1) _ (by omega) (by omega) (by omega))
        · rw [if_neg q]
          exact br_n q (ih (i + 1) _ (by omega) (by omega) (by omega))
    · rw [List.drop_eq_nil_of_le (by omega)]
      exact br_n (by omega) rfl
theorem impl_nextPage_eq (K : Nat) (hK : 10000000000000 ≤ K) (a : List ByteArray) (w : List Int) (ha : a.length = 60) (hw : w.length = 10) : impl.nextPage.f K a w (-1) = some (nxt a w) := by
  unfold impl.nextPage.f nxt
  rcases impl_nextPage_l0 K hK a w ha K 0 (by omega) (by omega) with ⟨p, g1, g2⟩ | ⟨g1, g2⟩
  · refine bind_t g1 ?_
    rw [g2]; rfl
  · refine bind_t g1 ?_
    rw [nx_no a w _ _ g2]
    have hf := impl_freeBlocks_l0 K hK a w ha K 0 [] (by omega) (by omega) (by simp)
    rw [List.nil_append] at hf
    have hLl : (((List.range' 0 10).filter (frB a)).map fun (v : Nat) => (v : Int)).length ≤ 10 := by
      rw [List.length_map]
      exact Nat.le_trans (List.length_filter_le _ _) (by simp)
    have hLx : ∀ x ∈ (((List.range' 0 10).filter (frB a)).map fun (v : Nat) => (v : Int)), 0 ≤ x ∧ x < 10 := by
      intro x hx
      obtain ⟨v, hv, rfl⟩ := List.mem_map.1 hx
      have := List.mem_range'_1.1 (List.mem_filter.1 hv).1
      omega
    have hff : impl.freeBlocks.f K a w = some (((List.range' 0 10).filter (frB a)).map fun (v : Nat) => (v : Int)) := by
      unfold impl.freeBlocks.f
      exact bind_t hf rfl
    generalize (((List.range' 0 10).filter (frB a)).map fun (v : Nat) => (v : Int)) = L at hff hLl hLx ⊢
    have hl1 := impl_nextPage_l1 a w hw L hLl hLx K 0 (-1) (by omega) (by omega) (by omega)
    rw [List.drop_zero] at hl1
    have hlt := bst_lt w L (-1) hLx (by omega)
    refine bind_t hff (bind_t hl1 ?_)
    unfold fin6
    generalize L.foldl (bst w) (-1) = r at hlt ⊢
    by_cases q : r < 0
    · rw [if_pos q]; exact br_d q rfl
    · rw [if_neg q]
      refine br_n q ?_
      rw [w64_id (by omega) (by omega)]

theorem impl_nextPage_b0 (K : Nat) (hK : 10000000000000 ≤ K) (a : List ByteArray) (w : List Int) (ha : a.length = 60) (b : Int) (hb : ∀ v : Nat, v < 10 → ptB a v = true → (v : Int) ≠ b) : ∀ (f i : Nat), 10 < i + f → i ≤ 10 →
    (∃ p, impl.nextPage.l0.f K a w b f (i : Int) = some (.inl p) ∧ ∀ best, nx a w (List.range' i (10 - i)) best = p) ∨ (impl.nextPage.l0.f K a w b f (i : Int) = some (.inr ()) ∧ ∀ v ∈ List.range' i (10 - i), ptB a v = false) := by
  intro f
  induction f with
  | zero => intro i h1 hi; omega
  | succ f ih =>
    intro i h1 hi
    rw [impl.nextPage.l0.f]
    by_cases c : i < 10
    · have e1 : w64 ((i : Int) + 1) = ((i + 1 : Nat) : Int) := wsucc (by omega)
      have hz := fcl_cases (a := a) (v := i) (by omega)
      have hf := impl_firstClear_eq K hK a w i (by omega) (by omega)
      rw [show 10 - i = (10 - (i + 1)) + 1 by omega, List.range'_succ]
      simp only [nx, e1]
      have hno : ptB a i = false → ¬ fcl (blk a i) > 0 → (∃ p, cond (decide ((i : Int) < 10)) (Option.bind (impl.firstClear.f K a w (i : Int)) fun x1 => cond (decide (x1 > 0)) (cond ((i : Int) != b) (some (.inl (w64 ((w64 ((i : Int) * 6)) + x1)))) (impl.nextPage.l0.f K a w b f ((i + 1 : Nat) : Int))) (impl.nextPage.l0.f K a w b f ((i + 1 : Nat) : Int))) (some (.inr ())) = some (.inl p) ∧ ∀ best, (if ptB a i = true then ptP a i else nx a w (List.range' (i + 1) (10 - (i + 1))) (if frB a i = true then bst w best i else best)) = p) ∨ (cond (decide ((i : Int) < 10)) (Option.bind (impl.firstClear.f K a w (i : Int)) fun x1 => cond (decide (x1 > 0)) (cond ((i : Int) != b) (some (.inl (w64 ((w64 ((i : Int) * 6)) + x1)))) (impl.nextPage.l0.f K a w b f ((i + 1 : Nat) : Int))) (impl.nextPage.l0.f K a w b f ((i + 1 : Nat) : Int))) (some (.inr ())) = some (.inr ()) ∧ ∀ v ∈ i :: List.range' (i + 1) (10 - (i + 1)), ptB a v = false) := by
        intro z2 z3
        rcases ih (i + 1) (by omega) (by omega) with ⟨p, g1, g2⟩ | ⟨g1, g2⟩
        · exact .inl ⟨p, br_d (by omega) (bind_t hf (br_n z3 g1)), fun best => by rw [z2, if_neg (by decide)]; exact g2 _⟩
        · refine .inr ⟨br_d (by omega) (bind_t hf (br_n z3 g1)), fun v hv => ?_⟩
          rcases List.mem_cons.1 hv with rfl | hv
          · exact z2
          · exact g2 v hv
      rcases hz with ⟨z1, z2, z3, z4⟩ | ⟨z1, z2, z3, z4, z5, z6⟩ | ⟨z1, z2, z3, z4, z5⟩
      · exact hno z2 (by omega)
      · refine .inl ⟨ptP a i, br_d (by omega) (bind_t hf (br_d (by omega) (br_t (by simpa using hb i c z2) ?_))), fun best => by rw [if_pos z2]⟩
        unfold ptP
        rw [w64_id (x := (i : Int) * 6) (by omega) (by omega), w64_id (by omega) (by omega), z6]
        congr 2; omega
      · exact hno z2 (by omega)
    · rw [show 10 - i = 0 by omega]
      exact .inr ⟨br_n (by omega) rfl, fun v hv => by simp at hv⟩
theorem impl_nextPage_b1 (a : List ByteArray) (w : List Int) (hw : w.length = 10) (L : List Int) (b : Int) (hLne : ∀ x ∈ L, x ≠ b) (hL : L.length ≤ 10) (hx : ∀ x ∈ L, 0 ≤ x ∧ x < 10) : ∀ (f i : Nat) (best : Int), L.length < i + f → i ≤ L.length → best < 10 →
    impl.nextPage.l1.f a w b f best L (L.length : Int) (i : Int) = some ((L.drop i).foldl (bst w) best) := by
  intro f
  induction f with
  | zero => intro i best h1 hi; omega
  | succ f ih =>
    intro i best h1 hi hb
    rw [impl.nextPage.l1.f]
    by_cases c : i < L.length
    · have e1 : w64 ((i : Int) + 1) = ((i + 1 : Nat) : Int) := wsucc (by omega)
      have hm := hx L[i] (List.getElem_mem c)
      rw [List.drop_eq_getElem_cons c, List.foldl_cons]
      simp only [e1, Int.toNat_natCast, getD_at c]
      have e0 : (L[i] != b) = true := by simpa using hLne L[i] (List.getElem_mem c)
      refine br_d (by omega) (ck_t (by omega) (ck_t (by omega) (br_t e0 ?_)))
      unfold bst
      by_cases d : best < 0
      · rw [if_pos d]
        exact br_d d (ih (i + 1) _ (by omega) (by omega) (by omega))
      · rw [if_neg d]
        refine br_n d (ck_t (by omega) (ck_t (by omega) (ck_t (by omega) ?_)))
        by_cases q : w.getD L[i].toNat 0 < w.getD best.toNat 0
        · rw [if_pos q]
          exact br_d q (ih (i + 1) _ (by omega) (by omega) (by omega))
        · rw [if_neg q]
          exact br_n q (ih (i + 1) _ (by omega) (by omega) (by omega))
    · rw [List.drop_eq_nil_of_le (by omega)]
      exact br_n (by omega) rfl
theorem impl_nextPage_b (K : Nat) (hK : 10000000000000 ≤ K) (a : List ByteArray) (w : List Int) (ha : a.length = 60) (hw : w.length = 10) (b : Int) (hp : ∀ v : Nat, v < 10 → ptB a v = true → (v : Int) ≠ b) (hf : ∀ v : Nat, v < 10 → frB a v = true → (v : Int) ≠ b) : impl.nextPage.f K a w b = some (nxt a w) := by
  unfold impl.nextPage.f nxt
  rcases impl_nextPage_b0 K hK a w ha b hp K 0 (by omega) (by omega) with ⟨p, g1, g2⟩ | ⟨g1, g2⟩
  · refine bind_t g1 ?_
    rw [g2]; rfl
  · refine bind_t g1 ?_
    rw [nx_no a w _ _ g2]
    have hf0 := impl_freeBlocks_l0 K hK a w ha K 0 [] (by omega) (by omega) (by simp)
    rw [List.nil_append] at hf0
    have hLl : (((List.range' 0 10).filter (frB a)).map fun (v : Nat) => (v : Int)).length ≤ 10 := by
      rw [List.length_map]
      exact Nat.le_trans (List.length_filter_le _ _) (by simp)
    have hLx : ∀ x ∈ (((List.range' 0 10).filter (frB a)).map fun (v : Nat) => (v : Int)), 0 ≤ x ∧ x < 10 := by
      intro x hx
      obtain ⟨v, hv, rfl⟩ := List.mem_map.1 hx
      have := List.mem_range'_1.1 (List.mem_filter.1 hv).1
      omega
    have hff : impl.freeBlocks.f K a w = some (((List.range' 0 10).filter (frB a)).map fun (v : Nat) => (v : Int)) := by
      unfold impl.freeBlocks.f
      exact bind_t hf0 rfl
    have hLb : ∀ x ∈ (((List.range' 0 10).filter (frB a)).map fun (v : Nat) => (v : Int)), x ≠ b := by
      intro x hx
      obtain ⟨v, hv, rfl⟩ := List.mem_map.1 hx
      have h1 := List.mem_range'_1.1 (List.mem_filter.1 hv).1
      exact hf v (by omega) (List.mem_filter.1 hv).2
    generalize (((List.range' 0 10).filter (frB a)).map fun (v : Nat) => (v : Int)) = L at hff hLl hLx hLb ⊢
    have hl1 := impl_nextPage_b1 a w hw L b hLb hLl hLx K 0 (-1) (by omega) (by omega) (by omega)
    rw [List.drop_zero] at hl1
    have hlt := bst_lt w L (-1) hLx (by omega)
    refine bind_t hff (bind_t hl1 ?_)
    unfold fin6
    generalize L.foldl (bst w) (-1) = r at hlt ⊢
    by_cases q : r < 0
    · rw [if_pos q]; exact br_d q rfl
    · rw [if_neg q]
      refine br_n q ?_
      rw [w64_id (by omega) (by omega)]

theorem set_mid {α : Type} (A B : List α) (x y : α) (n : Nat) (h : A.length = n) : (A ++ x :: B).set n y = A ++ y :: B := by
  subst h
  induction A with
  | nil => rfl
  | cons a A ih => simp only [List.cons_append, List.length_cons, List.set_cons_succ, ih]
theorem getD_mid {α : Type} (A B : List α) (x d : α) (n : Nat) (h : A.length = n) : (A ++ x :: B).getD n d = x := by
  subst h
  induction A with
  | nil => rfl
  | cons a A ih => simp
theorem less_eq (x y : Int) : cmp.Less_int.f x y = some (decide (x < y)) := by
  unfold cmp.Less_int.f
  exact bind_t (a := ()) rfl (br_f (by simp) rfl)
theorem ins_l1 (a2 w : Int) : ∀ (n : Nat) (A B : List Int) (x : Int) (f : Nat), A.length = n → n < f → n ≤ 1000000 → A.Pairwise (· ≤ ·) →
    ∃ R, slices.insertionSortOrdered_int.l1.f 0 a2 w f (A ++ x :: B) (n : Int) = some (R ++ B) ∧ R.Perm (A ++ [x]) ∧ R.Pairwise (· ≤ ·) := by
  intro n
  induction n with
  | zero =>
    intro A B x f hA hf _ _
    obtain ⟨k, rfl⟩ := Nat.exists_eq_add_one_of_ne_zero (by omega : f ≠ 0)
    have : A = [] := List.eq_nil_of_length_eq_zero hA
    subst this
    rw [slices.insertionSortOrdered_int.l1.f]
    exact ⟨[x], br_n (by omega) rfl, .refl _, List.pairwise_singleton ..⟩
  | succ n ih =>
    intro A B x f hA hf hn hs
    obtain ⟨k, rfl⟩ := Nat.exists_eq_add_one_of_ne_zero (by omega : f ≠ 0)
    obtain ⟨A, y, rfl⟩ : ∃ A' y, A = A' ++ [y] := ⟨A.dropLast, A.getLast (by intro h; subst h; simp at hA), (List.dropLast_concat_getLast _).symm⟩
    have hA' : A.length = n := by simpa using hA
    rw [slices.insertionSortOrdered_int.l1.f]
    have e1 : w64 (((n + 1 : Nat) : Int) - 1) = (n : Int) := by rw [w64_id (by omega) (by omega)]; omega
    have ev : A ++ [y] ++ x :: B = A ++ y :: x :: B := by simp
    have g1 : (A ++ [y] ++ x :: B).getD (n + 1) 0 = x := getD_mid _ _ _ _ _ (by simpa using hA')
    have g2 : (A ++ [y] ++ x :: B).getD n 0 = y := by rw [ev]; exact getD_mid _ _ _ _ _ hA'
    have hl : (A ++ [y] ++ x :: B).length = n + 2 + B.length := by simp; omega
    simp only [e1, Int.toNat_natCast, g1, g2]
    have hsp := List.pairwise_append.1 hs
    by_cases c : x < y
    · have es : ((A ++ [y] ++ x :: B).set (n + 1) y).set n x = A ++ x :: (y :: B) := by
        rw [set_mid _ _ _ _ _ (by simpa using hA'), show A ++ [y] ++ y :: B = A ++ y :: y :: B by simp, set_mid _ _ _ _ _ hA']
      obtain ⟨R, h1, h2, h3⟩ := ih A (y :: B) x k hA' (by omega) (by omega) hsp.1
      refine ⟨R ++ [y], ?_, ?_, ?_⟩
      · refine br_d (by omega) (ck_t (by omega) (ck_t (by omega) (ck_t (by omega) (ck_t (by omega) (bind_t (less_eq _ _) (br_d c ?_))))))
        rw [es, h1]; simp
      · exact (h2.append_right [y]).trans (by rw [List.append_assoc, List.append_assoc]; exact .append_left _ (.swap ..))
      · refine List.pairwise_append.2 ⟨h3, List.pairwise_singleton .., fun u hu v hv => ?_⟩
        rw [List.mem_singleton] at hv
        subst hv
        rcases List.mem_append.1 (h2.subset hu) with h | h
        · exact hsp.2.2 u h v (by simp)
        · rw [List.mem_singleton] at h; omega
    · refine ⟨A ++ [y] ++ [x], br_d (by omega) (ck_t (by omega) (ck_t (by omega) (ck_t (by omega) (ck_t (by omega) (bind_t (less_eq _ _) (br_n c ?_)))))), .refl _, ?_⟩
      · simp
      · refine List.pairwise_append.2 ⟨hs, List.pairwise_singleton .., fun u hu v hv => ?_⟩
        rw [List.mem_singleton] at hv
        subst hv
        rcases List.mem_append.1 hu with h | h
        · have := hsp.2.2 u h y (by simp); omega
        · rw [List.mem_singleton] at h; omega
theorem ins_l0 (K N : Nat) (hK : 10000000000000 ≤ K) (hN : N ≤ 1000000) : ∀ (f : Nat) (P Q : List Int), N < P.length + f → P.length + Q.length = N → P.Pairwise (· ≤ ·) →
    ∃ R, slices.insertionSortOrdered_int.l0.f K 0 (N : Int) f (P ++ Q) (P.length : Int) = some R ∧ R.Perm (P ++ Q) ∧ R.Pairwise (· ≤ ·) := by
  intro f
  induction f with
  | zero => intro P Q h h2; omega
  | succ f ih =>
    intro P Q h h2 hs
    rw [slices.insertionSortOrdered_int.l0.f]
    cases Q with
    | nil =>
      have h3 : P.length = N := by simpa using h2
      exact ⟨P ++ [], br_n (by omega) rfl, .refl _, by simpa using hs⟩
    | cons x Q =>
      rw [List.length_cons] at h2
      obtain ⟨R, h3, h4, h5⟩ := ins_l1 (N : Int) (P.length : Int) P.length P Q x K rfl (by omega) (by omega) hs
      have hR : R.length = P.length + 1 := by rw [h4.length_eq]; simp
      obtain ⟨T, k1, k2, k3⟩ := ih R Q (by omega) (by omega) h5
      rw [hR] at k1
      refine ⟨T, br_d (by omega) (bind_t h3 ?_), ?_, k3⟩
      · rw [wsucc (by omega)]; exact k1
      · exact k2.trans ((h4.append_right Q).trans (by rw [List.append_assoc]; exact .refl _))
theorem len_all : ((List.range 13).all fun n => (math_bits.Len.f (IntKind.u64.wrap ((n : Nat) : Int))).isSome) = true := by kernel_rfl
theorem sort_eq (K : Nat) (hK : 10000000000000 ≤ K) (l : List Int) (h : l.length ≤ 12) : ∃ R, slices.Sort_int_int.f K l = some R ∧ R.Perm l ∧ R.Pairwise (· ≤ ·) := by
  unfold slices.Sort_int_int.f
  have h1 := List.all_eq_true.1 len_all l.length (List.mem_range.2 (by omega))
  obtain ⟨r, hr⟩ := Option.isSome_iff_exists.1 h1
  have h0 : ∃ R, slices.insertionSortOrdered_int.f K l 0 (l.length : Int) = some R ∧ R.Perm l ∧ R.Pairwise (· ≤ ·) := by
    unfold slices.insertionSortOrdered_int.f
    cases l with
    | nil =>
      obtain ⟨k, rfl⟩ := Nat.exists_eq_add_one_of_ne_zero (by omega : K ≠ 0)
      refine ⟨[], bind_t (a := []) ?_ rfl, .refl _, .nil⟩
      rw [slices.insertionSortOrdered_int.l0.f]
      exact br_n (by decide) rfl
    | cons x l =>
      obtain ⟨R, g1, g2, g3⟩ := ins_l0 K (x :: l).length hK (by omega) K [x] l (by omega) (by simp; omega) (List.pairwise_singleton ..)
      exact ⟨R, bind_t g1 rfl, g2, g3⟩
  obtain ⟨R, g1, g2, g3⟩ := h0
  refine ⟨R, bind_t hr (bind_t ?_ rfl), g2, g3⟩
  unfold slices.pdqsortOrdered_int.f
  obtain ⟨k, hk⟩ := Nat.exists_eq_add_one_of_ne_zero (by omega : K ≠ 0)
  refine bind_t (a := R) ?_ rfl
  have : ∀ k, slices.pdqsortOrdered_int.l0.f K l 0 (l.length : Int) r (k + 1) = some R := by
    intro k
    rw [slices.pdqsortOrdered_int.l0.f]
    exact br_d (by rw [w64_id (by omega) (by omega)]; omega) (bind_t g1 rfl)
  rw [show slices.pdqsortOrdered_int.l0.f K l 0 (l.length : Int) r K = slices.pdqsortOrdered_int.l0.f K l 0 (l.length : Int) r (k + 1) by rw [← hk]]
  exact this k

theorem impl_lives_l0 (a : List ByteArray) (w m : List Int) (b : Int) (hm : m.length ≤ 1000) (hx : ∀ x ∈ m, -1 ≤ x ∧ x < 60) : ∀ (f i : Nat) (v : List Int), m.length < i + f → i ≤ m.length → v.length + (m.length - i) ≤ 1000000 →
    impl.lives.l0.f a w m b f v (i : Int) = some (v ++ (m.drop i).filter (livQ b)) := by
  intro f
  induction f with
  | zero => intro i v h1 hi; omega
  | succ f ih =>
    intro i v h1 hi hv
    rw [impl.lives.l0.f]
    by_cases c : i < m.length
    · have e1 : w64 ((i : Int) + 1) = ((i + 1 : Nat) : Int) := wsucc (by omega)
      have e3 : m.getD i 0 = m[i] := getD_at c 0
      have hmi := hx m[i] (List.getElem_mem c)
      rw [List.drop_eq_getElem_cons c]
      simp only [e1, e3, Int.toNat_natCast]
      refine br_d (by omega) (ck_t (by omega) ?_)
      have hno := ih (i + 1) v (by omega) (by omega) (by omega)
      by_cases d : m[i] ≥ 0
      · refine br_d d ?_
        have e5 : w64 (m[i].tdiv 6) = m[i] / 6 := by rw [Int.tdiv_eq_ediv_of_nonneg d, w64_id (by omega) (by omega)]
        rw [e5]
        by_cases g : m[i] / 6 = b
        · rw [List.filter_cons_of_pos (by simp [livQ]; omega)]
          refine br_t (by simpa using g) (ck_t (by simp; omega) ?_)
          rw [ih (i + 1) (v ++ [m[i]]) (by omega) (by omega) (by simp; omega)]
          simp
        · rw [List.filter_cons_of_neg (by simp [livQ]; omega)]
          exact br_f (by simpa using g) hno
      · rw [List.filter_cons_of_neg (by simp [livQ]; omega)]
        exact br_n d hno
    · have : i = m.length := by omega
      subst this
      exact br_n (by omega) (by simp)
theorem impl_lives_eq (K : Nat) (hK : 10000000000000 ≤ K) (a : List ByteArray) (w m : List Int) (s b : Int) (h : ftlOk a w m s) : impl.lives.f K a w m s b = some (if 0 ≤ b ∧ b ≤ 9 then (livL m b 0 6, (livL m b 0 6).length) else ([], 0)) := by
  unfold impl.lives.f
  have hm : m.length = 26 := by rw [h.2.1]; exact (mnt_ok a).mlen
  have hx := ftl_mem h
  have h1 := impl_lives_l0 a w m b (by omega) hx K 0 [] (by omega) (by omega) (by simp; omega)
  rw [List.drop_zero, List.nil_append] at h1
  refine bind_t h1 ?_
  by_cases c : 0 ≤ b ∧ b ≤ 9
  · rw [if_pos c]
    have hp := liv_perm m b c.1
    have hl := livL_len (ftl_cnt h) c.1 6 0
    obtain ⟨R, g1, g2, g3⟩ := sort_eq K hK (m.filter (livQ b)) (by rw [hp.length_eq]; omega)
    refine bind_t g1 ?_
    rw [hp.length_eq, (g2.trans hp).eq_of_pairwise (fun u v _ _ => Int.le_antisymm) g3 (livL_sorted m b 6 0)]
  · rw [if_neg c, liv_out m b hx c]
    obtain ⟨R, g1, g2, g3⟩ := sort_eq K hK [] (by simp)
    refine bind_t g1 ?_
    rw [List.perm_nil.1 g2]; rfl

/-! ### the program's acts -/
theorem size_pos_of {t : ByteArray} (h : strEq t noVal = false) : 1 ≤ t.size := by
  rcases Nat.eq_zero_or_pos t.size with h0 | h0
  · rw [size_zero.1 h0, strEq_self] at h; cases h
  · exact h0
theorem impl_burn_eq {a : List ByteArray} {w : List Int} (h : chipOk a w) (p : Int) (t : ByteArray) : impl.burn.f a w p t = some (burnR a w p t) := by
  unfold impl.burn.f burnR
  have h60 := h.1
  have e1 : w64 ((a.length : Int) - 1) = 59 := by rw [w64_id (by omega) (by omega)]; omega
  rw [e1]
  refine bind_t (impl_cloneChip_eq a w h) (bind_t (impl_in_eq p 0 59) ?_)
  by_cases c : 0 ≤ p ∧ p ≤ 59
  case neg =>
    have hn : ¬ bPg a p t := fun e => c ⟨e.1, e.2.1⟩
    rw [if_neg hn]
    exact br_n c rfl
  refine br_d c (ck_t c.1 (ck_t (by omega) ?_))
  cases d : strEq (a.getD p.toNat noVal) noVal with
  | false =>
    have hn : ¬ bPg a p t := fun e => by rw [e.2.2.1] at d; cases d
    rw [if_neg hn]; exact br_f rfl rfl
  | true =>
  refine br_t rfl (bind_t (impl_in_eq (t.size : Int) 1 800) ?_)
  by_cases g : 1 ≤ (t.size : Int) ∧ (t.size : Int) ≤ 800
  · have e : strEq t noVal = false := by
      rw [← Bool.not_eq_true, strEq_iff]
      intro e
      have : noVal.size = 0 := rfl
      rw [e] at g; omega
    have hy : bPg a p t := ⟨c.1, c.2, d, e, by omega⟩
    rw [if_pos hy]; exact br_d g (ck_t (by show p < (a.length : Int); omega) rfl)
  · have hn : ¬ bPg a p t := fun k => by have := k.2.2.2.2; have := size_pos_of k.2.2.2.1; omega
    rw [if_neg hn]; exact br_n g rfl
theorem impl_clearFirst_l0 (A : List ByteArray) (W : List Int) (b : Nat) (hb : b < 10) (n : Int) (w : List Int) : ∀ (f i : Nat) (a : List ByteArray), a.length = 60 → 6 < i + f → i ≤ 6 → impl.clearFirst.l0.f A W (b : Int) n f a w (i : Int) = some (wipe a b i ((min n.toNat 6) - i), w) := by
  intro f
  induction f with
  | zero => intro i a ha h hi; omega
  | succ f ih =>
    intro i a ha h hi
    rw [impl.clearFirst.l0.f]
    have e1 : w64 ((i : Int) + 1) = ((i + 1 : Nat) : Int) := wsucc (by omega)
    have e2 : w64 (w64 ((b : Int) * 6) + (i : Int)) = ((b * 6 + i : Nat) : Int) := by
      rw [w64_id (x := (b : Int) * 6) (by omega) (by omega), w64_id (by omega) (by omega)]; omega
    have e3 : maxI 0 (minI n 6) = ((min n.toNat 6 : Nat) : Int) := by
      unfold maxI minI
      split <;> split <;> omega
    by_cases c : (i : Int) < maxI 0 (minI n 6)
    · refine br_d c ?_
      rw [e3] at c
      rw [e1, e2, Int.toNat_natCast]
      refine ck_t (by omega) (ck_t (by omega) ?_)
      rw [ih (i + 1) _ (by rw [List.length_set]; exact ha) (by omega) (by omega)]
      have : min n.toNat 6 - i = (min n.toNat 6 - (i + 1)) + 1 := by omega
      rw [this]; rfl
    · refine br_n c ?_
      rw [e3] at c
      rw [show min n.toNat 6 - i = 0 by omega]; rfl
theorem impl_clearFirst_eq (K : Nat) (hK : 10000000000000 ≤ K) {a : List ByteArray} {w : List Int} (h : chipOk a w) (b n : Int) : impl.clearFirst.f K a w b n = some (clearR a w b n) := by
  unfold impl.clearFirst.f clearR
  have h60 := h.1; have h10 := h.2.1
  refine bind_t (impl_cloneChip_eq a w h) (bind_t (impl_in_eq b 0 9) ?_)
  by_cases c : 0 ≤ b ∧ b ≤ 9
  case neg =>
    have hn : ¬ cPg w b := fun e => c ⟨e.1, e.2.1⟩
    rw [if_neg hn]
    exact br_n c rfl
  refine br_d c (ck_t c.1 (ck_t (by omega) ?_))
  have hw := chip_wear h (i := b.toNat) (by omega)
  by_cases d : w.getD b.toNat 0 = 1000000000
  · have hn : ¬ cPg w b := fun e => e.2.2 d
    rw [if_neg hn]
    exact br_d (by omega) rfl
  · have hy : cPg w b := ⟨c.1, c.2, d⟩
    rw [if_pos hy]
    obtain ⟨k, rfl⟩ := Int.eq_ofNat_of_zero_le c.1
    have hw := chip_wear h (i := k) (by omega)
    have e1 : w64 (w.getD k 0 + 1) = w.getD k 0 + 1 := w64_id (by omega) (by omega)
    refine br_n (by omega) (bind_t (impl_clearFirst_l0 a w k (by omega) n w K 0 a h60 (by omega) (by omega)) (ck_t (by show (k : Int) < (w.length : Int); omega) ?_))
    show some (_, w.set k (w64 (w.getD k 0 + 1)), true) = _
    rw [e1]; rfl

theorem impl_Burn_eq (K : Nat) (hK : 10000000000000 ≤ K) (a : List ByteArray) (w : List Int) (p : Int) (t : ByteArray) : impl.Burn.f K a w p t = some (if chipOk a w then burnR a w p t else ([], [], false)) := by
  unfold impl.Burn.f
  refine bind_t (impl_ChipOk_eq K hK a w) ?_
  by_cases c : chipOk a w
  · rw [if_pos c]; exact br_d c (bind_t (impl_burn_eq c p t) rfl)
  · rw [if_neg c]; exact br_n c rfl
theorem max_min (n : Int) (s : Nat) : maxI 0 (minI n (s : Int)) = if (if n < (s : Int) then n else (s : Int)) > 0 then (if n < (s : Int) then n else (s : Int)) else 0 := by
  unfold maxI minI
  split <;> split <;> split <;> omega
theorem impl_Torn_eq (K : Nat) (hK : 10000000000000 ≤ K) (a : List ByteArray) (w : List Int) (p : Int) (t : ByteArray) (n : Int) : impl.Torn.f K a w p t n = some (if chipOk a w then tornR a w p t n else ([], [])) := by
  unfold impl.Torn.f
  rw [max_min]
  have hb := impl_Burn_eq K hK a w p (cutT t n)
  refine ck_t ?_ (ck_t ?_ (bind_t hb ?_))
  · split <;> omega
  · split
    · split <;> omega
    · omega
  · split <;> rfl
theorem impl_Half_eq (K : Nat) (hK : 10000000000000 ≤ K) (a : List ByteArray) (w : List Int) (b n : Int) : impl.Half.f K a w b n = some (if chipOk a w then halfR a w b n else ([], [])) := by
  unfold impl.Half.f
  refine bind_t (impl_ChipOk_eq K hK a w) ?_
  by_cases c : chipOk a w
  · rw [if_pos c]; exact br_d c (bind_t (impl_clearFirst_eq K hK c b n) rfl)
  · rw [if_neg c]; exact br_n c rfl
/-! ### the program's planner -/
theorem impl_worst_l0 (K : Nat) (hK : 10000000000000 ≤ K) (a : List ByteArray) (w m : List Int) (s : Int) (h : ftlOk a w m s) (p : Int) (hp : p = -1 ∨ (0 ≤ p ∧ p < 60 ∧ (p % 6 = 0 → frB a (p / 6).toNat = true))) : ∀ (g i : Nat) (best : Int), 10 < i + g → i ≤ 10 → (best = -1 ∨ ∃ v : Nat, v < 10 ∧ best = (v : Int)) →
    impl.worst.l0.f K a w m s g best p (i : Int) = some (wst a w m (opB p) (List.range' i (10 - i)) best) := by
  have ha := h.1.1
  have hw := h.1.2.1
  intro g
  induction g with
  | zero => intro i best hg hi; omega
  | succ g ih =>
    intro i best hg hi hb
    rw [impl.worst.l0.f]
    by_cases c : i < 10
    case neg =>
      rw [show 10 - i = 0 by omega]
      exact br_n (by omega) rfl
    have e1 : w64 ((i : Int) + 1) = ((i + 1 : Nat) : Int) := wsucc (by omega)
    have hfr := impl_isFree_eq K hK a w ha i c
    have hlw : ∀ v : Nat, v < 10 → impl.lives.f K a w m s (v : Int) = some (livL m (v : Int) 0 6, (livL m (v : Int) 0 6).length) := by
      intro v hv
      rw [impl_lives_eq K hK a w m s (v : Int) h, if_pos (by omega)]
    simp only [e1, Int.toNat_natCast]
    rw [show 10 - i = (10 - (i + 1)) + 1 by omega, List.range'_succ]
    have no : ∀ b : Int, wTake a w m (opB p) b i = false → wst a w m (opB p) (i :: List.range' (i + 1) (10 - (i + 1))) b = wst a w m (opB p) (List.range' (i + 1) (10 - (i + 1))) b := fun b hb => by rw [wst, hb, if_neg (by decide)]
    have ye : ∀ b : Int, wTake a w m (opB p) b i = true → wst a w m (opB p) (i :: List.range' (i + 1) (10 - (i + 1))) b = wst a w m (opB p) (List.range' (i + 1) (10 - (i + 1))) (i : Int) := fun b hb => by rw [wst, hb, if_pos rfl]
    have hstay := ih (i + 1) best (by omega) (by omega) hb
    have hnew := ih (i + 1) (i : Int) (by omega) (by omega) (.inr ⟨i, c, rfl⟩)
    by_cases d : frB a i = true
    · rw [no best (by unfold wTake; rw [d]; rfl)]
      exact br_d (by omega) (bind_t hfr (br_t d hstay))
    have df : frB a i = false := by simpa using d
    have hp60 : p < 60 := by omega
    by_cases q : 0 ≤ p ∧ p / 6 = (i : Int)
    · have ho : ((i : Int) == opB p) = true := by
        unfold opB
        rw [if_neg (by omega)]
        by_cases z : p % 6 = 0
        · rcases hp with hp | hp
          · omega
          · have := hp.2.2 z
            rw [q.2, Int.toNat_natCast] at this
            exact absurd this d
        · rw [if_neg z, q.2]; simp
      rw [no best (by unfold wTake; rw [ho]; simp)]
      exact br_d (by omega) (bind_t hfr (br_f df (impl_skip1 hp60 q hstay)))
    have ho : ((i : Int) == opB p) = false := by
      rw [beq_eq_false_iff_ne]
      unfold opB
      split
      · omega
      · split
        · omega
        · omega
    by_cases b0 : best < 0
    · rw [ye best (by unfold wTake; rw [ho, df]; simp [b0])]
      exact br_d (by omega) (bind_t hfr (br_f df (impl_skip hp60 q (bind_t (hlw i c) (br_d b0 hnew)))))
    obtain ⟨v, hv, rfl⟩ : ∃ v : Nat, v < 10 ∧ best = (v : Int) := by
      rcases hb with hb | hb
      · omega
      · exact hb
    have ht : wTake a w m (opB p) (v : Int) i = (decide (wLen m i < wLen m v) || (wLen m i == wLen m v && decide (w.getD i 0 < w.getD v 0))) := by
      unfold wTake
      rw [ho, df]
      simp only [Int.toNat_natCast, Bool.not_false, Bool.true_and]
      rw [decide_eq_false b0, Bool.false_or]
    by_cases b1 : ((livL m (i : Int) 0 6).length : Int) < ((livL m (v : Int) 0 6).length : Int)
    · rw [ye _ (by rw [ht]; unfold wLen; rw [decide_eq_true b1]; rfl)]
      exact br_d (by omega) (bind_t hfr (br_f df (impl_skip hp60 q (bind_t (hlw i c) (br_n b0 (bind_t (hlw v hv) (br_d b1 hnew)))))))
    by_cases b2 : ((livL m (i : Int) 0 6).length : Int) = ((livL m (v : Int) 0 6).length : Int)
    · have b2' : (((livL m (i : Int) 0 6).length : Int) == ((livL m (v : Int) 0 6).length : Int)) = true := by simpa using b2
      by_cases b3 : w.getD i 0 < w.getD v 0
      · rw [ye _ (by rw [ht]; unfold wLen; rw [b2', decide_eq_true b3]; simp)]
        exact br_d (by omega) (bind_t hfr (br_f df (impl_skip hp60 q (bind_t (hlw i c) (br_n b0 (bind_t (hlw v hv) (br_n b1 (bind_t (hlw v hv) (br_t b2' (ck_t (by omega) (ck_t (by omega) (ck_t (by omega) (br_d b3 hnew)))))))))))))
      · rw [no _ (by rw [ht]; unfold wLen; rw [decide_eq_false b1, decide_eq_false b3]; simp)]
        exact br_d (by omega) (bind_t hfr (br_f df (impl_skip hp60 q (bind_t (hlw i c) (br_n b0 (bind_t (hlw v hv) (br_n b1 (bind_t (hlw v hv) (br_t b2' (ck_t (by omega) (ck_t (by omega) (ck_t (by omega) (br_n b3 hstay)))))))))))))
    · have b2' : (((livL m (i : Int) 0 6).length : Int) == ((livL m (v : Int) 0 6).length : Int)) = false := by simpa using b2
      rw [no _ (by rw [ht]; unfold wLen; rw [b2', decide_eq_false b1]; rfl)]
      exact br_d (by omega) (bind_t hfr (br_f df (impl_skip hp60 q (bind_t (hlw i c) (br_n b0 (bind_t (hlw v hv) (br_n b1 (bind_t (hlw v hv) (br_f b2' hstay)))))))))
theorem impl_worst_eq (K : Nat) (hK : 10000000000000 ≤ K) {a : List ByteArray} {w m : List Int} {s : Int} (h : ftlOk a w m s) : impl.worst.f K a w m s = some (worstI a w m) := by
  unfold impl.worst.f worstI
  have ha := h.1.1
  have hw := h.1.2.1
  have hl := impl_worst_l0 K hK a w m s h (nxt a w) (nxt_ok a w ha) K 0 (-1) (by omega) (by omega) (.inl rfl)
  refine bind_t (impl_nextPage_eq K hK a w ha hw) (bind_t hl ?_)
  rw [Nat.sub_zero]
  rcases wst_char a w m (opB (nxt a w)) (List.range' 0 10) (-1) (.inl rfl) (fun v hv => by have := List.mem_range'_1.1 hv; omega) with ⟨h1, _⟩ | ⟨v, h1, h2, _⟩
  · rw [h1, if_neg (by omega)]
    exact br_d (by decide) rfl
  · rw [h1]
    refine br_n (by omega) (bind_t (by rw [impl_lives_eq K hK a w m s (v : Int) h, if_pos (by omega)]) ?_)
    by_cases c : wLen m v = 6
    · rw [if_pos ⟨by omega, by simpa using c⟩]
      exact br_t (by simpa [wLen] using c) rfl
    · rw [if_neg (fun e => c (by simpa using e.2))]
      exact br_f (by rw [beq_eq_false_iff_ne]; exact c) rfl
theorem ContainsI_l0 (l : List Int) (x : Int) (hl : l.length ≤ 1000000) : ∀ (f i : Nat), l.length < i + f → i ≤ l.length →
    (x ∈ l.drop i → ∃ j : Nat, slices.Index_int_int.l0.f l x f (i : Int) = some (.inl (j : Int))) ∧ (¬ x ∈ l.drop i → slices.Index_int_int.l0.f l x f (i : Int) = some (.inr ())) := by
  intro f
  induction f with
  | zero => intro i h hi; omega
  | succ f ih =>
    intro i h hi
    rw [slices.Index_int_int.l0.f]
    by_cases c : i < l.length
    case neg =>
      rw [List.drop_of_length_le (by omega)]
      exact ⟨fun e => (by cases e), fun _ => br_n (by omega) rfl⟩
    have e1 : w64 ((i : Int) + 1) = ((i + 1 : Nat) : Int) := wsucc (by omega)
    obtain ⟨g1, g2⟩ := ih (i + 1) (by omega) (by omega)
    rw [List.drop_eq_getElem_cons c]
    simp only [e1, Int.toNat_natCast, getD_at c]
    by_cases d : x = l[i]
    · exact ⟨fun _ => ⟨i, br_d (by omega) (ck_t (by omega) (br_t (by simpa using d) rfl))⟩, fun e => absurd (List.mem_cons.2 (.inl d)) e⟩
    · refine ⟨fun e => ?_, fun e => ?_⟩
      · rcases List.mem_cons.1 e with e | e
        · exact absurd e d
        · obtain ⟨j, hj⟩ := g1 e
          exact ⟨j, br_d (by omega) (ck_t (by omega) (br_f (by simpa using d) hj))⟩
      · exact br_d (by omega) (ck_t (by omega) (br_f (by simpa using d) (g2 (fun k => e (List.mem_cons_of_mem _ k)))))
theorem ContainsI_eq (K : Nat) (hK : 10000000000000 ≤ K) (l : List Int) (x : Int) (hl : l.length ≤ 1000000) : slices.Contains_int_int.f K l x = some (decide (x ∈ l)) := by
  unfold slices.Contains_int_int.f slices.Index_int_int.f
  obtain ⟨g1, g2⟩ := ContainsI_l0 l x hl K 0 (by omega) (by omega)
  rw [List.drop_zero] at g1 g2
  by_cases c : x ∈ l
  · obtain ⟨j, hj⟩ := g1 c
    rw [decide_eq_true c]
    exact bind_t (bind_t hj rfl) (by show some (decide ((j : Int) ≥ 0)) = _; rw [decide_eq_true (by omega)])
  · rw [decide_eq_false c]
    exact bind_t (bind_t (g2 c) rfl) rfl
theorem mem_freL {a : List ByteArray} {v : Nat} : v ∈ freL a ↔ v < 10 ∧ frB a v = true := by
  unfold freL
  rw [List.mem_filter]
  constructor
  · rintro ⟨h1, h2⟩
    have := List.mem_range'_1.1 h1
    exact ⟨by omega, h2⟩
  · rintro ⟨h1, h2⟩
    exact ⟨range10 h1, h2⟩
theorem impl_crowded_eq (K : Nat) (hK : 10000000000000 ≤ K) (x : Wk) (h : chipOk x.a x.w) : impl.crowded.f K x.a x.w = some (!(wStop x)) := by
  unfold impl.crowded.f wStop
  have ha := h.1
  have hw := h.2.1
  have hf := impl_freeBlocks_l0 K hK x.a x.w ha K 0 [] (by omega) (by omega) (by simp)
  rw [List.nil_append] at hf
  have hff : impl.freeBlocks.f K x.a x.w = some ((freL x.a).map fun (v : Nat) => (v : Int)) := by
    unfold impl.freeBlocks.f
    exact bind_t hf rfl
  have hmem : ∀ v, v ∈ freL x.a ↔ v < 10 ∧ frB x.a v = true := fun v => mem_freL
  refine bind_t hff ?_
  generalize hL : freL x.a = L at hmem
  by_cases c : L.length = 2
  case neg =>
    have e : (!decide (2 < L.length ∨ L.length = 2 ∧ 0 ≤ opB (nxt x.a x.w))) = decide ((((L.map fun (v : Nat) => (v : Int)).length : Nat) : Int) < 2) := by
      rw [List.length_map, ← decide_not]
      exact decide_eq_decide.2 (by omega)
    rw [e]
    exact br_t (by rw [List.length_map]; simpa using (by omega : ¬ (L.length : Int) = 2)) rfl
  obtain ⟨u, v, rfl⟩ : ∃ u v, L = [u, v] := by
    match L, c with
    | [u, v], _ => exact ⟨u, v, rfl⟩
  have hu := (hmem u).1 (by simp)
  have hv := (hmem v).1 (by simp)
  refine br_f (by simp) (ck_t (by simp) (ck_t (by simp) (ck_t (by simp) (ck_t (by simp) (bind_t (impl_nextPage_eq K hK x.a x.w ha hw) ?_)))))
  have e1 : w64 ((([u, v].map fun (v : Nat) => (v : Int)).getD 0 0) * 6) = (u : Int) * 6 := w64_id (by simp; omega) (by simp; omega)
  have e2 : w64 ((([u, v].map fun (v : Nat) => (v : Int)).getD 1 0) * 6) = (v : Int) * 6 := w64_id (by simp; omega) (by simp; omega)
  rw [e1, e2]
  refine bind_t (ContainsI_eq K hK _ _ (by simp)) ?_
  rw [← decide_not]
  refine congrArg some (decide_eq_decide.2 ?_)
  simp only [List.mem_cons, List.not_mem_nil, or_false, List.length_cons, List.length_nil, Nat.zero_add, Nat.reduceAdd, Nat.lt_irrefl, false_or, true_and]
  unfold opB
  constructor
  · intro hc
    rw [if_neg (by omega), if_pos (by omega)]; omega
  · intro hc
    rcases nxt_char x.a x.w with ⟨_, k2⟩ | ⟨z, k1, k2, k3⟩
    · have := (k2 u hu.1).2
      rw [hu.2] at this; cases this
    · by_cases hz : ptB x.a z = true
      · have q := of_decide_eq_true hz
        exfalso
        apply hc
        rw [k2]
        unfold ptP
        rw [if_neg (by omega), if_neg (by omega)]
        omega
      · have k4 := (k3.resolve_left hz).1
        have k5 := (hmem z).2 ⟨k1, k4⟩
        have q : (clr (blk x.a z)).1 = 6 := by simpa [frB] using k4
        rw [k2]
        unfold ptP
        simp only [List.mem_cons, List.not_mem_nil, or_false] at k5
        rcases k5 with rfl | rfl
        · left; omega
        · right; omega
theorem impl_Apply1 (K : Nat) (hK : 10000000000000 ≤ K) {a : List ByteArray} {w : List Int} (h : chipOk a w) (p : Int) (t : ByteArray) : impl.Apply.f K a w 1 p t = some (burnR a w p t) := by
  unfold impl.Apply.f
  exact bind_t (impl_ChipOk_eq K hK a w) (br_d h (br_t rfl (bind_t (impl_burn_eq h p t) rfl)))
theorem impl_Apply2 (K : Nat) (hK : 10000000000000 ≤ K) {a : List ByteArray} {w : List Int} (h : chipOk a w) (b : Int) : impl.Apply.f K a w 2 b noVal = some (clearR a w b 6) := by
  unfold impl.Apply.f
  exact bind_t (impl_ChipOk_eq K hK a w) (br_d h (br_f rfl (br_t rfl (br_t (strEq_self _) (bind_t (impl_clearFirst_eq K hK h b 6) rfl)))))
abbrev W6T := List ByteArray × List Int × List Int × Int × List (Int × Int × ByteArray) × Bool
/-- An Ftl at work, as the program holds it. -/
def W6 (x : Wk) : W6T := (x.a, x.w, x.m, x.s, x.q, !x.ok)
theorem impl_pburn (K : Nat) (hK : 10000000000000 ≤ K) (x : Wk) (hc : chipOk x.a x.w) (hj : x.ok = true → Jn x) (hq : x.q.length ≤ 1000000) (sec : Int) (d : ByteArray) (b : Int) (hp : ∀ v : Nat, v < 10 → ptB x.a v = true → (v : Int) ≠ b) (hf : ∀ v : Nat, v < 10 → frB x.a v = true → (v : Int) ≠ b) :
    impl.planner.burn.f K x.a x.w x.m x.s x.q (!x.ok) sec d b = some (W6 (if x.ok = true then wBurn x sec d else x)) := by
  unfold impl.planner.burn.f
  refine bind_t (impl_nextPage_b K hK x.a x.w hc.1 hc.2.1 b hp hf) ?_
  cases hok : x.ok with
  | false =>
    rw [if_neg (by decide)]
    refine br_t rfl ?_
    unfold W6; rw [hok]; rfl
  | true =>
  rw [if_pos rfl]
  have hJ := hj hok
  have hfail : ∀ {z : Wk}, z = { x with ok := false } → (some (x.a, x.w, x.m, x.s, x.q, true) : Option W6T) = some (W6 z) := by rintro z rfl; rfl
  unfold wBurn
  refine br_f rfl (bind_t (impl_RecOk_eq sec x.s d) ?_)
  by_cases c2 : recOk sec x.s d
  case neg => exact br_n c2 (hfail (if_neg (fun c => c2 c.2.1)))
  refine br_d c2 ?_
  by_cases c3 : x.s = 1000000000
  · exact br_t (by simpa using c3) (hfail (if_neg (fun c => c.2.2 c3)))
  refine br_f (by rw [beq_eq_false_iff_ne]; exact c3) ?_
  by_cases c1 : nxt x.a x.w < 0
  · exact br_d c1 (hfail (if_neg (fun c => by have := c.1; omega)))
  have hb : bOk x sec d := ⟨by omega, c2, c3⟩
  rw [if_pos hb]
  obtain ⟨v, g1, g2, g3, g4, _⟩ := nxt_burn (w := x.w) hc.1 hb.1 (eB_rec c2)
  have ht := impl_RecText_eq K hK sec x.s d
  rw [if_pos c2] at ht
  have ha := impl_Apply1 K hK hc (nxt x.a x.w) (ofBytes (recI sec x.s d))
  have hbp : bPg x.a (nxt x.a x.w) (ofBytes (recI sec x.s d)) := ⟨hb.1, by omega, by rw [g4]; exact strEq_self _, recI_ne c2, by have := recI_size c2; omega⟩
  unfold burnR at ha
  rw [if_pos hbp] at ha
  obtain ⟨j1, j2⟩ := Jn_burn hJ hb
  have hm := impl_mount_eq K hK (bDo x sec d).a (bDo x sec d).w j1.1.1
  rw [← j1.1.2.1, ← j1.1.2.2] at hm
  refine br_n c1 (bind_t ht (bind_t (a := W6 (bDo x sec d)) ?_ rfl))
  unfold impl.planner.act.f
  refine bind_t ha (br_f rfl (br_t rfl (ck_t ?_ (bind_t hm ?_))))
  · rw [List.length_append, List.length_singleton]; omega
  · unfold W6 bDo; rw [hok]
theorem cleanL_no (b : Int) (l : List Int) (x : Wk) (h : x.ok = false) : cleanL b l x = x := by
  cases l with
  | nil => rfl
  | cons p l => unfold cleanL; rw [if_neg (by rw [h]; decide)]
theorem Clo_ne {a : List ByteArray} {b : Nat} (h : Clo a b) : (∀ v : Nat, v < 10 → ptB a v = true → (v : Int) ≠ (b : Int)) ∧ ∀ v : Nat, v < 10 → frB a v = true → (v : Int) ≠ (b : Int) := by
  refine ⟨fun v _ hp e => ?_, fun v _ hp e => ?_⟩
  · have : v = b := by omega
    subst this; rw [h.2] at hp; cases hp
  · have : v = b := by omega
    subst this; rw [h.1] at hp; cases hp
theorem wBurn_Jn {x : Wk} (h : x.ok = true → Jn x) (hok : x.ok = true) (sec : Int) (d : ByteArray) : ((wBurn x sec d).ok = true → Jn (wBurn x sec d)) ∧ ∀ b, b < 10 → Clo x.a b → Clo (wBurn x sec d).a b := by
  unfold wBurn
  split
  · rename_i c
    exact ⟨fun _ => (Jn_burn (h hok) c).1, (Jn_burn (h hok) c).2⟩
  · exact ⟨fun e => (by cases e), fun b _ hc => hc⟩
theorem nxt_not {a : List ByteArray} {w : List Int} {b : Nat} (h : Clo a b) (h0 : 0 ≤ nxt a w) : ¬ nxt a w / 6 = (b : Int) := by
  intro e
  rcases nxt_char a w with ⟨h1, _⟩ | ⟨v, h1, h2, h3⟩
  · omega
  have hc : 0 < (clr (blk a v)).1 ∧ (clr (blk a v)).1 ≤ 6 := by
    rcases h3 with h3 | h3
    · have := of_decide_eq_true h3; omega
    · have : (clr (blk a v)).1 = 6 := by simpa [frB] using h3.1
      omega
  have : v = b := by rw [h2] at e; unfold ptP at e; omega
  subst this
  rcases h3 with h3 | h3
  · rw [h.2] at h3; cases h3
  · rw [h.1] at h3; cases h3.1
theorem impl_clean_l0 (K : Nat) (hK : 10000000000000 ≤ K) (b : Nat) (hb : b < 10) (L : List Int) (hL : L.length ≤ 100) (hx : ∀ p ∈ L, 0 ≤ p ∧ p < 60) : ∀ (f i : Nat) (x : Wk), L.length < i + f → i ≤ L.length → WkOk x → (x.ok = true → Jn x) → Clo x.a b → x.q.length + (L.length - i) ≤ 1000000 →
    impl.planner.clean.l0.f K (b : Int) f x.a x.w x.m x.s x.q (!x.ok) L L.length (L.length : Int) (i : Int) = some (W6 (cleanL (b : Int) (L.drop i) x)) ∧ ((cleanL (b : Int) (L.drop i) x).ok = true → Jn (cleanL (b : Int) (L.drop i) x)) := by
  intro f
  induction f with
  | zero => intro i x h hi; omega
  | succ f ih =>
    intro i x h hi hk hj hcl hq
    rw [impl.planner.clean.l0.f]
    by_cases c : i < L.length
    case neg =>
      rw [List.drop_of_length_le (by omega)]
      exact ⟨br_n (by omega) rfl, hj⟩
    have e1 : w64 ((i : Int) + 1) = ((i + 1 : Nat) : Int) := wsucc (by omega)
    obtain ⟨p0, p1⟩ := hx _ (List.getElem_mem c)
    rw [List.drop_eq_getElem_cons c]
    rw [← getD_at c 0] at p0 p1 ⊢
    have hread : impl.RecRead.f K (x.a.getD (L.getD i 0).toNat noVal) = some (pg x.a (L.getD i 0).toNat) := impl_RecRead_eq K hK _ (by
      have := chip_page hk.chip (x.a.getD (L.getD i 0).toNat noVal) (by rw [getD_at (by have := hk.chip.1; omega)]; exact List.getElem_mem _)
      omega)
    have h60 := hk.chip.1
    obtain ⟨n1, n2⟩ := Clo_ne hcl
    have hbn := impl_pburn K hK x hk.chip hj (by omega) (pg x.a (L.getD i 0).toNat).1 (pg x.a (L.getD i 0).toNat).2.2.1 (b : Int) n1 n2
    rw [e1]
    cases hok : x.ok with
    | false =>
      rw [hok, if_neg (by decide)] at hbn
      have := ih (i + 1) x (by omega) (by omega) hk hj hcl (by omega)
      rw [cleanL_no _ _ x hok] at this ⊢
      rw [hok] at this
      refine ⟨br_d (by omega) (ck_t (by omega) (ck_t (by omega) (ck_t (by show i < L.length; omega) (ck_t p0 (ck_t (by show L.getD i 0 < (x.a.length : Int); omega) (bind_t hread (bind_t hbn ?_))))))), hj⟩
      unfold W6
      rw [hok]
      have t1 := this.1
      unfold W6 at t1
      rw [hok] at t1
      exact t1
    | true =>
      rw [hok, if_pos rfl] at hbn
      obtain ⟨k1, k2⟩ := wBurn_Jn hj hok (pg x.a (L.getD i 0).toNat).1 (pg x.a (L.getD i 0).toNat).2.2.1
      have hbq := wBurn_q x (pg x.a (L.getD i 0).toNat).1 (pg x.a (L.getD i 0).toNat).2.2.1
      have := ih (i + 1) (wBurn x (pg x.a (L.getD i 0).toNat).1 (pg x.a (L.getD i 0).toNat).2.2.1) (by omega) (by omega) (wBurn_ok hk _ _) k1 (k2 b hb hcl) (by omega)
      have hcl2 : cleanL (b : Int) (L.getD i 0 :: L.drop (i + 1)) x = cleanL (b : Int) (L.drop (i + 1)) (wBurn x (pg x.a (L.getD i 0).toNat).1 (pg x.a (L.getD i 0).toNat).2.2.1) := by
        rw [cleanL, if_pos hok]
        by_cases q : nxt x.a x.w < 0
        · rw [if_pos (.inl q)]
          have : wBurn x (pg x.a (L.getD i 0).toNat).1 (pg x.a (L.getD i 0).toNat).2.2.1 = { x with ok := false } := if_neg (fun e => by have := e.1; omega)
          rw [this, cleanL_no _ _ _ rfl]
        · rw [if_neg (fun e => e.elim q (nxt_not hcl (by omega)))]
      rw [hcl2]
      exact ⟨br_d (by omega) (ck_t (by omega) (ck_t (by omega) (ck_t (by show i < L.length; omega) (ck_t p0 (ck_t (by show L.getD i 0 < (x.a.length : Int); omega) (bind_t hread (bind_t hbn this.1))))))), this.2⟩
theorem impl_clean_eq (K : Nat) (hK : 10000000000000 ≤ K) (x : Wk) (hk : WkOk x) (hok : x.ok = true) (hj : Jn x) (b : Nat) (hb : b < 10) (hcl : Clo x.a b) (hq : x.q.length ≤ 900000) :
    ∃ z : Wk, impl.planner.clean.f K x.a x.w x.m x.s x.q (!x.ok) (b : Int) = some (W6 z) ∧ chipOk z.a z.w ∧ z.ok = (wClean x b).ok ∧ (z.ok = true → z = wClean x b ∧ Jn z) := by
  unfold impl.planner.clean.f
  have h10 := hk.chip.2.1
  have hw := chip_wear hk.chip hb
  have hfr := impl_isFree_eq K hK x.a x.w hk.chip.1 b hb
  rw [hcl.1] at hfr
  have hpre : ∀ {o : Option W6T} {z : W6T}, cond (decide ((x.w.getD (b : Int).toNat 0) ≥ 1000000000)) (some (x.a, x.w, x.m, x.s, x.q, true)) o = some z → ∀ (F : Option W6T), cond (!x.ok) F (Option.bind (impl.in_.f (b : Int) 0 9) fun x1 => cond (x1) (Option.bind (impl.isFree.f K x.a x.w (b : Int)) fun x2 => cond (x2) (some (x.a, x.w, x.m, x.s, x.q, true)) (ck (0 ≤ (b : Int)) (ck ((b : Int) < (x.w.length : Int)) (cond (decide ((x.w.getD (b : Int).toNat 0) ≥ 1000000000)) (some (x.a, x.w, x.m, x.s, x.q, true)) o)))) (some (x.a, x.w, x.m, x.s, x.q, true))) = some z := by
    intro o z e F
    exact br_f (by rw [hok]; rfl) (bind_t (impl_in_eq (b : Int) 0 9) (br_d (by omega) (bind_t hfr (br_f rfl (ck_t (by omega) (ck_t (by omega) e))))))
  by_cases c : x.w.getD b 0 = 1000000000
  · refine ⟨{ x with ok := false }, hpre (br_d (by rw [Int.toNat_natCast]; omega) rfl) _, hk.chip, ?_, fun e => (by cases e)⟩
    unfold wClean
    simp only
    rw [if_neg (fun e => e.2 c)]
  have hlv := livL_six hj.1 b
  have hli : impl.lives.f K x.a x.w x.m x.s (b : Int) = some (livL x.m (b : Int) 0 6, (livL x.m (b : Int) 0 6).length) := by
    rw [impl_lives_eq K hK x.a x.w x.m x.s (b : Int) hj.1, if_pos (by omega)]
  obtain ⟨l1, l2⟩ := impl_clean_l0 K hK b hb (livL x.m (b : Int) 0 6) (by omega) (livL_range hb) K 0 x (by omega) (by omega) hk (fun _ => hj) hcl (by omega)
  rw [List.drop_zero] at l1 l2
  obtain ⟨y1, y2, y3⟩ := cleanL_ok (b : Int) (livL x.m (b : Int) 0 6) x hk
  have hwc := wClean_ok hk hb hlv
  have hone := fun e => One_wipe (l2 e).1.1.1 hb (l2 e).2
  unfold wClean at hwc ⊢
  simp only at hwc ⊢
  generalize cleanL (b : Int) (livL x.m (b : Int) 0 6) x = y at l1 l2 y1 y2 y3 hwc hone ⊢
  have ha := impl_Apply2 K hK y1.chip (b : Int)
  have hcp : cPg y.w (b : Int) := ⟨by omega, by omega, by rw [y2, Int.toNat_natCast]; exact c⟩
  unfold clearR at ha
  rw [if_pos hcp, Int.toNat_natCast] at ha
  cases hy : y.ok with
  | false =>
    refine ⟨y, hpre (br_n (by rw [Int.toNat_natCast]; omega) (bind_t hli (bind_t l1 (bind_t (a := W6 y) ?_ rfl)))) _, y1.chip, ?_, fun e => by rw [hy] at e; cases e⟩
    · unfold impl.planner.act.f
      refine bind_t ha (br_t (by unfold W6; rw [hy]; rfl) ?_)
      unfold W6; rw [hy]; rfl
    · rw [if_neg (fun e => by cases e.1)]; exact hy
  | true =>
    rw [hy, if_pos ⟨rfl, c⟩] at hwc
    rw [if_pos ⟨rfl, c⟩]
    have hf := hwc.2.2 rfl
    have hm := impl_mount_eq K hK _ _ hf.1
    refine ⟨_, hpre (br_n (by rw [Int.toNat_natCast]; omega) (bind_t hli (bind_t l1 (bind_t (a := W6 ⟨wipe y.a b 0 6, x.w.set b (x.w.getD b 0 + 1), (mnt (wipe y.a b 0 6)).map, (mnt (wipe y.a b 0 6)).seq, y.q ++ [(2, (b : Int), noVal)], true⟩) ?_ rfl)))) _, hf.1, rfl, fun _ => ⟨rfl, hf, hone hy⟩⟩
    unfold impl.planner.act.f
    refine bind_t ha (br_f (by unfold W6; rw [hy]; rfl) (br_t rfl (ck_t ?_ ?_)))
    · show ((y.q ++ [(2, (b : Int), noVal)]).length * 32 ≤ 70368744177664)
      rw [List.length_append, List.length_singleton]; omega
    · rw [show y.w = x.w from y2]
      refine bind_t hm ?_
      unfold W6; rw [hy]
theorem wRoom_no (k : Nat) (x : Wk) (h : x.ok = false) : wRoom k x = x := by
  cases k with
  | zero => rfl
  | succ k => unfold wRoom; rw [if_neg (by rw [h]; decide)]
theorem impl_room_l0 (K : Nat) (hK : 10000000000000 ≤ K) (sec : Int) (d : ByteArray) : ∀ (f i : Nat) (x : Wk), 10 < i + f → i ≤ 10 → chipOk x.a x.w → (x.ok = true → Jn x ∧ WkOk x ∧ x.q.length + 7 * (10 - i) ≤ 900000) →
    ∃ z : Wk, impl.planner.plan.l0.f K sec d f x.a x.w x.m x.s x.q (!x.ok) (i : Int) = some (W6 z) ∧ chipOk z.a z.w ∧ z.ok = (wRoom (10 - i) x).ok ∧ (z.ok = true → z = wRoom (10 - i) x ∧ Jn z) := by
  intro f
  induction f with
  | zero => intro i x h hi; omega
  | succ f ih =>
    intro i x h hi hc hx
    rw [impl.planner.plan.l0.f]
    by_cases c : i < 10
    case neg =>
      rw [show 10 - i = 0 by omega]
      exact ⟨x, br_n (by omega) rfl, hc, rfl, fun e => ⟨rfl, (hx e).1⟩⟩
    have e1 : w64 ((i : Int) + 1) = ((i + 1 : Nat) : Int) := wsucc (by omega)
    rw [e1]
    cases hok : x.ok with
    | false =>
      rw [wRoom_no _ x hok]
      exact ⟨x, br_d (by omega) (br_t rfl (by unfold W6; rw [hok])), hc, rfl, fun e => by rw [hok] at e; cases e⟩
    | true =>
    obtain ⟨hj, hk, hq⟩ := hx hok
    have hcr := impl_crowded_eq K hK x hc
    rw [show 10 - i = (10 - (i + 1)) + 1 by omega, wRoom, if_pos hok]
    cases hs : wStop x with
    | true =>
      rw [hs] at hcr
      rw [if_pos rfl]
      exact ⟨x, br_d (by omega) (br_f rfl (bind_t hcr (br_f rfl (by unfold W6; rw [hok])))), hc, rfl, fun _ => ⟨rfl, hj⟩⟩
    | false =>
    rw [hs] at hcr
    rw [if_neg (by decide)]
    have hwo := impl_worst_eq K hK hj.1
    by_cases wn : worstI x.a x.w x.m < 0
    · rw [if_pos wn]
      have hcn : impl.planner.clean.f K x.a x.w x.m x.s x.q false (worstI x.a x.w x.m) = some (W6 { x with ok := false }) := by
        unfold impl.planner.clean.f
        exact br_f rfl (bind_t (impl_in_eq _ 0 9) (br_n (by omega) rfl))
      obtain ⟨z, z1, z2, z3, z4⟩ := ih (i + 1) { x with ok := false } (by omega) (by omega) hc (fun e => (by cases e))
      rw [wRoom_no _ _ rfl] at z3 z4
      exact ⟨z, br_d (by omega) (br_f rfl (bind_t hcr (br_t rfl (bind_t hwo (bind_t hcn z1))))), z2, z3, z4⟩
    · rw [if_neg wn]
      obtain ⟨b, b1, b2, b3, _⟩ := worstI_clo (w := x.w) (m := x.m) hc.1 hj.2 wn
      rw [b1] at hwo ⊢
      rw [Int.toNat_natCast]
      obtain ⟨y, y1, y2, y3, y4⟩ := impl_clean_eq K hK x hk hok hj b b2 b3 (by omega)
      rw [hok] at y1
      have hwc := wClean_ok hk b2 (livL_six hj.1 b)
      obtain ⟨z, z1, z2, z3, z4⟩ := ih (i + 1) y (by omega) (by omega) y2 (fun e => by
        obtain ⟨g1, g2⟩ := y4 e
        rw [g1]
        exact ⟨by rw [← g1]; exact g2, hwc.1, by have := hwc.2.1; omega⟩)
      have key : y.ok = true ∨ y.ok = false := by cases y.ok <;> simp
      rcases key with ky | ky
      · rw [(y4 ky).1] at z3 z4
        exact ⟨z, br_d (by omega) (br_f rfl (bind_t hcr (br_t rfl (bind_t hwo (bind_t y1 z1))))), z2, z3, z4⟩
      · rw [wRoom_no _ y ky] at z3 z4
        rw [ky] at y3
        rw [wRoom_no _ _ y3.symm]
        refine ⟨z, br_d (by omega) (br_f rfl (bind_t hcr (br_t rfl (bind_t hwo (bind_t y1 z1))))), z2, by rw [z3, ky, ← y3], fun e => ?_⟩
        rw [z3, ky] at e; cases e
/-- A put, planned on an Ftl at work. -/
def wPl (x : Wk) (sec : Int) (d : ByteArray) : Wk := if (wRoom 10 x).ok = true then wBurn (wRoom 10 x) sec d else wRoom 10 x
theorem impl_pplan_eq (K : Nat) (hK : 10000000000000 ≤ K) (sec : Int) (d : ByteArray) (x : Wk) (hc : chipOk x.a x.w) (hx : x.ok = true → Jn x ∧ WkOk x ∧ x.q.length ≤ 800000) :
    ∃ z : Wk, impl.planner.plan.f K x.a x.w x.m x.s x.q (!x.ok) sec d = some (W6 z) ∧ chipOk z.a z.w ∧ z.ok = (wPl x sec d).ok ∧ (z.ok = true → z = wPl x sec d ∧ Jn z ∧ WkOk z ∧ z.q.length ≤ x.q.length + 71) := by
  unfold impl.planner.plan.f wPl
  obtain ⟨y, y1, y2, y3, y4⟩ := impl_room_l0 K hK sec d K 0 x (by omega) (by omega) hc (fun e => ⟨(hx e).1, (hx e).2.1, by have := (hx e).2.2; omega⟩)
  rw [Nat.sub_zero] at y3 y4
  have hroom := fun e => wRoom_ok K hK 10 x (hx e).2.1 (fun _ => (hx e).1.1)
  have hno : x.ok = false → y.ok = false := fun e => by rw [y3, wRoom_no _ x e, e]
  have hxk : y.ok = true → x.ok = true := fun e => by
    cases g : x.ok with
    | true => rfl
    | false => rw [hno g] at e; cases e
  cases hy : y.ok with
  | false =>
    have hb : impl.planner.burn.f K y.a y.w y.m y.s y.q (!y.ok) sec d (-1) = some (W6 y) := by
      unfold impl.planner.burn.f
      refine bind_t (impl_nextPage_eq K hK y.a y.w y2.1 y2.2.1) (br_t (by rw [hy]; rfl) ?_)
      unfold W6; rw [hy]; rfl
    rw [hy] at y3
    rw [← y3, if_neg (by decide)]
    exact ⟨y, bind_t y1 (bind_t hb rfl), y2, by rw [hy, y3], fun e => by rw [hy] at e; cases e⟩
  | true =>
    obtain ⟨g1, g2⟩ := y4 hy
    obtain ⟨r1, r2, r3⟩ := hroom (hxk hy)
    have hq := (hx (hxk hy)).2.2
    rw [← g1] at r1 r2 r3 ⊢
    rw [if_pos hy]
    have hb := impl_pburn K hK y y2 (fun _ => g2) (by omega) sec d (-1) (fun v _ _ => by omega) (fun v _ _ => by omega)
    rw [if_pos hy] at hb
    have hbq := wBurn_q y sec d
    exact ⟨wBurn y sec d, bind_t y1 (bind_t hb rfl), (wBurn_ok r1 sec d).chip, rfl, fun e => ⟨rfl, (wBurn_Jn (fun _ => g2) hy sec d).1 e, wBurn_ok r1 sec d, by omega⟩⟩

theorem rec_inj {n q n' q' : Int} {d d' : ByteArray} {r r' : List Int} (h : recOk n q d) (h' : recOk n' q' d') (e : recI n q d ++ r = recI n' q' d' ++ r') : recI n q d = recI n' q' d' := by
  obtain ⟨a1, a2, a3, g1, _, g2, g3, g4⟩ := recI_gets h r
  obtain ⟨b1, b2, b3, k1, _, k2, k3, k4⟩ := recI_gets h' r'
  rw [e] at g1 g2 g3 g4
  rw [g1] at k1
  have i1 : (a1 : Int) = (b1 : Int) := congrArg (fun z => z.2.1) k1
  rw [← i1, g2] at k2
  have j1 : n = n' := congrArg (fun z => z.1) k2
  have i2 : (a2 : Int) = (b2 : Int) := congrArg (fun z => z.2.1) k2
  rw [← i2, g3] at k3
  have j2 : q = q' := congrArg (fun z => z.1) k3
  have i3 : (a3 : Int) = (b3 : Int) := congrArg (fun z => z.2.1) k3
  rw [← i3, g4] at k4
  have j3 : d = d' := congrArg (fun z => z.1) k4
  rw [j1, j2, j3]
theorem rec_short {n q : Int} {d : ByteArray} (h : recOk n q d) (k : Nat) (hk : k < (recI n q d).length) : (recR ((recI n q d).take k)).2.2.2 = false := by
  rcases recR_cases ((recI n q d).take k) with ⟨n', q', d', h1, h2, _⟩ | ⟨h1, _⟩
  · have e : recI n' q' d' ++ (recI n q d).drop k = recI n q d ++ [] := by rw [← h2, List.take_append_drop, List.append_nil]
    have e2 := rec_inj h1 h e
    have := congrArg List.length h2
    rw [e2, List.length_take] at this
    omega
  · rw [h1]
theorem bytesL_take (s : ByteArray) (k : Nat) : bytesL (s.extract 0 k) = (bytesL s).take k := by
  unfold bytesL
  rw [ByteArray.data_extract, Array.toList_extract, List.extract_eq_take_drop, List.map_take, List.map_drop, List.drop_zero, Nat.sub_zero]

theorem new_blk {v : Nat} (hv : v < 10) : clr (blk (List.replicate 60 noVal) v) = (6, 6) := by
  have : blk (List.replicate 60 noVal) v = List.replicate 6 noVal := by
    unfold blk
    rw [List.drop_replicate, List.take_replicate]
    congr 1
    omega
  rw [this]; exact clr_noval

theorem livL_in {m : List Int} {b x : Int} {i d : Nat} (h : x ∈ livL m b i d) : x ∈ m := by
  have h1 := List.count_pos_iff.2 h
  rw [cnt_livL] at h1
  split at h1
  · exact List.count_pos_iff.1 h1
  · omega

/-! ### what a chip shows -/
/-- What a mount of a chip shows of a sector. -/
def vw (a : List ByteArray) (j : Nat) : ByteArray := secT a (mnt a).map j
def FSt (a : List ByteArray) (st : Mnt) : Prop := ∀ j, j < 26 → ∀ p : Nat, st.map.getD j 0 = (p : Int) → ∀ p', p' < p → (pg a p').2.2.2 = true → (pg a p').1 = (j : Int) → (pg a p').2.1 < (pg a p).2.1
theorem mRun_first (a : List ByteArray) : ∀ (d i : Nat) (st : Mnt), MntOk a i st → FSt a st → FSt a (mRun a i d st)
  | 0, i, st, _, h => h
  | d + 1, i, st, ho, h => by
    rw [mRun_succ]
    refine mRun_first a d (i + 1) _ ho.step ?_
    unfold mStep
    by_cases c : (pg a i).2.2.2 = true
    case neg => rw [if_neg c]; exact h
    rw [if_pos c]
    obtain ⟨r1, r2, r3, r4, r5⟩ := pg_ok c
    split
    · rename_i g
      intro j hj p hp p' hp' hv hs
      have hm : (st.map.set (pg a i).1.toNat (i : Int)).getD j 0 = if (pg a i).1.toNat = j then (i : Int) else st.map.getD j 0 := by
        rw [getD_set]
        have : (pg a i).1.toNat < st.map.length := by rw [ho.mlen]; omega
        exact if_iff ⟨fun e => e.1, fun e => ⟨e, this⟩⟩ _ _
      have hp2 : (st.map.set (pg a i).1.toNat (i : Int)).getD j 0 = (p : Int) := hp
      rw [hm] at hp2
      by_cases e : (pg a i).1.toNat = j
      · rw [if_pos e] at hp2
        have : p = i := by omega
        subst this
        have := (ho.max p' hp' hv).1
        have e2 : (pg a p').1.toNat = (pg a p).1.toNat := by omega
        rw [e2] at this
        omega
      · rw [if_neg e] at hp2
        exact h j hj p hp2 p' hp' hv hs
    · exact h
theorem mnt_first (a : List ByteArray) : FSt a (mnt a) := by
  refine mRun_first a a.length 0 mInit (mInit_ok a) ?_
  intro j hj p hp
  have : ∀ k : Fin 26, mInit.map.getD k.1 0 = -1 := by decide
  have := this ⟨j, hj⟩
  rw [this] at hp
  omega
/-- Pages that no mount looks at are taken away or spoilt: the map stays. -/
theorem map_uniq {a a' : List ByteArray} (hl : a'.length = a.length) (h : ∀ p, p < a.length → pg a' p = pg a p ∨ ((pg a' p).2.2.2 = false ∧ ∀ j, j < 26 → (mnt a).map.getD j 0 ≠ (p : Int))) : (mnt a').map = (mnt a).map := by
  have o := mnt_ok a
  have o' := mnt_ok a'
  rw [hl] at o'
  have f := mnt_first a
  have f' := mnt_first a'
  refine list_ext (by rw [o.mlen, o'.mlen]) (fun j hj => ?_)
  rw [o'.mlen] at hj
  have hval : ∀ p, p < a.length → (pg a' p).2.2.2 = true → pg a' p = pg a p := by
    intro p hp hv
    rcases h p hp with g | g
    · exact g
    · rw [g.1] at hv; cases hv
  rcases o.at_ j hj with ⟨g1, g2⟩ | ⟨p, g1, g2, g3, g4, g5⟩
  · rcases o'.at_ j hj with ⟨k1, _⟩ | ⟨p, k1, k2, k3, k4, k5⟩
    · rw [g1, k1]
    · exfalso
      have e := hval p k1 k3
      rw [e] at k3 k4
      have := (o.max p k1 k3).1
      rw [show (pg a p).1.toNat = j by omega, g2] at this
      have := (pg_ok k3).2.2.1
      omega
  · have e : pg a' p = pg a p := by
      rcases h p g1 with g | g
      · exact g
      · exact absurd g2 (g.2 j hj)
    have v' : (pg a' p).2.2.2 = true := by rw [e]; exact g3
    have s' : (pg a' p).1.toNat = j := by rw [e]; omega
    have m1 := (o'.max p g1 v').1
    rw [s'] at m1
    rcases o'.at_ j hj with ⟨k1, k2⟩ | ⟨p2, k1, k2, k3, k4, k5⟩
    · exfalso
      rw [k2] at m1
      have := (pg_ok v').2.2.1
      omega
    · have e2 := hval p2 k1 k3
      rw [k5, e2, e] at m1
      have v2 : (pg a p2).2.2.2 = true := by rw [← e2]; exact k3
      have s2 : (pg a p2).1 = (j : Int) := by rw [← e2]; exact k4
      have m2 := (o.max p2 k1 v2).1
      rw [show (pg a p2).1.toNat = j by omega, g5] at m2
      rcases Nat.lt_trichotomy p p2 with q | q | q
      · have := f' j hj p2 k2 p q v' (by rw [e]; exact g4)
        rw [e, e2] at this
        omega
      · rw [g2, k2, q]
      · have := f j hj p g2 p2 q v2 s2
        omega
theorem map_at {a : List ByteArray} {j : Nat} (hj : j < 26) : (mnt a).map.getD j 0 = -1 ∨ ∃ p : Nat, p < a.length ∧ (mnt a).map.getD j 0 = (p : Int) ∧ (pg a p).2.2.2 = true ∧ (pg a p).1 = (j : Int) := by
  rcases (mnt_ok a).at_ j hj with ⟨g1, _⟩ | ⟨p, g1, g2, g3, g4, _⟩
  · exact .inl g1
  · exact .inr ⟨p, g1, g2, g3, g4⟩
theorem vw_uniq {a a' : List ByteArray} (hl : a'.length = a.length) (h : ∀ p, p < a.length → pg a' p = pg a p ∨ ((pg a' p).2.2.2 = false ∧ ∀ j, j < 26 → (mnt a).map.getD j 0 ≠ (p : Int))) {j : Nat} (hj : j < 26) : vw a' j = vw a j := by
  unfold vw secT
  rw [map_uniq hl h]
  rcases map_at (a := a) hj with g | ⟨p, g1, g2, g3, g4⟩
  · rw [g, if_pos (by decide), if_pos (by decide)]
  · rw [g2, if_neg (by omega), if_neg (by omega), Int.toNat_natCast]
    rcases h p g1 with k | k
    · rw [k]
    · exact absurd g2 (k.2 j hj)
theorem vw_burn {a : List ByteArray} {p : Nat} (hp : p < a.length) (hc : a.getD p noVal = noVal) {n : Int} {d : ByteArray} (h : recOk n (mnt a).seq d) (h9 : (mnt a).seq ≠ 1000000000) {j : Nat} (hj : j < 26) : vw (a.set p (ofBytes (recI n (mnt a).seq d))) j = if n.toNat = j then d else vw a j := by
  have hb := (mnt_burn hp hc h h9).1
  have hpg := pg_set_eq hp h
  have hm := (mnt_ok a).mlen
  have h25 := h.2.1
  have h0 := h.1
  have hmap : (mnt (a.set p (ofBytes (recI n (mnt a).seq d)))).map.getD j 0 = if n.toNat = j then (p : Int) else (mnt a).map.getD j 0 := by
    rw [hb, getD_set]
    exact if_iff ⟨fun e => e.1, fun e => ⟨e, by omega⟩⟩ _ _
  unfold vw secT
  rw [hmap]
  by_cases c : n.toNat = j
  · rw [if_pos c, if_pos c, if_neg (by omega), Int.toNat_natCast, hpg]
  · rw [if_neg c, if_neg c]
    rcases map_at (a := a) hj with g | ⟨q, g1, g2, g3, g4⟩
    · rw [g, if_pos (by omega), if_pos (by omega)]
    · have hne : q ≠ p := by
        rintro rfl
        rw [pg_clear hc] at g3; cases g3
      rw [g2, if_neg (by omega), if_neg (by omega), Int.toNat_natCast, pg_set_ne _ hne]
/-! ### the shape of a chip -/
/-- A block that is neither free nor begun ends in a page that is not clear. -/
def Shp (a : List ByteArray) : Prop := ∀ v, v < 10 → Clo a v → eB (a.getD (v * 6 + 5) noVal) = false
theorem blk_bits {a : List ByteArray} {v : Nat} (h : v * 6 + 6 ≤ a.length) : ∃ b0 b1 b2 b3 b4 : Bool, clr (blk a v) = [b0, b1, b2, b3, b4, eB (a.getD (v * 6 + 5) noVal)].foldl bS (0, 0) := by
  obtain ⟨x0, x1, x2, x3, x4, x5, e⟩ := len6 (blk_length h)
  have h5 : a.getD (v * 6 + 5) noVal = x5 := by
    have := blk_at h (i := 5) (by rw [blk_length h]; omega)
    rw [← this]
    simp only [e]
    rfl
  refine ⟨eB x0, eB x1, eB x2, eB x3, eB x4, ?_⟩
  rw [clr_bits, e, h5]; rfl
theorem last_clo {a : List ByteArray} {v : Nat} (h : v * 6 + 6 ≤ a.length) (h5 : eB (a.getD (v * 6 + 5) noVal) = false) : Clo a v := by
  obtain ⟨b0, b1, b2, b3, b4, e⟩ := blk_bits h
  rw [h5] at e
  constructor
  · rw [← Bool.not_eq_true]
    intro c
    have c6 : (clr (blk a v)).1 = 6 := by simpa [frB] using c
    rw [e] at c6
    have := (bits_all _ _ _ _ _ _ c6).2.2.2.2.2
    cases this
  · rw [← Bool.not_eq_true]
    intro c
    have c6 := of_decide_eq_true c
    rw [e] at c6
    have := bits_open _ _ _ _ _ _ ⟨c6.1, c6.2.2⟩
    cases this
theorem none_last {a : List ByteArray} {v : Nat} (h : v * 6 + 6 ≤ a.length) (c : (clr (blk a v)).1 = 0) : eB (a.getD (v * 6 + 5) noVal) = false := by
  obtain ⟨b0, b1, b2, b3, b4, e⟩ := blk_bits h
  rw [e] at c
  exact bits_none _ _ _ _ _ _ c
theorem Clo_of {a a' : List ByteArray} {u : Nat} (h : blk a' u = blk a u) : Clo a' u ↔ Clo a u := by unfold Clo; rw [frB_of h, ptB_of h]
theorem Shp_burn {a : List ByteArray} {w : List Int} (ha : a.length = 60) (h : 0 ≤ nxt a w) {t : ByteArray} (ht : eB t = false) (hs : Shp a) : Shp (a.set (nxt a w).toNat t) := by
  obtain ⟨v, h1, h2, h3, h4, h5, h6, h7, h8, h9, h10, h11⟩ := nxt_burn ha h ht
  intro u hu hc
  by_cases c : u = v
  · subst c
    refine none_last (by rw [List.length_set]; omega) ?_
    rw [h10]
    refine Classical.byContradiction fun hne => ?_
    have : ptB (a.set (nxt a w).toNat t) u = true := by
      unfold ptB
      rw [h10]
      exact decide_eq_true ⟨by omega, by omega, rfl⟩
    rw [hc.2] at this; cases this
  · rw [getD_set, if_neg (fun e => by omega)]
    exact hs u hu ((Clo_of (h11 u c)).1 hc)
theorem half_ri {a : List ByteArray} (ha : a.length = 60) {b : Nat} (hb : b < 10) (hc : Clo a b) (ho : One a) (hs : Shp a) {k : Nat} (hk : k ≤ 6) : One (wipe a b 0 k) ∧ Shp (wipe a b 0 k) := by
  have hne : ∀ u, u ≠ b → blk (wipe a b 0 k) u = blk a u := fun u hu => blk_wipe_ne b k 0 a u (by omega) hu
  have hpt : ptB (wipe a b 0 k) b = false := by
    by_cases c : k = 6
    · subst c; exact (wipe_fr ha hb).2
    · refine (last_clo (by rw [wipe_length]; omega) ?_).2
      rw [wipe_at b k 0 a _ (by omega), if_neg (by omega)]
      exact hs b hb hc
  constructor
  · intro u v hu hv e1 e2
    have h1 : u ≠ b := by rintro rfl; rw [hpt] at e1; cases e1
    have h2 : v ≠ b := by rintro rfl; rw [hpt] at e2; cases e2
    rw [ptB_of (hne u h1)] at e1
    rw [ptB_of (hne v h2)] at e2
    exact ho u v hu hv e1 e2
  · intro u hu hcu
    by_cases c : u = b
    · subst c
      by_cases d : k = 6
      · subst d
        have := hcu.1
        rw [(wipe_fr ha hb).1] at this; cases this
      · rw [wipe_at u k 0 a _ (by omega), if_neg (by omega)]
        exact hs u hb hc
    · rw [wipe_at b k 0 a _ (by omega), if_neg (by omega)]
      exact hs u hu ((Clo_of (hne u c)).1 hcu)
/-- A chip as it should be, that shows what is allowed. -/
def Gg (al : Nat → ByteArray → Prop) (a : List ByteArray) : Prop := One a ∧ Shp a ∧ ∀ j, j < 26 → al j (vw a j)
/-- What a part of an act makes. -/
def part (r : ChipT) (t : Int × Int × ByteArray) (n : Int) : List ByteArray × List Int :=
  if t.1 = 1 then tornR r.1 r.2.1 t.2.1 t.2.2 n else if t.1 = 2 then halfR r.1 r.2.1 t.2.1 n else (r.1, r.2.1)
structure Fs (a0 : List ByteArray) (w0 : List Int) (al : Nat → ByteArray → Prop) (x : Wk) : Prop where
  jn : Jn x
  gg : Gg al x.a
  app : appAll x.q a0 w0 = (x.a, x.w, true)
  acts : ∀ t ∈ x.q, t.1 = 1 ∨ (t.1 = 2 ∧ t.2.2 = noVal)
  cuts : ∀ (k : Nat) (n : Int), k < x.q.length → Gg al (part (appAll (x.q.take k) a0 w0) (x.q.getD k (0, 0, noVal)) n).1
theorem appAll_snoc (t : Int × Int × ByteArray) : ∀ (L : ActT) (a : List ByteArray) (w : List Int), (appAll L a w).2.2 = true → (applyR (appAll L a w).1 (appAll L a w).2.1 t).2.2 = true → appAll (L ++ [t]) a w = applyR (appAll L a w).1 (appAll L a w).2.1 t
  | [], a, w, _, h => by
    have h' : (applyR a w t).2.2 = true := h
    show (if (applyR a w t).2.2 = true then ((applyR a w t).1, (applyR a w t).2.1, true) else (a, w, false)) = applyR a w t
    rw [if_pos h']
    exact Prod.ext rfl (Prod.ext rfl h'.symm)
  | x :: L, a, w, h, h2 => by
    rw [appAll] at h h2 ⊢
    split at h
    · rename_i c
      rw [if_pos c] at h2
      rw [List.cons_append, appAll, if_pos c, if_pos c]
      exact appAll_snoc t L _ _ h h2
    · cases h
theorem appAll_take : ∀ (L : ActT) (k : Nat) (a : List ByteArray) (w : List Int), (appAll L a w).2.2 = true → (appAll (L.take k) a w).2.2 = true
  | [], k, a, w, h => by rw [List.take_nil]; exact h
  | x :: L, 0, a, w, _ => rfl
  | x :: L, k + 1, a, w, h => by
    rw [appAll] at h
    split at h
    · rename_i c
      rw [List.take_succ_cons, appAll, if_pos c]
      exact appAll_take L k _ _ h
    · cases h
theorem Fs_snoc {a0 : List ByteArray} {w0 : List Int} {al : Nat → ByteArray → Prop} {x y : Wk} (h : Fs a0 w0 al x) (t : Int × Int × ByteArray) (hq : y.q = x.q ++ [t]) (hj : Jn y) (hg : Gg al y.a) (ha : applyR x.a x.w t = (y.a, y.w, true)) (ht : t.1 = 1 ∨ (t.1 = 2 ∧ t.2.2 = noVal)) (hp : ∀ n, Gg al (part (x.a, x.w, true) t n).1) : Fs a0 w0 al y := by
  have happ := h.app
  refine ⟨hj, hg, ?_, ?_, ?_⟩
  · rw [hq, appAll_snoc t x.q a0 w0 (by rw [happ]) (by rw [happ]; show (applyR x.a x.w t).2.2 = true; rw [ha]), happ]
    exact ha
  · intro s hs
    rw [hq] at hs
    rcases List.mem_append.1 hs with g | g
    · exact h.acts s g
    · rw [List.mem_singleton.1 g]; exact ht
  · intro k n hk
    rw [hq, List.length_append, List.length_singleton] at hk
    rw [hq]
    by_cases c : k < x.q.length
    · rw [List.take_append_of_le_length (by omega), getD_at (by rw [List.length_append]; omega), List.getElem_append_left c, ← getD_at c (0, 0, noVal)]
      exact h.cuts k n c
    · have e : k = x.q.length := by omega
      subst e
      rw [List.take_left, getD_at (by rw [List.length_append, List.length_singleton]; omega), List.getElem_append_right (Nat.le_refl _)]
      simp only [Nat.sub_self, List.getElem_cons_zero]
      rw [happ]; exact hp n
theorem cutT_size (t : ByteArray) (n : Int) : ∃ k, k ≤ t.size ∧ cutT t n = t.extract 0 k := by
  refine ⟨_, ?_, rfl⟩
  split
  · split <;> omega
  · omega
theorem Fs_burn {a0 : List ByteArray} {w0 : List Int} {al : Nat → ByteArray → Prop} {x : Wk} (h : Fs a0 w0 al x) (hok : x.ok = true) {sec : Int} {d : ByteArray} (c : bOk x sec d) (ha : al sec.toNat d) : Fs a0 w0 al (bDo x sec d) ∧ (∀ j, j < 26 → vw (bDo x sec d).a j = if sec.toNat = j then d else vw x.a j) := by
  obtain ⟨c1, c2, c3⟩ := c
  have hj := Jn_burn h.jn ⟨c1, c2, c3⟩
  have h60 := h.jn.1.1.1
  obtain ⟨v, g1, g2, g3, g4, _⟩ := nxt_burn (w := x.w) h60 c1 (eB_rec c2)
  have hs := h.jn.1.2.2
  have hvw : ∀ j, j < 26 → vw (bDo x sec d).a j = if sec.toNat = j then d else vw x.a j := by
    intro j hj
    have := vw_burn (a := x.a) (p := (nxt x.a x.w).toNat) (by omega) g4 (n := sec) (d := d) (by rw [← hs]; exact c2) (by rw [← hs]; exact c3) hj
    rw [← hs] at this
    exact this
  have hbp : bPg x.a (nxt x.a x.w) (ofBytes (recI sec x.s d)) := ⟨c1, by omega, by rw [g4]; exact strEq_self _, recI_ne c2, by have := recI_size c2; omega⟩
  have hgood : Gg al (bDo x sec d).a := by
    refine ⟨hj.1.2, Shp_burn h60 c1 (eB_rec c2) h.gg.2.1, fun j hj => ?_⟩
    rw [hvw j hj]
    by_cases e : sec.toNat = j
    · rw [if_pos e, ← e]; exact ha
    · rw [if_neg e]; exact h.gg.2.2 j hj
  refine ⟨Fs_snoc h (1, nxt x.a x.w, ofBytes (recI sec x.s d)) rfl hj.1 hgood ?_ (.inl rfl) (fun n => ?_), hvw⟩
  · unfold applyR
    rw [if_pos rfl]
    exact if_pos hbp
  · unfold part
    rw [if_pos rfl]
    unfold tornR
    simp only
    obtain ⟨k, hk, e⟩ := cutT_size (ofBytes (recI sec x.s d)) n
    rw [e]
    unfold burnR
    by_cases c4 : bPg x.a (nxt x.a x.w) ((ofBytes (recI sec x.s d)).extract 0 k)
    case neg => rw [if_neg c4]; exact h.gg
    rw [if_pos c4]
    by_cases c5 : k = (ofBytes (recI sec x.s d)).size
    · rw [c5, ByteArray.extract_zero_size]; exact hgood
    · have ht : eB ((ofBytes (recI sec x.s d)).extract 0 k) = false := c4.2.2.2.1
      have hbad : (pg (x.a.set (nxt x.a x.w).toNat ((ofBytes (recI sec x.s d)).extract 0 k)) (nxt x.a x.w).toNat).2.2.2 = false := by
        unfold pg
        rw [getD_set, if_pos ⟨rfl, by omega⟩, bytesL_take, bytesL_ofBytes (recI_bytes sec x.s d)]
        exact rec_short c2 k (by rw [ofBytes_size] at hk c5; omega)
      refine ⟨(One_burn h60 c1 ht h.jn.2).1, Shp_burn h60 c1 ht h.gg.2.1, fun j hj => ?_⟩
      rw [vw_uniq (a := x.a) (by rw [List.length_set]) (fun p hp => ?_) hj]
      · exact h.gg.2.2 j hj
      · by_cases e : p = (nxt x.a x.w).toNat
        · subst e
          refine .inr ⟨hbad, fun i hi he => ?_⟩
          rcases map_at (a := x.a) hi with g | ⟨q, q1, q2, q3, _⟩
          · omega
          · have : q = (nxt x.a x.w).toNat := by omega
            rw [this, pg_clear g4] at q3; cases q3
        · exact .inl (pg_set_ne _ e)
/-- A block cleared that holds no live sector. -/
theorem wipe_vw {a : List ByteArray} (ha : a.length = 60) {b : Nat} (hb : b < 10) (hl : ∀ j, j < 26 → (mnt a).map.getD j 0 / 6 ≠ (b : Int)) {k : Nat} (hk : k ≤ 6) {j : Nat} (hj : j < 26) : vw (wipe a b 0 k) j = vw a j := by
  refine vw_uniq (by rw [wipe_length]) (fun p hp => ?_) hj
  by_cases c : b * 6 + 0 ≤ p ∧ p < b * 6 + 0 + k
  · refine .inr ⟨pg_clear (by rw [wipe_at b k 0 a p (by omega), if_pos c]), fun i hi he => hl i hi ?_⟩
    omega
  · refine .inl ?_
    unfold pg
    rw [wipe_at b k 0 a p (by omega), if_neg c]
def Liv (a : List ByteArray) (b : Nat) (L : List Int) : Prop := ∀ j, j < 26 → (mnt a).map.getD j 0 / 6 = (b : Int) → (mnt a).map.getD j 0 ∈ L
theorem Fs_cleanL {a0 : List ByteArray} {w0 : List Int} {al : Nat → ByteArray → Prop} {b : Nat} (hb : b < 10) : ∀ (L : List Int) (x : Wk), x.ok = true → Fs a0 w0 al x → Clo x.a b → (∀ p ∈ L, 0 ≤ p ∧ (pg x.a p.toNat).2.2.2 = true ∧ vw x.a (pg x.a p.toNat).1.toNat = (pg x.a p.toNat).2.2.1) → Liv x.a b L → (cleanL (b : Int) L x).ok = true →
    Fs a0 w0 al (cleanL (b : Int) L x) ∧ Clo (cleanL (b : Int) L x).a b ∧ Liv (cleanL (b : Int) L x).a b []
  | [], x, _, h, hc, _, hl, _ => ⟨h, hc, hl⟩
  | p :: L, x, hok, h, hc, hp, hl, hcl => by
    unfold cleanL at hcl ⊢
    rw [if_pos hok] at hcl ⊢
    by_cases n0 : nxt x.a x.w < 0 ∨ nxt x.a x.w / 6 = (b : Int)
    · rw [if_pos n0] at hcl; cases hcl
    rw [if_neg n0] at hcl ⊢
    obtain ⟨p0, p1, p2⟩ := hp p (List.mem_cons_self ..)
    obtain ⟨r1, r2, r3, r4, r5⟩ := pg_ok p1
    by_cases cb : bOk x (pg x.a p.toNat).1 (pg x.a p.toNat).2.2.1
    case neg =>
      have e : wBurn x (pg x.a p.toNat).1 (pg x.a p.toNat).2.2.1 = { x with ok := false } := if_neg cb
      rw [e, cleanL_no _ _ _ rfl] at hcl
      cases hcl
    have e : wBurn x (pg x.a p.toNat).1 (pg x.a p.toNat).2.2.1 = bDo x (pg x.a p.toNat).1 (pg x.a p.toNat).2.2.1 := if_pos cb
    rw [e] at hcl ⊢
    have hal : al (pg x.a p.toNat).1.toNat (pg x.a p.toNat).2.2.1 := by rw [← p2]; exact h.gg.2.2 _ (by omega)
    obtain ⟨f1, f2⟩ := Fs_burn h hok cb hal
    have h60 := h.jn.1.1.1
    obtain ⟨v, g1, g2, g3, g4, _⟩ := nxt_burn (w := x.w) h60 cb.1 (eB_rec cb.2.1)
    have hvw : ∀ j, j < 26 → vw (bDo x (pg x.a p.toNat).1 (pg x.a p.toNat).2.2.1).a j = vw x.a j := by
      intro j hj
      rw [f2 j hj]
      by_cases c : (pg x.a p.toNat).1.toNat = j
      · rw [if_pos c, ← c, p2]
      · rw [if_neg c]
    have hpg : ∀ q : Nat, (pg x.a q).2.2.2 = true → pg (bDo x (pg x.a p.toNat).1 (pg x.a p.toNat).2.2.1).a q = pg x.a q := by
      intro q hq
      refine pg_set_ne _ ?_
      rintro rfl
      rw [pg_clear g4] at hq; cases hq
    refine Fs_cleanL hb L (bDo x (pg x.a p.toNat).1 (pg x.a p.toNat).2.2.1) hok f1 ((Jn_burn h.jn cb).2 b hb hc) (fun q hq => ?_) (fun j hj he => ?_) hcl
    · obtain ⟨q0, q1, q2⟩ := hp q (List.mem_cons_of_mem _ hq)
      rw [hpg q.toNat q1]
      exact ⟨q0, q1, by rw [hvw _ (by have := pg_ok q1; have := this.2.1; omega)]; exact q2⟩
    · have hs := h.jn.1.2.2
      have hm1 := (mnt_burn (a := x.a) (p := (nxt x.a x.w).toNat) (by omega) g4 (n := (pg x.a p.toNat).1) (d := (pg x.a p.toNat).2.2.1) (by rw [← hs]; exact cb.2.1) (by rw [← hs]; exact cb.2.2)).1
      rw [← hs] at hm1
      have hm : (mnt (bDo x (pg x.a p.toNat).1 (pg x.a p.toNat).2.2.1).a).map = (mnt x.a).map.set (pg x.a p.toNat).1.toNat (((nxt x.a x.w).toNat : Nat) : Int) := hm1
      rw [hm, getD_set] at he ⊢
      by_cases c : (pg x.a p.toNat).1.toNat = j ∧ (pg x.a p.toNat).1.toNat < (mnt x.a).map.length
      · rw [if_pos c] at he
        exfalso
        exact n0 (.inr (by rw [← he]; have := cb.1; omega))
      · rw [if_neg c] at he ⊢
        rcases List.mem_cons.1 (hl j hj he) with k | k
        · exfalso
          have hml := (mnt_ok x.a).mlen
          rcases map_at (a := x.a) hj with g | ⟨q, q1, q2, q3, q4⟩
          · omega
          · have eq : q = p.toNat := by omega
            rw [eq] at q4
            exact c ⟨by omega, by omega⟩
        · exact k
theorem Fs_clean {a0 : List ByteArray} {w0 : List Int} {al : Nat → ByteArray → Prop} {x : Wk} (h : Fs a0 w0 al x) (hok : x.ok = true) (hk : WkOk x) {b : Nat} (hb : b < 10) (hc : Clo x.a b) (hz : (wClean x b).ok = true) : Fs a0 w0 al (wClean x b) := by
  have hwc := wClean_ok hk hb (livL_six h.jn.1 b)
  have hy2 := (cleanL_ok (b : Int) (livL x.m (b : Int) 0 6) x hk).2.1
  have hmm := h.jn.1.2.1
  have key := Fs_cleanL (a0 := a0) (w0 := w0) (al := al) hb (livL x.m (b : Int) 0 6) x hok h hc (fun p hp => by
      have hr := livL_mem 6 0 hp
      obtain ⟨j, hj, he⟩ := List.getElem_of_mem (livL_in hp)
      have hj26 : j < 26 := by rw [← hk.mlen]; exact hj
      have hg : (mnt x.a).map.getD j 0 = p := by rw [← hmm, getD_at hj]; exact he
      rcases map_at (a := x.a) hj26 with g | ⟨q, q1, q2, q3, q4⟩
      · omega
      · have eq : p.toNat = q := by omega
        rw [eq]
        refine ⟨by omega, q3, ?_⟩
        rw [show (pg x.a q).1.toNat = j by omega]
        unfold vw secT
        rw [q2, if_neg (by omega), Int.toNat_natCast])
    (fun j hj he => by
      have hml := hk.mlen
      have hin : (mnt x.a).map.getD j 0 ∈ x.m := by rw [← hmm, getD_at (by omega)]; exact List.getElem_mem _
      refine List.count_pos_iff.1 ?_
      rw [cnt_livL, if_pos (by omega)]
      exact List.count_pos_iff.2 hin)
  unfold wClean at hz hwc ⊢
  simp only at hz hwc ⊢
  generalize cleanL (b : Int) (livL x.m (b : Int) 0 6) x = y at hz hwc hy2 key ⊢
  by_cases c : y.ok = true ∧ x.w.getD b 0 ≠ 1000000000
  case neg => rw [if_neg c] at hz; cases hz
  rw [if_pos c] at hwc ⊢
  obtain ⟨k1, k2, k3⟩ := key c.1
  have h60 := k1.jn.1.1.1
  have hliv : ∀ j, j < 26 → (mnt y.a).map.getD j 0 / 6 ≠ (b : Int) := fun j hj he => by
    have := k3 j hj he
    cases this
  have hg : ∀ k, k ≤ 6 → Gg al (wipe y.a b 0 k) := by
    intro k hk6
    obtain ⟨o1, o2⟩ := half_ri h60 hb k2 k1.jn.2 k1.gg.2.1 hk6
    refine ⟨o1, o2, fun j hj => ?_⟩
    rw [wipe_vw h60 hb hliv hk6 hj]
    exact k1.gg.2.2 j hj
  have hcp : cPg y.w (b : Int) := ⟨by omega, by omega, by rw [hy2, Int.toNat_natCast]; exact c.2⟩
  refine Fs_snoc k1 (2, (b : Int), noVal) rfl ⟨hwc.2.2 rfl, (hg 6 (by omega)).1⟩ (hg 6 (by omega)) ?_ (.inr ⟨rfl, rfl⟩) (fun n => ?_)
  · unfold applyR
    rw [if_neg (by show ¬ (2 : Int) = 1; decide), if_pos rfl]
    unfold clearR
    rw [if_pos hcp, Int.toNat_natCast, hy2]
    rfl
  · unfold part
    rw [if_neg (by show ¬ (2 : Int) = 1; decide), if_pos rfl]
    unfold halfR clearR
    simp only
    rw [if_pos hcp, Int.toNat_natCast]
    exact hg _ (by omega)
theorem Fs_room {a0 : List ByteArray} {w0 : List Int} {al : Nat → ByteArray → Prop} : ∀ (k : Nat) (x : Wk), x.ok = true → Fs a0 w0 al x → WkOk x → (wRoom k x).ok = true → Fs a0 w0 al (wRoom k x) ∧ WkOk (wRoom k x)
  | 0, x, _, h, hk, _ => ⟨h, hk⟩
  | k + 1, x, hok, h, hk, hz => by
    unfold wRoom at hz ⊢
    rw [if_pos hok] at hz ⊢
    by_cases c : wStop x = true
    · rw [if_pos c]; exact ⟨h, hk⟩
    rw [if_neg c] at hz ⊢
    by_cases d : worstI x.a x.w x.m < 0
    · rw [if_pos d] at hz; cases hz
    rw [if_neg d] at hz ⊢
    obtain ⟨b, b1, b2, b3, _⟩ := worstI_clo (w := x.w) (m := x.m) h.jn.1.1.1 h.jn.2 d
    rw [b1, Int.toNat_natCast] at hz ⊢
    cases hw : (wClean x b).ok with
    | false => rw [wRoom_no k _ hw, hw] at hz; cases hz
    | true =>
      have h2 := Fs_clean h hok hk b2 b3 hw
      have h3 := (wClean_ok hk b2 (livL_six h.jn.1 b)).1
      exact Fs_room k _ hw h2 h3 hz
theorem Fs_plan {a0 : List ByteArray} {w0 : List Int} {al : Nat → ByteArray → Prop} {x : Wk} (h : Fs a0 w0 al x) (hk : WkOk x) (hok : x.ok = true) {sec : Int} {d : ByteArray} (ha : al sec.toNat d) (hz : (wPl x sec d).ok = true) : Fs a0 w0 al (wPl x sec d) ∧ WkOk (wPl x sec d) := by
  unfold wPl at hz ⊢
  cases hr : (wRoom 10 x).ok with
  | false => rw [hr, if_neg (by decide), hr] at hz; cases hz
  | true =>
    rw [hr, if_pos rfl] at hz
    rw [if_pos rfl]
    obtain ⟨g1, g2⟩ := Fs_room 10 x hok h hk hr
    by_cases c : bOk (wRoom 10 x) sec d
    · refine ⟨?_, wBurn_ok g2 sec d⟩
      have e : wBurn (wRoom 10 x) sec d = bDo (wRoom 10 x) sec d := if_pos c
      rw [e]
      exact (Fs_burn g1 hr c ha).1
    · have e : wBurn (wRoom 10 x) sec d = { wRoom 10 x with ok := false } := if_neg c
      rw [e] at hz; cases hz
theorem Fs_start {a : List ByteArray} {w m : List Int} {s : Int} (h : ftlOk a w m s) {al : Nat → ByteArray → Prop} (hg : Gg al a) : Fs a w al ⟨a, w, m, s, [], true⟩ :=
  ⟨⟨h, hg.1⟩, hg, rfl, fun t ht => (by cases ht), fun k n hk => absurd hk (Nat.not_lt_zero k)⟩
/-- Where the power fails, what the chip shows is allowed. -/
theorem Fs_cut {a0 : List ByteArray} {w0 : List Int} {al : Nat → ByteArray → Prop} {x : Wk} (h : Fs a0 w0 al x) (k n : Int) : Gg al (cutR a0 w0 x.q k n).1 := by
  obtain ⟨k0, k1⟩ := kOf_range k x.q.length
  have hpre := appAll_take x.q (kOf k x.q.length).toNat a0 w0 (by rw [h.app])
  unfold cutR
  by_cases c : kOf k x.q.length = (x.q.length : Int)
  · rw [if_neg (fun e => e.2 c), c, Int.toNat_natCast, List.take_length, h.app]
    exact h.gg
  · rw [if_pos ⟨hpre, c⟩]
    have := h.cuts (kOf k x.q.length).toNat n (by omega)
    unfold part at this
    split at this
    · rename_i g
      rw [if_pos g]; exact this
    · rename_i g
      rw [if_neg g]
      split at this
      · rename_i g2
        rw [if_pos g2]; exact this
      · rename_i g2
        rw [if_neg g2]; exact this
theorem wPlan_pl {a : List ByteArray} {w m : List Int} {s sec : Int} {d : ByteArray} (h : (wPlan a w m s sec d).ok = true) : wPlan a w m s sec d = wPl ⟨a, w, m, s, [], true⟩ sec d := by
  by_cases c : recOk sec s d
  · unfold wPlan wPl
    rw [decide_eq_true c]
  · exfalso
    unfold wPlan at h
    rw [decide_eq_false c, wRoom_no 10 _ rfl, if_neg (fun e => (by cases e))] at h
    cases h
/-- Every chip that is drawn is as it should be. -/
theorem Rch.ri {a : List ByteArray} {w m : List Int} {s : Int} (h : Rch a w m s) : Gg (fun _ _ => True) a := by
  induction h with
  | new =>
    have hfr : ∀ v, v < 10 → frB (List.replicate 60 noVal) v = true ∧ ptB (List.replicate 60 noVal) v = false := by
      intro v hv
      constructor
      · unfold frB; rw [new_blk hv]; rfl
      · unfold ptB; rw [new_blk hv]; rfl
    refine ⟨fun u v hu hv e1 _ => ?_, fun v hv hc => ?_, fun _ _ => trivial⟩
    · rw [(hfr u hu).2] at e1; cases e1
    · have := hc.1
      rw [(hfr v hv).1] at this; cases this
  | put sec d h h1 h2 h3 h4 ih =>
    have e := wPlan_pl h4
    rw [e] at h4 ⊢
    exact (Fs_plan (Fs_start h.ftl ih) (ftl_wk h.ftl _ _) rfl trivial h4).1.gg
  | cut sec d k n h h1 h2 h3 h4 ih =>
    have e := wPlan_pl h4
    rw [e] at h4 ⊢
    exact Fs_cut (Fs_plan (Fs_start h.ftl ih) (ftl_wk h.ftl _ _) rfl trivial h4).1 k n

/-! ### a row of puts -/
def wr : List (Int × ByteArray) → Wk → Wk
  | [], x => x
  | p :: l, x => if x.ok = true then wr l (wPl x p.1 p.2) else x
theorem wr_no (l : List (Int × ByteArray)) (x : Wk) (h : x.ok = false) : wr l x = x := by
  cases l with
  | nil => rfl
  | cons p l => unfold wr; rw [if_neg (by rw [h]; decide)]
theorem impl_Writes_l0 (K : Nat) (hK : 10000000000000 ≤ K) (A : List ByteArray) (W M : List Int) (S : Int) (P : List (Int × ByteArray)) (hP : P.length ≤ 100) : ∀ (f i : Nat) (x : Wk), P.length < i + f → i ≤ P.length → chipOk x.a x.w → (x.ok = true → Jn x ∧ WkOk x ∧ x.q.length ≤ 71 * i) →
    ∃ z : Wk, impl.Writes.l0.f K A W M S P f x.a x.w x.m x.s x.q (!x.ok) (i : Int) = some (W6 z) ∧ z.ok = (wr (P.drop i) x).ok ∧ (z.ok = true → z = wr (P.drop i) x) := by
  intro f
  induction f with
  | zero => intro i x h hi; omega
  | succ f ih =>
    intro i x h hi hc hx
    rw [impl.Writes.l0.f]
    by_cases c : i < P.length
    case neg =>
      rw [List.drop_of_length_le (by omega)]
      exact ⟨x, br_n (by omega) rfl, rfl, fun _ => rfl⟩
    have e1 : w64 ((i : Int) + 1) = ((i + 1 : Nat) : Int) := wsucc (by omega)
    rw [e1, List.drop_eq_getElem_cons c]
    cases hok : x.ok with
    | false =>
      obtain ⟨z, z1, z2, z3⟩ := ih (i + 1) x (by omega) (by omega) hc (fun e => by rw [hok] at e; cases e)
      rw [wr_no _ x hok] at z2 z3 ⊢
      rw [hok] at z1
      exact ⟨z, br_d (by omega) (ck_t (by omega) (br_t rfl z1)), z2, z3⟩
    | true =>
    obtain ⟨y, y1, y2, y3, y4⟩ := impl_pplan_eq K hK (P.getD i (0, noVal)).1 (P.getD i (0, noVal)).2 x hc (fun e => ⟨(hx e).1, (hx e).2.1, by have := (hx e).2.2; omega⟩)
    rw [hok] at y1
    obtain ⟨z, z1, z2, z3⟩ := ih (i + 1) y (by omega) (by omega) y2 (fun e => by
      obtain ⟨g1, g2, g3, g4⟩ := y4 e
      have := (hx hok).2.2
      exact ⟨g2, g3, by omega⟩)
    rw [wr, if_pos hok, ← getD_at c (0, noVal)]
    have hrun : cond (decide ((i : Int) < (P.length : Int))) (ck (0 ≤ (i : Int)) (cond (!true) (impl.Writes.l0.f K A W M S P f x.a x.w x.m x.s x.q (!true) ((i + 1 : Nat) : Int)) (Option.bind (impl.planner.plan.f K x.a x.w x.m x.s x.q (!true) ((P.getD (i : Int).toNat (0, noVal)).1) ((P.getD (i : Int).toNat (0, noVal)).2)) fun x1 => impl.Writes.l0.f K A W M S P f x1.1 x1.2.1 x1.2.2.1 x1.2.2.2.1 x1.2.2.2.2.1 x1.2.2.2.2.2 ((i + 1 : Nat) : Int)))) (some (x.a, x.w, x.m, x.s, x.q, !true)) = some (W6 z) := br_d (by omega) (ck_t (by omega) (br_f rfl (bind_t y1 z1)))
    have key : y.ok = true ∨ y.ok = false := by cases y.ok <;> simp
    rcases key with ky | ky
    · rw [(y4 ky).1] at z2 z3
      exact ⟨z, hrun, z2, z3⟩
    · rw [wr_no _ y ky] at z2 z3
      rw [ky] at y3
      rw [wr_no _ _ y3.symm]
      refine ⟨z, hrun, by rw [z2, ky, ← y3], fun e => ?_⟩
      rw [z2, ky] at e; cases e
theorem impl_cloneFtl_eq {a : List ByteArray} {w m : List Int} {s : Int} (h : ftlOk a w m s) : impl.cloneFtl.f a w m s = some (a, w, m) := by
  have hm : m.length = 26 := by rw [h.2.1]; exact (mnt_ok a).mlen
  unfold impl.cloneFtl.f slices.Clone_int_int.f
  exact bind_t (impl_cloneChip_eq a w h.1) (bind_t (ck_t (by omega) rfl) rfl)
theorem impl_told_eq {a : List ByteArray} {w m : List Int} {s : Int} (h : ftlOk a w m s) (z : Wk) : impl.planner.told.f (W6 z).1 (W6 z).2.1 (W6 z).2.2.1 (W6 z).2.2.2.1 (W6 z).2.2.2.2.1 (W6 z).2.2.2.2.2 a w m s = some (if z.ok = true then (z.q, z.a, z.w, z.m, z.s, true) else ([], a, w, m, s, false)) := by
  unfold impl.planner.told.f
  cases hz : z.ok with
  | true =>
    rw [if_pos rfl]
    exact br_f (by show (!z.ok) = false; rw [hz]; rfl) rfl
  | false =>
    rw [if_neg (by decide)]
    exact br_t (by show (!z.ok) = true; rw [hz]; rfl) (bind_t (impl_cloneFtl_eq h) rfl)
def wrAll (a : List ByteArray) (w m : List Int) (s : Int) (P : List (Int × ByteArray)) : Wk := if 8 < P.length then ⟨a, w, m, s, [], false⟩ else wr P ⟨a, w, m, s, [], true⟩
theorem impl_Writes_eq (K : Nat) (hK : 10000000000000 ≤ K) {a : List ByteArray} {w m : List Int} {s : Int} (h : ftlOk a w m s) (ho : One a) (P : List (Int × ByteArray)) (hP : P.length ≤ 100) : impl.Writes.f K a w m s P = some (if (wrAll a w m s P).ok = true then ((wrAll a w m s P).q, (wrAll a w m s P).a, (wrAll a w m s P).w, (wrAll a w m s P).m, (wrAll a w m s P).s, true) else ([], a, w, m, s, false)) := by
  unfold impl.Writes.f wrAll
  have hm : m.length = 26 := by rw [h.2.1]; exact (mnt_ok a).mlen
  refine bind_t (impl_FtlOk_eq K hK a w m s (by omega)) (br_d h (bind_t (impl_cloneFtl_eq h) ?_))
  by_cases c : 8 < P.length
  · rw [if_pos c, if_neg (fun e => (by cases e))]
    obtain ⟨z, z1, z2, z3⟩ := impl_Writes_l0 K hK a w m s P hP K 0 ⟨a, w, m, s, [], false⟩ (by omega) (by omega) h.1 (fun e => (by cases e))
    rw [wr_no _ _ rfl] at z2
    have ed : decide ((P.length : Int) > 8) = true := decide_eq_true (by omega)
    rw [ed]
    have ht := impl_told_eq h z
    rw [z2, if_neg (fun e => (by cases e))] at ht
    exact bind_t z1 (bind_t ht rfl)
  · rw [if_neg c]
    obtain ⟨z, z1, z2, z3⟩ := impl_Writes_l0 K hK a w m s P hP K 0 ⟨a, w, m, s, [], true⟩ (by omega) (by omega) h.1 (fun _ => ⟨⟨h, ho⟩, ftl_wk h _ _, by show 0 ≤ 71 * 0; omega⟩)
    rw [List.drop_zero] at z2 z3
    have ed : decide ((P.length : Int) > 8) = false := decide_eq_false (by omega)
    rw [ed]
    have ht := impl_told_eq h z
    refine bind_t z1 (bind_t ht ?_)
    rw [← z2]
    cases hz : z.ok with
    | true =>
      rw [if_pos rfl, if_pos rfl, ← z3 hz]
    | false =>
      rw [if_neg (by decide), if_neg (by decide)]
/-! ### the acts behind do not matter -/
def sh (Q : ActT) (x : Wk) : Wk := ⟨x.a, x.w, x.m, x.s, Q ++ x.q, x.ok⟩
theorem wBurn_sh (Q : ActT) (x : Wk) (sec : Int) (d : ByteArray) : wBurn (sh Q x) sec d = sh Q (wBurn x sec d) := by
  unfold wBurn
  by_cases c : bOk x sec d
  · rw [if_pos c, if_pos (show bOk (sh Q x) sec d from c)]
    unfold bDo sh
    simp only [List.append_assoc]
  · rw [if_neg c, if_neg (show ¬ bOk (sh Q x) sec d from c)]; rfl
theorem cleanL_sh (Q : ActT) (b : Int) : ∀ (l : List Int) (x : Wk), cleanL b l (sh Q x) = sh Q (cleanL b l x)
  | [], x => rfl
  | p :: l, x => by
    unfold cleanL
    by_cases c : x.ok = true
    · rw [if_pos c, if_pos (show (sh Q x).ok = true from c)]
      by_cases d : nxt x.a x.w < 0 ∨ nxt x.a x.w / 6 = b
      · rw [if_pos d, if_pos (show nxt (sh Q x).a (sh Q x).w < 0 ∨ nxt (sh Q x).a (sh Q x).w / 6 = b from d)]; rfl
      · rw [if_neg d, if_neg (show ¬ (nxt (sh Q x).a (sh Q x).w < 0 ∨ nxt (sh Q x).a (sh Q x).w / 6 = b) from d), wBurn_sh, cleanL_sh Q b l]
        rfl
    · rw [if_neg c, if_neg (show ¬ (sh Q x).ok = true from c)]
theorem wClean_sh (Q : ActT) (x : Wk) (b : Nat) : wClean (sh Q x) b = sh Q (wClean x b) := by
  unfold wClean
  simp only
  have e : cleanL (b : Int) (livL (sh Q x).m (b : Int) 0 6) (sh Q x) = sh Q (cleanL (b : Int) (livL x.m (b : Int) 0 6) x) := cleanL_sh Q _ _ x
  rw [e]
  generalize cleanL (b : Int) (livL x.m (b : Int) 0 6) x = y
  by_cases c : y.ok = true ∧ x.w.getD b 0 ≠ 1000000000
  · rw [if_pos c, if_pos (show (sh Q y).ok = true ∧ (sh Q x).w.getD b 0 ≠ 1000000000 from c)]
    unfold sh
    simp only [List.append_assoc]
  · rw [if_neg c, if_neg (show ¬ ((sh Q y).ok = true ∧ (sh Q x).w.getD b 0 ≠ 1000000000) from c)]; rfl
theorem wRoom_sh (Q : ActT) : ∀ (k : Nat) (x : Wk), wRoom k (sh Q x) = sh Q (wRoom k x)
  | 0, x => rfl
  | k + 1, x => by
    unfold wRoom
    by_cases c : x.ok = true
    · rw [if_pos c, if_pos (show (sh Q x).ok = true from c)]
      by_cases d : wStop x = true
      · rw [if_pos d, if_pos (show wStop (sh Q x) = true from d)]
      · rw [if_neg d, if_neg (show ¬ wStop (sh Q x) = true from d)]
        by_cases g : worstI x.a x.w x.m < 0
        · rw [if_pos g, if_pos (show worstI (sh Q x).a (sh Q x).w (sh Q x).m < 0 from g)]; rfl
        · rw [if_neg g, if_neg (show ¬ worstI (sh Q x).a (sh Q x).w (sh Q x).m < 0 from g), ← wRoom_sh Q k, ← wClean_sh]
          rfl
    · rw [if_neg c, if_neg (show ¬ (sh Q x).ok = true from c)]
theorem wPl_sh (Q : ActT) (x : Wk) (sec : Int) (d : ByteArray) : wPl (sh Q x) sec d = sh Q (wPl x sec d) := by
  unfold wPl
  rw [wRoom_sh]
  by_cases c : (wRoom 10 x).ok = true
  · rw [if_pos c, if_pos (show (sh Q (wRoom 10 x)).ok = true from c), wBurn_sh]
  · rw [if_neg c, if_neg (show ¬ (sh Q (wRoom 10 x)).ok = true from c)]
theorem wPl_rec (K : Nat) (hK : 10000000000000 ≤ K) {x : Wk} {sec : Int} {d : ByteArray} (hf : ftlOk x.a x.w x.m x.s) (h : (wPl x sec d).ok = true) : recOk sec x.s d := by
  unfold wPl at h
  split at h
  · unfold wBurn at h
    split at h
    · rename_i c
      obtain ⟨r1, r2, r3, r4, r5⟩ := c.2.1
      have o := mnt_ok x.a
      rw [hf.2.2]
      exact ⟨r1, r2, o.s1, o.s2, r5⟩
    · cases h
  · rename_i c
    exact absurd h c
theorem plan_wPl (K : Nat) (hK : 10000000000000 ≤ K) {x : Wk} (hok : x.ok = true) (hf : ftlOk x.a x.w x.m x.s) (sec : Int) (d : ByteArray) : (wPlan x.a x.w x.m x.s sec d).ok = (wPl x sec d).ok ∧ ((wPl x sec d).ok = true → (wPlan x.a x.w x.m x.s sec d).a = (wPl x sec d).a ∧ (wPlan x.a x.w x.m x.s sec d).w = (wPl x sec d).w ∧ (wPlan x.a x.w x.m x.s sec d).q.length ≤ 71) := by
  have hx : x = sh x.q ⟨x.a, x.w, x.m, x.s, [], true⟩ := by
    cases x with
    | mk a w m s q ok =>
      have e : ok = true := hok
      subst e
      unfold sh
      simp
  have e1 : wPl x sec d = sh x.q (wPl ⟨x.a, x.w, x.m, x.s, [], true⟩ sec d) := by
    conv => lhs; rw [hx]
    exact wPl_sh _ _ _ _
  by_cases c : recOk sec x.s d
  · have e2 : wPlan x.a x.w x.m x.s sec d = wPl ⟨x.a, x.w, x.m, x.s, [], true⟩ sec d := by
      unfold wPlan wPl
      rw [decide_eq_true c]
    have hq := (wPlan_ok K hK hf sec d).2
    rw [e1]
    rw [e2] at hq ⊢
    exact ⟨rfl, fun _ => ⟨rfl, rfl, hq⟩⟩
  · have e2 : (wPlan x.a x.w x.m x.s sec d).ok = false := by
      unfold wPlan
      rw [decide_eq_false c, wRoom_no 10 _ rfl, if_neg (fun e => (by cases e))]
    have e3 : (wPl x sec d).ok = false := by
      rw [← Bool.not_eq_true]
      exact fun e => c (wPl_rec K hK hf e)
    rw [e2, e3]
    exact ⟨rfl, fun e => (by cases e)⟩
theorem spec_Writes_l0 (K : Nat) (hK : 10000000000000 ≤ K) {A : List ByteArray} {W M : List Int} {S : Int} (hA : ftlOk A W M S) (P : List (Int × ByteArray)) (hP : P.length ≤ 100) : ∀ (f i : Nat) (Q : ActT) (x : Wk), P.length < i + f → i ≤ P.length → x.ok = true → Jn x → WkOk x → x.q.length ≤ 71 * i → Q.length ≤ 71 * i →
    ∃ r, spec.Writes.l0.f K A W M S P f Q x.a x.w x.m x.s (i : Int) = some r ∧ ((wr (P.drop i) x).ok = true → ∃ t, r = .inr t) ∧ ((wr (P.drop i) x).ok = false → r = .inl ()) := by
  intro f
  induction f with
  | zero => intro i Q x h hi; omega
  | succ f ih =>
    intro i Q x h hi hok hj hk hq hQ
    rw [spec.Writes.l0.f]
    by_cases c : i < P.length
    case neg =>
      rw [List.drop_of_length_le (by omega)]
      exact ⟨_, br_n (by omega) rfl, fun _ => ⟨_, rfl⟩, fun e => by rw [wr, hok] at e; cases e⟩
    have e1 : w64 ((i : Int) + 1) = ((i + 1 : Nat) : Int) := wsucc (by omega)
    rw [e1, List.drop_eq_getElem_cons c, wr, if_pos hok, ← getD_at c (0, noVal)]
    have hp := spec_Plan_eq K hK hj.1 (P.getD i (0, noVal)).1 (P.getD i (0, noVal)).2
    obtain ⟨g1, g2⟩ := plan_wPl K hK hok hj.1 (P.getD i (0, noVal)).1 (P.getD i (0, noVal)).2
    obtain ⟨z, z1, z2, z3, z4⟩ := impl_pplan_eq K hK (P.getD i (0, noVal)).1 (P.getD i (0, noVal)).2 x hk.chip (fun _ => ⟨hj, hk, by omega⟩)
    unfold told at hp
    cases hw : (wPl x (P.getD i (0, noVal)).1 (P.getD i (0, noVal)).2).ok with
    | false =>
      rw [g1, hw, if_neg (by decide)] at hp
      have hm : M.length = 26 := by rw [hA.2.1]; exact (mnt_ok A).mlen
      rw [wr_no _ _ hw]
      exact ⟨.inl (), br_d (by omega) (ck_t (by omega) (bind_t hp (br_f rfl (bind_t (spec_l4Copy_eq A W M S hA.1 hm) rfl)))), fun e => (by rw [hw] at e; cases e), fun _ => rfl⟩
    | true =>
      rw [hw] at z3
      obtain ⟨y1, y2, y3, y4⟩ := z4 z3
      rw [y1] at y2 y3 y4
      obtain ⟨k1, k2, k3⟩ := g2 hw
      rw [g1, hw, if_pos rfl, k1, k2, ← y2.1.2.1, ← y2.1.2.2] at hp
      obtain ⟨r, r1, r2, r3⟩ := ih (i + 1) (Q ++ (wPlan x.a x.w x.m x.s (P.getD i (0, noVal)).1 (P.getD i (0, noVal)).2).q) _ (by omega) (by omega) hw y2 y3 (by omega) (by rw [List.length_append]; omega)
      exact ⟨r, br_d (by omega) (ck_t (by omega) (bind_t hp (br_t rfl (ck_t (by simp only [List.length_append]; omega) r1)))), r2, r3⟩
theorem spec_Writes_ok (K : Nat) (hK : 10000000000000 ≤ K) {a : List ByteArray} {w m : List Int} {s : Int} (h : ftlOk a w m s) (ho : One a) (P : List (Int × ByteArray)) (hP : P.length ≤ 100) : ∃ q a' w' m' s', spec.Writes.f K a w m s P = some (q, a', w', m', s', (wrAll a w m s P).ok) := by
  unfold spec.Writes.f wrAll
  have hm : m.length = 26 := by rw [h.2.1]; exact (mnt_ok a).mlen
  have hcp := spec_l4Copy_eq a w m s h.1 hm
  by_cases c : 8 < P.length
  · rw [if_pos c]
    exact ⟨_, _, _, _, _, bind_t (spec_FtlOk_eq K hK a w m s) (br_d h (br_d (by omega) (bind_t hcp rfl)))⟩
  · rw [if_neg c]
    obtain ⟨r, r1, r2, r3⟩ := spec_Writes_l0 K hK h P hP K 0 [] ⟨a, w, m, s, [], true⟩ (by omega) (by omega) rfl ⟨h, ho⟩ (ftl_wk h _ _) (by show 0 ≤ 71 * 0; omega) (by show 0 ≤ 71 * 0; omega)
    rw [List.drop_zero] at r2 r3
    cases hy : (wr P ⟨a, w, m, s, [], true⟩).ok with
    | true =>
      obtain ⟨t, rfl⟩ := r2 hy
      exact ⟨_, _, _, _, _, bind_t (spec_FtlOk_eq K hK a w m s) (br_d h (br_n (by omega) (bind_t hcp (bind_t r1 rfl))))⟩
    | false =>
      rw [r3 hy] at r1
      exact ⟨_, _, _, _, _, bind_t (spec_FtlOk_eq K hK a w m s) (br_d h (br_n (by omega) (bind_t hcp (bind_t r1 rfl))))⟩
theorem Fs_wr {a0 : List ByteArray} {w0 : List Int} {al : Nat → ByteArray → Prop} : ∀ (l : List (Int × ByteArray)) (x : Wk), (∀ p ∈ l, 0 ≤ p.1 → al p.1.toNat p.2) → x.ok = true → Fs a0 w0 al x → WkOk x → (wr l x).ok = true → Fs a0 w0 al (wr l x)
  | [], x, _, _, h, _, _ => h
  | p :: l, x, hl, hok, h, hk, hz => by
    unfold wr at hz ⊢
    rw [if_pos hok] at hz ⊢
    cases hw : (wPl x p.1 p.2).ok with
    | false => rw [wr_no l _ hw, hw] at hz; cases hz
    | true =>
      have hr := wPl_rec 10000000000000 (Nat.le_refl _) h.jn.1 hw
      obtain ⟨g1, g2⟩ := Fs_plan h hk hok (hl p (List.mem_cons_self ..) hr.1) hw
      exact Fs_wr l _ (fun q hq => hl q (List.mem_cons_of_mem _ hq)) hw g1 g2 hz
/-! ### the power fails -/
theorem impl_Apply_eq (K : Nat) (hK : 10000000000000 ≤ K) {a : List ByteArray} {w : List Int} (h : chipOk a w) (t : Int × Int × ByteArray) (ht : t.1 = 1 ∨ (t.1 = 2 ∧ t.2.2 = noVal)) : impl.Apply.f K a w t.1 t.2.1 t.2.2 = some (applyR a w t) := by
  unfold applyR
  rcases ht with ht | ⟨ht, ht2⟩
  · rw [ht, if_pos rfl]; exact impl_Apply1 K hK h _ _
  · rw [ht, ht2, if_neg (by decide), if_pos rfl]; exact impl_Apply2 K hK h _
theorem impl_ApplyAll_l0 (K : Nat) (hK : 10000000000000 ≤ K) (A : List ByteArray) (W : List Int) (L : ActT) (hL : L.length ≤ 1000000) (hs : ∀ t ∈ L, t.1 = 1 ∨ (t.1 = 2 ∧ t.2.2 = noVal)) : ∀ (f i : Nat) (a : List ByteArray) (w : List Int), L.length < i + f → i ≤ L.length → chipOk a w →
    ∃ y, impl.ApplyAll.l0.f K A W L f a w (i : Int) = some y ∧ Sum.elim (fun z : List ByteArray × List Int => (z.1, z.2, false)) (fun z : List ByteArray × List Int => (z.1, z.2, true)) y = appAll (L.drop i) a w := by
  intro f
  induction f with
  | zero => intro i a w h hi; omega
  | succ f ih =>
    intro i a w h hi hc
    rw [impl.ApplyAll.l0.f]
    have e1 : w64 ((i : Int) + 1) = ((i + 1 : Nat) : Int) := wsucc (by omega)
    by_cases c : i < L.length
    case neg =>
      rw [List.drop_of_length_le (by omega)]
      exact ⟨_, br_n (by omega) rfl, rfl⟩
    have hin : L.getD i (0, 0, noVal) ∈ L := by rw [getD_at c]; exact List.getElem_mem c
    rw [List.drop_eq_getElem_cons c, ← getD_at c (0, 0, noVal), appAll]
    have ha := impl_Apply_eq K hK hc (L.getD i (0, 0, noVal)) (hs _ hin)
    cases hr : (applyR a w (L.getD i (0, 0, noVal))).2.2 with
    | true =>
      rw [if_pos rfl]
      obtain ⟨y, g1, g2⟩ := ih (i + 1) _ _ (by omega) (by omega) (applyR_chip hc (L.getD i (0, 0, noVal)))
      exact ⟨y, br_d (by omega) (ck_t (by omega) (bind_t ha (br_t hr (by rw [e1]; exact g1)))), g2⟩
    | false =>
      rw [if_neg (by simp)]
      exact ⟨_, br_d (by omega) (ck_t (by omega) (bind_t ha (br_f hr rfl))), rfl⟩
theorem impl_ApplyAll_eq (K : Nat) (hK : 10000000000000 ≤ K) {a : List ByteArray} {w : List Int} (h : chipOk a w) (L : ActT) (hL : L.length ≤ 1000000) (hs : ∀ t ∈ L, t.1 = 1 ∨ (t.1 = 2 ∧ t.2.2 = noVal)) : impl.ApplyAll.f K a w L = some (appAll L a w) := by
  unfold impl.ApplyAll.f
  obtain ⟨y, g1, g2⟩ := impl_ApplyAll_l0 K hK a w L hL hs K 0 a w (by omega) (by omega) h
  rw [List.drop_zero] at g2
  refine bind_t (impl_ChipOk_eq K hK a w) (br_d h (bind_t (impl_cloneChip_eq a w h) (bind_t g1 ?_)))
  rw [← g2]
  cases y <;> rfl
theorem impl_Cut_eq (K : Nat) (hK : 10000000000000 ≤ K) {a : List ByteArray} {w : List Int} (h : chipOk a w) (L : ActT) (hL : L.length ≤ 1000000) (hs : ∀ t ∈ L, t.1 = 1 ∨ (t.1 = 2 ∧ t.2.2 = noVal)) (k n : Int) : impl.Cut.f K a w L k n = some (cutR a w L k n) := by
  unfold impl.Cut.f cutR
  obtain ⟨k0, k1⟩ := kOf_range k L.length
  have ek : maxI 0 (minI k (L.length : Int)) = kOf k L.length := max_min k L.length
  rw [ek]
  generalize kOf k L.length = c0 at k0 k1 ⊢
  have hc := appAll_chip (L.take c0.toNat) h
  have e : (L.drop 0).take c0.toNat = L.take c0.toNat := by rw [List.drop_zero]
  have ha : impl.ApplyAll.f K a w ((L.drop 0).take c0.toNat) = some (appAll (L.take c0.toNat) a w) := by
    rw [e]; exact impl_ApplyAll_eq K hK h _ (by simp; omega) (fun t ht => hs t (List.mem_of_mem_take ht))
  generalize appAll (L.take c0.toNat) a w = r at hc ha ⊢
  refine ck_t k0 (ck_t k1 (bind_t ha (ck_t (by omega) ?_)))
  cases hr : r.2.2 with
  | false =>
    rw [if_neg (fun e => by have := e.1; cases this)]
    exact br_f rfl rfl
  | true =>
  by_cases c : c0 = (L.length : Int)
  · rw [if_neg (fun e => e.2 c)]
    exact br_t rfl (br_t (by simpa using c) rfl)
  rw [if_pos ⟨rfl, c⟩]
  have hin : L.getD c0.toNat (0, 0, noVal) ∈ L := by rw [getD_at (by omega)]; exact List.getElem_mem _
  have hx := hs _ hin
  refine br_t rfl (br_f (by rw [beq_eq_false_iff_ne]; exact c) (ck_t (by omega) ?_))
  generalize L.getD c0.toNat (0, 0, noVal) = x at hx ⊢
  have ht := impl_Torn_eq K hK r.1 r.2.1 x.2.1 x.2.2 n
  have hh := impl_Half_eq K hK r.1 r.2.1 x.2.1 n
  rw [if_pos hc] at ht hh
  rcases hx with d | ⟨g, g2⟩
  · rw [if_pos d]
    exact br_t (by simpa using d) (bind_t ht rfl)
  · have d : ¬ x.1 = 1 := by omega
    rw [if_neg d, if_pos g]
    exact br_f (by rw [beq_eq_false_iff_ne]; exact d) (br_t (by simpa using g) (br_t (by rw [g2]; exact strEq_self _) (bind_t hh rfl)))

theorem impl_sector_eq (K : Nat) (hK : 10000000000000 ≤ K) (a : List ByteArray) (w m : List Int) (s : Int) (h : ftlOk a w m s) (j : Nat) (hj : j < 26) : impl.sector.f K a w m s (j : Int) = some (secT a m j) := by
  unfold impl.sector.f secT
  have ho := mnt_ok a
  have hml : m.length = 26 := by rw [h.2.1]; exact ho.mlen
  rw [Int.toNat_natCast]
  refine bind_t (impl_isSector_eq _) (br_d (by omega) (ck_t (by omega) (ck_t (by omega) ?_)))
  by_cases c : m.getD j 0 < 0
  · rw [if_pos c]; exact br_d c rfl
  · rw [if_neg c]
    have hp : m.getD j 0 < (a.length : Int) := by
      rcases ho.at_ j hj with g | ⟨p, g1, g2, _⟩
      · rw [← h.2.1] at g; omega
      · rw [← h.2.1] at g2; omega
    have hpn : (m.getD j 0).toNat < a.length := by omega
    have hz : (a.getD (m.getD j 0).toNat noVal).size ≤ 1000000000000 := by rw [getD_at hpn]; have := chip_page h.1 _ (List.getElem_mem hpn); omega
    exact br_n c (ck_t hp (bind_t (impl_RecRead_eq K hK _ hz) rfl))
/-- What the sectors from i on hold. -/
def secL (a : List ByteArray) (m : List Int) (i n : Nat) : List ByteArray := (List.range' i n).map (secT a m)
theorem secL_succ (a : List ByteArray) (m : List Int) (i n : Nat) : secL a m i (n + 1) = secT a m i :: secL a m (i + 1) n := by
  unfold secL
  rw [List.range'_succ, List.map_cons]

theorem impl_View_l0 (K : Nat) (hK : 10000000000000 ≤ K) (a : List ByteArray) (w m : List Int) (s : Int) (h : ftlOk a w m s) : ∀ (f i : Nat) (v : List ByteArray), 26 < i + f → i ≤ 26 → v.length ≤ i → impl.View.l0.f K a w m s f v (i : Int) = some (v ++ secL a m i (26 - i)) := by
  intro f
  induction f with
  | zero => intro i v h1 hi; omega
  | succ f ih =>
    intro i v h1 hi hv
    rw [impl.View.l0.f]
    by_cases c : i < 26
    · have e1 : w64 ((i : Int) + 1) = ((i + 1 : Nat) : Int) := wsucc (by omega)
      have hr := ih (i + 1) (v ++ [secT a m i]) (by omega) (by omega) (by simp; omega)
      rw [List.append_assoc, List.singleton_append, ← secL_succ, show 26 - (i + 1) + 1 = 26 - i by omega] at hr
      simp only [e1]
      exact br_d (by omega) (bind_t (impl_sector_eq K hK a w m s h i c) (ck_t (by simp; omega) hr))
    · rw [show 26 - i = 0 by omega]
      exact br_n (by omega) (by simp [secL])
theorem impl_View_eq (K : Nat) (hK : 10000000000000 ≤ K) {a : List ByteArray} {w m : List Int} {s : Int} (c : ftlOk a w m s) : impl.View.f K a w m s = some (secL a m 0 26) := by
  have hm : m.length = 26 := by rw [c.2.1]; exact (mnt_ok a).mlen
  unfold impl.View.f
  exact bind_t (impl_FtlOk_eq K hK a w m s (by omega)) (br_d c (bind_t (impl_View_l0 K hK a w m s c K 0 [] (by omega) (by omega) (by simp)) rfl))

theorem laws_big_eq (b : List Int) : laws.big.f b = some () := by
  unfold laws.big.f; rfl
theorem sameTexts_l0 (a : List ByteArray) (ha : a.length ≤ 1000000) : ∀ (f i : Nat), a.length < i + f → i ≤ a.length → laws.sameTexts.l0.f a a f (i : Int) = some (.inr ()) := by
  intro f
  induction f with
  | zero => intro i h hi; omega
  | succ f ih =>
    intro i h hi
    rw [laws.sameTexts.l0.f]
    by_cases c : i < a.length
    · have e1 : w64 ((i : Int) + 1) = ((i + 1 : Nat) : Int) := wsucc (by omega)
      exact br_d (by omega) (ck_t (by omega) (ck_t (by omega) (br_t (strEq_self _) (by rw [e1]; exact ih (i + 1) (by omega) (by omega)))))
    · exact br_n (by omega) rfl
theorem sameTexts_self (K : Nat) (hK : 10000000000000 ≤ K) (a : List ByteArray) (ha : a.length ≤ 1000000) : laws.sameTexts.f K a a = some true := by
  unfold laws.sameTexts.f
  exact br_f (by simp) (bind_t (sameTexts_l0 a ha K 0 (by omega) (by omega)) rfl)

theorem secL_at {a : List ByteArray} {m : List Int} {j : Nat} (hj : j < 26) : (secL a m 0 26).getD j noVal = secT a m j := by
  unfold secL
  rw [getD_at (by rw [List.length_map, List.length_range']; exact hj), List.getElem_map, List.getElem_range']
  congr 1
  omega
theorem secL_length (a : List ByteArray) (m : List Int) (i n : Nat) : (secL a m i n).length = n := by
  unfold secL; rw [List.length_map, List.length_range']
theorem l6Puts_l0 (b : List Int) (hl : b.length ≤ 1000000000000) : ∀ (f c : Nat) (i s : Int) (P : List (Int × ByteArray)), 0 ≤ i → 4 < c + f → c ≤ 4 → P.length ≤ c → ∃ j t P', spec.l6DrawPuts.l0.f b f i s P (c : Int) = some (j, t, P') ∧ 0 ≤ j ∧ P'.length ≤ 4 := by
  intro f
  induction f with
  | zero => intro c i s P h1 h2 h3; omega
  | succ f ih =>
    intro c i s P h1 h2 h3 h4
    rw [spec.l6DrawPuts.l0.f]
    obtain ⟨v, j, t, g1, g2, g3, g4⟩ := l1Below_ok b hl i s 5 h1
    have g4 := g4 (by decide)
    by_cases d : (c : Int) < v
    case neg => exact ⟨_, _, _, bind_t g1 (br_n d rfl), g2, by omega⟩
    obtain ⟨v2, j2, t2, k1, k2, k3, k4⟩ := l1Below_ok b hl j t 26 g2
    obtain ⟨x, j3, t3, q1, q2, q3⟩ := l1Pick_ok b hl j2 t2 [noVal, (ByteArray.mk #[120]), (ByteArray.mk #[121, 121]), (ByteArray.mk #[122, 122, 122])] k2 (by decide)
    have e1 : w64 ((c : Int) + 1) = ((c + 1 : Nat) : Int) := wsucc (by omega)
    obtain ⟨j4, t4, P', r1, r2⟩ := ih (c + 1) j3 t3 (P ++ [(v2, x)]) q2 (by omega) (by omega) (by rw [List.length_append, List.length_singleton]; omega)
    exact ⟨j4, t4, P', bind_t g1 (br_d d (bind_t k1 (bind_t q1 (ck_t (by rw [List.length_append, List.length_singleton]; omega) (by rw [e1]; exact r1))))), r2⟩
theorem l6Puts_l1 (b : List Int) (hl : b.length ≤ 1000000000000) : ∀ (f : Nat) (i s : Int) (P : List (Int × ByteArray)), 0 ≤ i → 9 < P.length + f → P.length ≤ 9 → ∃ P' j t, spec.l6DrawPuts.l1.f b f i s P = some (P', j, t) ∧ 0 ≤ j ∧ P'.length ≤ 9 := by
  intro f
  induction f with
  | zero => intro i s P h1 h2 h3; omega
  | succ f ih =>
    intro i s P h1 h2 h3
    rw [spec.l6DrawPuts.l1.f]
    obtain ⟨v, j, t, g1, g2, g3, g4⟩ := l1Below_ok b hl i s 2 h1
    have g4 := g4 (by decide)
    have e : w64 (8 + v) = 8 + v := w64_id (by omega) (by omega)
    by_cases d : (P.length : Int) < w64 (8 + v)
    case neg => exact ⟨_, _, _, bind_t g1 (br_n d rfl), g2, by omega⟩
    rw [e] at d
    obtain ⟨P', j4, t4, r1, r2⟩ := ih j t (P ++ [(3, noVal)]) g2 (by rw [List.length_append, List.length_singleton]; omega) (by rw [List.length_append, List.length_singleton]; omega)
    exact ⟨P', j4, t4, bind_t g1 (br_d (by show (P.length : Int) < w64 (8 + v); rw [e]; exact d) (ck_t (by rw [List.length_append, List.length_singleton]; omega) r1)), r2⟩
theorem l6Puts_ok (K : Nat) (hK : 10000000000000 ≤ K) (b : List Int) (hl : b.length ≤ 1000000000000) (i s : Int) (hi : 0 ≤ i) : ∃ P j t, spec.l6DrawPuts.f K b i s = some (P, j, t) ∧ 0 ≤ j ∧ P.length ≤ 100 := by
  unfold spec.l6DrawPuts.f
  obtain ⟨j, t, P, h1, h2, h3⟩ := l6Puts_l0 b hl K 0 i s [] hi (by omega) (by omega) (Nat.le_refl _)
  obtain ⟨v, j2, t2, g1, g2, g3, g4⟩ := l1Below_ok b hl j t 20 h2
  by_cases c : v = 0
  · exact ⟨_, _, _, bind_t h1 (bind_t g1 (br_t (by simpa using c) (ck_t (by rw [List.length_append, List.length_singleton]; show (P.length + 1) * 24 ≤ _; omega) rfl))), g2, by rw [List.length_append, List.length_singleton]; show P.length + 1 ≤ 100; omega⟩
  by_cases d : v = 1
  · obtain ⟨P', j3, t3, k1, k2, k3⟩ := l6Puts_l1 b hl K j2 t2 P g2 (by omega) (by omega)
    exact ⟨P', j3, t3, bind_t h1 (bind_t g1 (br_f (by rw [beq_eq_false_iff_ne]; exact c) (br_t (by simpa using d) (bind_t k1 rfl)))), k2, by omega⟩
  · exact ⟨P, j2, t2, bind_t h1 (bind_t g1 (br_f (by rw [beq_eq_false_iff_ne]; exact c) (br_f (by rw [beq_eq_false_iff_ne]; exact d) rfl))), g2, by omega⟩
def hitP (P : List (Int × ByteArray)) (j : Nat) : Bool := P.any fun p => p.1 == (j : Int)
def sameP (P : List (Int × ByteArray)) (j : Nat) (g : ByteArray) : Bool := P.any fun p => p.1 == (j : Int) && strEq g p.2
theorem flash_l1 (b : List Int) (P : List (Int × ByteArray)) (k : Int) (Q : ActT) (a : List ByteArray) (w m : List Int) (s : Int) (U G V : List ByteArray) (hG : G.length = 26) (hP : P.length ≤ 100) (j : Nat) (hj : j < 26) : ∀ (f i : Nat) (sm ht : Bool), P.length < i + f → i ≤ P.length →
    laws.FnFlash.l1.f b P k Q a w m s U G V (j : Int) f sm ht (i : Int) = some (sm || sameP (P.drop i) j (G.getD j noVal), ht || hitP (P.drop i) j) := by
  intro f
  induction f with
  | zero => intro i sm ht h hi; omega
  | succ f ih =>
    intro i sm ht h hi
    rw [laws.FnFlash.l1.f]
    by_cases c : i < P.length
    case neg =>
      rw [List.drop_of_length_le (by omega)]
      refine br_n (by omega) ?_
      unfold sameP hitP
      simp
    have e1 : w64 ((i : Int) + 1) = ((i + 1 : Nat) : Int) := wsucc (by omega)
    have hs : sameP (P.drop i) j (G.getD j noVal) = (((P.getD i (0, noVal)).1 == (j : Int) && strEq (G.getD j noVal) (P.getD i (0, noVal)).2) || sameP (P.drop (i + 1)) j (G.getD j noVal)) := by
      unfold sameP
      rw [List.drop_eq_getElem_cons c, List.any_cons, ← getD_at c (0, noVal)]
    have hh : hitP (P.drop i) j = (((P.getD i (0, noVal)).1 == (j : Int)) || hitP (P.drop (i + 1)) j) := by
      unfold hitP
      rw [List.drop_eq_getElem_cons c, List.any_cons, ← getD_at c (0, noVal)]
    rw [e1, hs, hh]
    refine br_d (by omega) (ck_t (by omega) ?_)
    show cond ((P.getD i (0, noVal)).1 == (j : Int)) _ _ = _
    cases d : ((P.getD i (0, noVal)).1 == (j : Int)) with
    | false =>
      refine br_f rfl ?_
      rw [ih (i + 1) sm ht (by omega) (by omega)]
      simp
    | true =>
      refine br_t rfl ?_
      cases sm with
      | true =>
        refine br_t rfl ?_
        rw [ih (i + 1) true true (by omega) (by omega)]
        simp
      | false =>
        refine br_f rfl (ck_t (by omega) (ck_t (by omega) ?_))
        simp only [Int.toNat_natCast]
        rw [ih (i + 1) _ true (by omega) (by omega)]
        simp
theorem flash_l0 (K : Nat) (hK : 10000000000000 ≤ K) (b : List Int) (P : List (Int × ByteArray)) (k : Int) (Q : ActT) (a : List ByteArray) (w m : List Int) (s : Int) (U G V : List ByteArray) (hU : U.length = 26) (hG : G.length = 26) (hV : V.length = 26) (hP : P.length ≤ 100)
    (h1 : ∀ j, j < 26 → (strEq (G.getD j noVal) (U.getD j noVal) || sameP P j (G.getD j noVal)) = true) (h2 : ∀ j, j < 26 → hitP P j = false → strEq (V.getD j noVal) (U.getD j noVal) = true) : ∀ (f j : Nat), 26 < j + f → j ≤ 26 →
    laws.FnFlash.l0.f K b f P k Q a w m s U G V (j : Int) = some (.inr (k, Q, a, w, m, s, G, V)) := by
  intro f
  induction f with
  | zero => intro j h hj; omega
  | succ f ih =>
    intro j h hj
    rw [laws.FnFlash.l0.f]
    by_cases c : j < 26
    case neg => exact br_n (by omega) rfl
    have e1 : w64 ((j : Int) + 1) = ((j + 1 : Nat) : Int) := wsucc (by omega)
    have hr := ih (j + 1) (by omega) (by omega)
    have hl := flash_l1 b P k Q a w m s U G V hG hP j c K 0 (strEq (G.getD j noVal) (U.getD j noVal)) false (by omega) (by omega)
    rw [List.drop_zero, h1 j c, Bool.false_or] at hl
    rw [e1]
    refine br_d (by omega) (ck_t (by omega) (ck_t (by omega) (ck_t (by omega) (bind_t hl (br_t rfl ?_)))))
    cases d : hitP P j with
    | true => exact br_t rfl hr
    | false => exact br_f rfl (ck_t (by omega) (br_t (h2 j c d) hr))
theorem DrawCuts_ok (K : Nat) (hK : 10000000000000 ≤ K) (b : List Int) (hl : b.length ≤ 1000000000) : ∃ a w m s P k n, spec.DrawCuts.f K b = some (a, w, m, s, P, k, n) ∧ Rch a w m s ∧ P.length ≤ 100 := by
  unfold spec.DrawCuts.f
  obtain ⟨q, h0⟩ := l1New_ok K hK b (by omega)
  obtain ⟨a, w, m, s, j, t, h1, h2, h3⟩ := l5DrawRight_ok K hK b (by omega) 0 q (Int.le_refl _)
  obtain ⟨P, j2, t2, g1, g2, g3⟩ := l6Puts_ok K hK b (by omega) j t h3
  obtain ⟨v, j3, t3, k1, k2, _⟩ := l1Below_ok b (by omega) j2 t2 40 g2
  obtain ⟨u, j4, t4, q1, q2, _⟩ := l1Below_ok b (by omega) j3 t3 9 k2
  exact ⟨a, w, m, s, P, v, u, bind_t h0 (bind_t h1 (bind_t g1 (bind_t k1 (bind_t q1 rfl)))), h2, g3⟩
theorem wr_q (K : Nat) (hK : 10000000000000 ≤ K) : ∀ (l : List (Int × ByteArray)) (x : Wk), x.ok = true → Jn x → WkOk x → x.q.length + 71 * l.length ≤ 10000 → (wr l x).ok = true → WkOk (wr l x) ∧ (wr l x).q.length ≤ 10000
  | [], x, _, _, hk, hq, _ => ⟨hk, by show x.q.length ≤ 10000; simp at hq; omega⟩
  | p :: l, x, hok, hj, hk, hq, hz => by
    rw [List.length_cons] at hq
    unfold wr at hz ⊢
    rw [if_pos hok] at hz ⊢
    obtain ⟨z, z1, z2, z3, z4⟩ := impl_pplan_eq K hK p.1 p.2 x hk.chip (fun _ => ⟨hj, hk, by omega⟩)
    cases hw : (wPl x p.1 p.2).ok with
    | false => rw [wr_no l _ hw, hw] at hz; cases hz
    | true =>
      rw [hw] at z3
      obtain ⟨y1, y2, y3, y4⟩ := z4 z3
      rw [y1] at y2 y3 y4
      exact wr_q K hK l _ hw y2 y3 (by omega) hz
theorem FnFlash_pure (b : List Int) (hl : b.length ≤ maxLen) (_ : ∀ x ∈ b, (Lit.int .u8 x).wf = true) : laws.FnFlash.f 10000000000000 b = some true := by
  unfold laws.FnFlash.f
  refine bind_t (laws_big_eq b) ?_
  by_cases cx : (b.length : Int) > 1048576
  · exact br_d cx rfl
  refine br_n cx ?_
  have hK : 10000000000000 ≤ 10000000000000 := Nat.le_refl _
  obtain ⟨a, w, m, s, P, k, n, h1, h2, hP⟩ := DrawCuts_ok 10000000000000 hK b (by omega)
  have hri := h2.ri
  have hf := h2.ftl
  have hw1 := impl_Writes_eq 10000000000000 hK hf hri.1 P hP
  obtain ⟨q', a', w', m', s', hw2⟩ := spec_Writes_ok 10000000000000 hK hf hri.1 P hP
  refine bind_t h1 (bind_t hw1 (bind_t hw2 ?_))
  cases hok : (wrAll a w m s P).ok with
  | false =>
    rw [if_neg (by decide)]
    exact br_t rfl (br_f rfl rfl)
  | true =>
  rw [if_pos rfl]
  have e8 : wrAll a w m s P = wr P ⟨a, w, m, s, [], true⟩ := by
    unfold wrAll at hok ⊢
    split at hok
    · cases hok
    · rename_i c; rw [if_neg c]
  have hlen : P.length ≤ 8 := by
    unfold wrAll at hok
    split at hok
    · cases hok
    · omega
  rw [e8] at hok ⊢
  have hstart := Fs_start hf (al := fun j d => d = vw a j ∨ ∃ p ∈ P, p.1 = (j : Int) ∧ d = p.2) ⟨hri.1, hri.2.1, fun j _ => .inl rfl⟩
  have hfs := Fs_wr P _ (fun p hp h0 => .inr ⟨p, hp, by omega, rfl⟩) rfl hstart (ftl_wk hf _ _) hok
  obtain ⟨hk, hq⟩ := wr_q 10000000000000 hK P ⟨a, w, m, s, [], true⟩ rfl ⟨hf, hri.1⟩ (ftl_wk hf _ _) (by show 0 + 71 * P.length ≤ 10000; omega) hok
  generalize wr P ⟨a, w, m, s, [], true⟩ = y at hok hfs hk hq ⊢
  have hcut := impl_Cut_eq 10000000000000 hK hf.1 y.q (by omega) hfs.acts k n
  have hcc := cutR_chip hf.1 y.q k n
  have hgc := Fs_cut hfs k n
  have hm0 := impl_mount_eq 10000000000000 hK _ _ hcc
  have hmo : impl.Mount.f 10000000000000 (cutR a w y.q k n).1 (cutR a w y.q k n).2 = some ((cutR a w y.q k n).1, (cutR a w y.q k n).2, (mnt (cutR a w y.q k n).1).map, (mnt (cutR a w y.q k n).1).seq) := by
    unfold impl.Mount.f
    exact bind_t (impl_ChipOk_eq _ hK _ _) (br_d hcc (bind_t hm0 rfl))
  have hfull : (y.q.length : Int) ≤ k → cutR a w y.q k n = (y.a, y.w) := by
    intro hle
    have ek : kOf k y.q.length = (y.q.length : Int) := by
      unfold kOf
      rw [if_neg (show ¬ k < (y.q.length : Int) by omega)]
      split <;> omega
    unfold cutR
    rw [if_neg (fun e => e.2 ek), ek, Int.toNat_natCast, List.take_length, hfs.app]
  generalize cutR a w y.q k n = c at hcut hcc hgc hmo hfull ⊢
  have hfc : ftlOk c.1 c.2 (mnt c.1).map (mnt c.1).seq := ⟨hcc, rfl, rfl⟩
  have hfy := hfs.jn.1
  have v1 := impl_View_eq 10000000000000 hK hf
  have v2 := impl_View_eq 10000000000000 hK hfc
  have v3 := impl_View_eq 10000000000000 hK hfy
  have a1 : ∀ j, j < 26 → (secL a m 0 26).getD j noVal = vw a j := fun j hj => by rw [secL_at hj, hf.2.1]; rfl
  have a2 : ∀ j, j < 26 → (secL c.1 (mnt c.1).map 0 26).getD j noVal = vw c.1 j := fun j hj => by rw [secL_at hj]; rfl
  have a3 : ∀ j, j < 26 → (secL y.a y.m 0 26).getD j noVal = vw y.a j := fun j hj => by rw [secL_at hj, hfy.2.1]; rfl
  have hl0 := flash_l0 10000000000000 hK b P k y.q c.1 c.2 (mnt c.1).map (mnt c.1).seq (secL a m 0 26) (secL c.1 (mnt c.1).map 0 26) (secL y.a y.m 0 26) (secL_length ..) (secL_length ..) (secL_length ..) hP
    (fun j hj => by
      rw [a1 j hj, a2 j hj]
      rcases hgc.2.2 j hj with g | ⟨p, p1, p2, p3⟩
      · rw [g, strEq_self]; rfl
      · rw [Bool.or_eq_true]
        right
        unfold sameP
        rw [List.any_eq_true]
        refine ⟨p, p1, ?_⟩
        rw [p3, strEq_self, Bool.and_true]
        simpa using p2)
    (fun j hj hh => by
      rw [a1 j hj, a3 j hj]
      rcases hfs.gg.2.2 j hj with g | ⟨p, p1, p2, p3⟩
      · rw [g, strEq_self]
      · exfalso
        unfold hitP at hh
        rw [List.any_eq_false] at hh
        exact hh p p1 (by simpa using p2)) 10000000000000 0 (by omega) (by omega)
  have hfo := impl_FtlOk_eq 10000000000000 hK c.1 c.2 (mnt c.1).map (mnt c.1).seq (by rw [(mnt_ok _).mlen]; omega)
  rw [decide_eq_true hfc] at hfo
  refine br_t rfl (br_t rfl (bind_t hcut (bind_t hmo (bind_t v1 (bind_t v2 (bind_t v3 (bind_t hl0 (bind_t hfo (br_t rfl ?_)))))))))
  by_cases d : k < (y.q.length : Int)
  · exact br_d d rfl
  · have hc := hfull (by omega)
    have e : secL y.a y.m 0 26 = secL c.1 (mnt c.1).map 0 26 := by rw [hc, hfy.2.1]
    have hs := sameTexts_self 10000000000000 hK (secL c.1 (mnt c.1).map 0 26) (by rw [secL_length]; omega)
    refine br_n d (bind_t ?_ rfl)
    show laws.sameTexts.f 10000000000000 (secL c.1 (mnt c.1).map 0 26) (secL y.a y.m 0 26) = some true
    rw [e]; exact hs

end Go.Proofs.YtmodnnokcmabhaaGreat.Pure
