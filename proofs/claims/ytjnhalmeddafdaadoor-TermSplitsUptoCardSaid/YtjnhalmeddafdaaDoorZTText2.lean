/- A term's text. -/
import Derived.Test.YtjnhalmeddafdaaDoorZTText
set_option linter.unusedVariables false
set_option linter.unusedSimpArgs false
set_option maxRecDepth 20000
namespace Go.Proofs.YtjnhalmeddafdaaDoor
open Go Go.Av
variable {G : Nat → AV}
theorem right_num {t : Term} (h : right t = true) (hk : t.knd = 3 ∨ t.knd = 4 ∨ t.knd = 5) : 0 ≤ t.num ∧ t.num ≤ 1099511627776 := by
  simp only [right, decide_eq_true_eq] at h
  rw [size_eq, if_neg (by omega)] at h
  split at h
  · rename_i hf
    obtain ⟨f1, _⟩ := adds_true _ _ hf
    obtain ⟨f3, _⟩ := adds_true _ _ f1
    simp only at f3
    unfold head at f3
    rw [if_neg (by omega)] at f3
    by_cases e3 : t.knd = 3 ∨ t.knd = 5
    · rw [if_pos e3] at f3
      simp only [Bool.and_eq_true, decide_eq_true_eq] at f3
      omega
    · rw [if_neg e3, if_pos (by omega)] at f3
      simp only [Bool.and_eq_true, decide_eq_true_eq] at f3
      omega
  · omega
theorem add_len {a b : List UInt8} (h : a.length + b.length ≤ 1000000000) : (a.length + b.length ≤ maxLen) = True := eq_true (by unfold maxLen; omega)
set_option maxHeartbeats 2000000 in
theorem put_tri (hg : GlobT G) (t : Term) : t.bulk ≤ 100000000 → right t = true → Puts G t := by
  refine Term.ind (P := fun t => t.bulk ≤ 100000000 → right t = true → Puts G t) (fun t ih1 ih2 hb hr => ?_) t
  have A := right_spec hr
  have hi : ∀ x, x ∈ t.items → Puts G x := fun x hx => ih1 x hx (by have := bulk_item hx; omega) (A.items x hx)
  have ht : ∀ x, x ∈ t.tail → Puts G x := fun x hx => ih2 x hx (by have := bulk_tail hx; omega) (A.tail x hx)
  clear ih1 ih2
  intro σ0 σ b p q xs hF hB hlen
  have hse := said_eq t
  have htx := len_text t
  refine Tri.of_awp mixed Tryd.func45 rfl (by kernel_rfl) (by kernel_rfl) (by simp [Tryd.ntmps45]) Tryd.results45 ?_
  simp -dsimp only [↓bp, bq, br, afin, bsk, cWrites, opsWrites, pieceGh, rsk, ne_eq, if_true, if_false, exists_eq_left', forall_const, forall_eq, Nat.reduceLT, Int.reduceSub, Nat.reduceAdd, Nat.reduceSub, Nat.reduceMul, Nat.reduceLeDiff, Nat.reduceEqDiff, Nat.reduceBEq, Nat.reduceBNe, Int.reduceNeg, Int.reduceAdd, Int.reduceMul, Int.reduceLE, Int.reduceLT, Int.reduceEq, Int.reduceToNat, reduceIte, reduceCtorEq, tf3, tf4, tf5, tf9, tf51, tf22, tf24, tf26, tf23, tf53, tf50, tf54, tf60, Term.flat_enc, Term.isv_enc, Term.fold_enc, isv_encs, flat_encs, len_encs, ix_encs, ix_encs', isv_lims, flat_lims]
  refine newW_intro fun b3 h3 => ?_
  obtain ⟨σ1, hs1⟩ : ∃ σ1, σ1 = σ0.setBox b3 [.int .u8 t.knd, .bool t.neg, lims t.limbs, .str t.text, .int .i64 t.num, encs t.items, encs t.tail] := ⟨_, rfl⟩
  have hB1 := hB.newBox h3 [.int .u8 t.knd, .bool t.neg, lims t.limbs, .str t.text, .int .i64 t.num, encs t.items, encs t.tail]
  rw [← hs1] at hB1
  have hle1 : σ0.le σ1 := by rw [hs1]; exact (AS.le.refl σ0).setBox (hB.le.fresh h3).1 _
  have hF1 := hF.up hle1
  have hb3 : σ1.box b3 = some [.int .u8 t.knd, .bool t.neg, lims t.limbs, .str t.text, .int .i64 t.num, encs t.items, encs t.tail] := by rw [hs1]; simp [AS.setBox]
  clear hs1 hB h3
  generalize σ.setBox b3 _ = s0 at *
  have k3 := hB1.le.box b3 _ hb3
  have kq := hB1.le.box q _ hF1.row
  by_cases e1 : t.knd = 1
  · have hw := wtext_pure G t (by omega)
    rw [A.int e1, if_pos rfl] at hw
    rw [if_pos e1] at hse
    rw [hse] at hlen ⊢
    have k1 := eq_true e1
    clear e1 A hi ht hr
    repeat' (first
    | with_reducible refine condW_both (fun _ _ => ?_) (fun _ _ => ?_)
    | with_reducible refine gW_both (fun _ _ => ?_) (fun _ _ => ?_)
    | with_reducible refine condW_split (fun _ => ?_) (fun _ => ?_)
    | with_reducible refine gW_split (fun _ => ?_) (fun _ => ?_)
    | with_reducible refine pickW_split (fun _ => ?_) (fun _ => ?_)
    | (refine newW_intro ?_; intro bx hbx; (try simp only [fresh_box, fresh_tip, fresh_ty] at hbx))
    | (refine newT_plain ?_; intro bx hbx; (try simp only [fresh_box, fresh_tip, fresh_ty] at hbx))
    | refine Pure.use (hw) ?_
    | refine Pure.head (hw) ?_
    | ((refine Tri.mono (writeString_tri _ hB1 _ (by omega)) ?_; rintro r s1 hB2))
    | refine storeX_w ?_
    | ((with_reducible refine And.intro ?_ ?_); omega)
    | refine bo_buildSlice (d' := ⟨⟩) ?_
    | (refine draw_all (by kernel_rfl) ?_)
    | refine finish_pure ?_ (by repeat' (first | exact AS.le.refl _ | assumption | (refine le_set (by first | assumption | (simp only [*]; done) | exact AS.le.fresh (by assumption) (by simp only [*])) ?_) | (refine le_ty (by first | assumption | (simp only [*]; done) | exact AS.le.fresh (by assumption) (by simp only [*])) ?_)))
    | simp -dsimp only [↓bp, bq, br, afin, bsk, cWrites, opsWrites, pieceGh, rsk, ne_eq, if_true, if_false, exists_eq_left', forall_const, forall_eq, Nat.reduceLT, Int.reduceSub, Nat.reduceAdd, Nat.reduceSub, Nat.reduceMul, Nat.reduceLeDiff, Nat.reduceEqDiff, Nat.reduceBEq, Nat.reduceBNe, Int.reduceNeg, Int.reduceAdd, Int.reduceMul, Int.reduceLE, Int.reduceLT, Int.reduceEq, Int.reduceToNat, reduceIte, reduceCtorEq, tf3, tf4, tf5, tf9, tf51, tf22, tf24, tf26, tf23, tf53, tf50, tf54, tf60, Term.flat_enc, Term.isv_enc, Term.fold_enc, isv_encs, flat_encs, len_encs, ix_encs, ix_encs', isv_lims, flat_lims, *])
    exact finishW_some _ (AS.le.refl _) (hB2.weaken hle1)
  have k1 := eq_false e1
  rw [if_neg e1] at hse
  by_cases e2 : t.knd = 2
  · have hpl := plainA_pure hg.toGlob t.text (by omega)
    have hqu := quoted_pure (G := G) t.text (by omega)
    rw [if_pos e2] at hse
    rw [hse] at hlen ⊢
    have k2 := eq_true e2
    unfold atomT at hlen ⊢
    clear e1 e2 A hi ht hr hse
    cases hp : plainA t.text with
    | true =>
      rw [hp] at hpl hlen
      simp only [if_true] at hlen ⊢
      repeat' (first
    | with_reducible refine condW_both (fun _ _ => ?_) (fun _ _ => ?_)
    | with_reducible refine gW_both (fun _ _ => ?_) (fun _ _ => ?_)
    | with_reducible refine condW_split (fun _ => ?_) (fun _ => ?_)
    | with_reducible refine gW_split (fun _ => ?_) (fun _ => ?_)
    | with_reducible refine pickW_split (fun _ => ?_) (fun _ => ?_)
    | (refine newW_intro ?_; intro bx hbx; (try simp only [fresh_box, fresh_tip, fresh_ty] at hbx))
    | (refine newT_plain ?_; intro bx hbx; (try simp only [fresh_box, fresh_tip, fresh_ty] at hbx))
    | refine Pure.use (hpl) ?_
    | refine Pure.head (hpl) ?_
    | ((refine Tri.mono (writeString_tri _ hB1 _ (by omega)) ?_; rintro r s1 hB2))
    | refine storeX_w ?_
    | ((with_reducible refine And.intro ?_ ?_); omega)
    | refine bo_buildSlice (d' := ⟨⟩) ?_
    | (refine draw_all (by kernel_rfl) ?_)
    | refine finish_pure ?_ (by repeat' (first | exact AS.le.refl _ | assumption | (refine le_set (by first | assumption | (simp only [*]; done) | exact AS.le.fresh (by assumption) (by simp only [*])) ?_) | (refine le_ty (by first | assumption | (simp only [*]; done) | exact AS.le.fresh (by assumption) (by simp only [*])) ?_)))
    | simp -dsimp only [↓bp, bq, br, afin, bsk, cWrites, opsWrites, pieceGh, rsk, ne_eq, if_true, if_false, exists_eq_left', forall_const, forall_eq, Nat.reduceLT, Int.reduceSub, Nat.reduceAdd, Nat.reduceSub, Nat.reduceMul, Nat.reduceLeDiff, Nat.reduceEqDiff, Nat.reduceBEq, Nat.reduceBNe, Int.reduceNeg, Int.reduceAdd, Int.reduceMul, Int.reduceLE, Int.reduceLT, Int.reduceEq, Int.reduceToNat, reduceIte, reduceCtorEq, tf3, tf4, tf5, tf9, tf51, tf22, tf24, tf26, tf23, tf53, tf50, tf54, tf60, Term.flat_enc, Term.isv_enc, Term.fold_enc, isv_encs, flat_encs, len_encs, ix_encs, ix_encs', isv_lims, flat_lims, *])
      exact finishW_some _ (AS.le.refl _) (hB2.weaken hle1)
    | false =>
      rw [hp] at hpl hlen
      simp only [Bool.false_eq_true, if_false] at hlen ⊢
      repeat' (first
    | with_reducible refine condW_both (fun _ _ => ?_) (fun _ _ => ?_)
    | with_reducible refine gW_both (fun _ _ => ?_) (fun _ _ => ?_)
    | with_reducible refine condW_split (fun _ => ?_) (fun _ => ?_)
    | with_reducible refine gW_split (fun _ => ?_) (fun _ => ?_)
    | with_reducible refine pickW_split (fun _ => ?_) (fun _ => ?_)
    | (refine newW_intro ?_; intro bx hbx; (try simp only [fresh_box, fresh_tip, fresh_ty] at hbx))
    | (refine newT_plain ?_; intro bx hbx; (try simp only [fresh_box, fresh_tip, fresh_ty] at hbx))
    | refine Pure.use (hpl) ?_
    | refine Pure.head (hpl) ?_
    | refine Pure.use (hqu) ?_
    | refine Pure.head (hqu) ?_
    | ((refine Tri.mono (writeString_tri _ hB1 _ (by omega)) ?_; rintro r s1 hB2))
    | refine storeX_w ?_
    | ((with_reducible refine And.intro ?_ ?_); omega)
    | refine bo_buildSlice (d' := ⟨⟩) ?_
    | (refine draw_all (by kernel_rfl) ?_)
    | refine finish_pure ?_ (by repeat' (first | exact AS.le.refl _ | assumption | (refine le_set (by first | assumption | (simp only [*]; done) | exact AS.le.fresh (by assumption) (by simp only [*])) ?_) | (refine le_ty (by first | assumption | (simp only [*]; done) | exact AS.le.fresh (by assumption) (by simp only [*])) ?_)))
    | simp -dsimp only [↓bp, bq, br, afin, bsk, cWrites, opsWrites, pieceGh, rsk, ne_eq, if_true, if_false, exists_eq_left', forall_const, forall_eq, Nat.reduceLT, Int.reduceSub, Nat.reduceAdd, Nat.reduceSub, Nat.reduceMul, Nat.reduceLeDiff, Nat.reduceEqDiff, Nat.reduceBEq, Nat.reduceBNe, Int.reduceNeg, Int.reduceAdd, Int.reduceMul, Int.reduceLE, Int.reduceLT, Int.reduceEq, Int.reduceToNat, reduceIte, reduceCtorEq, tf3, tf4, tf5, tf9, tf51, tf22, tf24, tf26, tf23, tf53, tf50, tf54, tf60, Term.flat_enc, Term.isv_enc, Term.fold_enc, isv_encs, flat_encs, len_encs, ix_encs, ix_encs', isv_lims, flat_lims, *])
      exact finishW_some _ (AS.le.refl _) (hB2.weaken hle1)
  have k2 := eq_false e2
  rw [if_neg e2] at hse
  by_cases e3 : t.knd = 3
  · have hn := right_num hr (by omega)
    have hit := itoa_pure hg.pow t.num (by omega) (by omega)
    rw [if_pos e3] at hse
    rw [hse] at hlen ⊢
    have kk := eq_true e3
    have hl2 := hlen
    simp only [List.length_append, List.length_cons, List.length_nil] at hl2
    clear A hi ht hr hse hn e1 e2 htx
    generalize itoa t.num = it at *
    repeat' (first
    | with_reducible refine condW_both (fun _ _ => ?_) (fun _ _ => ?_)
    | with_reducible refine gW_both (fun _ _ => ?_) (fun _ _ => ?_)
    | with_reducible refine condW_split (fun _ => ?_) (fun _ => ?_)
    | with_reducible refine gW_split (fun _ => ?_) (fun _ => ?_)
    | with_reducible refine pickW_split (fun _ => ?_) (fun _ => ?_)
    | (refine newW_intro ?_; intro bx hbx; (try simp only [fresh_box, fresh_tip, fresh_ty] at hbx))
    | (refine newT_plain ?_; intro bx hbx; (try simp only [fresh_box, fresh_tip, fresh_ty] at hbx))
    | refine Pure.use (hit) ?_
    | refine Pure.head (hit) ?_
    | refine storeX_w ?_
    | ((with_reducible refine And.intro ?_ ?_); omega)
    | refine bo_buildSlice (d' := ⟨⟩) ?_
    | (refine draw_all (by kernel_rfl) ?_)
    | refine finish_pure ?_ (by repeat' (first | exact AS.le.refl _ | assumption | (refine le_set (by first | assumption | (simp only [*]; done) | exact AS.le.fresh (by assumption) (by simp only [*])) ?_) | (refine le_ty (by first | assumption | (simp only [*]; done) | exact AS.le.fresh (by assumption) (by simp only [*])) ?_)))
    | simp -dsimp only [↓bp, bq, br, afin, bsk, cWrites, opsWrites, pieceGh, rsk, ne_eq, if_true, if_false, exists_eq_left', forall_const, forall_eq, Nat.reduceLT, Int.reduceSub, Nat.reduceAdd, Nat.reduceSub, Nat.reduceMul, Nat.reduceLeDiff, Nat.reduceEqDiff, Nat.reduceBEq, Nat.reduceBNe, Int.reduceNeg, Int.reduceAdd, Int.reduceMul, Int.reduceLE, Int.reduceLT, Int.reduceEq, Int.reduceToNat, reduceIte, reduceCtorEq, tf3, tf4, tf5, tf9, tf51, tf22, tf24, tf26, tf23, tf53, tf50, tf54, tf60, Term.flat_enc, Term.isv_enc, Term.fold_enc, isv_encs, flat_encs, len_encs, ix_encs, ix_encs', isv_lims, flat_lims, *])
    refine And.intro (by unfold maxLen; omega) (And.intro (by unfold maxLen; omega) ?_)
    refine Tri.mono (writeString_tri _ hB1 (35 :: 82 :: 101 :: 102 :: 60 :: (it ++ [62])) (by simp only [List.length_append, List.length_cons, List.length_nil]; omega)) ?_
    rintro r s1 hB2
    repeat' (first
    | with_reducible refine condW_both (fun _ _ => ?_) (fun _ _ => ?_)
    | with_reducible refine gW_both (fun _ _ => ?_) (fun _ _ => ?_)
    | with_reducible refine condW_split (fun _ => ?_) (fun _ => ?_)
    | with_reducible refine gW_split (fun _ => ?_) (fun _ => ?_)
    | with_reducible refine pickW_split (fun _ => ?_) (fun _ => ?_)
    | (refine newW_intro ?_; intro bx hbx; (try simp only [fresh_box, fresh_tip, fresh_ty] at hbx))
    | (refine newT_plain ?_; intro bx hbx; (try simp only [fresh_box, fresh_tip, fresh_ty] at hbx))
    | refine storeX_w ?_
    | ((with_reducible refine And.intro ?_ ?_); omega)
    | refine bo_buildSlice (d' := ⟨⟩) ?_
    | (refine draw_all (by kernel_rfl) ?_)
    | refine finish_pure ?_ (by repeat' (first | exact AS.le.refl _ | assumption | (refine le_set (by first | assumption | (simp only [*]; done) | exact AS.le.fresh (by assumption) (by simp only [*])) ?_) | (refine le_ty (by first | assumption | (simp only [*]; done) | exact AS.le.fresh (by assumption) (by simp only [*])) ?_)))
    | simp -dsimp only [↓bp, bq, br, afin, bsk, cWrites, opsWrites, pieceGh, rsk, ne_eq, if_true, if_false, exists_eq_left', forall_const, forall_eq, Nat.reduceLT, Int.reduceSub, Nat.reduceAdd, Nat.reduceSub, Nat.reduceMul, Nat.reduceLeDiff, Nat.reduceEqDiff, Nat.reduceBEq, Nat.reduceBNe, Int.reduceNeg, Int.reduceAdd, Int.reduceMul, Int.reduceLE, Int.reduceLT, Int.reduceEq, Int.reduceToNat, reduceIte, reduceCtorEq, tf3, tf4, tf5, tf9, tf51, tf22, tf24, tf26, tf23, tf53, tf50, tf54, tf60, Term.flat_enc, Term.isv_enc, Term.fold_enc, isv_encs, flat_encs, len_encs, ix_encs, ix_encs', isv_lims, flat_lims, *])
    exact finishW_some _ (AS.le.refl _) (by have := hB2.weaken hle1; simpa using this)
  have k3' := eq_false e3
  rw [if_neg e3] at hse
  by_cases e4 : t.knd = 4
  · have hn := right_num hr (by omega)
    have hit := itoa_pure hg.pow t.num (by omega) (by omega)
    rw [if_pos e4] at hse
    rw [hse] at hlen ⊢
    have kk := eq_true e4
    have hl2 := hlen
    simp only [List.length_append, List.length_cons, List.length_nil] at hl2
    clear A hi ht hr hse hn e1 e2 htx
    generalize itoa t.num = it at *
    repeat' (first
    | with_reducible refine condW_both (fun _ _ => ?_) (fun _ _ => ?_)
    | with_reducible refine gW_both (fun _ _ => ?_) (fun _ _ => ?_)
    | with_reducible refine condW_split (fun _ => ?_) (fun _ => ?_)
    | with_reducible refine gW_split (fun _ => ?_) (fun _ => ?_)
    | with_reducible refine pickW_split (fun _ => ?_) (fun _ => ?_)
    | (refine newW_intro ?_; intro bx hbx; (try simp only [fresh_box, fresh_tip, fresh_ty] at hbx))
    | (refine newT_plain ?_; intro bx hbx; (try simp only [fresh_box, fresh_tip, fresh_ty] at hbx))
    | refine Pure.use (hit) ?_
    | refine Pure.head (hit) ?_
    | refine storeX_w ?_
    | ((with_reducible refine And.intro ?_ ?_); omega)
    | refine bo_buildSlice (d' := ⟨⟩) ?_
    | (refine draw_all (by kernel_rfl) ?_)
    | refine finish_pure ?_ (by repeat' (first | exact AS.le.refl _ | assumption | (refine le_set (by first | assumption | (simp only [*]; done) | exact AS.le.fresh (by assumption) (by simp only [*])) ?_) | (refine le_ty (by first | assumption | (simp only [*]; done) | exact AS.le.fresh (by assumption) (by simp only [*])) ?_)))
    | simp -dsimp only [↓bp, bq, br, afin, bsk, cWrites, opsWrites, pieceGh, rsk, ne_eq, if_true, if_false, exists_eq_left', forall_const, forall_eq, Nat.reduceLT, Int.reduceSub, Nat.reduceAdd, Nat.reduceSub, Nat.reduceMul, Nat.reduceLeDiff, Nat.reduceEqDiff, Nat.reduceBEq, Nat.reduceBNe, Int.reduceNeg, Int.reduceAdd, Int.reduceMul, Int.reduceLE, Int.reduceLT, Int.reduceEq, Int.reduceToNat, reduceIte, reduceCtorEq, tf3, tf4, tf5, tf9, tf51, tf22, tf24, tf26, tf23, tf53, tf50, tf54, tf60, Term.flat_enc, Term.isv_enc, Term.fold_enc, isv_encs, flat_encs, len_encs, ix_encs, ix_encs', isv_lims, flat_lims, *])
    refine And.intro (by unfold maxLen; omega) (And.intro (by unfold maxLen; omega) ?_)
    refine Tri.mono (writeString_tri _ hB1 (35 :: 70 :: 117 :: 110 :: 60 :: (it ++ [62])) (by simp only [List.length_append, List.length_cons, List.length_nil]; omega)) ?_
    rintro r s1 hB2
    repeat' (first
    | with_reducible refine condW_both (fun _ _ => ?_) (fun _ _ => ?_)
    | with_reducible refine gW_both (fun _ _ => ?_) (fun _ _ => ?_)
    | with_reducible refine condW_split (fun _ => ?_) (fun _ => ?_)
    | with_reducible refine gW_split (fun _ => ?_) (fun _ => ?_)
    | with_reducible refine pickW_split (fun _ => ?_) (fun _ => ?_)
    | (refine newW_intro ?_; intro bx hbx; (try simp only [fresh_box, fresh_tip, fresh_ty] at hbx))
    | (refine newT_plain ?_; intro bx hbx; (try simp only [fresh_box, fresh_tip, fresh_ty] at hbx))
    | refine storeX_w ?_
    | ((with_reducible refine And.intro ?_ ?_); omega)
    | refine bo_buildSlice (d' := ⟨⟩) ?_
    | (refine draw_all (by kernel_rfl) ?_)
    | refine finish_pure ?_ (by repeat' (first | exact AS.le.refl _ | assumption | (refine le_set (by first | assumption | (simp only [*]; done) | exact AS.le.fresh (by assumption) (by simp only [*])) ?_) | (refine le_ty (by first | assumption | (simp only [*]; done) | exact AS.le.fresh (by assumption) (by simp only [*])) ?_)))
    | simp -dsimp only [↓bp, bq, br, afin, bsk, cWrites, opsWrites, pieceGh, rsk, ne_eq, if_true, if_false, exists_eq_left', forall_const, forall_eq, Nat.reduceLT, Int.reduceSub, Nat.reduceAdd, Nat.reduceSub, Nat.reduceMul, Nat.reduceLeDiff, Nat.reduceEqDiff, Nat.reduceBEq, Nat.reduceBNe, Int.reduceNeg, Int.reduceAdd, Int.reduceMul, Int.reduceLE, Int.reduceLT, Int.reduceEq, Int.reduceToNat, reduceIte, reduceCtorEq, tf3, tf4, tf5, tf9, tf51, tf22, tf24, tf26, tf23, tf53, tf50, tf54, tf60, Term.flat_enc, Term.isv_enc, Term.fold_enc, isv_encs, flat_encs, len_encs, ix_encs, ix_encs', isv_lims, flat_lims, *])
    exact finishW_some _ (AS.le.refl _) (by have := hB2.weaken hle1; simpa using this)
  have k4' := eq_false e4
  rw [if_neg e4] at hse
  by_cases e5 : t.knd = 5
  · have hn := right_num hr (by omega)
    have hit := itoa_pure hg.pow t.num (by omega) (by omega)
    rw [if_pos e5] at hse
    rw [hse] at hlen ⊢
    have kk := eq_true e5
    have hl2 := hlen
    simp only [List.length_append, List.length_cons, List.length_nil] at hl2
    clear A hi ht hr hse hn e1 e2 htx
    generalize itoa t.num = it at *
    repeat' (first
    | with_reducible refine condW_both (fun _ _ => ?_) (fun _ _ => ?_)
    | with_reducible refine gW_both (fun _ _ => ?_) (fun _ _ => ?_)
    | with_reducible refine condW_split (fun _ => ?_) (fun _ => ?_)
    | with_reducible refine gW_split (fun _ => ?_) (fun _ => ?_)
    | with_reducible refine pickW_split (fun _ => ?_) (fun _ => ?_)
    | (refine newW_intro ?_; intro bx hbx; (try simp only [fresh_box, fresh_tip, fresh_ty] at hbx))
    | (refine newT_plain ?_; intro bx hbx; (try simp only [fresh_box, fresh_tip, fresh_ty] at hbx))
    | refine Pure.use (hit) ?_
    | refine Pure.head (hit) ?_
    | refine storeX_w ?_
    | ((with_reducible refine And.intro ?_ ?_); omega)
    | refine bo_buildSlice (d' := ⟨⟩) ?_
    | (refine draw_all (by kernel_rfl) ?_)
    | refine finish_pure ?_ (by repeat' (first | exact AS.le.refl _ | assumption | (refine le_set (by first | assumption | (simp only [*]; done) | exact AS.le.fresh (by assumption) (by simp only [*])) ?_) | (refine le_ty (by first | assumption | (simp only [*]; done) | exact AS.le.fresh (by assumption) (by simp only [*])) ?_)))
    | simp -dsimp only [↓bp, bq, br, afin, bsk, cWrites, opsWrites, pieceGh, rsk, ne_eq, if_true, if_false, exists_eq_left', forall_const, forall_eq, Nat.reduceLT, Int.reduceSub, Nat.reduceAdd, Nat.reduceSub, Nat.reduceMul, Nat.reduceLeDiff, Nat.reduceEqDiff, Nat.reduceBEq, Nat.reduceBNe, Int.reduceNeg, Int.reduceAdd, Int.reduceMul, Int.reduceLE, Int.reduceLT, Int.reduceEq, Int.reduceToNat, reduceIte, reduceCtorEq, tf3, tf4, tf5, tf9, tf51, tf22, tf24, tf26, tf23, tf53, tf50, tf54, tf60, Term.flat_enc, Term.isv_enc, Term.fold_enc, isv_encs, flat_encs, len_encs, ix_encs, ix_encs', isv_lims, flat_lims, *])
    refine And.intro (by unfold maxLen; omega) (And.intro (by unfold maxLen; omega) ?_)
    refine Tri.mono (writeString_tri _ hB1 (60 :: (it ++ [62])) (by simp only [List.length_append, List.length_cons, List.length_nil]; omega)) ?_
    rintro r s1 hB2
    repeat' (first
    | with_reducible refine condW_both (fun _ _ => ?_) (fun _ _ => ?_)
    | with_reducible refine gW_both (fun _ _ => ?_) (fun _ _ => ?_)
    | with_reducible refine condW_split (fun _ => ?_) (fun _ => ?_)
    | with_reducible refine gW_split (fun _ => ?_) (fun _ => ?_)
    | with_reducible refine pickW_split (fun _ => ?_) (fun _ => ?_)
    | (refine newW_intro ?_; intro bx hbx; (try simp only [fresh_box, fresh_tip, fresh_ty] at hbx))
    | (refine newT_plain ?_; intro bx hbx; (try simp only [fresh_box, fresh_tip, fresh_ty] at hbx))
    | refine storeX_w ?_
    | ((with_reducible refine And.intro ?_ ?_); omega)
    | refine bo_buildSlice (d' := ⟨⟩) ?_
    | (refine draw_all (by kernel_rfl) ?_)
    | refine finish_pure ?_ (by repeat' (first | exact AS.le.refl _ | assumption | (refine le_set (by first | assumption | (simp only [*]; done) | exact AS.le.fresh (by assumption) (by simp only [*])) ?_) | (refine le_ty (by first | assumption | (simp only [*]; done) | exact AS.le.fresh (by assumption) (by simp only [*])) ?_)))
    | simp -dsimp only [↓bp, bq, br, afin, bsk, cWrites, opsWrites, pieceGh, rsk, ne_eq, if_true, if_false, exists_eq_left', forall_const, forall_eq, Nat.reduceLT, Int.reduceSub, Nat.reduceAdd, Nat.reduceSub, Nat.reduceMul, Nat.reduceLeDiff, Nat.reduceEqDiff, Nat.reduceBEq, Nat.reduceBNe, Int.reduceNeg, Int.reduceAdd, Int.reduceMul, Int.reduceLE, Int.reduceLT, Int.reduceEq, Int.reduceToNat, reduceIte, reduceCtorEq, tf3, tf4, tf5, tf9, tf51, tf22, tf24, tf26, tf23, tf53, tf50, tf54, tf60, Term.flat_enc, Term.isv_enc, Term.fold_enc, isv_encs, flat_encs, len_encs, ix_encs, ix_encs', isv_lims, flat_lims, *])
    exact finishW_some _ (AS.le.refl _) (by have := hB2.weaken hle1; simpa using this)
  have k5' := eq_false e5
  rw [if_neg e5] at hse
  by_cases e6 : t.knd = 6
  · have k6 := eq_true e6
    rw [if_pos e6] at hse
    clear e6
    have hl2 := hlen
    rw [hse] at hl2
    simp only [List.length_append, List.length_cons, List.length_nil] at hl2
    have hrow := fun s1 (hBs : Bl σ1 s1 b xs) => row_tri t (by omega) hi ht [123] [125] σ1 s1 b p q xs hF1 hBs (by simp only [List.length_cons, List.length_nil]; omega)
    rw [hse]
    clear A hi ht hr hse e1 e2 e3 e4 e5 htx hlen
    repeat' (first
    | with_reducible refine condW_both (fun _ _ => ?_) (fun _ _ => ?_)
    | with_reducible refine gW_both (fun _ _ => ?_) (fun _ _ => ?_)
    | with_reducible refine condW_split (fun _ => ?_) (fun _ => ?_)
    | with_reducible refine gW_split (fun _ => ?_) (fun _ => ?_)
    | with_reducible refine pickW_split (fun _ => ?_) (fun _ => ?_)
    | (refine newW_intro ?_; intro bx hbx; (try simp only [fresh_box, fresh_tip, fresh_ty] at hbx))
    | (refine newT_plain ?_; intro bx hbx; (try simp only [fresh_box, fresh_tip, fresh_ty] at hbx))
    | ((refine Tri.mono (hrow _ hB1) ?_; rintro r s1 hB2))
    | refine storeX_w ?_
    | ((with_reducible refine And.intro ?_ ?_); omega)
    | refine bo_buildSlice (d' := ⟨⟩) ?_
    | (refine draw_all (by kernel_rfl) ?_)
    | refine finish_pure ?_ (by repeat' (first | exact AS.le.refl _ | assumption | (refine le_set (by first | assumption | (simp only [*]; done) | exact AS.le.fresh (by assumption) (by simp only [*])) ?_) | (refine le_ty (by first | assumption | (simp only [*]; done) | exact AS.le.fresh (by assumption) (by simp only [*])) ?_)))
    | simp -dsimp only [↓bp, bq, br, afin, bsk, cWrites, opsWrites, pieceGh, rsk, ne_eq, if_true, if_false, exists_eq_left', forall_const, forall_eq, Nat.reduceLT, Int.reduceSub, Nat.reduceAdd, Nat.reduceSub, Nat.reduceMul, Nat.reduceLeDiff, Nat.reduceEqDiff, Nat.reduceBEq, Nat.reduceBNe, Int.reduceNeg, Int.reduceAdd, Int.reduceMul, Int.reduceLE, Int.reduceLT, Int.reduceEq, Int.reduceToNat, reduceIte, reduceCtorEq, tf3, tf4, tf5, tf9, tf51, tf22, tf24, tf26, tf23, tf53, tf50, tf54, tf60, Term.flat_enc, Term.isv_enc, Term.fold_enc, isv_encs, flat_encs, len_encs, ix_encs, ix_encs', isv_lims, flat_lims, *])
    exact finishW_some _ (AS.le.refl _) (by have := hB2.weaken hle1; simpa using this)
  · have k6 := eq_false e6
    rw [if_neg e6] at hse
    clear e6
    have hl2 := hlen
    rw [hse] at hl2
    simp only [List.length_append, List.length_cons, List.length_nil] at hl2
    have hrow := fun s1 (hBs : Bl σ1 s1 b xs) => row_tri t (by omega) hi ht [91] [93] σ1 s1 b p q xs hF1 hBs (by simp only [List.length_cons, List.length_nil]; omega)
    rw [hse]
    clear A hi ht hr hse e1 e2 e3 e4 e5 htx hlen
    repeat' (first
    | with_reducible refine condW_both (fun _ _ => ?_) (fun _ _ => ?_)
    | with_reducible refine gW_both (fun _ _ => ?_) (fun _ _ => ?_)
    | with_reducible refine condW_split (fun _ => ?_) (fun _ => ?_)
    | with_reducible refine gW_split (fun _ => ?_) (fun _ => ?_)
    | with_reducible refine pickW_split (fun _ => ?_) (fun _ => ?_)
    | (refine newW_intro ?_; intro bx hbx; (try simp only [fresh_box, fresh_tip, fresh_ty] at hbx))
    | (refine newT_plain ?_; intro bx hbx; (try simp only [fresh_box, fresh_tip, fresh_ty] at hbx))
    | ((refine Tri.mono (hrow _ hB1) ?_; rintro r s1 hB2))
    | refine storeX_w ?_
    | ((with_reducible refine And.intro ?_ ?_); omega)
    | refine bo_buildSlice (d' := ⟨⟩) ?_
    | (refine draw_all (by kernel_rfl) ?_)
    | refine finish_pure ?_ (by repeat' (first | exact AS.le.refl _ | assumption | (refine le_set (by first | assumption | (simp only [*]; done) | exact AS.le.fresh (by assumption) (by simp only [*])) ?_) | (refine le_ty (by first | assumption | (simp only [*]; done) | exact AS.le.fresh (by assumption) (by simp only [*])) ?_)))
    | simp -dsimp only [↓bp, bq, br, afin, bsk, cWrites, opsWrites, pieceGh, rsk, ne_eq, if_true, if_false, exists_eq_left', forall_const, forall_eq, Nat.reduceLT, Int.reduceSub, Nat.reduceAdd, Nat.reduceSub, Nat.reduceMul, Nat.reduceLeDiff, Nat.reduceEqDiff, Nat.reduceBEq, Nat.reduceBNe, Int.reduceNeg, Int.reduceAdd, Int.reduceMul, Int.reduceLE, Int.reduceLT, Int.reduceEq, Int.reduceToNat, reduceIte, reduceCtorEq, tf3, tf4, tf5, tf9, tf51, tf22, tf24, tf26, tf23, tf53, tf50, tf54, tf60, Term.flat_enc, Term.isv_enc, Term.fold_enc, isv_encs, flat_encs, len_encs, ix_encs, ix_encs', isv_lims, flat_lims, *])
    exact finishW_some _ (AS.le.refl _) (by have := hB2.weaken hle1; simpa using this)
end Go.Proofs.YtjnhalmeddafdaaDoor
