/- A term's text. -/
import Derived.Test.YtpginpbcndlfmaaDoorZTText
set_option linter.unusedVariables false
set_option linter.unusedSimpArgs false
set_option maxRecDepth 20000
set_option linter.defProp false
namespace Go.Proofs.YtpginpbcndlfmaaDoor
open Go Go.Av
def tbTText2 := And.intro (And.intro (And.intro (And.intro @tf3 @tf4) (And.intro @tf5 (And.intro @tf9 @tf63))) (And.intro (And.intro @tf37 (And.intro @tf22 @tf40)) (And.intro @tf38 (And.intro @tf65 @tf62)))) (And.intro (And.intro (And.intro @tf76 (And.intro @tf78 @Term.flat_enc)) (And.intro @Term.isv_enc (And.intro @Term.fold_enc @isv_encs))) (And.intro (And.intro @flat_encs (And.intro @len_encs @ix_encs)) (And.intro @ix_encs' (And.intro @isv_lims @flat_lims))))
variable {G : Nat → AV}
theorem right_num {t : Term} (h : right t = true) (hk : t.knd = 3 ∨ t.knd = 4 ∨ t.knd = 5) : 0 ≤ t.num ∧ t.num ≤ 1099511627776 := by
  simp only [right, decide_eq_true_eq] at h
  rw [size_eq, if_neg (by omega)] at h
  split at h
  · rename_i hf
    obtain ⟨f1, _⟩ := adds_true _ _ hf
    obtain ⟨f3, _⟩ := adds_true _ _ f1
    simp only at f3
    unfold head at f3
    rw [if_neg (by omega)] at f3
    by_cases e3 : t.knd = 3 ∨ t.knd = 5
    · rw [if_pos e3] at f3
      simp only [Bool.and_eq_true, decide_eq_true_eq] at f3
      omega
    · rw [if_neg e3, if_pos (by omega)] at f3
      simp only [Bool.and_eq_true, decide_eq_true_eq] at f3
      omega
  · omega
set_option maxHeartbeats 2000000 in
theorem put_tri (hg : GlobT G) (t : Term) : t.bulk ≤ 100000000 → right t = true → Puts G t := by
  refine Term.ind (P := fun t => t.bulk ≤ 100000000 → right t = true → Puts G t) (fun t ih1 ih2 hb hr => ?_) t
  have A := right_spec hr
  have hi : ∀ x, x ∈ t.items → Puts G x := fun x hx => ih1 x hx (by have := bulk_item hx; omega) (A.items x hx)
  have ht : ∀ x, x ∈ t.tail → Puts G x := fun x hx => ih2 x hx (by have := bulk_tail hx; omega) (A.tail x hx)
  clear ih1 ih2
  intro σ0 σ b p q xs hF hB hlen
  have hse := said_eq t
  have htx := len_text t
  refine Tri.of_awp mixed Tryd.func46 rfl (by kernel_rfl) (by kernel_rfl) (by simp [Tryd.ntmps46]) Tryd.results46 ?_
  simp -dsimp only [↓bp, bq, br, afin, bsk, cWrites, opsWrites, pieceGh, rsk, ne_eq, if_true, if_false, exists_eq_left', forall_const, forall_eq, Nat.reduceLT, Int.reduceSub, Nat.reduceAdd, Nat.reduceSub, Nat.reduceMul, Nat.reduceLeDiff, Nat.reduceEqDiff, Nat.reduceBEq, Nat.reduceBNe, Int.reduceNeg, Int.reduceAdd, Int.reduceMul, Int.reduceLE, Int.reduceLT, Int.reduceEq, Int.reduceToNat, reduceIte, reduceCtorEq, tbTText2]
  refine newW_intro fun b3 h3 => ?_
  obtain ⟨σ1, hs1⟩ : ∃ σ1, σ1 = σ0.setBox b3 [.int .u8 t.knd, .bool t.neg, lims t.limbs, .str t.text, .int .i64 t.num, encs t.items, encs t.tail] := ⟨_, rfl⟩
  have hB1 := hB.newBox h3 [.int .u8 t.knd, .bool t.neg, lims t.limbs, .str t.text, .int .i64 t.num, encs t.items, encs t.tail]
  rw [← hs1] at hB1
  have hle1 : σ0.le σ1 := by rw [hs1]; exact (AS.le.refl σ0).setBox (hB.le.fresh h3).1 _
  have hF1 := hF.up hle1
  have hb3 : σ1.box b3 = some [.int .u8 t.knd, .bool t.neg, lims t.limbs, .str t.text, .int .i64 t.num, encs t.items, encs t.tail] := by rw [hs1]; simp [AS.setBox]
  clear hs1 hB h3
  generalize σ.setBox b3 _ = s0 at *
  have k3 := hB1.le.box b3 _ hb3
  have kq := hB1.le.box q _ hF1.row
  by_cases e1 : t.knd = 1
  · have hw := wtext_pure G t (by omega)
    rw [A.int e1, if_pos rfl] at hw
    rw [if_pos e1] at hse
    rw [hse] at hlen ⊢
    have k1 := eq_true e1
    clear e1 A hi ht hr
    repeat' (first
    | with_reducible refine condW_both (fun _ _ => ?_) (fun _ _ => ?_)
    | with_reducible refine gW_both (fun _ _ => ?_) (fun _ _ => ?_)
    | with_reducible refine condW_split (fun _ => ?_) (fun _ => ?_)
    | with_reducible refine gW_split (fun _ => ?_) (fun _ => ?_)
    | with_reducible refine pickW_split (fun _ => ?_) (fun _ => ?_)
    | (refine newW_intro ?_; intro bx hbx; (try simp only [fresh_box, fresh_tip, fresh_ty] at hbx))
    | (refine newT_plain ?_; intro bx hbx; (try simp only [fresh_box, fresh_tip, fresh_ty] at hbx))
    | refine Pure.use (hw) ?_
    | refine Pure.head (hw) ?_
    | ((refine Tri.mono (writeString_tri _ hB1 _ (by omega)) ?_; rintro r s1 hB2))
    | refine storeX_w ?_
    | ((with_reducible refine And.intro ?_ ?_); omega)
    | refine bo_buildSlice (d' := ⟨⟩) ?_
    | (refine draw_all (by kernel_rfl) ?_)
    | refine finish_pure ?_ (by repeat' (first | exact AS.le.refl _ | assumption | (refine le_set (by first | assumption | (simp only [*]; done) | exact AS.le.fresh (by assumption) (by simp only [*])) ?_) | (refine le_ty (by first | assumption | (simp only [*]; done) | exact AS.le.fresh (by assumption) (by simp only [*])) ?_)))
    | simp -dsimp only [↓bp, bq, br, afin, bsk, cWrites, opsWrites, pieceGh, rsk, ne_eq, if_true, if_false, exists_eq_left', forall_const, forall_eq, Nat.reduceLT, Int.reduceSub, Nat.reduceAdd, Nat.reduceSub, Nat.reduceMul, Nat.reduceLeDiff, Nat.reduceEqDiff, Nat.reduceBEq, Nat.reduceBNe, Int.reduceNeg, Int.reduceAdd, Int.reduceMul, Int.reduceLE, Int.reduceLT, Int.reduceEq, Int.reduceToNat, reduceIte, reduceCtorEq, tbTText2, *])
    exact finishW_some _ (AS.le.refl _) (hB2.weaken hle1)
  have k1 := eq_false e1
  rw [if_neg e1] at hse
  by_cases e2 : t.knd = 2
  · have hpl := plainA_pure hg.toGlob t.text (by omega)
    have hqu := quoted_pure (G := G) t.text (by omega)
    rw [if_pos e2] at hse
    rw [hse] at hlen ⊢
    have k2 := eq_true e2
    unfold atomT at hlen ⊢
    clear e1 e2 A hi ht hr hse
    cases hp : plainA t.text with
    | true =>
      rw [hp] at hpl hlen
      simp only [if_true] at hlen ⊢
      repeat' (first
    | with_reducible refine condW_both (fun _ _ => ?_) (fun _ _ => ?_)
    | with_reducible refine gW_both (fun _ _ => ?_) (fun _ _ => ?_)
    | with_reducible refine condW_split (fun _ => ?_) (fun _ => ?_)
    | with_reducible refine gW_split (fun _ => ?_) (fun _ => ?_)
    | with_reducible refine pickW_split (fun _ => ?_) (fun _ => ?_)
    | (refine newW_intro ?_; intro bx hbx; (try simp only [fresh_box, fresh_tip, fresh_ty] at hbx))
    | (refine newT_plain ?_; intro bx hbx; (try simp only [fresh_box, fresh_tip, fresh_ty] at hbx))
    | refine Pure.use (hpl) ?_
    | refine Pure.head (hpl) ?_
    | ((refine Tri.mono (writeString_tri _ hB1 _ (by omega)) ?_; rintro r s1 hB2))
    | refine storeX_w ?_
    | ((with_reducible refine And.intro ?_ ?_); omega)
    | refine bo_buildSlice (d' := ⟨⟩) ?_
    | (refine draw_all (by kernel_rfl) ?_)
    | refine finish_pure ?_ (by repeat' (first | exact AS.le.refl _ | assumption | (refine le_set (by first | assumption | (simp only [*]; done) | exact AS.le.fresh (by assumption) (by simp only [*])) ?_) | (refine le_ty (by first | assumption | (simp only [*]; done) | exact AS.le.fresh (by assumption) (by simp only [*])) ?_)))
    | simp -dsimp only [↓bp, bq, br, afin, bsk, cWrites, opsWrites, pieceGh, rsk, ne_eq, if_true, if_false, exists_eq_left', forall_const, forall_eq, Nat.reduceLT, Int.reduceSub, Nat.reduceAdd, Nat.reduceSub, Nat.reduceMul, Nat.reduceLeDiff, Nat.reduceEqDiff, Nat.reduceBEq, Nat.reduceBNe, Int.reduceNeg, Int.reduceAdd, Int.reduceMul, Int.reduceLE, Int.reduceLT, Int.reduceEq, Int.reduceToNat, reduceIte, reduceCtorEq, tbTText2, *])
      exact finishW_some _ (AS.le.refl _) (hB2.weaken hle1)
    | false =>
      rw [hp] at hpl hlen
      simp only [Bool.false_eq_true, if_false] at hlen ⊢
      repeat' (first
    | with_reducible refine condW_both (fun _ _ => ?_) (fun _ _ => ?_)
    | with_reducible refine gW_both (fun _ _ => ?_) (fun _ _ => ?_)
    | with_reducible refine condW_split (fun _ => ?_) (fun _ => ?_)
    | with_reducible refine gW_split (fun _ => ?_) (fun _ => ?_)
    | with_reducible refine pickW_split (fun _ => ?_) (fun _ => ?_)
    | (refine newW_intro ?_; intro bx hbx; (try simp only [fresh_box, fresh_tip, fresh_ty] at hbx))
    | (refine newT_plain ?_; intro bx hbx; (try simp only [fresh_box, fresh_tip, fresh_ty] at hbx))
    | refine Pure.use (hpl) ?_
    | refine Pure.head (hpl) ?_
    | refine Pure.use (hqu) ?_
    | refine Pure.head (hqu) ?_
    | ((refine Tri.mono (writeString_tri _ hB1 _ (by omega)) ?_; rintro r s1 hB2))
    | refine storeX_w ?_
    | ((with_reducible refine And.intro ?_ ?_); omega)
    | refine bo_buildSlice (d' := ⟨⟩) ?_
    | (refine draw_all (by kernel_rfl) ?_)
    | refine finish_pure ?_ (by repeat' (first | exact AS.le.refl _ | assumption | (refine le_set (by first | assumption | (simp only [*]; done) | exact AS.le.fresh (by assumption) (by simp only [*])) ?_) | (refine le_ty (by first | assumption | (simp only [*]; done) | exact AS.le.fresh (by assumption) (by simp only [*])) ?_)))
    | simp -dsimp only [↓bp, bq, br, afin, bsk, cWrites, opsWrites, pieceGh, rsk, ne_eq, if_true, if_false, exists_eq_left', forall_const, forall_eq, Nat.reduceLT, Int.reduceSub, Nat.reduceAdd, Nat.reduceSub, Nat.reduceMul, Nat.reduceLeDiff, Nat.reduceEqDiff, Nat.reduceBEq, Nat.reduceBNe, Int.reduceNeg, Int.reduceAdd, Int.reduceMul, Int.reduceLE, Int.reduceLT, Int.reduceEq, Int.reduceToNat, reduceIte, reduceCtorEq, tbTText2, *])
      exact finishW_some _ (AS.le.refl _) (hB2.weaken hle1)
  have k2 := eq_false e2
  rw [if_neg e2] at hse
  by_cases e3 : t.knd = 3
  · have hn := right_num hr (by omega)
    have hit := itoa_pure hg.pow t.num (by omega) (by omega)
    rw [if_pos e3] at hse
    rw [hse] at hlen ⊢
    have kk := eq_true e3
    have hl2 := hlen
    simp only [List.length_append, List.length_cons, List.length_nil] at hl2
    clear A hi ht hr hse hn e1 e2 htx
    generalize itoa t.num = it at *
    repeat' (first
    | with_reducible refine condW_both (fun _ _ => ?_) (fun _ _ => ?_)
    | with_reducible refine gW_both (fun _ _ => ?_) (fun _ _ => ?_)
    | with_reducible refine condW_split (fun _ => ?_) (fun _ => ?_)
    | with_reducible refine gW_split (fun _ => ?_) (fun _ => ?_)
    | with_reducible refine pickW_split (fun _ => ?_) (fun _ => ?_)
    | (refine newW_intro ?_; intro bx hbx; (try simp only [fresh_box, fresh_tip, fresh_ty] at hbx))
    | (refine newT_plain ?_; intro bx hbx; (try simp only [fresh_box, fresh_tip, fresh_ty] at hbx))
    | refine Pure.use (hit) ?_
    | refine Pure.head (hit) ?_
    | refine storeX_w ?_
    | ((with_reducible refine And.intro ?_ ?_); omega)
    | refine bo_buildSlice (d' := ⟨⟩) ?_
    | (refine draw_all (by kernel_rfl) ?_)
    | refine finish_pure ?_ (by repeat' (first | exact AS.le.refl _ | assumption | (refine le_set (by first | assumption | (simp only [*]; done) | exact AS.le.fresh (by assumption) (by simp only [*])) ?_) | (refine le_ty (by first | assumption | (simp only [*]; done) | exact AS.le.fresh (by assumption) (by simp only [*])) ?_)))
    | simp -dsimp only [↓bp, bq, br, afin, bsk, cWrites, opsWrites, pieceGh, rsk, ne_eq, if_true, if_false, exists_eq_left', forall_const, forall_eq, Nat.reduceLT, Int.reduceSub, Nat.reduceAdd, Nat.reduceSub, Nat.reduceMul, Nat.reduceLeDiff, Nat.reduceEqDiff, Nat.reduceBEq, Nat.reduceBNe, Int.reduceNeg, Int.reduceAdd, Int.reduceMul, Int.reduceLE, Int.reduceLT, Int.reduceEq, Int.reduceToNat, reduceIte, reduceCtorEq, tbTText2, *])
    refine And.intro (by unfold maxLen; omega) (And.intro (by unfold maxLen; omega) ?_)
    refine Tri.mono (writeString_tri _ hB1 (35 :: 82 :: 101 :: 102 :: 60 :: (it ++ [62])) (by simp only [List.length_append, List.length_cons, List.length_nil]; omega)) ?_
    rintro r s1 hB2
    repeat' (first
    | with_reducible refine condW_both (fun _ _ => ?_) (fun _ _ => ?_)
    | with_reducible refine gW_both (fun _ _ => ?_) (fun _ _ => ?_)
    | with_reducible refine condW_split (fun _ => ?_) (fun _ => ?_)
    | with_reducible refine gW_split (fun _ => ?_) (fun _ => ?_)
    | with_reducible refine pickW_split (fun _ => ?_) (fun _ => ?_)
    | (refine newW_intro ?_; intro bx hbx; (try simp only [fresh_box, fresh_tip, fresh_ty] at hbx))
    | (refine newT_plain ?_; intro bx hbx; (try simp only [fresh_box, fresh_tip, fresh_ty] at hbx))
    | refine storeX_w ?_
    | ((with_reducible refine And.intro ?_ ?_); omega)
    | refine bo_buildSlice (d' := ⟨⟩) ?_
    | (refine draw_all (by kernel_rfl) ?_)
    | refine finish_pure ?_ (by repeat' (first | exact AS.le.refl _ | assumption | (refine le_set (by first | assumption | (simp only [*]; done) | exact AS.le.fresh (by assumption) (by simp only [*])) ?_) | (refine le_ty (by first | assumption | (simp only [*]; done) | exact AS.le.fresh (by assumption) (by simp only [*])) ?_)))
    | simp -dsimp only [↓bp, bq, br, afin, bsk, cWrites, opsWrites, pieceGh, rsk, ne_eq, if_true, if_false, exists_eq_left', forall_const, forall_eq, Nat.reduceLT, Int.reduceSub, Nat.reduceAdd, Nat.reduceSub, Nat.reduceMul, Nat.reduceLeDiff, Nat.reduceEqDiff, Nat.reduceBEq, Nat.reduceBNe, Int.reduceNeg, Int.reduceAdd, Int.reduceMul, Int.reduceLE, Int.reduceLT, Int.reduceEq, Int.reduceToNat, reduceIte, reduceCtorEq, tbTText2, *])
    exact finishW_some _ (AS.le.refl _) (by have := hB2.weaken hle1; simpa using this)
  have k3' := eq_false e3
  rw [if_neg e3] at hse
  by_cases e4 : t.knd = 4
  · have hn := right_num hr (by omega)
    have hit := itoa_pure hg.pow t.num (by omega) (by omega)
    rw [if_pos e4] at hse
    rw [hse] at hlen ⊢
    have kk := eq_true e4
    have hl2 := hlen
    simp only [List.length_append, List.length_cons, List.length_nil] at hl2
    clear A hi ht hr hse hn e1 e2 htx
    generalize itoa t.num = it at *
    repeat' (first
    | with_reducible refine condW_both (fun _ _ => ?_) (fun _ _ => ?_)
    | with_reducible refine gW_both (fun _ _ => ?_) (fun _ _ => ?_)
    | with_reducible refine condW_split (fun _ => ?_) (fun _ => ?_)
    | with_reducible refine gW_split (fun _ => ?_) (fun _ => ?_)
    | with_reducible refine pickW_split (fun _ => ?_) (fun _ => ?_)
    | (refine newW_intro ?_; intro bx hbx; (try simp only [fresh_box, fresh_tip, fresh_ty] at hbx))
    | (refine newT_plain ?_; intro bx hbx; (try simp only [fresh_box, fresh_tip, fresh_ty] at hbx))
    | refine Pure.use (hit) ?_
    | refine Pure.head (hit) ?_
    | refine storeX_w ?_
    | ((with_reducible refine And.intro ?_ ?_); omega)
    | refine bo_buildSlice (d' := ⟨⟩) ?_
    | (refine draw_all (by kernel_rfl) ?_)
    | refine finish_pure ?_ (by repeat' (first | exact AS.le.refl _ | assumption | (refine le_set (by first | assumption | (simp only [*]; done) | exact AS.le.fresh (by assumption) (by simp only [*])) ?_) | (refine le_ty (by first | assumption | (simp only [*]; done) | exact AS.le.fresh (by assumption) (by simp only [*])) ?_)))
    | simp -dsimp only [↓bp, bq, br, afin, bsk, cWrites, opsWrites, pieceGh, rsk, ne_eq, if_true, if_false, exists_eq_left', forall_const, forall_eq, Nat.reduceLT, Int.reduceSub, Nat.reduceAdd, Nat.reduceSub, Nat.reduceMul, Nat.reduceLeDiff, Nat.reduceEqDiff, Nat.reduceBEq, Nat.reduceBNe, Int.reduceNeg, Int.reduceAdd, Int.reduceMul, Int.reduceLE, Int.reduceLT, Int.reduceEq, Int.reduceToNat, reduceIte, reduceCtorEq, tbTText2, *])
    refine And.intro (by unfold maxLen; omega) (And.intro (by unfold maxLen; omega) ?_)
    refine Tri.mono (writeString_tri _ hB1 (35 :: 70 :: 117 :: 110 :: 60 :: (it ++ [62])) (by simp only [List.length_append, List.length_cons, List.length_nil]; omega)) ?_
    rintro r s1 hB2
    repeat' (first
    | with_reducible refine condW_both (fun _ _ => ?_) (fun _ _ => ?_)
    | with_reducible refine gW_both (fun _ _ => ?_) (fun _ _ => ?_)
    | with_reducible refine condW_split (fun _ => ?_) (fun _ => ?_)
    | with_reducible refine gW_split (fun _ => ?_) (fun _ => ?_)
    | with_reducible refine pickW_split (fun _ => ?_) (fun _ => ?_)
    | (refine newW_intro ?_; intro bx hbx; (try simp only [fresh_box, fresh_tip, fresh_ty] at hbx))
    | (refine newT_plain ?_; intro bx hbx; (try simp only [fresh_box, fresh_tip, fresh_ty] at hbx))
    | refine storeX_w ?_
    | ((with_reducible refine And.intro ?_ ?_); omega)
    | refine bo_buildSlice (d' := ⟨⟩) ?_
    | (refine draw_all (by kernel_rfl) ?_)
    | refine finish_pure ?_ (by repeat' (first | exact AS.le.refl _ | assumption | (refine le_set (by first | assumption | (simp only [*]; done) | exact AS.le.fresh (by assumption) (by simp only [*])) ?_) | (refine le_ty (by first | assumption | (simp only [*]; done) | exact AS.le.fresh (by assumption) (by simp only [*])) ?_)))
    | simp -dsimp only [↓bp, bq, br, afin, bsk, cWrites, opsWrites, pieceGh, rsk, ne_eq, if_true, if_false, exists_eq_left', forall_const, forall_eq, Nat.reduceLT, Int.reduceSub, Nat.reduceAdd, Nat.reduceSub, Nat.reduceMul, Nat.reduceLeDiff, Nat.reduceEqDiff, Nat.reduceBEq, Nat.reduceBNe, Int.reduceNeg, Int.reduceAdd, Int.reduceMul, Int.reduceLE, Int.reduceLT, Int.reduceEq, Int.reduceToNat, reduceIte, reduceCtorEq, tbTText2, *])
    exact finishW_some _ (AS.le.refl _) (by have := hB2.weaken hle1; simpa using this)
  have k4' := eq_false e4
  rw [if_neg e4] at hse
  by_cases e5 : t.knd = 5
  · have hn := right_num hr (by omega)
    have hit := itoa_pure hg.pow t.num (by omega) (by omega)
    rw [if_pos e5] at hse
    rw [hse] at hlen ⊢
    have kk := eq_true e5
    have hl2 := hlen
    simp only [List.length_append, List.length_cons, List.length_nil] at hl2
    clear A hi ht hr hse hn e1 e2 htx
    generalize itoa t.num = it at *
    repeat' (first
    | with_reducible refine condW_both (fun _ _ => ?_) (fun _ _ => ?_)
    | with_reducible refine gW_both (fun _ _ => ?_) (fun _ _ => ?_)
    | with_reducible refine condW_split (fun _ => ?_) (fun _ => ?_)
    | with_reducible refine gW_split (fun _ => ?_) (fun _ => ?_)
    | with_reducible refine pickW_split (fun _ => ?_) (fun _ => ?_)
    | (refine newW_intro ?_; intro bx hbx; (try simp only [fresh_box, fresh_tip, fresh_ty] at hbx))
    | (refine newT_plain ?_; intro bx hbx; (try simp only [fresh_box, fresh_tip, fresh_ty] at hbx))
    | refine Pure.use (hit) ?_
    | refine Pure.head (hit) ?_
    | refine storeX_w ?_
    | ((with_reducible refine And.intro ?_ ?_); omega)
    | refine bo_buildSlice (d' := ⟨⟩) ?_
    | (refine draw_all (by kernel_rfl) ?_)
    | refine finish_pure ?_ (by repeat' (first | exact AS.le.refl _ | assumption | (refine le_set (by first | assumption | (simp only [*]; done) | exact AS.le.fresh (by assumption) (by simp only [*])) ?_) | (refine le_ty (by first | assumption | (simp only [*]; done) | exact AS.le.fresh (by assumption) (by simp only [*])) ?_)))
    | simp -dsimp only [↓bp, bq, br, afin, bsk, cWrites, opsWrites, pieceGh, rsk, ne_eq, if_true, if_false, exists_eq_left', forall_const, forall_eq, Nat.reduceLT, Int.reduceSub, Nat.reduceAdd, Nat.reduceSub, Nat.reduceMul, Nat.reduceLeDiff, Nat.reduceEqDiff, Nat.reduceBEq, Nat.reduceBNe, Int.reduceNeg, Int.reduceAdd, Int.reduceMul, Int.reduceLE, Int.reduceLT, Int.reduceEq, Int.reduceToNat, reduceIte, reduceCtorEq, tbTText2, *])
    refine And.intro (by unfold maxLen; omega) (And.intro (by unfold maxLen; omega) ?_)
    refine Tri.mono (writeString_tri _ hB1 (60 :: (it ++ [62])) (by simp only [List.length_append, List.length_cons, List.length_nil]; omega)) ?_
    rintro r s1 hB2
    repeat' (first
    | with_reducible refine condW_both (fun _ _ => ?_) (fun _ _ => ?_)
    | with_reducible refine gW_both (fun _ _ => ?_) (fun _ _ => ?_)
    | with_reducible refine condW_split (fun _ => ?_) (fun _ => ?_)
    | with_reducible refine gW_split (fun _ => ?_) (fun _ => ?_)
    | with_reducible refine pickW_split (fun _ => ?_) (fun _ => ?_)
    | (refine newW_intro ?_; intro bx hbx; (try simp only [fresh_box, fresh_tip, fresh_ty] at hbx))
    | (refine newT_plain ?_; intro bx hbx; (try simp only [fresh_box, fresh_tip, fresh_ty] at hbx))
    | refine storeX_w ?_
    | ((with_reducible refine And.intro ?_ ?_); omega)
    | refine bo_buildSlice (d' := ⟨⟩) ?_
    | (refine draw_all (by kernel_rfl) ?_)
    | refine finish_pure ?_ (by repeat' (first | exact AS.le.refl _ | assumption | (refine le_set (by first | assumption | (simp only [*]; done) | exact AS.le.fresh (by assumption) (by simp only [*])) ?_) | (refine le_ty (by first | assumption | (simp only [*]; done) | exact AS.le.fresh (by assumption) (by simp only [*])) ?_)))
    | simp -dsimp only [↓bp, bq, br, afin, bsk, cWrites, opsWrites, pieceGh, rsk, ne_eq, if_true, if_false, exists_eq_left', forall_const, forall_eq, Nat.reduceLT, Int.reduceSub, Nat.reduceAdd, Nat.reduceSub, Nat.reduceMul, Nat.reduceLeDiff, Nat.reduceEqDiff, Nat.reduceBEq, Nat.reduceBNe, Int.reduceNeg, Int.reduceAdd, Int.reduceMul, Int.reduceLE, Int.reduceLT, Int.reduceEq, Int.reduceToNat, reduceIte, reduceCtorEq, tbTText2, *])
    exact finishW_some _ (AS.le.refl _) (by have := hB2.weaken hle1; simpa using this)
  have k5' := eq_false e5
  rw [if_neg e5] at hse
  by_cases e6 : t.knd = 6
  · have k6 := eq_true e6
    rw [if_pos e6] at hse
    clear e6
    have hl2 := hlen
    rw [hse] at hl2
    simp only [List.length_append, List.length_cons, List.length_nil] at hl2
    have hrow := fun s1 (hBs : Bl σ1 s1 b xs) => row_tri t (by omega) hi ht [123] [125] σ1 s1 b p q xs hF1 hBs (by simp only [List.length_cons, List.length_nil]; omega)
    rw [hse]
    clear A hi ht hr hse e1 e2 e3 e4 e5 htx hlen
    repeat' (first
    | with_reducible refine condW_both (fun _ _ => ?_) (fun _ _ => ?_)
    | with_reducible refine gW_both (fun _ _ => ?_) (fun _ _ => ?_)
    | with_reducible refine condW_split (fun _ => ?_) (fun _ => ?_)
    | with_reducible refine gW_split (fun _ => ?_) (fun _ => ?_)
    | with_reducible refine pickW_split (fun _ => ?_) (fun _ => ?_)
    | (refine newW_intro ?_; intro bx hbx; (try simp only [fresh_box, fresh_tip, fresh_ty] at hbx))
    | (refine newT_plain ?_; intro bx hbx; (try simp only [fresh_box, fresh_tip, fresh_ty] at hbx))
    | ((refine Tri.mono (hrow _ hB1) ?_; rintro r s1 hB2))
    | refine storeX_w ?_
    | ((with_reducible refine And.intro ?_ ?_); omega)
    | refine bo_buildSlice (d' := ⟨⟩) ?_
    | (refine draw_all (by kernel_rfl) ?_)
    | refine finish_pure ?_ (by repeat' (first | exact AS.le.refl _ | assumption | (refine le_set (by first | assumption | (simp only [*]; done) | exact AS.le.fresh (by assumption) (by simp only [*])) ?_) | (refine le_ty (by first | assumption | (simp only [*]; done) | exact AS.le.fresh (by assumption) (by simp only [*])) ?_)))
    | simp -dsimp only [↓bp, bq, br, afin, bsk, cWrites, opsWrites, pieceGh, rsk, ne_eq, if_true, if_false, exists_eq_left', forall_const, forall_eq, Nat.reduceLT, Int.reduceSub, Nat.reduceAdd, Nat.reduceSub, Nat.reduceMul, Nat.reduceLeDiff, Nat.reduceEqDiff, Nat.reduceBEq, Nat.reduceBNe, Int.reduceNeg, Int.reduceAdd, Int.reduceMul, Int.reduceLE, Int.reduceLT, Int.reduceEq, Int.reduceToNat, reduceIte, reduceCtorEq, tbTText2, *])
    exact finishW_some _ (AS.le.refl _) (by have := hB2.weaken hle1; simpa using this)
  · have k6 := eq_false e6
    rw [if_neg e6] at hse
    clear e6
    have hl2 := hlen
    rw [hse] at hl2
    simp only [List.length_append, List.length_cons, List.length_nil] at hl2
    have hrow := fun s1 (hBs : Bl σ1 s1 b xs) => row_tri t (by omega) hi ht [91] [93] σ1 s1 b p q xs hF1 hBs (by simp only [List.length_cons, List.length_nil]; omega)
    rw [hse]
    clear A hi ht hr hse e1 e2 e3 e4 e5 htx hlen
    repeat' (first
    | with_reducible refine condW_both (fun _ _ => ?_) (fun _ _ => ?_)
    | with_reducible refine gW_both (fun _ _ => ?_) (fun _ _ => ?_)
    | with_reducible refine condW_split (fun _ => ?_) (fun _ => ?_)
    | with_reducible refine gW_split (fun _ => ?_) (fun _ => ?_)
    | with_reducible refine pickW_split (fun _ => ?_) (fun _ => ?_)
    | (refine newW_intro ?_; intro bx hbx; (try simp only [fresh_box, fresh_tip, fresh_ty] at hbx))
    | (refine newT_plain ?_; intro bx hbx; (try simp only [fresh_box, fresh_tip, fresh_ty] at hbx))
    | ((refine Tri.mono (hrow _ hB1) ?_; rintro r s1 hB2))
    | refine storeX_w ?_
    | ((with_reducible refine And.intro ?_ ?_); omega)
    | refine bo_buildSlice (d' := ⟨⟩) ?_
    | (refine draw_all (by kernel_rfl) ?_)
    | refine finish_pure ?_ (by repeat' (first | exact AS.le.refl _ | assumption | (refine le_set (by first | assumption | (simp only [*]; done) | exact AS.le.fresh (by assumption) (by simp only [*])) ?_) | (refine le_ty (by first | assumption | (simp only [*]; done) | exact AS.le.fresh (by assumption) (by simp only [*])) ?_)))
    | simp -dsimp only [↓bp, bq, br, afin, bsk, cWrites, opsWrites, pieceGh, rsk, ne_eq, if_true, if_false, exists_eq_left', forall_const, forall_eq, Nat.reduceLT, Int.reduceSub, Nat.reduceAdd, Nat.reduceSub, Nat.reduceMul, Nat.reduceLeDiff, Nat.reduceEqDiff, Nat.reduceBEq, Nat.reduceBNe, Int.reduceNeg, Int.reduceAdd, Int.reduceMul, Int.reduceLE, Int.reduceLT, Int.reduceEq, Int.reduceToNat, reduceIte, reduceCtorEq, tbTText2, *])
    exact finishW_some _ (AS.le.refl _) (by have := hB2.weaken hle1; simpa using this)
end Go.Proofs.YtpginpbcndlfmaaDoor
set_option linter.unusedVariables false
set_option linter.unusedSimpArgs false
set_option maxRecDepth 20000
namespace Go.Proofs.YtpginpbcndlfmaaDoor
open Go Go.Av
def tbTText3 := And.intro (And.intro (And.intro (And.intro @tf3 @tf4) (And.intro @tf5 (And.intro @tf9 @tf63))) (And.intro (And.intro @tf37 (And.intro @tf22 @tf40)) (And.intro @tf38 (And.intro @tf65 @tf62)))) (And.intro (And.intro (And.intro @tf76 (And.intro @tf78 @Term.flat_enc)) (And.intro @Term.isv_enc (And.intro @Term.fold_enc @isv_encs))) (And.intro (And.intro @flat_encs (And.intro @len_encs @ix_encs)) (And.intro @ix_encs' (And.intro @isv_lims @flat_lims))))
variable {G : Nat → AV}
theorem saidN_len : ∀ (l : List Term), (∀ x, x ∈ l → (said x).length + 1 ≤ 400 * x.bulk) → (saidN l).length ≤ 400 * bulks l
  | [], _ => by simp [saidN, bulks]
  | x :: l, h => by
    have h1 := h x (by simp)
    have h2 := saidN_len l fun y hy => h y (by simp [hy])
    simp only [saidN, List.length_cons, List.length_append, bulks]; omega
theorem saidI_len (l : List Term) (h : ∀ x, x ∈ l → (said x).length + 1 ≤ 400 * x.bulk) : (saidI l).length ≤ 400 * bulks l := by
  cases l with
  | nil => simp [saidI, bulks]
  | cons x l =>
    have h1 := h x (by simp)
    have h2 := saidN_len l fun y hy => h y (by simp [hy])
    simp only [saidI, List.length_append, bulks]; omega
theorem saidT_len : ∀ (l : List Term), (∀ x, x ∈ l → (said x).length + 1 ≤ 400 * x.bulk) → (saidT l).length ≤ 400 * bulks l
  | [], _ => by simp [saidT, bulks]
  | x :: l, h => by
    have h1 := h x (by simp)
    have h2 := saidT_len l fun y hy => h y (by simp [hy])
    simp only [saidT, List.length_cons, List.length_append, bulks]; omega
theorem decT_len {k n : Nat} (hk : 0 < k) (h : n < 10 ^ k) : (decT n).length ≤ k := by
  unfold decT
  split
  · simp; omega
  · rw [List.length_reverse]; exact digs_len k n h
theorem itoa_len {n : Int} (h0 : 0 ≤ n) (h1 : n ≤ 1099511627776) : (itoa n).length ≤ 20 := by
  unfold itoa
  rw [if_neg (by omega)]
  have := decT_len (k := 20) (n := n.natAbs) (by omega) (by have : (10 : Nat) ^ 20 = 100000000000000000000 := by decide
                                                            omega)
  simpa using this
theorem said_len (t : Term) : right t = true → (said t).length + 1 ≤ 400 * t.bulk := by
  refine Term.ind (P := fun t => right t = true → (said t).length + 1 ≤ 400 * t.bulk) (fun t ih1 ih2 hr => ?_) t
  have A := right_spec hr
  have h1 := saidI_len t.items fun x hx => ih1 x hx (A.items x hx)
  have h2 := saidT_len t.tail fun x hx => ih2 x hx (A.tail x hx)
  have hb := t.bulk_eq
  rw [said_eq]
  by_cases e1 : t.knd = 1
  · rw [if_pos e1]
    obtain ⟨_, _, h32⟩ := wr_int (A.int e1)
    have hd := dig_bound h32
    unfold wsaid decT
    simp only [List.length_append]
    split <;> split <;> simp only [List.length_cons, List.length_nil, List.length_reverse] <;> omega
  rw [if_neg e1]
  by_cases e2 : t.knd = 2
  · rw [if_pos e2]
    have hq := quoCs_len t.text
    unfold atomT
    split
    · omega
    · simp only [quoted, List.length_cons, List.length_append, List.length_nil]; omega
  rw [if_neg e2]
  by_cases e3 : t.knd = 3
  · rw [if_pos e3]
    obtain ⟨n0, n1⟩ := right_num hr (.inl e3)
    have := itoa_len n0 n1
    simp only [List.length_append, List.length_cons, List.length_nil]; omega
  rw [if_neg e3]
  by_cases e4 : t.knd = 4
  · rw [if_pos e4]
    obtain ⟨n0, n1⟩ := right_num hr (.inr (.inl e4))
    have := itoa_len n0 n1
    simp only [List.length_append, List.length_cons, List.length_nil]; omega
  rw [if_neg e4]
  by_cases e5 : t.knd = 5
  · rw [if_pos e5]
    obtain ⟨n0, n1⟩ := right_num hr (.inr (.inr e5))
    have := itoa_len n0 n1
    simp only [List.length_append, List.length_cons, List.length_nil]; omega
  rw [if_neg e5]
  split <;> simp only [List.length_append, List.length_cons, List.length_nil] <;> omega
set_option maxHeartbeats 1000000 in
theorem text_pure (hg : GlobT G) (t : Term) (hb : t.bulk ≤ 2000000) : Pure Tryd.prog G 37 [t.enc] (.str (text t)) := by
  have hr := right_pure G t (by omega)
  unfold text
  cases er : right t with
  | false =>
    rw [er] at hr
    intro σ
    refine Tri.of_awp mixed Tryd.func37 rfl (by kernel_rfl) (by kernel_rfl) (by simp [Tryd.ntmps37]) Tryd.results37 ?_
    repeat' (first
    | with_reducible refine condW_both (fun _ _ => ?_) (fun _ _ => ?_)
    | with_reducible refine gW_both (fun _ _ => ?_) (fun _ _ => ?_)
    | with_reducible refine condW_split (fun _ => ?_) (fun _ => ?_)
    | with_reducible refine gW_split (fun _ => ?_) (fun _ => ?_)
    | with_reducible refine pickW_split (fun _ => ?_) (fun _ => ?_)
    | (refine newW_intro ?_; intro bx hbx; (try simp only [fresh_box, fresh_tip, fresh_ty] at hbx))
    | (refine newT_plain ?_; intro bx hbx; (try simp only [fresh_box, fresh_tip, fresh_ty] at hbx))
    | refine Pure.use (hr) ?_
    | refine Pure.head (hr) ?_
    | refine storeX_w ?_
    | ((with_reducible refine And.intro ?_ ?_); omega)
    | refine bo_buildSlice (d' := ⟨⟩) ?_
    | (refine draw_all (by kernel_rfl) ?_)
    | refine finish_pure ?_ (by repeat' (first | exact AS.le.refl _ | assumption | (refine le_set (by first | assumption | (simp only [*]; done) | exact AS.le.fresh (by assumption) (by simp only [*])) ?_) | (refine le_ty (by first | assumption | (simp only [*]; done) | exact AS.le.fresh (by assumption) (by simp only [*])) ?_)))
    | simp -dsimp only [↓bp, bq, br, afin, bsk, cWrites, opsWrites, pieceGh, rsk, ne_eq, if_true, if_false, exists_eq_left', forall_const, forall_eq, Nat.reduceLT, Int.reduceSub, Nat.reduceAdd, Nat.reduceSub, Nat.reduceMul, Nat.reduceLeDiff, Nat.reduceEqDiff, Nat.reduceBEq, Nat.reduceBNe, Int.reduceNeg, Int.reduceAdd, Int.reduceMul, Int.reduceLE, Int.reduceLT, Int.reduceEq, Int.reduceToNat, reduceIte, reduceCtorEq, tbTText3, *])
    all_goals rfl
  | true =>
    rw [er] at hr
    rw [if_pos rfl]
    have hl := said_len t er
    have hput := put_tri hg t (by omega) er
    clear hg
    refine fun σ => ?_
    refine Tri.of_awp mixed Tryd.func37 rfl (by kernel_rfl) (by kernel_rfl) (by simp [Tryd.ntmps37]) Tryd.results37 ?_
    simp -dsimp only [↓bp, bq, br, afin, bsk, cWrites, opsWrites, pieceGh, rsk, ne_eq, if_true, if_false, exists_eq_left', forall_const, forall_eq, Nat.reduceLT, Int.reduceSub, Nat.reduceAdd, Nat.reduceSub, Nat.reduceMul, Nat.reduceLeDiff, Nat.reduceEqDiff, Nat.reduceBEq, Nat.reduceBNe, Int.reduceNeg, Int.reduceAdd, Int.reduceMul, Int.reduceLE, Int.reduceLT, Int.reduceEq, Int.reduceToNat, reduceIte, reduceCtorEq, tbTText3]
    refine newW_intro fun b1 h1 => ?_
    simp -dsimp only [↓bp, bq, br, afin, bsk, cWrites, opsWrites, pieceGh, rsk, ne_eq, if_true, if_false, exists_eq_left', forall_const, forall_eq, Nat.reduceLT, Int.reduceSub, Nat.reduceAdd, Nat.reduceSub, Nat.reduceMul, Nat.reduceLeDiff, Nat.reduceEqDiff, Nat.reduceBEq, Nat.reduceBNe, Int.reduceNeg, Int.reduceAdd, Int.reduceMul, Int.reduceLE, Int.reduceLT, Int.reduceEq, Int.reduceToNat, reduceIte, reduceCtorEq, tbTText3]
    refine Pure.use hr ?_
    simp -dsimp only [↓bp, bq, br, afin, bsk, cWrites, opsWrites, pieceGh, rsk, ne_eq, if_true, if_false, exists_eq_left', forall_const, forall_eq, Nat.reduceLT, Int.reduceSub, Nat.reduceAdd, Nat.reduceSub, Nat.reduceMul, Nat.reduceLeDiff, Nat.reduceEqDiff, Nat.reduceBEq, Nat.reduceBNe, Int.reduceNeg, Int.reduceAdd, Int.reduceMul, Int.reduceLE, Int.reduceLT, Int.reduceEq, Int.reduceToNat, reduceIte, reduceCtorEq, tbTText3]
    refine newT_ty fun b3 h3 => ?_
    obtain ⟨σa, hσa⟩ : ∃ σa, σa = σ.setBox b1 [.int .u8 t.knd, .bool t.neg, lims t.limbs, .str t.text, .int .i64 t.num, encs t.items, encs t.tail] := ⟨_, rfl⟩
    have hla : σ.le σa := by rw [hσa]; exact (AS.le.refl σ).setBox h1.1 _
    have ha1 : σa.box b1 = some [.int .u8 t.knd, .bool t.neg, lims t.limbs, .str t.text, .int .i64 t.num, encs t.items, encs t.tail] := by rw [hσa]; simp [AS.setBox]
    rw [← hσa] at h3
    have hB0 : Bl σa ((σa.setBox b3 [.nilptr, .nil]).setTy b3 (65, 2)) b3 [] := Bld.start (AS.le.refl σa) h3
    rw [← hσa]
    simp only [List.length_cons, List.length_nil, Nat.zero_add, Nat.reduceAdd]
    generalize (σa.setBox b3 [.nilptr, .nil]).setTy b3 (65, 2) = S at *
    simp -dsimp only [↓bp, bq, br, afin, bsk, cWrites, opsWrites, pieceGh, rsk, ne_eq, if_true, if_false, exists_eq_left', forall_const, forall_eq, Nat.reduceLT, Int.reduceSub, Nat.reduceAdd, Nat.reduceSub, Nat.reduceMul, Nat.reduceLeDiff, Nat.reduceEqDiff, Nat.reduceBEq, Nat.reduceBNe, Int.reduceNeg, Int.reduceAdd, Int.reduceMul, Int.reduceLE, Int.reduceLT, Int.reduceEq, Int.reduceToNat, reduceIte, reduceCtorEq, tbTText3]
    refine newT_plain fun b4 h4 => ?_
    simp -dsimp only [↓bp, bq, br, afin, bsk, cWrites, opsWrites, pieceGh, rsk, ne_eq, if_true, if_false, exists_eq_left', forall_const, forall_eq, Nat.reduceLT, Int.reduceSub, Nat.reduceAdd, Nat.reduceSub, Nat.reduceMul, Nat.reduceLeDiff, Nat.reduceEqDiff, Nat.reduceBEq, Nat.reduceBNe, Int.reduceNeg, Int.reduceAdd, Int.reduceMul, Int.reduceLE, Int.reduceLT, Int.reduceEq, Int.reduceToNat, reduceIte, reduceCtorEq, tbTText3]
    refine newT_plain fun b5 h5 => ?_
    rw [fresh_setBox] at h5
    have n54 : ¬ b5 = b4 := h5.2
    have n45 : ¬ b4 = b5 := fun e => n54 e.symm
    have hS1 : S.box b1 = some [.int .u8 t.knd, .bool t.neg, lims t.limbs, .str t.text, .int .i64 t.num, encs t.items, encs t.tail] := hB0.le.box _ _ ha1
    have n14 := (fresh_ne hS1 h4).1
    have n15 := (fresh_ne hS1 h5.1).1
    have hB1 := hB0.newBox h4 [.fn 46 [.ptr b3 0, .ptr b5 0]]
    have hB2 := hB1.newBox (c := b5) (fresh_setBox.2 ⟨h5.1, n54⟩) [.fn 44 [.ptr b3 0, .ptr b4 0]]
    have hlb : σ.le ((σa.setBox b4 [.fn 46 [.ptr b3 0, .ptr b5 0]]).setBox b5 [.fn 44 [.ptr b3 0, .ptr b4 0]]) := by
      have f4 := hB0.le.fresh h4
      have f5 := hB0.le.fresh h5.1
      exact hla.trans (((AS.le.refl σa).setBox f4.1 _).setBox f5.1 _)
    have hF : Fns ((σa.setBox b4 [.fn 46 [.ptr b3 0, .ptr b5 0]]).setBox b5 [.fn 44 [.ptr b3 0, .ptr b4 0]]) b3 b4 b5 := ⟨by simp [AS.setBox, n45], by simp [AS.setBox]⟩
    have hst : ((S.setBox b4 [.nilfn]).setBox b5 [.fn 44 [.ptr b3 0, .ptr b4 0]]).setBox b4 [.fn 46 [.ptr b3 0, .ptr b5 0]] = (S.setBox b4 [.fn 46 [.ptr b3 0, .ptr b5 0]]).setBox b5 [.fn 44 [.ptr b3 0, .ptr b4 0]] := by
      rw [AS.setBox_comm n54, set_set]
    generalize (σa.setBox b4 [.fn 46 [.ptr b3 0, .ptr b5 0]]).setBox b5 [.fn 44 [.ptr b3 0, .ptr b4 0]] = σb at *
    clear hB1 hB0 h3 h1 hσa hla ha1 h4 h5
    simp -dsimp only [↓bp, bq, br, afin, bsk, cWrites, opsWrites, pieceGh, rsk, ne_eq, if_true, if_false, exists_eq_left', forall_const, forall_eq, Nat.reduceLT, Int.reduceSub, Nat.reduceAdd, Nat.reduceSub, Nat.reduceMul, Nat.reduceLeDiff, Nat.reduceEqDiff, Nat.reduceBEq, Nat.reduceBNe, Int.reduceNeg, Int.reduceAdd, Int.reduceMul, Int.reduceLE, Int.reduceLT, Int.reduceEq, Int.reduceToNat, reduceIte, reduceCtorEq, tbTText3, n54, n45, n14, n15, hS1]
    rw [hst]
    refine Tri.mono (hput σb _ b3 b4 b5 [] hF hB2 (by simp; omega)) ?_
    rintro r s2 hB3
    repeat' (first
    | with_reducible refine condW_both (fun _ _ => ?_) (fun _ _ => ?_)
    | with_reducible refine gW_both (fun _ _ => ?_) (fun _ _ => ?_)
    | with_reducible refine condW_split (fun _ => ?_) (fun _ => ?_)
    | with_reducible refine gW_split (fun _ => ?_) (fun _ => ?_)
    | with_reducible refine pickW_split (fun _ => ?_) (fun _ => ?_)
    | (refine newW_intro ?_; intro bx hbx; (try simp only [fresh_box, fresh_tip, fresh_ty] at hbx))
    | (refine newT_plain ?_; intro bx hbx; (try simp only [fresh_box, fresh_tip, fresh_ty] at hbx))
    | ((refine Tri.mono (string_tri _ hB3 (by simp; omega)) ?_; rintro r s3 ⟨rfl, rfl⟩))
    | refine storeX_w ?_
    | ((with_reducible refine And.intro ?_ ?_); omega)
    | refine bo_buildSlice (d' := ⟨⟩) ?_
    | (refine draw_all (by kernel_rfl) ?_)
    | refine finish_pure ?_ (by repeat' (first | exact AS.le.refl _ | assumption | (refine le_set (by first | assumption | (simp only [*]; done) | exact AS.le.fresh (by assumption) (by simp only [*])) ?_) | (refine le_ty (by first | assumption | (simp only [*]; done) | exact AS.le.fresh (by assumption) (by simp only [*])) ?_)))
    | simp -dsimp only [↓bp, bq, br, afin, bsk, cWrites, opsWrites, pieceGh, rsk, ne_eq, if_true, if_false, exists_eq_left', forall_const, forall_eq, Nat.reduceLT, Int.reduceSub, Nat.reduceAdd, Nat.reduceSub, Nat.reduceMul, Nat.reduceLeDiff, Nat.reduceEqDiff, Nat.reduceBEq, Nat.reduceBNe, Int.reduceNeg, Int.reduceAdd, Int.reduceMul, Int.reduceLE, Int.reduceLT, Int.reduceEq, Int.reduceToNat, reduceIte, reduceCtorEq, tbTText3, *])
    all_goals skip
end Go.Proofs.YtpginpbcndlfmaaDoor
