/- The reference's integers: right ones, and their order. -/
import Derived.Test.YtjnhalmeddafdaaDoorZRefC0
set_option linter.unusedVariables false
set_option linter.unusedSimpArgs false
set_option maxRecDepth 20000
set_option linter.defProp false
namespace Go.Proofs.YtjnhalmeddafdaaDoor
open Go Go.Av
def tbRefC := And.intro (And.intro (And.intro (And.intro @tf3 (And.intro @tf4 @tf5)) (And.intro (And.intro @tf44 @tf103) (And.intro @tf9 @tf23))) (And.intro (And.intro @tf22 (And.intro @tf24 @tf26)) (And.intro (And.intro @tf91 @tf84) (And.intro @Term.flat_enc @Term.isv_enc)))) (And.intro (And.intro (And.intro @Term.fold_enc (And.intro @isv_encs @flat_encs)) (And.intro (And.intro @len_encs @ix_encs) (And.intro @ix_encs' @isv_lims))) (And.intro (And.intro (And.intro @flat_lims @len_lims) (And.intro @ix_lims @ix_lims')) (And.intro (And.intro @flat_limA @isv_bools) (And.intro @flat_bools @len_bools))))
variable (G : Nat → AV)
set_option maxHeartbeats 4000000 in
theorem rcmp_pure (a b : Term) (ha : wr a = true) (hb : wr b = true) (ga : a.bulk ≤ 1000000) (gb : b.bulk ≤ 1000000) : Pure Tryd.prog G 62 [a.enc, b.enc] (.int .i64 (cmpW a b)) := by
  have w1 := rright_pure G a (by omega)
  have w2 := rright_pure G b (by omega)
  rw [ha] at w1
  rw [hb] at w2
  have la := len_limbs a
  have lb := len_limbs b
  have x1 := bits_pure G a (by omega)
  have x2 := bits_pure G b (by omega)
  have y1 := below_pure G (cutB (bitsL a.limbs)) (cutB (bitsL b.limbs)) (by have := cutB_len (bitsL a.limbs); have := bitsL_len a.limbs; omega) (by have := cutB_len (bitsL b.limbs); have := bitsL_len b.limbs; omega)
  have y2 := below_pure G (cutB (bitsL b.limbs)) (cutB (bitsL a.limbs)) (by have := cutB_len (bitsL b.limbs); have := bitsL_len b.limbs; omega) (by have := cutB_len (bitsL a.limbs); have := bitsL_len a.limbs; omega)
  rw [below_bits] at y1 y2
  have a8 := (wr_spec ha).2.2.2.2.2.2.2
  have b8 := (wr_spec hb).2.2.2.2.2.2.2
  have hv := cmpA_val a8 b8
  unfold cmpW sgn
  rw [hv]
  clear ha hb ga gb la lb a8 b8 hv
  generalize cutB (bitsL a.limbs) = X at *
  generalize cutB (bitsL b.limbs) = Y at *
  rw [← Term.fold_enc a] at w1 x1
  rw [← Term.fold_enc b] at w2 x2
  have bt : (false == true) = false := rfl
  have bf : (true == false) = false := rfl
  intro σ
  cases ea : a.neg <;> cases eb : b.neg <;> rw [ea] at w1 x1 <;> rw [eb] at w2 x2
  · rcases cmpI_R' (val a.limbs) (val b.limbs) with h | h | h
    · rw [h.1]
      rw [decide_eq_true (by omega)] at y1
      rw [decide_eq_false (by omega)] at y2
      clear h
      refine Tri.of_awp mixed Tryd.func62 rfl (by kernel_rfl) (by kernel_rfl) (by simp [Tryd.ntmps62]) Tryd.results62 ?_
      repeat' (first
    | with_reducible refine condW_both (fun _ _ => ?_) (fun _ _ => ?_)
    | with_reducible refine gW_both (fun _ _ => ?_) (fun _ _ => ?_)
    | with_reducible refine condW_split (fun _ => ?_) (fun _ => ?_)
    | with_reducible refine gW_split (fun _ => ?_) (fun _ => ?_)
    | with_reducible refine pickW_split (fun _ => ?_) (fun _ => ?_)
    | (refine newW_intro ?_; intro bx hbx; (try simp only [fresh_box, fresh_tip, fresh_ty] at hbx))
    | (refine newT_plain ?_; intro bx hbx; (try simp only [fresh_box, fresh_tip, fresh_ty] at hbx))
    | refine Pure.use (w1) ?_
    | refine Pure.head (w1) ?_
    | refine Pure.use (w2) ?_
    | refine Pure.head (w2) ?_
    | refine Pure.use (x1) ?_
    | refine Pure.head (x1) ?_
    | refine Pure.use (x2) ?_
    | refine Pure.head (x2) ?_
    | refine Pure.use (y1) ?_
    | refine Pure.head (y1) ?_
    | refine Pure.use (y2) ?_
    | refine Pure.head (y2) ?_
    | refine storeX_w ?_
    | ((with_reducible refine And.intro ?_ ?_); omega)
    | refine bo_buildSlice (d' := ⟨⟩) ?_
    | (refine draw_all (by kernel_rfl) ?_)
    | refine finish_pure ?_ (by repeat' (first | exact AS.le.refl _ | assumption | (refine le_set (by first | assumption | (simp only [*]; done) | exact AS.le.fresh (by assumption) (by simp only [*])) ?_) | (refine le_ty (by first | assumption | (simp only [*]; done) | exact AS.le.fresh (by assumption) (by simp only [*])) ?_)))
    | simp -dsimp only [↓bp, bq, br, afin, bsk, cWrites, opsWrites, pieceGh, rsk, ne_eq, if_true, if_false, exists_eq_left', forall_const, forall_eq, Nat.reduceLT, Int.reduceSub, Nat.reduceAdd, Nat.reduceSub, Nat.reduceMul, Nat.reduceLeDiff, Nat.reduceEqDiff, Nat.reduceBEq, Nat.reduceBNe, Int.reduceNeg, Int.reduceAdd, Int.reduceMul, Int.reduceLE, Int.reduceLT, Int.reduceEq, Int.reduceToNat, reduceIte, reduceCtorEq, tbRefC, *])
      all_goals first
        | rfl
        | (rename_i hq; exact absurd hq (by decide))
    · rw [h.1]
      rw [decide_eq_false (by omega)] at y1 y2
      clear h
      refine Tri.of_awp mixed Tryd.func62 rfl (by kernel_rfl) (by kernel_rfl) (by simp [Tryd.ntmps62]) Tryd.results62 ?_
      repeat' (first
    | with_reducible refine condW_both (fun _ _ => ?_) (fun _ _ => ?_)
    | with_reducible refine gW_both (fun _ _ => ?_) (fun _ _ => ?_)
    | with_reducible refine condW_split (fun _ => ?_) (fun _ => ?_)
    | with_reducible refine gW_split (fun _ => ?_) (fun _ => ?_)
    | with_reducible refine pickW_split (fun _ => ?_) (fun _ => ?_)
    | (refine newW_intro ?_; intro bx hbx; (try simp only [fresh_box, fresh_tip, fresh_ty] at hbx))
    | (refine newT_plain ?_; intro bx hbx; (try simp only [fresh_box, fresh_tip, fresh_ty] at hbx))
    | refine Pure.use (w1) ?_
    | refine Pure.head (w1) ?_
    | refine Pure.use (w2) ?_
    | refine Pure.head (w2) ?_
    | refine Pure.use (x1) ?_
    | refine Pure.head (x1) ?_
    | refine Pure.use (x2) ?_
    | refine Pure.head (x2) ?_
    | refine Pure.use (y1) ?_
    | refine Pure.head (y1) ?_
    | refine Pure.use (y2) ?_
    | refine Pure.head (y2) ?_
    | refine storeX_w ?_
    | ((with_reducible refine And.intro ?_ ?_); omega)
    | refine bo_buildSlice (d' := ⟨⟩) ?_
    | (refine draw_all (by kernel_rfl) ?_)
    | refine finish_pure ?_ (by repeat' (first | exact AS.le.refl _ | assumption | (refine le_set (by first | assumption | (simp only [*]; done) | exact AS.le.fresh (by assumption) (by simp only [*])) ?_) | (refine le_ty (by first | assumption | (simp only [*]; done) | exact AS.le.fresh (by assumption) (by simp only [*])) ?_)))
    | simp -dsimp only [↓bp, bq, br, afin, bsk, cWrites, opsWrites, pieceGh, rsk, ne_eq, if_true, if_false, exists_eq_left', forall_const, forall_eq, Nat.reduceLT, Int.reduceSub, Nat.reduceAdd, Nat.reduceSub, Nat.reduceMul, Nat.reduceLeDiff, Nat.reduceEqDiff, Nat.reduceBEq, Nat.reduceBNe, Int.reduceNeg, Int.reduceAdd, Int.reduceMul, Int.reduceLE, Int.reduceLT, Int.reduceEq, Int.reduceToNat, reduceIte, reduceCtorEq, tbRefC, *])
      all_goals first
        | rfl
        | (rename_i hq; exact absurd hq (by decide))
    · rw [h.1]
      rw [decide_eq_false (by omega)] at y1
      rw [decide_eq_true (by omega)] at y2
      clear h
      refine Tri.of_awp mixed Tryd.func62 rfl (by kernel_rfl) (by kernel_rfl) (by simp [Tryd.ntmps62]) Tryd.results62 ?_
      repeat' (first
    | with_reducible refine condW_both (fun _ _ => ?_) (fun _ _ => ?_)
    | with_reducible refine gW_both (fun _ _ => ?_) (fun _ _ => ?_)
    | with_reducible refine condW_split (fun _ => ?_) (fun _ => ?_)
    | with_reducible refine gW_split (fun _ => ?_) (fun _ => ?_)
    | with_reducible refine pickW_split (fun _ => ?_) (fun _ => ?_)
    | (refine newW_intro ?_; intro bx hbx; (try simp only [fresh_box, fresh_tip, fresh_ty] at hbx))
    | (refine newT_plain ?_; intro bx hbx; (try simp only [fresh_box, fresh_tip, fresh_ty] at hbx))
    | refine Pure.use (w1) ?_
    | refine Pure.head (w1) ?_
    | refine Pure.use (w2) ?_
    | refine Pure.head (w2) ?_
    | refine Pure.use (x1) ?_
    | refine Pure.head (x1) ?_
    | refine Pure.use (x2) ?_
    | refine Pure.head (x2) ?_
    | refine Pure.use (y1) ?_
    | refine Pure.head (y1) ?_
    | refine Pure.use (y2) ?_
    | refine Pure.head (y2) ?_
    | refine storeX_w ?_
    | ((with_reducible refine And.intro ?_ ?_); omega)
    | refine bo_buildSlice (d' := ⟨⟩) ?_
    | (refine draw_all (by kernel_rfl) ?_)
    | refine finish_pure ?_ (by repeat' (first | exact AS.le.refl _ | assumption | (refine le_set (by first | assumption | (simp only [*]; done) | exact AS.le.fresh (by assumption) (by simp only [*])) ?_) | (refine le_ty (by first | assumption | (simp only [*]; done) | exact AS.le.fresh (by assumption) (by simp only [*])) ?_)))
    | simp -dsimp only [↓bp, bq, br, afin, bsk, cWrites, opsWrites, pieceGh, rsk, ne_eq, if_true, if_false, exists_eq_left', forall_const, forall_eq, Nat.reduceLT, Int.reduceSub, Nat.reduceAdd, Nat.reduceSub, Nat.reduceMul, Nat.reduceLeDiff, Nat.reduceEqDiff, Nat.reduceBEq, Nat.reduceBNe, Int.reduceNeg, Int.reduceAdd, Int.reduceMul, Int.reduceLE, Int.reduceLT, Int.reduceEq, Int.reduceToNat, reduceIte, reduceCtorEq, tbRefC, *])
      all_goals first
        | rfl
        | (rename_i hq; exact absurd hq (by decide))
  · clear y1 y2 x1 x2
    refine Tri.of_awp mixed Tryd.func62 rfl (by kernel_rfl) (by kernel_rfl) (by simp [Tryd.ntmps62]) Tryd.results62 ?_
    repeat' (first
    | with_reducible refine condW_both (fun _ _ => ?_) (fun _ _ => ?_)
    | with_reducible refine gW_both (fun _ _ => ?_) (fun _ _ => ?_)
    | with_reducible refine condW_split (fun _ => ?_) (fun _ => ?_)
    | with_reducible refine gW_split (fun _ => ?_) (fun _ => ?_)
    | with_reducible refine pickW_split (fun _ => ?_) (fun _ => ?_)
    | (refine newW_intro ?_; intro bx hbx; (try simp only [fresh_box, fresh_tip, fresh_ty] at hbx))
    | (refine newT_plain ?_; intro bx hbx; (try simp only [fresh_box, fresh_tip, fresh_ty] at hbx))
    | refine Pure.use (w1) ?_
    | refine Pure.head (w1) ?_
    | refine Pure.use (w2) ?_
    | refine Pure.head (w2) ?_
    | refine storeX_w ?_
    | ((with_reducible refine And.intro ?_ ?_); omega)
    | refine bo_buildSlice (d' := ⟨⟩) ?_
    | (refine draw_all (by kernel_rfl) ?_)
    | refine finish_pure ?_ (by repeat' (first | exact AS.le.refl _ | assumption | (refine le_set (by first | assumption | (simp only [*]; done) | exact AS.le.fresh (by assumption) (by simp only [*])) ?_) | (refine le_ty (by first | assumption | (simp only [*]; done) | exact AS.le.fresh (by assumption) (by simp only [*])) ?_)))
    | simp -dsimp only [↓bp, bq, br, afin, bsk, cWrites, opsWrites, pieceGh, rsk, ne_eq, if_true, if_false, exists_eq_left', forall_const, forall_eq, Nat.reduceLT, Int.reduceSub, Nat.reduceAdd, Nat.reduceSub, Nat.reduceMul, Nat.reduceLeDiff, Nat.reduceEqDiff, Nat.reduceBEq, Nat.reduceBNe, Int.reduceNeg, Int.reduceAdd, Int.reduceMul, Int.reduceLE, Int.reduceLT, Int.reduceEq, Int.reduceToNat, reduceIte, reduceCtorEq, tbRefC, *])
    all_goals rfl
  · clear y1 y2 x1 x2
    refine Tri.of_awp mixed Tryd.func62 rfl (by kernel_rfl) (by kernel_rfl) (by simp [Tryd.ntmps62]) Tryd.results62 ?_
    repeat' (first
    | with_reducible refine condW_both (fun _ _ => ?_) (fun _ _ => ?_)
    | with_reducible refine gW_both (fun _ _ => ?_) (fun _ _ => ?_)
    | with_reducible refine condW_split (fun _ => ?_) (fun _ => ?_)
    | with_reducible refine gW_split (fun _ => ?_) (fun _ => ?_)
    | with_reducible refine pickW_split (fun _ => ?_) (fun _ => ?_)
    | (refine newW_intro ?_; intro bx hbx; (try simp only [fresh_box, fresh_tip, fresh_ty] at hbx))
    | (refine newT_plain ?_; intro bx hbx; (try simp only [fresh_box, fresh_tip, fresh_ty] at hbx))
    | refine Pure.use (w1) ?_
    | refine Pure.head (w1) ?_
    | refine Pure.use (w2) ?_
    | refine Pure.head (w2) ?_
    | refine storeX_w ?_
    | ((with_reducible refine And.intro ?_ ?_); omega)
    | refine bo_buildSlice (d' := ⟨⟩) ?_
    | (refine draw_all (by kernel_rfl) ?_)
    | refine finish_pure ?_ (by repeat' (first | exact AS.le.refl _ | assumption | (refine le_set (by first | assumption | (simp only [*]; done) | exact AS.le.fresh (by assumption) (by simp only [*])) ?_) | (refine le_ty (by first | assumption | (simp only [*]; done) | exact AS.le.fresh (by assumption) (by simp only [*])) ?_)))
    | simp -dsimp only [↓bp, bq, br, afin, bsk, cWrites, opsWrites, pieceGh, rsk, ne_eq, if_true, if_false, exists_eq_left', forall_const, forall_eq, Nat.reduceLT, Int.reduceSub, Nat.reduceAdd, Nat.reduceSub, Nat.reduceMul, Nat.reduceLeDiff, Nat.reduceEqDiff, Nat.reduceBEq, Nat.reduceBNe, Int.reduceNeg, Int.reduceAdd, Int.reduceMul, Int.reduceLE, Int.reduceLT, Int.reduceEq, Int.reduceToNat, reduceIte, reduceCtorEq, tbRefC, *])
    all_goals rfl
  · rcases cmpI_R' (val a.limbs) (val b.limbs) with h | h | h
    · rw [h.1]
      rw [decide_eq_true (by omega)] at y1
      rw [decide_eq_false (by omega)] at y2
      clear h
      refine Tri.of_awp mixed Tryd.func62 rfl (by kernel_rfl) (by kernel_rfl) (by simp [Tryd.ntmps62]) Tryd.results62 ?_
      repeat' (first
    | with_reducible refine condW_both (fun _ _ => ?_) (fun _ _ => ?_)
    | with_reducible refine gW_both (fun _ _ => ?_) (fun _ _ => ?_)
    | with_reducible refine condW_split (fun _ => ?_) (fun _ => ?_)
    | with_reducible refine gW_split (fun _ => ?_) (fun _ => ?_)
    | with_reducible refine pickW_split (fun _ => ?_) (fun _ => ?_)
    | (refine newW_intro ?_; intro bx hbx; (try simp only [fresh_box, fresh_tip, fresh_ty] at hbx))
    | (refine newT_plain ?_; intro bx hbx; (try simp only [fresh_box, fresh_tip, fresh_ty] at hbx))
    | refine Pure.use (w1) ?_
    | refine Pure.head (w1) ?_
    | refine Pure.use (w2) ?_
    | refine Pure.head (w2) ?_
    | refine Pure.use (x1) ?_
    | refine Pure.head (x1) ?_
    | refine Pure.use (x2) ?_
    | refine Pure.head (x2) ?_
    | refine Pure.use (y1) ?_
    | refine Pure.head (y1) ?_
    | refine Pure.use (y2) ?_
    | refine Pure.head (y2) ?_
    | refine storeX_w ?_
    | ((with_reducible refine And.intro ?_ ?_); omega)
    | refine bo_buildSlice (d' := ⟨⟩) ?_
    | (refine draw_all (by kernel_rfl) ?_)
    | refine finish_pure ?_ (by repeat' (first | exact AS.le.refl _ | assumption | (refine le_set (by first | assumption | (simp only [*]; done) | exact AS.le.fresh (by assumption) (by simp only [*])) ?_) | (refine le_ty (by first | assumption | (simp only [*]; done) | exact AS.le.fresh (by assumption) (by simp only [*])) ?_)))
    | simp -dsimp only [↓bp, bq, br, afin, bsk, cWrites, opsWrites, pieceGh, rsk, ne_eq, if_true, if_false, exists_eq_left', forall_const, forall_eq, Nat.reduceLT, Int.reduceSub, Nat.reduceAdd, Nat.reduceSub, Nat.reduceMul, Nat.reduceLeDiff, Nat.reduceEqDiff, Nat.reduceBEq, Nat.reduceBNe, Int.reduceNeg, Int.reduceAdd, Int.reduceMul, Int.reduceLE, Int.reduceLT, Int.reduceEq, Int.reduceToNat, reduceIte, reduceCtorEq, tbRefC, *])
      all_goals first
        | rfl
        | (rename_i hq; exact absurd hq (by decide))
    · rw [h.1]
      rw [decide_eq_false (by omega)] at y1 y2
      clear h
      refine Tri.of_awp mixed Tryd.func62 rfl (by kernel_rfl) (by kernel_rfl) (by simp [Tryd.ntmps62]) Tryd.results62 ?_
      repeat' (first
    | with_reducible refine condW_both (fun _ _ => ?_) (fun _ _ => ?_)
    | with_reducible refine gW_both (fun _ _ => ?_) (fun _ _ => ?_)
    | with_reducible refine condW_split (fun _ => ?_) (fun _ => ?_)
    | with_reducible refine gW_split (fun _ => ?_) (fun _ => ?_)
    | with_reducible refine pickW_split (fun _ => ?_) (fun _ => ?_)
    | (refine newW_intro ?_; intro bx hbx; (try simp only [fresh_box, fresh_tip, fresh_ty] at hbx))
    | (refine newT_plain ?_; intro bx hbx; (try simp only [fresh_box, fresh_tip, fresh_ty] at hbx))
    | refine Pure.use (w1) ?_
    | refine Pure.head (w1) ?_
    | refine Pure.use (w2) ?_
    | refine Pure.head (w2) ?_
    | refine Pure.use (x1) ?_
    | refine Pure.head (x1) ?_
    | refine Pure.use (x2) ?_
    | refine Pure.head (x2) ?_
    | refine Pure.use (y1) ?_
    | refine Pure.head (y1) ?_
    | refine Pure.use (y2) ?_
    | refine Pure.head (y2) ?_
    | refine storeX_w ?_
    | ((with_reducible refine And.intro ?_ ?_); omega)
    | refine bo_buildSlice (d' := ⟨⟩) ?_
    | (refine draw_all (by kernel_rfl) ?_)
    | refine finish_pure ?_ (by repeat' (first | exact AS.le.refl _ | assumption | (refine le_set (by first | assumption | (simp only [*]; done) | exact AS.le.fresh (by assumption) (by simp only [*])) ?_) | (refine le_ty (by first | assumption | (simp only [*]; done) | exact AS.le.fresh (by assumption) (by simp only [*])) ?_)))
    | simp -dsimp only [↓bp, bq, br, afin, bsk, cWrites, opsWrites, pieceGh, rsk, ne_eq, if_true, if_false, exists_eq_left', forall_const, forall_eq, Nat.reduceLT, Int.reduceSub, Nat.reduceAdd, Nat.reduceSub, Nat.reduceMul, Nat.reduceLeDiff, Nat.reduceEqDiff, Nat.reduceBEq, Nat.reduceBNe, Int.reduceNeg, Int.reduceAdd, Int.reduceMul, Int.reduceLE, Int.reduceLT, Int.reduceEq, Int.reduceToNat, reduceIte, reduceCtorEq, tbRefC, *])
      all_goals first
        | rfl
        | (rename_i hq; exact absurd hq (by decide))
    · rw [h.1]
      rw [decide_eq_false (by omega)] at y1
      rw [decide_eq_true (by omega)] at y2
      clear h
      refine Tri.of_awp mixed Tryd.func62 rfl (by kernel_rfl) (by kernel_rfl) (by simp [Tryd.ntmps62]) Tryd.results62 ?_
      repeat' (first
    | with_reducible refine condW_both (fun _ _ => ?_) (fun _ _ => ?_)
    | with_reducible refine gW_both (fun _ _ => ?_) (fun _ _ => ?_)
    | with_reducible refine condW_split (fun _ => ?_) (fun _ => ?_)
    | with_reducible refine gW_split (fun _ => ?_) (fun _ => ?_)
    | with_reducible refine pickW_split (fun _ => ?_) (fun _ => ?_)
    | (refine newW_intro ?_; intro bx hbx; (try simp only [fresh_box, fresh_tip, fresh_ty] at hbx))
    | (refine newT_plain ?_; intro bx hbx; (try simp only [fresh_box, fresh_tip, fresh_ty] at hbx))
    | refine Pure.use (w1) ?_
    | refine Pure.head (w1) ?_
    | refine Pure.use (w2) ?_
    | refine Pure.head (w2) ?_
    | refine Pure.use (x1) ?_
    | refine Pure.head (x1) ?_
    | refine Pure.use (x2) ?_
    | refine Pure.head (x2) ?_
    | refine Pure.use (y1) ?_
    | refine Pure.head (y1) ?_
    | refine Pure.use (y2) ?_
    | refine Pure.head (y2) ?_
    | refine storeX_w ?_
    | ((with_reducible refine And.intro ?_ ?_); omega)
    | refine bo_buildSlice (d' := ⟨⟩) ?_
    | (refine draw_all (by kernel_rfl) ?_)
    | refine finish_pure ?_ (by repeat' (first | exact AS.le.refl _ | assumption | (refine le_set (by first | assumption | (simp only [*]; done) | exact AS.le.fresh (by assumption) (by simp only [*])) ?_) | (refine le_ty (by first | assumption | (simp only [*]; done) | exact AS.le.fresh (by assumption) (by simp only [*])) ?_)))
    | simp -dsimp only [↓bp, bq, br, afin, bsk, cWrites, opsWrites, pieceGh, rsk, ne_eq, if_true, if_false, exists_eq_left', forall_const, forall_eq, Nat.reduceLT, Int.reduceSub, Nat.reduceAdd, Nat.reduceSub, Nat.reduceMul, Nat.reduceLeDiff, Nat.reduceEqDiff, Nat.reduceBEq, Nat.reduceBNe, Int.reduceNeg, Int.reduceAdd, Int.reduceMul, Int.reduceLE, Int.reduceLT, Int.reduceEq, Int.reduceToNat, reduceIte, reduceCtorEq, tbRefC, *])
      all_goals first
        | rfl
        | (rename_i hq; exact absurd hq (by decide))
end Go.Proofs.YtjnhalmeddafdaaDoor
