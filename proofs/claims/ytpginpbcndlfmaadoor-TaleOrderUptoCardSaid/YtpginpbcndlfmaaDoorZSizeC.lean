/- Right terms, and their size: the function at some kinds. -/
import Derived.Test.YtpginpbcndlfmaaDoorZSize2
set_option linter.unusedVariables false
set_option linter.unusedSimpArgs false
set_option maxRecDepth 20000
set_option linter.defProp false
namespace Go.Proofs.YtpginpbcndlfmaaDoor
open Go Go.Av
def tbSizeC := And.intro (And.intro (And.intro (And.intro @tf3 @tf4) (And.intro @tf5 (And.intro @tf61 @tf9))) (And.intro (And.intro @tf38 (And.intro @tf37 @tf22)) (And.intro @tf40 (And.intro @Term.flat_enc @Term.isv_enc)))) (And.intro (And.intro (And.intro @Term.fold_enc (And.intro @isv_encs @flat_encs)) (And.intro @len_encs (And.intro @ix_encs @ix_encs'))) (And.intro (And.intro @isv_lims (And.intro @flat_lims @len_lims)) (And.intro @ix_lims (And.intro @ix_lims' @flat_limA))))
variable (G : Nat → AV)
set_option maxHeartbeats 4000000 in
theorem size_k5 (t : Term) (hb : t.bulk ≤ 1000000000) (hk : t.knd = 5) (hit : ∀ x, x ∈ t.items → Pure Tryd.prog G 43 [x.enc] (.int .i64 (size x))) (htt : ∀ x, x ∈ t.tail → Pure Tryd.prog G 43 [x.enc] (.int .i64 (size x))) :
    Pure Tryd.prog G 43 [t.enc] (.int .i64 (size t)) := by
  have hli := len_items t
  have hlt := len_tail t
  have hll := len_limbs t
  have hwr := wr_pure G t hb
  have hp0 := bare_pure0 G t
  have hp1 := bare_pure1 G t
  have hp2 := bare_pure2 G t
  have hp3 := bare_pure3 G t
  have hp4 := bare_pure4 G t
  have hse := size_eq t
  have hle := fun x (_ : x ∈ t.items) => size_le x
  have hw1 : IntKind.i64.wrap (1 + (t.limbs.length : Int)) = 1 + t.limbs.length := wrap_nat (by omega) (by omega)
  have hkn := t.knd_nn
  intro σ
  refine Tri.of_awp mixed Tryd.func43 rfl (by kernel_rfl) (by kernel_rfl) (by simp [Tryd.ntmps43]) Tryd.results43 ?_
  simp -dsimp only [↓bp, bq, br, afin, bsk, cWrites, opsWrites, pieceGh, rsk, ne_eq, if_true, if_false, exists_eq_left', forall_const, forall_eq, Nat.reduceLT, Int.reduceSub, Nat.reduceAdd, Nat.reduceSub, Nat.reduceMul, Nat.reduceLeDiff, Nat.reduceEqDiff, Nat.reduceBEq, Nat.reduceBNe, Int.reduceNeg, Int.reduceAdd, Int.reduceMul, Int.reduceLE, Int.reduceLT, Int.reduceEq, Int.reduceToNat, reduceIte, reduceCtorEq, tbSizeC]
  refine newW_intro fun b1 h1 => ?_
  simp -dsimp only [↓bp, bq, br, afin, bsk, cWrites, opsWrites, pieceGh, rsk, ne_eq, if_true, if_false, exists_eq_left', forall_const, forall_eq, Nat.reduceLT, Int.reduceSub, Nat.reduceAdd, Nat.reduceSub, Nat.reduceMul, Nat.reduceLeDiff, Nat.reduceEqDiff, Nat.reduceBEq, Nat.reduceBNe, Int.reduceNeg, Int.reduceAdd, Int.reduceMul, Int.reduceLE, Int.reduceLT, Int.reduceEq, Int.reduceToNat, reduceIte, reduceCtorEq, tbSizeC]
  refine newT_plain fun b3 h3 => ?_
  simp only [fresh_box] at h3
  obtain ⟨h3, h31, h13⟩ := h3
  simp -dsimp only [↓bp, bq, br, afin, bsk, cWrites, opsWrites, pieceGh, rsk, ne_eq, if_true, if_false, exists_eq_left', forall_const, forall_eq, Nat.reduceLT, Int.reduceSub, Nat.reduceAdd, Nat.reduceSub, Nat.reduceMul, Nat.reduceLeDiff, Nat.reduceEqDiff, Nat.reduceBEq, Nat.reduceBNe, Int.reduceNeg, Int.reduceAdd, Int.reduceMul, Int.reduceLE, Int.reduceLT, Int.reduceEq, Int.reduceToNat, reduceIte, reduceCtorEq, tbSizeC]
  refine newT_plain fun b5 h5 => ?_
  simp only [fresh_box] at h5
  obtain ⟨⟨h5, h51, h15⟩, h53, h35⟩ := h5
  have e1 : ¬ t.knd = 1 := by omega
  have e2 : ¬ t.knd = 2 := by omega
  have e3 : ¬ t.knd = 3 := by omega
  have e4 : ¬ t.knd = 4 := by omega
  have e5 : t.knd = 5 := hk
  have e6 : ¬ t.knd = 6 := by omega
  have e7 : ¬ t.knd = 7 := by omega
  have k1 := eq_false e1
  have k2 := eq_false e2
  have k3 := eq_false e3
  have k5 := eq_true e5
  have hhd : head t = (1, 0, bare t false true false false && decide (0 ≤ t.num) && decide (t.num ≤ 1099511627776)) := by unfold head; rw [if_neg e2, if_pos (.inr e5)]
  clear hk e1 e2 e3 e5
  cases hbr : bare t false true false false
  · rw [hbr] at hhd hp1
    simp only [Bool.false_and] at hhd
    repeat' (first
    | with_reducible refine condW_both (fun _ _ => ?_) (fun _ _ => ?_)
    | with_reducible refine gW_both (fun _ _ => ?_) (fun _ _ => ?_)
    | with_reducible refine condW_split (fun _ => ?_) (fun _ => ?_)
    | with_reducible refine gW_split (fun _ => ?_) (fun _ => ?_)
    | with_reducible refine pickW_split (fun _ => ?_) (fun _ => ?_)
    | (refine newW_intro ?_; intro bx hbx; (try simp only [fresh_box, fresh_tip, fresh_ty] at hbx))
    | (refine newT_plain ?_; intro bx hbx; (try simp only [fresh_box, fresh_tip, fresh_ty] at hbx))
    | refine Pure.use (hp1) ?_
    | refine Pure.head (hp1) ?_
    | refine storeX_w ?_
    | ((with_reducible refine And.intro ?_ ?_); omega)
    | refine bo_buildSlice (d' := ⟨⟩) ?_
    | (refine draw_all (by kernel_rfl) ?_)
    | refine finish_pure ?_ (by repeat' (first | exact AS.le.refl _ | assumption | (refine le_set (by first | assumption | (simp only [*]; done) | exact AS.le.fresh (by assumption) (by simp only [*])) ?_) | (refine le_ty (by first | assumption | (simp only [*]; done) | exact AS.le.fresh (by assumption) (by simp only [*])) ?_)))
    | simp -dsimp only [↓bp, bq, br, afin, bsk, cWrites, opsWrites, pieceGh, rsk, ne_eq, if_true, if_false, exists_eq_left', forall_const, forall_eq, Nat.reduceLT, Int.reduceSub, Nat.reduceAdd, Nat.reduceSub, Nat.reduceMul, Nat.reduceLeDiff, Nat.reduceEqDiff, Nat.reduceBEq, Nat.reduceBNe, Int.reduceNeg, Int.reduceAdd, Int.reduceMul, Int.reduceLE, Int.reduceLT, Int.reduceEq, Int.reduceToNat, reduceIte, reduceCtorEq, tbSizeC, h53, h35, h51, h15, h31, h13, *])
    refine Tri.mono (adds_tri G t.items 0 (by omega) (by omega) (by omega) hit _ b5 b3 h53 1 false (by simp -dsimp only [↓bp, bq, br, afin, bsk, cWrites, opsWrites, pieceGh, rsk, ne_eq, if_true, if_false, exists_eq_left', forall_const, forall_eq, Nat.reduceLT, Int.reduceSub, Nat.reduceAdd, Nat.reduceSub, Nat.reduceMul, Nat.reduceLeDiff, Nat.reduceEqDiff, Nat.reduceBEq, Nat.reduceBNe, Int.reduceNeg, Int.reduceAdd, Int.reduceMul, Int.reduceLE, Int.reduceLT, Int.reduceEq, Int.reduceToNat, reduceIte, reduceCtorEq, tbSizeC, h53, h35, h51, h15, h31, h13]) (by simp -dsimp only [↓bp, bq, br, afin, bsk, cWrites, opsWrites, pieceGh, rsk, ne_eq, if_true, if_false, exists_eq_left', forall_const, forall_eq, Nat.reduceLT, Int.reduceSub, Nat.reduceAdd, Nat.reduceSub, Nat.reduceMul, Nat.reduceLeDiff, Nat.reduceEqDiff, Nat.reduceBEq, Nat.reduceBNe, Int.reduceNeg, Int.reduceAdd, Int.reduceMul, Int.reduceLE, Int.reduceLT, Int.reduceEq, Int.reduceToNat, reduceIte, reduceCtorEq, tbSizeC, h53, h35, h51, h15, h31, h13]) (by omega) (fun _ => by omega) (by omega)) ?_
    rintro r σ' rfl
    have ha := adds_le t.items hle 0 (by omega) (by omega) (1, false) (by simp only; omega) (fun _ => by simp only; omega) (by simp only; omega)
    simp -dsimp only [↓bp, bq, br, afin, bsk, cWrites, opsWrites, pieceGh, rsk, ne_eq, if_true, if_false, exists_eq_left', forall_const, forall_eq, Nat.reduceLT, Int.reduceSub, Nat.reduceAdd, Nat.reduceSub, Nat.reduceMul, Nat.reduceLeDiff, Nat.reduceEqDiff, Nat.reduceBEq, Nat.reduceBNe, Int.reduceNeg, Int.reduceAdd, Int.reduceMul, Int.reduceLE, Int.reduceLT, Int.reduceEq, Int.reduceToNat, reduceIte, reduceCtorEq, tbSizeC, h53, h35, h51, h15, h31, h13]
    refine Tri.mono (adds_tri G t.tail 0 (by omega) (by omega) (by omega) htt _ b5 b3 h53 (adds t.items 0 (1, false)).1 (adds t.items 0 (1, false)).2 (by simp -dsimp only [↓bp, bq, br, afin, bsk, cWrites, opsWrites, pieceGh, rsk, ne_eq, if_true, if_false, exists_eq_left', forall_const, forall_eq, Nat.reduceLT, Int.reduceSub, Nat.reduceAdd, Nat.reduceSub, Nat.reduceMul, Nat.reduceLeDiff, Nat.reduceEqDiff, Nat.reduceBEq, Nat.reduceBNe, Int.reduceNeg, Int.reduceAdd, Int.reduceMul, Int.reduceLE, Int.reduceLT, Int.reduceEq, Int.reduceToNat, reduceIte, reduceCtorEq, tbSizeC, h53, h35, h51, h15, h31, h13]) (by simp -dsimp only [↓bp, bq, br, afin, bsk, cWrites, opsWrites, pieceGh, rsk, ne_eq, if_true, if_false, exists_eq_left', forall_const, forall_eq, Nat.reduceLT, Int.reduceSub, Nat.reduceAdd, Nat.reduceSub, Nat.reduceMul, Nat.reduceLeDiff, Nat.reduceEqDiff, Nat.reduceBEq, Nat.reduceBNe, Int.reduceNeg, Int.reduceAdd, Int.reduceMul, Int.reduceLE, Int.reduceLT, Int.reduceEq, Int.reduceToNat, reduceIte, reduceCtorEq, tbSizeC, h53, h35, h51, h15, h31, h13]) ha.1 ha.2.1 ha.2.2) ?_
    rintro r σ' rfl
    simp -dsimp only [↓bp, bq, br, afin, bsk, cWrites, opsWrites, pieceGh, rsk, ne_eq, if_true, if_false, exists_eq_left', forall_const, forall_eq, Nat.reduceLT, Int.reduceSub, Nat.reduceAdd, Nat.reduceSub, Nat.reduceMul, Nat.reduceLeDiff, Nat.reduceEqDiff, Nat.reduceBEq, Nat.reduceBNe, Int.reduceNeg, Int.reduceAdd, Int.reduceMul, Int.reduceLE, Int.reduceLT, Int.reduceEq, Int.reduceToNat, reduceIte, reduceCtorEq, tbSizeC, h53, h35, h51, h15, h31, h13]
    cases hfin : (adds t.tail 0 ((adds t.items 0 (1, false)).1, (adds t.items 0 (1, false)).2)).2
    · simp -dsimp only [↓bp, bq, br, afin, bsk, cWrites, opsWrites, pieceGh, rsk, ne_eq, if_true, if_false, exists_eq_left', forall_const, forall_eq, Nat.reduceLT, Int.reduceSub, Nat.reduceAdd, Nat.reduceSub, Nat.reduceMul, Nat.reduceLeDiff, Nat.reduceEqDiff, Nat.reduceBEq, Nat.reduceBNe, Int.reduceNeg, Int.reduceAdd, Int.reduceMul, Int.reduceLE, Int.reduceLT, Int.reduceEq, Int.reduceToNat, reduceIte, reduceCtorEq, tbSizeC, h53, h35, h51, h15, h31, h13]
      refine finish_pure ?_ (by repeat' (first | exact AS.le.refl _ | assumption | (refine le_set (by assumption) ?_)))
      rw [hse, hhd]
      simp only [k1, hfin, if_false, Bool.true_and, Bool.false_and, Bool.false_eq_true, if_true]
    · simp -dsimp only [↓bp, bq, br, afin, bsk, cWrites, opsWrites, pieceGh, rsk, ne_eq, if_true, if_false, exists_eq_left', forall_const, forall_eq, Nat.reduceLT, Int.reduceSub, Nat.reduceAdd, Nat.reduceSub, Nat.reduceMul, Nat.reduceLeDiff, Nat.reduceEqDiff, Nat.reduceBEq, Nat.reduceBNe, Int.reduceNeg, Int.reduceAdd, Int.reduceMul, Int.reduceLE, Int.reduceLT, Int.reduceEq, Int.reduceToNat, reduceIte, reduceCtorEq, tbSizeC, h53, h35, h51, h15, h31, h13]
      refine finish_pure ?_ (by repeat' (first | exact AS.le.refl _ | assumption | (refine le_set (by assumption) ?_)))
      rw [hse, hhd]
      simp only [k1, hfin, if_false, Bool.true_and, Bool.false_and, Bool.false_eq_true, if_true]
  · rw [hbr] at hhd hp1
    by_cases en : 0 ≤ t.num
    · have kn := eq_true en
      clear en
      simp only [kn, decide_true, Bool.and_true, Bool.true_and] at hhd
      repeat' (first
    | with_reducible refine condW_both (fun _ _ => ?_) (fun _ _ => ?_)
    | with_reducible refine gW_both (fun _ _ => ?_) (fun _ _ => ?_)
    | with_reducible refine condW_split (fun _ => ?_) (fun _ => ?_)
    | with_reducible refine gW_split (fun _ => ?_) (fun _ => ?_)
    | with_reducible refine pickW_split (fun _ => ?_) (fun _ => ?_)
    | (refine newW_intro ?_; intro bx hbx; (try simp only [fresh_box, fresh_tip, fresh_ty] at hbx))
    | (refine newT_plain ?_; intro bx hbx; (try simp only [fresh_box, fresh_tip, fresh_ty] at hbx))
    | refine Pure.use (hp1) ?_
    | refine Pure.head (hp1) ?_
    | refine storeX_w ?_
    | ((with_reducible refine And.intro ?_ ?_); omega)
    | refine bo_buildSlice (d' := ⟨⟩) ?_
    | (refine draw_all (by kernel_rfl) ?_)
    | refine finish_pure ?_ (by repeat' (first | exact AS.le.refl _ | assumption | (refine le_set (by first | assumption | (simp only [*]; done) | exact AS.le.fresh (by assumption) (by simp only [*])) ?_) | (refine le_ty (by first | assumption | (simp only [*]; done) | exact AS.le.fresh (by assumption) (by simp only [*])) ?_)))
    | simp -dsimp only [↓bp, bq, br, afin, bsk, cWrites, opsWrites, pieceGh, rsk, ne_eq, if_true, if_false, exists_eq_left', forall_const, forall_eq, Nat.reduceLT, Int.reduceSub, Nat.reduceAdd, Nat.reduceSub, Nat.reduceMul, Nat.reduceLeDiff, Nat.reduceEqDiff, Nat.reduceBEq, Nat.reduceBNe, Int.reduceNeg, Int.reduceAdd, Int.reduceMul, Int.reduceLE, Int.reduceLT, Int.reduceEq, Int.reduceToNat, reduceIte, reduceCtorEq, tbSizeC, h53, h35, h51, h15, h31, h13, kn, *])
      refine Tri.mono (adds_tri G t.items 0 (by omega) (by omega) (by omega) hit _ b5 b3 h53 1 (decide (t.num ≤ 1099511627776)) (by simp -dsimp only [↓bp, bq, br, afin, bsk, cWrites, opsWrites, pieceGh, rsk, ne_eq, if_true, if_false, exists_eq_left', forall_const, forall_eq, Nat.reduceLT, Int.reduceSub, Nat.reduceAdd, Nat.reduceSub, Nat.reduceMul, Nat.reduceLeDiff, Nat.reduceEqDiff, Nat.reduceBEq, Nat.reduceBNe, Int.reduceNeg, Int.reduceAdd, Int.reduceMul, Int.reduceLE, Int.reduceLT, Int.reduceEq, Int.reduceToNat, reduceIte, reduceCtorEq, tbSizeC, h53, h35, h51, h15, h31, h13]) (by simp -dsimp only [↓bp, bq, br, afin, bsk, cWrites, opsWrites, pieceGh, rsk, ne_eq, if_true, if_false, exists_eq_left', forall_const, forall_eq, Nat.reduceLT, Int.reduceSub, Nat.reduceAdd, Nat.reduceSub, Nat.reduceMul, Nat.reduceLeDiff, Nat.reduceEqDiff, Nat.reduceBEq, Nat.reduceBNe, Int.reduceNeg, Int.reduceAdd, Int.reduceMul, Int.reduceLE, Int.reduceLT, Int.reduceEq, Int.reduceToNat, reduceIte, reduceCtorEq, tbSizeC, h53, h35, h51, h15, h31, h13]) (by omega) (fun _ => by omega) (by omega)) ?_
      rintro r σ' rfl
      have ha := adds_le t.items hle 0 (by omega) (by omega) (1, (decide (t.num ≤ 1099511627776))) (by simp only; omega) (fun _ => by simp only; omega) (by simp only; omega)
      simp -dsimp only [↓bp, bq, br, afin, bsk, cWrites, opsWrites, pieceGh, rsk, ne_eq, if_true, if_false, exists_eq_left', forall_const, forall_eq, Nat.reduceLT, Int.reduceSub, Nat.reduceAdd, Nat.reduceSub, Nat.reduceMul, Nat.reduceLeDiff, Nat.reduceEqDiff, Nat.reduceBEq, Nat.reduceBNe, Int.reduceNeg, Int.reduceAdd, Int.reduceMul, Int.reduceLE, Int.reduceLT, Int.reduceEq, Int.reduceToNat, reduceIte, reduceCtorEq, tbSizeC, h53, h35, h51, h15, h31, h13]
      refine Tri.mono (adds_tri G t.tail 0 (by omega) (by omega) (by omega) htt _ b5 b3 h53 (adds t.items 0 (1, (decide (t.num ≤ 1099511627776)))).1 (adds t.items 0 (1, (decide (t.num ≤ 1099511627776)))).2 (by simp -dsimp only [↓bp, bq, br, afin, bsk, cWrites, opsWrites, pieceGh, rsk, ne_eq, if_true, if_false, exists_eq_left', forall_const, forall_eq, Nat.reduceLT, Int.reduceSub, Nat.reduceAdd, Nat.reduceSub, Nat.reduceMul, Nat.reduceLeDiff, Nat.reduceEqDiff, Nat.reduceBEq, Nat.reduceBNe, Int.reduceNeg, Int.reduceAdd, Int.reduceMul, Int.reduceLE, Int.reduceLT, Int.reduceEq, Int.reduceToNat, reduceIte, reduceCtorEq, tbSizeC, h53, h35, h51, h15, h31, h13]) (by simp -dsimp only [↓bp, bq, br, afin, bsk, cWrites, opsWrites, pieceGh, rsk, ne_eq, if_true, if_false, exists_eq_left', forall_const, forall_eq, Nat.reduceLT, Int.reduceSub, Nat.reduceAdd, Nat.reduceSub, Nat.reduceMul, Nat.reduceLeDiff, Nat.reduceEqDiff, Nat.reduceBEq, Nat.reduceBNe, Int.reduceNeg, Int.reduceAdd, Int.reduceMul, Int.reduceLE, Int.reduceLT, Int.reduceEq, Int.reduceToNat, reduceIte, reduceCtorEq, tbSizeC, h53, h35, h51, h15, h31, h13]) ha.1 ha.2.1 ha.2.2) ?_
      rintro r σ' rfl
      simp -dsimp only [↓bp, bq, br, afin, bsk, cWrites, opsWrites, pieceGh, rsk, ne_eq, if_true, if_false, exists_eq_left', forall_const, forall_eq, Nat.reduceLT, Int.reduceSub, Nat.reduceAdd, Nat.reduceSub, Nat.reduceMul, Nat.reduceLeDiff, Nat.reduceEqDiff, Nat.reduceBEq, Nat.reduceBNe, Int.reduceNeg, Int.reduceAdd, Int.reduceMul, Int.reduceLE, Int.reduceLT, Int.reduceEq, Int.reduceToNat, reduceIte, reduceCtorEq, tbSizeC, h53, h35, h51, h15, h31, h13]
      cases hfin : (adds t.tail 0 ((adds t.items 0 (1, (decide (t.num ≤ 1099511627776)))).1, (adds t.items 0 (1, (decide (t.num ≤ 1099511627776)))).2)).2
      · simp -dsimp only [↓bp, bq, br, afin, bsk, cWrites, opsWrites, pieceGh, rsk, ne_eq, if_true, if_false, exists_eq_left', forall_const, forall_eq, Nat.reduceLT, Int.reduceSub, Nat.reduceAdd, Nat.reduceSub, Nat.reduceMul, Nat.reduceLeDiff, Nat.reduceEqDiff, Nat.reduceBEq, Nat.reduceBNe, Int.reduceNeg, Int.reduceAdd, Int.reduceMul, Int.reduceLE, Int.reduceLT, Int.reduceEq, Int.reduceToNat, reduceIte, reduceCtorEq, tbSizeC, h53, h35, h51, h15, h31, h13]
        refine finish_pure ?_ (by repeat' (first | exact AS.le.refl _ | assumption | (refine le_set (by assumption) ?_)))
        rw [hse, hhd]
        simp only [k1, hfin, if_false, Bool.true_and, Bool.false_and, Bool.false_eq_true, if_true]
      · simp -dsimp only [↓bp, bq, br, afin, bsk, cWrites, opsWrites, pieceGh, rsk, ne_eq, if_true, if_false, exists_eq_left', forall_const, forall_eq, Nat.reduceLT, Int.reduceSub, Nat.reduceAdd, Nat.reduceSub, Nat.reduceMul, Nat.reduceLeDiff, Nat.reduceEqDiff, Nat.reduceBEq, Nat.reduceBNe, Int.reduceNeg, Int.reduceAdd, Int.reduceMul, Int.reduceLE, Int.reduceLT, Int.reduceEq, Int.reduceToNat, reduceIte, reduceCtorEq, tbSizeC, h53, h35, h51, h15, h31, h13]
        refine finish_pure ?_ (by repeat' (first | exact AS.le.refl _ | assumption | (refine le_set (by assumption) ?_)))
        rw [hse, hhd]
        simp only [k1, hfin, if_false, Bool.true_and, Bool.false_and, Bool.false_eq_true, if_true]
    · have kn := eq_false en
      clear en
      simp only [kn, decide_false, Bool.and_false, Bool.false_and] at hhd
      repeat' (first
    | with_reducible refine condW_both (fun _ _ => ?_) (fun _ _ => ?_)
    | with_reducible refine gW_both (fun _ _ => ?_) (fun _ _ => ?_)
    | with_reducible refine condW_split (fun _ => ?_) (fun _ => ?_)
    | with_reducible refine gW_split (fun _ => ?_) (fun _ => ?_)
    | with_reducible refine pickW_split (fun _ => ?_) (fun _ => ?_)
    | (refine newW_intro ?_; intro bx hbx; (try simp only [fresh_box, fresh_tip, fresh_ty] at hbx))
    | (refine newT_plain ?_; intro bx hbx; (try simp only [fresh_box, fresh_tip, fresh_ty] at hbx))
    | refine Pure.use (hp1) ?_
    | refine Pure.head (hp1) ?_
    | refine storeX_w ?_
    | ((with_reducible refine And.intro ?_ ?_); omega)
    | refine bo_buildSlice (d' := ⟨⟩) ?_
    | (refine draw_all (by kernel_rfl) ?_)
    | refine finish_pure ?_ (by repeat' (first | exact AS.le.refl _ | assumption | (refine le_set (by first | assumption | (simp only [*]; done) | exact AS.le.fresh (by assumption) (by simp only [*])) ?_) | (refine le_ty (by first | assumption | (simp only [*]; done) | exact AS.le.fresh (by assumption) (by simp only [*])) ?_)))
    | simp -dsimp only [↓bp, bq, br, afin, bsk, cWrites, opsWrites, pieceGh, rsk, ne_eq, if_true, if_false, exists_eq_left', forall_const, forall_eq, Nat.reduceLT, Int.reduceSub, Nat.reduceAdd, Nat.reduceSub, Nat.reduceMul, Nat.reduceLeDiff, Nat.reduceEqDiff, Nat.reduceBEq, Nat.reduceBNe, Int.reduceNeg, Int.reduceAdd, Int.reduceMul, Int.reduceLE, Int.reduceLT, Int.reduceEq, Int.reduceToNat, reduceIte, reduceCtorEq, tbSizeC, h53, h35, h51, h15, h31, h13, kn, *])
      refine Tri.mono (adds_tri G t.items 0 (by omega) (by omega) (by omega) hit _ b5 b3 h53 1 false (by simp -dsimp only [↓bp, bq, br, afin, bsk, cWrites, opsWrites, pieceGh, rsk, ne_eq, if_true, if_false, exists_eq_left', forall_const, forall_eq, Nat.reduceLT, Int.reduceSub, Nat.reduceAdd, Nat.reduceSub, Nat.reduceMul, Nat.reduceLeDiff, Nat.reduceEqDiff, Nat.reduceBEq, Nat.reduceBNe, Int.reduceNeg, Int.reduceAdd, Int.reduceMul, Int.reduceLE, Int.reduceLT, Int.reduceEq, Int.reduceToNat, reduceIte, reduceCtorEq, tbSizeC, h53, h35, h51, h15, h31, h13]) (by simp -dsimp only [↓bp, bq, br, afin, bsk, cWrites, opsWrites, pieceGh, rsk, ne_eq, if_true, if_false, exists_eq_left', forall_const, forall_eq, Nat.reduceLT, Int.reduceSub, Nat.reduceAdd, Nat.reduceSub, Nat.reduceMul, Nat.reduceLeDiff, Nat.reduceEqDiff, Nat.reduceBEq, Nat.reduceBNe, Int.reduceNeg, Int.reduceAdd, Int.reduceMul, Int.reduceLE, Int.reduceLT, Int.reduceEq, Int.reduceToNat, reduceIte, reduceCtorEq, tbSizeC, h53, h35, h51, h15, h31, h13]) (by omega) (fun _ => by omega) (by omega)) ?_
      rintro r σ' rfl
      have ha := adds_le t.items hle 0 (by omega) (by omega) (1, false) (by simp only; omega) (fun _ => by simp only; omega) (by simp only; omega)
      simp -dsimp only [↓bp, bq, br, afin, bsk, cWrites, opsWrites, pieceGh, rsk, ne_eq, if_true, if_false, exists_eq_left', forall_const, forall_eq, Nat.reduceLT, Int.reduceSub, Nat.reduceAdd, Nat.reduceSub, Nat.reduceMul, Nat.reduceLeDiff, Nat.reduceEqDiff, Nat.reduceBEq, Nat.reduceBNe, Int.reduceNeg, Int.reduceAdd, Int.reduceMul, Int.reduceLE, Int.reduceLT, Int.reduceEq, Int.reduceToNat, reduceIte, reduceCtorEq, tbSizeC, h53, h35, h51, h15, h31, h13]
      refine Tri.mono (adds_tri G t.tail 0 (by omega) (by omega) (by omega) htt _ b5 b3 h53 (adds t.items 0 (1, false)).1 (adds t.items 0 (1, false)).2 (by simp -dsimp only [↓bp, bq, br, afin, bsk, cWrites, opsWrites, pieceGh, rsk, ne_eq, if_true, if_false, exists_eq_left', forall_const, forall_eq, Nat.reduceLT, Int.reduceSub, Nat.reduceAdd, Nat.reduceSub, Nat.reduceMul, Nat.reduceLeDiff, Nat.reduceEqDiff, Nat.reduceBEq, Nat.reduceBNe, Int.reduceNeg, Int.reduceAdd, Int.reduceMul, Int.reduceLE, Int.reduceLT, Int.reduceEq, Int.reduceToNat, reduceIte, reduceCtorEq, tbSizeC, h53, h35, h51, h15, h31, h13]) (by simp -dsimp only [↓bp, bq, br, afin, bsk, cWrites, opsWrites, pieceGh, rsk, ne_eq, if_true, if_false, exists_eq_left', forall_const, forall_eq, Nat.reduceLT, Int.reduceSub, Nat.reduceAdd, Nat.reduceSub, Nat.reduceMul, Nat.reduceLeDiff, Nat.reduceEqDiff, Nat.reduceBEq, Nat.reduceBNe, Int.reduceNeg, Int.reduceAdd, Int.reduceMul, Int.reduceLE, Int.reduceLT, Int.reduceEq, Int.reduceToNat, reduceIte, reduceCtorEq, tbSizeC, h53, h35, h51, h15, h31, h13]) ha.1 ha.2.1 ha.2.2) ?_
      rintro r σ' rfl
      simp -dsimp only [↓bp, bq, br, afin, bsk, cWrites, opsWrites, pieceGh, rsk, ne_eq, if_true, if_false, exists_eq_left', forall_const, forall_eq, Nat.reduceLT, Int.reduceSub, Nat.reduceAdd, Nat.reduceSub, Nat.reduceMul, Nat.reduceLeDiff, Nat.reduceEqDiff, Nat.reduceBEq, Nat.reduceBNe, Int.reduceNeg, Int.reduceAdd, Int.reduceMul, Int.reduceLE, Int.reduceLT, Int.reduceEq, Int.reduceToNat, reduceIte, reduceCtorEq, tbSizeC, h53, h35, h51, h15, h31, h13]
      cases hfin : (adds t.tail 0 ((adds t.items 0 (1, false)).1, (adds t.items 0 (1, false)).2)).2
      · simp -dsimp only [↓bp, bq, br, afin, bsk, cWrites, opsWrites, pieceGh, rsk, ne_eq, if_true, if_false, exists_eq_left', forall_const, forall_eq, Nat.reduceLT, Int.reduceSub, Nat.reduceAdd, Nat.reduceSub, Nat.reduceMul, Nat.reduceLeDiff, Nat.reduceEqDiff, Nat.reduceBEq, Nat.reduceBNe, Int.reduceNeg, Int.reduceAdd, Int.reduceMul, Int.reduceLE, Int.reduceLT, Int.reduceEq, Int.reduceToNat, reduceIte, reduceCtorEq, tbSizeC, h53, h35, h51, h15, h31, h13]
        refine finish_pure ?_ (by repeat' (first | exact AS.le.refl _ | assumption | (refine le_set (by assumption) ?_)))
        rw [hse, hhd]
        simp only [k1, hfin, if_false, Bool.true_and, Bool.false_and, Bool.false_eq_true, if_true]
      · simp -dsimp only [↓bp, bq, br, afin, bsk, cWrites, opsWrites, pieceGh, rsk, ne_eq, if_true, if_false, exists_eq_left', forall_const, forall_eq, Nat.reduceLT, Int.reduceSub, Nat.reduceAdd, Nat.reduceSub, Nat.reduceMul, Nat.reduceLeDiff, Nat.reduceEqDiff, Nat.reduceBEq, Nat.reduceBNe, Int.reduceNeg, Int.reduceAdd, Int.reduceMul, Int.reduceLE, Int.reduceLT, Int.reduceEq, Int.reduceToNat, reduceIte, reduceCtorEq, tbSizeC, h53, h35, h51, h15, h31, h13]
        refine finish_pure ?_ (by repeat' (first | exact AS.le.refl _ | assumption | (refine le_set (by assumption) ?_)))
        rw [hse, hhd]
        simp only [k1, hfin, if_false, Bool.true_and, Bool.false_and, Bool.false_eq_true, if_true]
end Go.Proofs.YtpginpbcndlfmaaDoor
