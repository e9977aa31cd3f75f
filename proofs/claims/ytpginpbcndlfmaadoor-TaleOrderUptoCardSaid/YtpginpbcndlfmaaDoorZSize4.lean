/- Right terms, and their size: the function at a list. -/
import Derived.Test.YtpginpbcndlfmaaDoorZSize2
set_option linter.unusedVariables false
set_option linter.unusedSimpArgs false
set_option maxRecDepth 20000
set_option linter.defProp false
namespace Go.Proofs.YtpginpbcndlfmaaDoor
open Go Go.Av
def tbSize4 := And.intro (And.intro (And.intro (And.intro @tf3 @tf4) (And.intro @tf5 (And.intro @tf61 @tf9))) (And.intro (And.intro @tf38 (And.intro @tf37 @tf22)) (And.intro @tf40 (And.intro @Term.flat_enc @Term.isv_enc)))) (And.intro (And.intro (And.intro @Term.fold_enc (And.intro @isv_encs @flat_encs)) (And.intro @len_encs (And.intro @ix_encs @ix_encs'))) (And.intro (And.intro @isv_lims (And.intro @flat_lims @len_lims)) (And.intro @ix_lims (And.intro @ix_lims' @flat_limA))))
variable (G : Nat → AV)
set_option maxHeartbeats 4000000 in
theorem size_list (t : Term) (hb : t.bulk ≤ 1000000000) (e7 : t.knd = 7) (hit : ∀ x, x ∈ t.items → Pure Tryd.prog G 43 [x.enc] (.int .i64 (size x))) (htt : ∀ x, x ∈ t.tail → Pure Tryd.prog G 43 [x.enc] (.int .i64 (size x))) :
    Pure Tryd.prog G 43 [t.enc] (.int .i64 (size t)) := by
  have hli := len_items t
  have hlt := len_tail t
  have hll := len_limbs t
  have hp4 := bare_pure4 G t
  have hse := size_eq t
  have hle := fun x (_ : x ∈ t.items) => size_le x
  have hw1 : IntKind.i64.wrap (1 + (t.limbs.length : Int)) = 1 + t.limbs.length := wrap_nat (by omega) (by omega)
  have hkn := t.knd_nn
  intro σ
  refine Tri.of_awp mixed Tryd.func43 rfl (by kernel_rfl) (by kernel_rfl) (by simp [Tryd.ntmps43]) Tryd.results43 ?_
  simp -dsimp only [↓bp, bq, br, afin, bsk, cWrites, opsWrites, pieceGh, rsk, ne_eq, if_true, if_false, exists_eq_left', forall_const, forall_eq, Nat.reduceLT, Int.reduceSub, Nat.reduceAdd, Nat.reduceSub, Nat.reduceMul, Nat.reduceLeDiff, Nat.reduceEqDiff, Nat.reduceBEq, Nat.reduceBNe, Int.reduceNeg, Int.reduceAdd, Int.reduceMul, Int.reduceLE, Int.reduceLT, Int.reduceEq, Int.reduceToNat, reduceIte, reduceCtorEq, tbSize4]
  refine newW_intro fun b1 h1 => ?_
  simp -dsimp only [↓bp, bq, br, afin, bsk, cWrites, opsWrites, pieceGh, rsk, ne_eq, if_true, if_false, exists_eq_left', forall_const, forall_eq, Nat.reduceLT, Int.reduceSub, Nat.reduceAdd, Nat.reduceSub, Nat.reduceMul, Nat.reduceLeDiff, Nat.reduceEqDiff, Nat.reduceBEq, Nat.reduceBNe, Int.reduceNeg, Int.reduceAdd, Int.reduceMul, Int.reduceLE, Int.reduceLT, Int.reduceEq, Int.reduceToNat, reduceIte, reduceCtorEq, tbSize4]
  refine newT_plain fun b3 h3 => ?_
  simp only [fresh_box] at h3
  obtain ⟨h3, h31, h13⟩ := h3
  simp -dsimp only [↓bp, bq, br, afin, bsk, cWrites, opsWrites, pieceGh, rsk, ne_eq, if_true, if_false, exists_eq_left', forall_const, forall_eq, Nat.reduceLT, Int.reduceSub, Nat.reduceAdd, Nat.reduceSub, Nat.reduceMul, Nat.reduceLeDiff, Nat.reduceEqDiff, Nat.reduceBEq, Nat.reduceBNe, Int.reduceNeg, Int.reduceAdd, Int.reduceMul, Int.reduceLE, Int.reduceLT, Int.reduceEq, Int.reduceToNat, reduceIte, reduceCtorEq, tbSize4]
  refine newT_plain fun b5 h5 => ?_
  simp only [fresh_box] at h5
  obtain ⟨⟨h5, h51, h15⟩, h53, h35⟩ := h5
  have k1 := eq_false (show ¬ t.knd = 1 by omega)
  have k2 := eq_false (show ¬ t.knd = 2 by omega)
  have k3 := eq_false (show ¬ t.knd = 3 by omega)
  have k4 := eq_false (show ¬ t.knd = 4 by omega)
  have k5 := eq_false (show ¬ t.knd = 5 by omega)
  have k6 := eq_false (show ¬ t.knd = 6 by omega)
  have k7 := eq_true e7
  obtain ⟨f0, hf0⟩ : ∃ f0, f0 = (bare t false false true true && decide ((t.tail.length : Int) ≤ if (t.items.length : Int) < 1 then (t.items.length : Int) else 1)) := ⟨_, rfl⟩
  have hhd : head t = (1, 1, f0 && t.tail.all fun x => decide (x.knd ≠ 7)) := by unfold head; rw [if_neg (by omega), if_neg (by omega), if_neg (by omega), if_neg (by omega), if_pos e7, hf0]
  clear e7
  cases hbr : bare t false false true true
  · rw [hbr] at hp4 hf0
    simp only [Bool.false_and] at hf0
    repeat' (first
    | with_reducible refine condW_both (fun _ _ => ?_) (fun _ _ => ?_)
    | with_reducible refine gW_both (fun _ _ => ?_) (fun _ _ => ?_)
    | with_reducible refine condW_split (fun _ => ?_) (fun _ => ?_)
    | with_reducible refine gW_split (fun _ => ?_) (fun _ => ?_)
    | with_reducible refine pickW_split (fun _ => ?_) (fun _ => ?_)
    | (refine newW_intro ?_; intro bx hbx; (try simp only [fresh_box, fresh_tip, fresh_ty] at hbx))
    | (refine newT_plain ?_; intro bx hbx; (try simp only [fresh_box, fresh_tip, fresh_ty] at hbx))
    | refine Pure.use (hp4) ?_
    | refine Pure.head (hp4) ?_
    | refine storeX_w ?_
    | ((with_reducible refine And.intro ?_ ?_); omega)
    | refine bo_buildSlice (d' := ⟨⟩) ?_
    | (refine draw_all (by kernel_rfl) ?_)
    | refine finish_pure ?_ (by repeat' (first | exact AS.le.refl _ | assumption | (refine le_set (by first | assumption | (simp only [*]; done) | exact AS.le.fresh (by assumption) (by simp only [*])) ?_) | (refine le_ty (by first | assumption | (simp only [*]; done) | exact AS.le.fresh (by assumption) (by simp only [*])) ?_)))
    | simp -dsimp only [↓bp, bq, br, afin, bsk, cWrites, opsWrites, pieceGh, rsk, ne_eq, if_true, if_false, exists_eq_left', forall_const, forall_eq, Nat.reduceLT, Int.reduceSub, Nat.reduceAdd, Nat.reduceSub, Nat.reduceMul, Nat.reduceLeDiff, Nat.reduceEqDiff, Nat.reduceBEq, Nat.reduceBNe, Int.reduceNeg, Int.reduceAdd, Int.reduceMul, Int.reduceLE, Int.reduceLT, Int.reduceEq, Int.reduceToNat, reduceIte, reduceCtorEq, tbSize4, h53, h35, h51, h15, h31, h13, *])
    refine loop_intro (fun n e σ' => ∃ i : Nat, i ≤ t.tail.length ∧ n = t.tail.length - i ∧ e 80 = .int .i64 i ∧ σ.le σ' ∧ σ'.box b1 = some [.int .u8 t.knd, .bool t.neg, lims t.limbs, .str t.text, .int .i64 t.num, encs t.items, encs t.tail] ∧
        σ'.box b3 = some [.int .i64 1] ∧ σ'.box b5 = some [.bool (f0 && (t.tail.take i).all fun x => decide (x.knd ≠ 7))]) t.tail.length ⟨0, by omega, by omega, by simp -dsimp only [↓bp, bq, br, afin, bsk, cWrites, opsWrites, pieceGh, rsk, ne_eq, if_true, if_false, exists_eq_left', forall_const, forall_eq, Nat.reduceLT, Int.reduceSub, Nat.reduceAdd, Nat.reduceSub, Nat.reduceMul, Nat.reduceLeDiff, Nat.reduceEqDiff, Nat.reduceBEq, Nat.reduceBNe, Int.reduceNeg, Int.reduceAdd, Int.reduceMul, Int.reduceLE, Int.reduceLT, Int.reduceEq, Int.reduceToNat, reduceIte, reduceCtorEq, tbSize4]; rfl, by repeat' (first | exact AS.le.refl _ | assumption | (refine le_set (by assumption) ?_)), by simp -dsimp only [↓bp, bq, br, afin, bsk, cWrites, opsWrites, pieceGh, rsk, ne_eq, if_true, if_false, exists_eq_left', forall_const, forall_eq, Nat.reduceLT, Int.reduceSub, Nat.reduceAdd, Nat.reduceSub, Nat.reduceMul, Nat.reduceLeDiff, Nat.reduceEqDiff, Nat.reduceBEq, Nat.reduceBNe, Int.reduceNeg, Int.reduceAdd, Int.reduceMul, Int.reduceLE, Int.reduceLT, Int.reduceEq, Int.reduceToNat, reduceIte, reduceCtorEq, tbSize4, h53, h35, h51, h15, h31, h13], by simp -dsimp only [↓bp, bq, br, afin, bsk, cWrites, opsWrites, pieceGh, rsk, ne_eq, if_true, if_false, exists_eq_left', forall_const, forall_eq, Nat.reduceLT, Int.reduceSub, Nat.reduceAdd, Nat.reduceSub, Nat.reduceMul, Nat.reduceLeDiff, Nat.reduceEqDiff, Nat.reduceBEq, Nat.reduceBNe, Int.reduceNeg, Int.reduceAdd, Int.reduceMul, Int.reduceLE, Int.reduceLT, Int.reduceEq, Int.reduceToNat, reduceIte, reduceCtorEq, tbSize4, h53, h35, h51, h15, h31, h13], by simp [AS.setBox, h53, h35, h51, h15, h31, h13, hf0]⟩ ?_
    rintro n v σ' ⟨i, hi, rfl, h80, hle', hB1, hB3, hB5⟩
    simp -dsimp only [↓bp, bq, br, afin, bsk, cWrites, opsWrites, pieceGh, rsk, ne_eq, if_true, if_false, exists_eq_left', forall_const, forall_eq, Nat.reduceLT, Int.reduceSub, Nat.reduceAdd, Nat.reduceSub, Nat.reduceMul, Nat.reduceLeDiff, Nat.reduceEqDiff, Nat.reduceBEq, Nat.reduceBNe, Int.reduceNeg, Int.reduceAdd, Int.reduceMul, Int.reduceLE, Int.reduceLT, Int.reduceEq, Int.reduceToNat, reduceIte, reduceCtorEq, tbSize4] at h80
    simp -dsimp only [↓bp, bq, br, afin, bsk, cWrites, opsWrites, pieceGh, rsk, ne_eq, if_true, if_false, exists_eq_left', forall_const, forall_eq, Nat.reduceLT, Int.reduceSub, Nat.reduceAdd, Nat.reduceSub, Nat.reduceMul, Nat.reduceLeDiff, Nat.reduceEqDiff, Nat.reduceBEq, Nat.reduceBNe, Int.reduceNeg, Int.reduceAdd, Int.reduceMul, Int.reduceLE, Int.reduceLT, Int.reduceEq, Int.reduceToNat, reduceIte, reduceCtorEq, tbSize4, h80]
    refine condW_dec (fun hlt2 => ?_) (fun hge2 => ?_)
    · obtain ⟨x, hx⟩ : ∃ x, t.tail[i]? = some x := ⟨_, List.getElem?_eq_getElem (by omega)⟩
      have hsn : (f0 && (t.tail.take (i + 1)).all (fun x => decide (x.knd ≠ 7))) = ((f0 && (t.tail.take i).all fun x => decide (x.knd ≠ 7)) && decide (x.knd ≠ 7)) := by rw [take_succ_get _ _ _ hx, List.all_append]; simp [Bool.and_assoc]
      obtain ⟨g, hg⟩ : ∃ g, g = (f0 && (t.tail.take i).all fun x => decide (x.knd ≠ 7)) := ⟨_, rfl⟩
      rw [← hg] at hB5 hsn
      simp -dsimp only [↓bp, bq, br, afin, bsk, cWrites, opsWrites, pieceGh, rsk, ne_eq, if_true, if_false, exists_eq_left', forall_const, forall_eq, Nat.reduceLT, Int.reduceSub, Nat.reduceAdd, Nat.reduceSub, Nat.reduceMul, Nat.reduceLeDiff, Nat.reduceEqDiff, Nat.reduceBEq, Nat.reduceBNe, Int.reduceNeg, Int.reduceAdd, Int.reduceMul, Int.reduceLE, Int.reduceLT, Int.reduceEq, Int.reduceToNat, reduceIte, reduceCtorEq, tbSize4, h80, hx]
      refine newT_plain fun b7 h7 => ?_
      have n1 : ¬ b1 = b7 := fun e => by rw [← e] at h7; rw [h7.1] at hB1; cases hB1
      have n3 : ¬ b3 = b7 := fun e => by rw [← e] at h7; rw [h7.1] at hB3; cases hB3
      have n5 : ¬ b5 = b7 := fun e => by rw [← e] at h7; rw [h7.1] at hB5; cases hB5
      have m5 : ¬ b7 = b5 := fun e => n5 e.symm
      cases g with
      | false =>
        simp -dsimp only [↓bp, bq, br, afin, bsk, cWrites, opsWrites, pieceGh, rsk, ne_eq, if_true, if_false, exists_eq_left', forall_const, forall_eq, Nat.reduceLT, Int.reduceSub, Nat.reduceAdd, Nat.reduceSub, Nat.reduceMul, Nat.reduceLeDiff, Nat.reduceEqDiff, Nat.reduceBEq, Nat.reduceBNe, Int.reduceNeg, Int.reduceAdd, Int.reduceMul, Int.reduceLE, Int.reduceLT, Int.reduceEq, Int.reduceToNat, reduceIte, reduceCtorEq, tbSize4, h80, hx, hB1, hB3, hB5, n1, n3, n5, m5, h53, h35, h51, h15, h31, h13]
        refine ⟨t.tail.length - (i + 1), by omega, i + 1, by omega, rfl, by rw [wrap_nat (by omega) (by omega)]; rfl, by repeat' (first | assumption | (refine le_set (by first | assumption | exact hle'.fresh h7) ?_)), ?_⟩
        rw [hsn]
        first | rfl | simp
      | true =>
        simp -dsimp only [↓bp, bq, br, afin, bsk, cWrites, opsWrites, pieceGh, rsk, ne_eq, if_true, if_false, exists_eq_left', forall_const, forall_eq, Nat.reduceLT, Int.reduceSub, Nat.reduceAdd, Nat.reduceSub, Nat.reduceMul, Nat.reduceLeDiff, Nat.reduceEqDiff, Nat.reduceBEq, Nat.reduceBNe, Int.reduceNeg, Int.reduceAdd, Int.reduceMul, Int.reduceLE, Int.reduceLT, Int.reduceEq, Int.reduceToNat, reduceIte, reduceCtorEq, tbSize4, h80, hx, hB1, hB3, hB5, n1, n3, n5, m5, h53, h35, h51, h15, h31, h13]
        refine ⟨t.tail.length - (i + 1), by omega, i + 1, by omega, rfl, by rw [wrap_nat (by omega) (by omega)]; rfl, by repeat' (first | assumption | (refine le_set (by first | assumption | exact hle'.fresh h7) ?_)), ?_⟩
        rw [hsn]
        first | rfl | simp
    · have : i = t.tail.length := by omega
      subst this
      rw [List.take_length] at hB5
      simp -dsimp only [↓bp, bq, br, afin, bsk, cWrites, opsWrites, pieceGh, rsk, ne_eq, if_true, if_false, exists_eq_left', forall_const, forall_eq, Nat.reduceLT, Int.reduceSub, Nat.reduceAdd, Nat.reduceSub, Nat.reduceMul, Nat.reduceLeDiff, Nat.reduceEqDiff, Nat.reduceBEq, Nat.reduceBNe, Int.reduceNeg, Int.reduceAdd, Int.reduceMul, Int.reduceLE, Int.reduceLT, Int.reduceEq, Int.reduceToNat, reduceIte, reduceCtorEq, tbSize4, h80, hB1, hB3, hB5, h53, h35, h51, h15, h31, h13]
      refine Tri.mono (adds_tri G t.items 1 (by omega) (by omega) (by omega) hit _ b5 b3 h53 1 (f0 && t.tail.all fun x => decide (x.knd ≠ 7)) (by simp -dsimp only [↓bp, bq, br, afin, bsk, cWrites, opsWrites, pieceGh, rsk, ne_eq, if_true, if_false, exists_eq_left', forall_const, forall_eq, Nat.reduceLT, Int.reduceSub, Nat.reduceAdd, Nat.reduceSub, Nat.reduceMul, Nat.reduceLeDiff, Nat.reduceEqDiff, Nat.reduceBEq, Nat.reduceBNe, Int.reduceNeg, Int.reduceAdd, Int.reduceMul, Int.reduceLE, Int.reduceLT, Int.reduceEq, Int.reduceToNat, reduceIte, reduceCtorEq, tbSize4, h53, h35, h51, h15, h31, h13, hB1, hB3, hB5]) (by simp -dsimp only [↓bp, bq, br, afin, bsk, cWrites, opsWrites, pieceGh, rsk, ne_eq, if_true, if_false, exists_eq_left', forall_const, forall_eq, Nat.reduceLT, Int.reduceSub, Nat.reduceAdd, Nat.reduceSub, Nat.reduceMul, Nat.reduceLeDiff, Nat.reduceEqDiff, Nat.reduceBEq, Nat.reduceBNe, Int.reduceNeg, Int.reduceAdd, Int.reduceMul, Int.reduceLE, Int.reduceLT, Int.reduceEq, Int.reduceToNat, reduceIte, reduceCtorEq, tbSize4, h53, h35, h51, h15, h31, h13, hB1, hB3, hB5]) (by omega) (fun _ => by omega) (by omega)) ?_
      rintro r σ' rfl
      have ha := adds_le t.items hle 1 (by omega) (by omega) (1, (f0 && t.tail.all fun x => decide (x.knd ≠ 7))) (by simp only; omega) (fun _ => by simp only; omega) (by simp only; omega)
      simp -dsimp only [↓bp, bq, br, afin, bsk, cWrites, opsWrites, pieceGh, rsk, ne_eq, if_true, if_false, exists_eq_left', forall_const, forall_eq, Nat.reduceLT, Int.reduceSub, Nat.reduceAdd, Nat.reduceSub, Nat.reduceMul, Nat.reduceLeDiff, Nat.reduceEqDiff, Nat.reduceBEq, Nat.reduceBNe, Int.reduceNeg, Int.reduceAdd, Int.reduceMul, Int.reduceLE, Int.reduceLT, Int.reduceEq, Int.reduceToNat, reduceIte, reduceCtorEq, tbSize4, h53, h35, h51, h15, h31, h13, hB1, hB3, hB5]
      refine Tri.mono (adds_tri G t.tail 0 (by omega) (by omega) (by omega) htt _ b5 b3 h53 (adds t.items 1 (1, (f0 && t.tail.all fun x => decide (x.knd ≠ 7)))).1 (adds t.items 1 (1, (f0 && t.tail.all fun x => decide (x.knd ≠ 7)))).2 (by simp -dsimp only [↓bp, bq, br, afin, bsk, cWrites, opsWrites, pieceGh, rsk, ne_eq, if_true, if_false, exists_eq_left', forall_const, forall_eq, Nat.reduceLT, Int.reduceSub, Nat.reduceAdd, Nat.reduceSub, Nat.reduceMul, Nat.reduceLeDiff, Nat.reduceEqDiff, Nat.reduceBEq, Nat.reduceBNe, Int.reduceNeg, Int.reduceAdd, Int.reduceMul, Int.reduceLE, Int.reduceLT, Int.reduceEq, Int.reduceToNat, reduceIte, reduceCtorEq, tbSize4, h53, h35, h51, h15, h31, h13, hB1, hB3, hB5]) (by simp -dsimp only [↓bp, bq, br, afin, bsk, cWrites, opsWrites, pieceGh, rsk, ne_eq, if_true, if_false, exists_eq_left', forall_const, forall_eq, Nat.reduceLT, Int.reduceSub, Nat.reduceAdd, Nat.reduceSub, Nat.reduceMul, Nat.reduceLeDiff, Nat.reduceEqDiff, Nat.reduceBEq, Nat.reduceBNe, Int.reduceNeg, Int.reduceAdd, Int.reduceMul, Int.reduceLE, Int.reduceLT, Int.reduceEq, Int.reduceToNat, reduceIte, reduceCtorEq, tbSize4, h53, h35, h51, h15, h31, h13, hB1, hB3, hB5]) ha.1 ha.2.1 ha.2.2) ?_
      rintro r σ' rfl
      simp -dsimp only [↓bp, bq, br, afin, bsk, cWrites, opsWrites, pieceGh, rsk, ne_eq, if_true, if_false, exists_eq_left', forall_const, forall_eq, Nat.reduceLT, Int.reduceSub, Nat.reduceAdd, Nat.reduceSub, Nat.reduceMul, Nat.reduceLeDiff, Nat.reduceEqDiff, Nat.reduceBEq, Nat.reduceBNe, Int.reduceNeg, Int.reduceAdd, Int.reduceMul, Int.reduceLE, Int.reduceLT, Int.reduceEq, Int.reduceToNat, reduceIte, reduceCtorEq, tbSize4, h53, h35, h51, h15, h31, h13, hB1, hB3, hB5]
      cases hfin : (adds t.tail 0 ((adds t.items 1 (1, (f0 && t.tail.all fun x => decide (x.knd ≠ 7)))).1, (adds t.items 1 (1, (f0 && t.tail.all fun x => decide (x.knd ≠ 7)))).2)).2
      · simp -dsimp only [↓bp, bq, br, afin, bsk, cWrites, opsWrites, pieceGh, rsk, ne_eq, if_true, if_false, exists_eq_left', forall_const, forall_eq, Nat.reduceLT, Int.reduceSub, Nat.reduceAdd, Nat.reduceSub, Nat.reduceMul, Nat.reduceLeDiff, Nat.reduceEqDiff, Nat.reduceBEq, Nat.reduceBNe, Int.reduceNeg, Int.reduceAdd, Int.reduceMul, Int.reduceLE, Int.reduceLT, Int.reduceEq, Int.reduceToNat, reduceIte, reduceCtorEq, tbSize4, h53, h35, h51, h15, h31, h13, hB1, hB3, hB5]
        refine finish_pure ?_ (by repeat' (first | exact AS.le.refl _ | assumption | (refine le_set (by assumption) ?_)))
        rw [hse, hhd]
        simp only [k1, hfin, if_false, Bool.true_and, Bool.false_and, Bool.false_eq_true, if_true]
      · simp -dsimp only [↓bp, bq, br, afin, bsk, cWrites, opsWrites, pieceGh, rsk, ne_eq, if_true, if_false, exists_eq_left', forall_const, forall_eq, Nat.reduceLT, Int.reduceSub, Nat.reduceAdd, Nat.reduceSub, Nat.reduceMul, Nat.reduceLeDiff, Nat.reduceEqDiff, Nat.reduceBEq, Nat.reduceBNe, Int.reduceNeg, Int.reduceAdd, Int.reduceMul, Int.reduceLE, Int.reduceLT, Int.reduceEq, Int.reduceToNat, reduceIte, reduceCtorEq, tbSize4, h53, h35, h51, h15, h31, h13, hB1, hB3, hB5]
        refine finish_pure ?_ (by repeat' (first | exact AS.le.refl _ | assumption | (refine le_set (by assumption) ?_)))
        rw [hse, hhd]
        simp only [k1, hfin, if_false, Bool.true_and, Bool.false_and, Bool.false_eq_true, if_true]
  · rw [hbr] at hp4 hf0
    simp only [Bool.true_and] at hf0
    repeat' (first
    | with_reducible refine condW_both (fun _ _ => ?_) (fun _ _ => ?_)
    | with_reducible refine gW_both (fun _ _ => ?_) (fun _ _ => ?_)
    | with_reducible refine condW_split (fun _ => ?_) (fun _ => ?_)
    | with_reducible refine gW_split (fun _ => ?_) (fun _ => ?_)
    | with_reducible refine pickW_split (fun _ => ?_) (fun _ => ?_)
    | (refine newW_intro ?_; intro bx hbx; (try simp only [fresh_box, fresh_tip, fresh_ty] at hbx))
    | (refine newT_plain ?_; intro bx hbx; (try simp only [fresh_box, fresh_tip, fresh_ty] at hbx))
    | refine Pure.use (hp4) ?_
    | refine Pure.head (hp4) ?_
    | refine storeX_w ?_
    | ((with_reducible refine And.intro ?_ ?_); omega)
    | refine bo_buildSlice (d' := ⟨⟩) ?_
    | (refine draw_all (by kernel_rfl) ?_)
    | refine finish_pure ?_ (by repeat' (first | exact AS.le.refl _ | assumption | (refine le_set (by first | assumption | (simp only [*]; done) | exact AS.le.fresh (by assumption) (by simp only [*])) ?_) | (refine le_ty (by first | assumption | (simp only [*]; done) | exact AS.le.fresh (by assumption) (by simp only [*])) ?_)))
    | simp -dsimp only [↓bp, bq, br, afin, bsk, cWrites, opsWrites, pieceGh, rsk, ne_eq, if_true, if_false, exists_eq_left', forall_const, forall_eq, Nat.reduceLT, Int.reduceSub, Nat.reduceAdd, Nat.reduceSub, Nat.reduceMul, Nat.reduceLeDiff, Nat.reduceEqDiff, Nat.reduceBEq, Nat.reduceBNe, Int.reduceNeg, Int.reduceAdd, Int.reduceMul, Int.reduceLE, Int.reduceLT, Int.reduceEq, Int.reduceToNat, reduceIte, reduceCtorEq, tbSize4, h53, h35, h51, h15, h31, h13, *])
    refine loop_intro (fun n e σ' => ∃ i : Nat, i ≤ t.tail.length ∧ n = t.tail.length - i ∧ e 80 = .int .i64 i ∧ σ.le σ' ∧ σ'.box b1 = some [.int .u8 t.knd, .bool t.neg, lims t.limbs, .str t.text, .int .i64 t.num, encs t.items, encs t.tail] ∧
        σ'.box b3 = some [.int .i64 1] ∧ σ'.box b5 = some [.bool (f0 && (t.tail.take i).all fun x => decide (x.knd ≠ 7))]) t.tail.length ⟨0, by omega, by omega, by simp -dsimp only [↓bp, bq, br, afin, bsk, cWrites, opsWrites, pieceGh, rsk, ne_eq, if_true, if_false, exists_eq_left', forall_const, forall_eq, Nat.reduceLT, Int.reduceSub, Nat.reduceAdd, Nat.reduceSub, Nat.reduceMul, Nat.reduceLeDiff, Nat.reduceEqDiff, Nat.reduceBEq, Nat.reduceBNe, Int.reduceNeg, Int.reduceAdd, Int.reduceMul, Int.reduceLE, Int.reduceLT, Int.reduceEq, Int.reduceToNat, reduceIte, reduceCtorEq, tbSize4]; rfl, by repeat' (first | exact AS.le.refl _ | assumption | (refine le_set (by assumption) ?_)), by simp -dsimp only [↓bp, bq, br, afin, bsk, cWrites, opsWrites, pieceGh, rsk, ne_eq, if_true, if_false, exists_eq_left', forall_const, forall_eq, Nat.reduceLT, Int.reduceSub, Nat.reduceAdd, Nat.reduceSub, Nat.reduceMul, Nat.reduceLeDiff, Nat.reduceEqDiff, Nat.reduceBEq, Nat.reduceBNe, Int.reduceNeg, Int.reduceAdd, Int.reduceMul, Int.reduceLE, Int.reduceLT, Int.reduceEq, Int.reduceToNat, reduceIte, reduceCtorEq, tbSize4, h53, h35, h51, h15, h31, h13], by simp -dsimp only [↓bp, bq, br, afin, bsk, cWrites, opsWrites, pieceGh, rsk, ne_eq, if_true, if_false, exists_eq_left', forall_const, forall_eq, Nat.reduceLT, Int.reduceSub, Nat.reduceAdd, Nat.reduceSub, Nat.reduceMul, Nat.reduceLeDiff, Nat.reduceEqDiff, Nat.reduceBEq, Nat.reduceBNe, Int.reduceNeg, Int.reduceAdd, Int.reduceMul, Int.reduceLE, Int.reduceLT, Int.reduceEq, Int.reduceToNat, reduceIte, reduceCtorEq, tbSize4, h53, h35, h51, h15, h31, h13], by simp [AS.setBox, h53, h35, h51, h15, h31, h13, hf0]⟩ ?_
    rintro n v σ' ⟨i, hi, rfl, h80, hle', hB1, hB3, hB5⟩
    simp -dsimp only [↓bp, bq, br, afin, bsk, cWrites, opsWrites, pieceGh, rsk, ne_eq, if_true, if_false, exists_eq_left', forall_const, forall_eq, Nat.reduceLT, Int.reduceSub, Nat.reduceAdd, Nat.reduceSub, Nat.reduceMul, Nat.reduceLeDiff, Nat.reduceEqDiff, Nat.reduceBEq, Nat.reduceBNe, Int.reduceNeg, Int.reduceAdd, Int.reduceMul, Int.reduceLE, Int.reduceLT, Int.reduceEq, Int.reduceToNat, reduceIte, reduceCtorEq, tbSize4] at h80
    simp -dsimp only [↓bp, bq, br, afin, bsk, cWrites, opsWrites, pieceGh, rsk, ne_eq, if_true, if_false, exists_eq_left', forall_const, forall_eq, Nat.reduceLT, Int.reduceSub, Nat.reduceAdd, Nat.reduceSub, Nat.reduceMul, Nat.reduceLeDiff, Nat.reduceEqDiff, Nat.reduceBEq, Nat.reduceBNe, Int.reduceNeg, Int.reduceAdd, Int.reduceMul, Int.reduceLE, Int.reduceLT, Int.reduceEq, Int.reduceToNat, reduceIte, reduceCtorEq, tbSize4, h80]
    refine condW_dec (fun hlt2 => ?_) (fun hge2 => ?_)
    · obtain ⟨x, hx⟩ : ∃ x, t.tail[i]? = some x := ⟨_, List.getElem?_eq_getElem (by omega)⟩
      have hsn : (f0 && (t.tail.take (i + 1)).all (fun x => decide (x.knd ≠ 7))) = ((f0 && (t.tail.take i).all fun x => decide (x.knd ≠ 7)) && decide (x.knd ≠ 7)) := by rw [take_succ_get _ _ _ hx, List.all_append]; simp [Bool.and_assoc]
      obtain ⟨g, hg⟩ : ∃ g, g = (f0 && (t.tail.take i).all fun x => decide (x.knd ≠ 7)) := ⟨_, rfl⟩
      rw [← hg] at hB5 hsn
      simp -dsimp only [↓bp, bq, br, afin, bsk, cWrites, opsWrites, pieceGh, rsk, ne_eq, if_true, if_false, exists_eq_left', forall_const, forall_eq, Nat.reduceLT, Int.reduceSub, Nat.reduceAdd, Nat.reduceSub, Nat.reduceMul, Nat.reduceLeDiff, Nat.reduceEqDiff, Nat.reduceBEq, Nat.reduceBNe, Int.reduceNeg, Int.reduceAdd, Int.reduceMul, Int.reduceLE, Int.reduceLT, Int.reduceEq, Int.reduceToNat, reduceIte, reduceCtorEq, tbSize4, h80, hx]
      refine newT_plain fun b7 h7 => ?_
      have n1 : ¬ b1 = b7 := fun e => by rw [← e] at h7; rw [h7.1] at hB1; cases hB1
      have n3 : ¬ b3 = b7 := fun e => by rw [← e] at h7; rw [h7.1] at hB3; cases hB3
      have n5 : ¬ b5 = b7 := fun e => by rw [← e] at h7; rw [h7.1] at hB5; cases hB5
      have m5 : ¬ b7 = b5 := fun e => n5 e.symm
      cases g with
      | false =>
        simp -dsimp only [↓bp, bq, br, afin, bsk, cWrites, opsWrites, pieceGh, rsk, ne_eq, if_true, if_false, exists_eq_left', forall_const, forall_eq, Nat.reduceLT, Int.reduceSub, Nat.reduceAdd, Nat.reduceSub, Nat.reduceMul, Nat.reduceLeDiff, Nat.reduceEqDiff, Nat.reduceBEq, Nat.reduceBNe, Int.reduceNeg, Int.reduceAdd, Int.reduceMul, Int.reduceLE, Int.reduceLT, Int.reduceEq, Int.reduceToNat, reduceIte, reduceCtorEq, tbSize4, h80, hx, hB1, hB3, hB5, n1, n3, n5, m5, h53, h35, h51, h15, h31, h13]
        refine ⟨t.tail.length - (i + 1), by omega, i + 1, by omega, rfl, by rw [wrap_nat (by omega) (by omega)]; rfl, by repeat' (first | assumption | (refine le_set (by first | assumption | exact hle'.fresh h7) ?_)), ?_⟩
        rw [hsn]
        first | rfl | simp
      | true =>
        simp -dsimp only [↓bp, bq, br, afin, bsk, cWrites, opsWrites, pieceGh, rsk, ne_eq, if_true, if_false, exists_eq_left', forall_const, forall_eq, Nat.reduceLT, Int.reduceSub, Nat.reduceAdd, Nat.reduceSub, Nat.reduceMul, Nat.reduceLeDiff, Nat.reduceEqDiff, Nat.reduceBEq, Nat.reduceBNe, Int.reduceNeg, Int.reduceAdd, Int.reduceMul, Int.reduceLE, Int.reduceLT, Int.reduceEq, Int.reduceToNat, reduceIte, reduceCtorEq, tbSize4, h80, hx, hB1, hB3, hB5, n1, n3, n5, m5, h53, h35, h51, h15, h31, h13]
        refine ⟨t.tail.length - (i + 1), by omega, i + 1, by omega, rfl, by rw [wrap_nat (by omega) (by omega)]; rfl, by repeat' (first | assumption | (refine le_set (by first | assumption | exact hle'.fresh h7) ?_)), ?_⟩
        rw [hsn]
        first | rfl | simp
    · have : i = t.tail.length := by omega
      subst this
      rw [List.take_length] at hB5
      simp -dsimp only [↓bp, bq, br, afin, bsk, cWrites, opsWrites, pieceGh, rsk, ne_eq, if_true, if_false, exists_eq_left', forall_const, forall_eq, Nat.reduceLT, Int.reduceSub, Nat.reduceAdd, Nat.reduceSub, Nat.reduceMul, Nat.reduceLeDiff, Nat.reduceEqDiff, Nat.reduceBEq, Nat.reduceBNe, Int.reduceNeg, Int.reduceAdd, Int.reduceMul, Int.reduceLE, Int.reduceLT, Int.reduceEq, Int.reduceToNat, reduceIte, reduceCtorEq, tbSize4, h80, hB1, hB3, hB5, h53, h35, h51, h15, h31, h13]
      refine Tri.mono (adds_tri G t.items 1 (by omega) (by omega) (by omega) hit _ b5 b3 h53 1 (f0 && t.tail.all fun x => decide (x.knd ≠ 7)) (by simp -dsimp only [↓bp, bq, br, afin, bsk, cWrites, opsWrites, pieceGh, rsk, ne_eq, if_true, if_false, exists_eq_left', forall_const, forall_eq, Nat.reduceLT, Int.reduceSub, Nat.reduceAdd, Nat.reduceSub, Nat.reduceMul, Nat.reduceLeDiff, Nat.reduceEqDiff, Nat.reduceBEq, Nat.reduceBNe, Int.reduceNeg, Int.reduceAdd, Int.reduceMul, Int.reduceLE, Int.reduceLT, Int.reduceEq, Int.reduceToNat, reduceIte, reduceCtorEq, tbSize4, h53, h35, h51, h15, h31, h13, hB1, hB3, hB5]) (by simp -dsimp only [↓bp, bq, br, afin, bsk, cWrites, opsWrites, pieceGh, rsk, ne_eq, if_true, if_false, exists_eq_left', forall_const, forall_eq, Nat.reduceLT, Int.reduceSub, Nat.reduceAdd, Nat.reduceSub, Nat.reduceMul, Nat.reduceLeDiff, Nat.reduceEqDiff, Nat.reduceBEq, Nat.reduceBNe, Int.reduceNeg, Int.reduceAdd, Int.reduceMul, Int.reduceLE, Int.reduceLT, Int.reduceEq, Int.reduceToNat, reduceIte, reduceCtorEq, tbSize4, h53, h35, h51, h15, h31, h13, hB1, hB3, hB5]) (by omega) (fun _ => by omega) (by omega)) ?_
      rintro r σ' rfl
      have ha := adds_le t.items hle 1 (by omega) (by omega) (1, (f0 && t.tail.all fun x => decide (x.knd ≠ 7))) (by simp only; omega) (fun _ => by simp only; omega) (by simp only; omega)
      simp -dsimp only [↓bp, bq, br, afin, bsk, cWrites, opsWrites, pieceGh, rsk, ne_eq, if_true, if_false, exists_eq_left', forall_const, forall_eq, Nat.reduceLT, Int.reduceSub, Nat.reduceAdd, Nat.reduceSub, Nat.reduceMul, Nat.reduceLeDiff, Nat.reduceEqDiff, Nat.reduceBEq, Nat.reduceBNe, Int.reduceNeg, Int.reduceAdd, Int.reduceMul, Int.reduceLE, Int.reduceLT, Int.reduceEq, Int.reduceToNat, reduceIte, reduceCtorEq, tbSize4, h53, h35, h51, h15, h31, h13, hB1, hB3, hB5]
      refine Tri.mono (adds_tri G t.tail 0 (by omega) (by omega) (by omega) htt _ b5 b3 h53 (adds t.items 1 (1, (f0 && t.tail.all fun x => decide (x.knd ≠ 7)))).1 (adds t.items 1 (1, (f0 && t.tail.all fun x => decide (x.knd ≠ 7)))).2 (by simp -dsimp only [↓bp, bq, br, afin, bsk, cWrites, opsWrites, pieceGh, rsk, ne_eq, if_true, if_false, exists_eq_left', forall_const, forall_eq, Nat.reduceLT, Int.reduceSub, Nat.reduceAdd, Nat.reduceSub, Nat.reduceMul, Nat.reduceLeDiff, Nat.reduceEqDiff, Nat.reduceBEq, Nat.reduceBNe, Int.reduceNeg, Int.reduceAdd, Int.reduceMul, Int.reduceLE, Int.reduceLT, Int.reduceEq, Int.reduceToNat, reduceIte, reduceCtorEq, tbSize4, h53, h35, h51, h15, h31, h13, hB1, hB3, hB5]) (by simp -dsimp only [↓bp, bq, br, afin, bsk, cWrites, opsWrites, pieceGh, rsk, ne_eq, if_true, if_false, exists_eq_left', forall_const, forall_eq, Nat.reduceLT, Int.reduceSub, Nat.reduceAdd, Nat.reduceSub, Nat.reduceMul, Nat.reduceLeDiff, Nat.reduceEqDiff, Nat.reduceBEq, Nat.reduceBNe, Int.reduceNeg, Int.reduceAdd, Int.reduceMul, Int.reduceLE, Int.reduceLT, Int.reduceEq, Int.reduceToNat, reduceIte, reduceCtorEq, tbSize4, h53, h35, h51, h15, h31, h13, hB1, hB3, hB5]) ha.1 ha.2.1 ha.2.2) ?_
      rintro r σ' rfl
      simp -dsimp only [↓bp, bq, br, afin, bsk, cWrites, opsWrites, pieceGh, rsk, ne_eq, if_true, if_false, exists_eq_left', forall_const, forall_eq, Nat.reduceLT, Int.reduceSub, Nat.reduceAdd, Nat.reduceSub, Nat.reduceMul, Nat.reduceLeDiff, Nat.reduceEqDiff, Nat.reduceBEq, Nat.reduceBNe, Int.reduceNeg, Int.reduceAdd, Int.reduceMul, Int.reduceLE, Int.reduceLT, Int.reduceEq, Int.reduceToNat, reduceIte, reduceCtorEq, tbSize4, h53, h35, h51, h15, h31, h13, hB1, hB3, hB5]
      cases hfin : (adds t.tail 0 ((adds t.items 1 (1, (f0 && t.tail.all fun x => decide (x.knd ≠ 7)))).1, (adds t.items 1 (1, (f0 && t.tail.all fun x => decide (x.knd ≠ 7)))).2)).2
      · simp -dsimp only [↓bp, bq, br, afin, bsk, cWrites, opsWrites, pieceGh, rsk, ne_eq, if_true, if_false, exists_eq_left', forall_const, forall_eq, Nat.reduceLT, Int.reduceSub, Nat.reduceAdd, Nat.reduceSub, Nat.reduceMul, Nat.reduceLeDiff, Nat.reduceEqDiff, Nat.reduceBEq, Nat.reduceBNe, Int.reduceNeg, Int.reduceAdd, Int.reduceMul, Int.reduceLE, Int.reduceLT, Int.reduceEq, Int.reduceToNat, reduceIte, reduceCtorEq, tbSize4, h53, h35, h51, h15, h31, h13, hB1, hB3, hB5]
        refine finish_pure ?_ (by repeat' (first | exact AS.le.refl _ | assumption | (refine le_set (by assumption) ?_)))
        rw [hse, hhd]
        simp only [k1, hfin, if_false, Bool.true_and, Bool.false_and, Bool.false_eq_true, if_true]
      · simp -dsimp only [↓bp, bq, br, afin, bsk, cWrites, opsWrites, pieceGh, rsk, ne_eq, if_true, if_false, exists_eq_left', forall_const, forall_eq, Nat.reduceLT, Int.reduceSub, Nat.reduceAdd, Nat.reduceSub, Nat.reduceMul, Nat.reduceLeDiff, Nat.reduceEqDiff, Nat.reduceBEq, Nat.reduceBNe, Int.reduceNeg, Int.reduceAdd, Int.reduceMul, Int.reduceLE, Int.reduceLT, Int.reduceEq, Int.reduceToNat, reduceIte, reduceCtorEq, tbSize4, h53, h35, h51, h15, h31, h13, hB1, hB3, hB5]
        refine finish_pure ?_ (by repeat' (first | exact AS.le.refl _ | assumption | (refine le_set (by assumption) ?_)))
        rw [hse, hhd]
        simp only [k1, hfin, if_false, Bool.true_and, Bool.false_and, Bool.false_eq_true, if_true]
end Go.Proofs.YtpginpbcndlfmaaDoor
