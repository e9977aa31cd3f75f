/- What the package says of terms: right, size, order, put together, parted. -/
import Derived.Test.YtjnhalmeddafdaaDoorZCopy
set_option linter.unusedVariables false
set_option linter.unusedSimpArgs false
set_option maxRecDepth 20000
set_option linter.defProp false
namespace Go.Proofs.YtjnhalmeddafdaaDoor
open Go Go.Av
def tbTermApi := And.intro (And.intro (And.intro (And.intro @tf3 (And.intro @tf4 @tf5)) (And.intro @tf44 (And.intro @tf9 @tf23))) (And.intro (And.intro @tf22 (And.intro @tf24 @tf26)) (And.intro @tf75 (And.intro @Term.flat_enc @Term.isv_enc)))) (And.intro (And.intro (And.intro @Term.fold_enc (And.intro @isv_encs @flat_encs)) (And.intro @len_encs (And.intro @ix_encs @ix_encs'))) (And.intro (And.intro @isv_lims (And.intro @flat_lims @len_lims)) (And.intro @ix_lims (And.intro @ix_lims' @flat_limA))))
variable (G : Nat → AV)
theorem right_pure (t : Term) (hb : t.bulk ≤ 1000000000) : Pure Tryd.prog G 15 [t.enc] (.bool (right t)) := by
  have h := size_pure G t hb
  unfold right
  intro σ
  refine Tri.of_awp mixed Tryd.func15 rfl (by kernel_rfl) (by kernel_rfl) (by simp [Tryd.ntmps15]) Tryd.results15 ?_
  repeat' (first
    | with_reducible refine condW_both (fun _ _ => ?_) (fun _ _ => ?_)
    | with_reducible refine gW_both (fun _ _ => ?_) (fun _ _ => ?_)
    | with_reducible refine condW_split (fun _ => ?_) (fun _ => ?_)
    | with_reducible refine gW_split (fun _ => ?_) (fun _ => ?_)
    | with_reducible refine pickW_split (fun _ => ?_) (fun _ => ?_)
    | (refine newW_intro ?_; intro bx hbx; (try simp only [fresh_box, fresh_tip, fresh_ty] at hbx))
    | (refine newT_plain ?_; intro bx hbx; (try simp only [fresh_box, fresh_tip, fresh_ty] at hbx))
    | refine Pure.use (h) ?_
    | refine Pure.head (h) ?_
    | refine storeX_w ?_
    | ((with_reducible refine And.intro ?_ ?_); omega)
    | refine bo_buildSlice (d' := ⟨⟩) ?_
    | (refine draw_all (by kernel_rfl) ?_)
    | refine finish_pure ?_ (by repeat' (first | exact AS.le.refl _ | assumption | (refine le_set (by first | assumption | (simp only [*]; done) | exact AS.le.fresh (by assumption) (by simp only [*])) ?_) | (refine le_ty (by first | assumption | (simp only [*]; done) | exact AS.le.fresh (by assumption) (by simp only [*])) ?_)))
    | simp -dsimp only [↓bp, bq, br, afin, bsk, cWrites, opsWrites, pieceGh, rsk, ne_eq, if_true, if_false, exists_eq_left', forall_const, forall_eq, Nat.reduceLT, Int.reduceSub, Nat.reduceAdd, Nat.reduceSub, Nat.reduceMul, Nat.reduceLeDiff, Nat.reduceEqDiff, Nat.reduceBEq, Nat.reduceBNe, Int.reduceNeg, Int.reduceAdd, Int.reduceMul, Int.reduceLE, Int.reduceLT, Int.reduceEq, Int.reduceToNat, reduceIte, reduceCtorEq, tbTermApi, *])
  all_goals rfl
theorem termsize_pure (t : Term) (hb : t.bulk ≤ 1000000000) : Pure Tryd.prog G 19 [t.enc] (.int .i64 (size t)) := by
  have h := size_pure G t hb
  intro σ
  refine Tri.of_awp mixed Tryd.func19 rfl (by kernel_rfl) (by kernel_rfl) (by simp [Tryd.ntmps19]) Tryd.results19 ?_
  repeat' (first
    | with_reducible refine condW_both (fun _ _ => ?_) (fun _ _ => ?_)
    | with_reducible refine gW_both (fun _ _ => ?_) (fun _ _ => ?_)
    | with_reducible refine condW_split (fun _ => ?_) (fun _ => ?_)
    | with_reducible refine gW_split (fun _ => ?_) (fun _ => ?_)
    | with_reducible refine pickW_split (fun _ => ?_) (fun _ => ?_)
    | (refine newW_intro ?_; intro bx hbx; (try simp only [fresh_box, fresh_tip, fresh_ty] at hbx))
    | (refine newT_plain ?_; intro bx hbx; (try simp only [fresh_box, fresh_tip, fresh_ty] at hbx))
    | refine Pure.use (h) ?_
    | refine Pure.head (h) ?_
    | refine storeX_w ?_
    | ((with_reducible refine And.intro ?_ ?_); omega)
    | refine bo_buildSlice (d' := ⟨⟩) ?_
    | (refine draw_all (by kernel_rfl) ?_)
    | refine finish_pure ?_ (by repeat' (first | exact AS.le.refl _ | assumption | (refine le_set (by first | assumption | (simp only [*]; done) | exact AS.le.fresh (by assumption) (by simp only [*])) ?_) | (refine le_ty (by first | assumption | (simp only [*]; done) | exact AS.le.fresh (by assumption) (by simp only [*])) ?_)))
    | simp -dsimp only [↓bp, bq, br, afin, bsk, cWrites, opsWrites, pieceGh, rsk, ne_eq, if_true, if_false, exists_eq_left', forall_const, forall_eq, Nat.reduceLT, Int.reduceSub, Nat.reduceAdd, Nat.reduceSub, Nat.reduceMul, Nat.reduceLeDiff, Nat.reduceEqDiff, Nat.reduceBEq, Nat.reduceBNe, Int.reduceNeg, Int.reduceAdd, Int.reduceMul, Int.reduceLE, Int.reduceLT, Int.reduceEq, Int.reduceToNat, reduceIte, reduceCtorEq, tbTermApi, *])
  all_goals rfl
theorem compare_pure (a b : Term) (ha : a.bulk ≤ 1000000000) (hb : b.bulk ≤ 1000000000) : Pure Tryd.prog G 10 [a.enc, b.enc] (.int .i64 (compare a b)) := by
  have ra := right_pure G a ha
  have rb := right_pure G b hb
  have ho := order_pure G a b ha hb
  unfold compare
  intro σ
  cases ea : right a with
  | false =>
    rw [ea] at ra
    rw [if_neg (by simp)]
    clear ho
    refine Tri.of_awp mixed Tryd.func10 rfl (by kernel_rfl) (by kernel_rfl) (by simp [Tryd.ntmps10]) Tryd.results10 ?_
    repeat' (first
    | with_reducible refine condW_both (fun _ _ => ?_) (fun _ _ => ?_)
    | with_reducible refine gW_both (fun _ _ => ?_) (fun _ _ => ?_)
    | with_reducible refine condW_split (fun _ => ?_) (fun _ => ?_)
    | with_reducible refine gW_split (fun _ => ?_) (fun _ => ?_)
    | with_reducible refine pickW_split (fun _ => ?_) (fun _ => ?_)
    | (refine newW_intro ?_; intro bx hbx; (try simp only [fresh_box, fresh_tip, fresh_ty] at hbx))
    | (refine newT_plain ?_; intro bx hbx; (try simp only [fresh_box, fresh_tip, fresh_ty] at hbx))
    | refine Pure.use (ra) ?_
    | refine Pure.head (ra) ?_
    | refine Pure.use (rb) ?_
    | refine Pure.head (rb) ?_
    | refine storeX_w ?_
    | ((with_reducible refine And.intro ?_ ?_); omega)
    | refine bo_buildSlice (d' := ⟨⟩) ?_
    | (refine draw_all (by kernel_rfl) ?_)
    | refine finish_pure ?_ (by repeat' (first | exact AS.le.refl _ | assumption | (refine le_set (by first | assumption | (simp only [*]; done) | exact AS.le.fresh (by assumption) (by simp only [*])) ?_) | (refine le_ty (by first | assumption | (simp only [*]; done) | exact AS.le.fresh (by assumption) (by simp only [*])) ?_)))
    | simp -dsimp only [↓bp, bq, br, afin, bsk, cWrites, opsWrites, pieceGh, rsk, ne_eq, if_true, if_false, exists_eq_left', forall_const, forall_eq, Nat.reduceLT, Int.reduceSub, Nat.reduceAdd, Nat.reduceSub, Nat.reduceMul, Nat.reduceLeDiff, Nat.reduceEqDiff, Nat.reduceBEq, Nat.reduceBNe, Int.reduceNeg, Int.reduceAdd, Int.reduceMul, Int.reduceLE, Int.reduceLT, Int.reduceEq, Int.reduceToNat, reduceIte, reduceCtorEq, tbTermApi, *])
    all_goals rfl
  | true => cases eb : right b with
    | false =>
      rw [ea] at ra
      rw [eb] at rb
      rw [if_neg (by simp)]
      clear ho
      refine Tri.of_awp mixed Tryd.func10 rfl (by kernel_rfl) (by kernel_rfl) (by simp [Tryd.ntmps10]) Tryd.results10 ?_
      repeat' (first
    | with_reducible refine condW_both (fun _ _ => ?_) (fun _ _ => ?_)
    | with_reducible refine gW_both (fun _ _ => ?_) (fun _ _ => ?_)
    | with_reducible refine condW_split (fun _ => ?_) (fun _ => ?_)
    | with_reducible refine gW_split (fun _ => ?_) (fun _ => ?_)
    | with_reducible refine pickW_split (fun _ => ?_) (fun _ => ?_)
    | (refine newW_intro ?_; intro bx hbx; (try simp only [fresh_box, fresh_tip, fresh_ty] at hbx))
    | (refine newT_plain ?_; intro bx hbx; (try simp only [fresh_box, fresh_tip, fresh_ty] at hbx))
    | refine Pure.use (ra) ?_
    | refine Pure.head (ra) ?_
    | refine Pure.use (rb) ?_
    | refine Pure.head (rb) ?_
    | refine storeX_w ?_
    | ((with_reducible refine And.intro ?_ ?_); omega)
    | refine bo_buildSlice (d' := ⟨⟩) ?_
    | (refine draw_all (by kernel_rfl) ?_)
    | refine finish_pure ?_ (by repeat' (first | exact AS.le.refl _ | assumption | (refine le_set (by first | assumption | (simp only [*]; done) | exact AS.le.fresh (by assumption) (by simp only [*])) ?_) | (refine le_ty (by first | assumption | (simp only [*]; done) | exact AS.le.fresh (by assumption) (by simp only [*])) ?_)))
    | simp -dsimp only [↓bp, bq, br, afin, bsk, cWrites, opsWrites, pieceGh, rsk, ne_eq, if_true, if_false, exists_eq_left', forall_const, forall_eq, Nat.reduceLT, Int.reduceSub, Nat.reduceAdd, Nat.reduceSub, Nat.reduceMul, Nat.reduceLeDiff, Nat.reduceEqDiff, Nat.reduceBEq, Nat.reduceBNe, Int.reduceNeg, Int.reduceAdd, Int.reduceMul, Int.reduceLE, Int.reduceLT, Int.reduceEq, Int.reduceToNat, reduceIte, reduceCtorEq, tbTermApi, *])
      all_goals rfl
    | true =>
      rw [ea] at ra
      rw [eb] at rb
      rw [if_pos ⟨rfl, rfl⟩]
      have ho := ho ea eb
      refine Tri.of_awp mixed Tryd.func10 rfl (by kernel_rfl) (by kernel_rfl) (by simp [Tryd.ntmps10]) Tryd.results10 ?_
      repeat' (first
    | with_reducible refine condW_both (fun _ _ => ?_) (fun _ _ => ?_)
    | with_reducible refine gW_both (fun _ _ => ?_) (fun _ _ => ?_)
    | with_reducible refine condW_split (fun _ => ?_) (fun _ => ?_)
    | with_reducible refine gW_split (fun _ => ?_) (fun _ => ?_)
    | with_reducible refine pickW_split (fun _ => ?_) (fun _ => ?_)
    | (refine newW_intro ?_; intro bx hbx; (try simp only [fresh_box, fresh_tip, fresh_ty] at hbx))
    | (refine newT_plain ?_; intro bx hbx; (try simp only [fresh_box, fresh_tip, fresh_ty] at hbx))
    | refine Pure.use (ra) ?_
    | refine Pure.head (ra) ?_
    | refine Pure.use (rb) ?_
    | refine Pure.head (rb) ?_
    | refine Pure.use (ho) ?_
    | refine Pure.head (ho) ?_
    | refine storeX_w ?_
    | ((with_reducible refine And.intro ?_ ?_); omega)
    | refine bo_buildSlice (d' := ⟨⟩) ?_
    | (refine draw_all (by kernel_rfl) ?_)
    | refine finish_pure ?_ (by repeat' (first | exact AS.le.refl _ | assumption | (refine le_set (by first | assumption | (simp only [*]; done) | exact AS.le.fresh (by assumption) (by simp only [*])) ?_) | (refine le_ty (by first | assumption | (simp only [*]; done) | exact AS.le.fresh (by assumption) (by simp only [*])) ?_)))
    | simp -dsimp only [↓bp, bq, br, afin, bsk, cWrites, opsWrites, pieceGh, rsk, ne_eq, if_true, if_false, exists_eq_left', forall_const, forall_eq, Nat.reduceLT, Int.reduceSub, Nat.reduceAdd, Nat.reduceSub, Nat.reduceMul, Nat.reduceLeDiff, Nat.reduceEqDiff, Nat.reduceBEq, Nat.reduceBNe, Int.reduceNeg, Int.reduceAdd, Int.reduceMul, Int.reduceLE, Int.reduceLT, Int.reduceEq, Int.reduceToNat, reduceIte, reduceCtorEq, tbTermApi, *])
      all_goals rfl
theorem sameT_pure (a b : Term) (ha : a.bulk ≤ 1000000000) (hb : b.bulk ≤ 1000000000) : Pure Tryd.prog G 12 [a.enc, b.enc] (.bool (sameT a b)) := by
  have ra := right_pure G a ha
  have rb := right_pure G b hb
  have ho := order_pure G a b ha hb
  unfold sameT
  intro σ
  cases ea : right a with
  | false =>
    rw [ea] at ra
    rw [Bool.false_and, Bool.false_and]
    clear ho
    refine Tri.of_awp mixed Tryd.func12 rfl (by kernel_rfl) (by kernel_rfl) (by simp [Tryd.ntmps12]) Tryd.results12 ?_
    repeat' (first
    | with_reducible refine condW_both (fun _ _ => ?_) (fun _ _ => ?_)
    | with_reducible refine gW_both (fun _ _ => ?_) (fun _ _ => ?_)
    | with_reducible refine condW_split (fun _ => ?_) (fun _ => ?_)
    | with_reducible refine gW_split (fun _ => ?_) (fun _ => ?_)
    | with_reducible refine pickW_split (fun _ => ?_) (fun _ => ?_)
    | (refine newW_intro ?_; intro bx hbx; (try simp only [fresh_box, fresh_tip, fresh_ty] at hbx))
    | (refine newT_plain ?_; intro bx hbx; (try simp only [fresh_box, fresh_tip, fresh_ty] at hbx))
    | refine Pure.use (ra) ?_
    | refine Pure.head (ra) ?_
    | refine Pure.use (rb) ?_
    | refine Pure.head (rb) ?_
    | refine storeX_w ?_
    | ((with_reducible refine And.intro ?_ ?_); omega)
    | refine bo_buildSlice (d' := ⟨⟩) ?_
    | (refine draw_all (by kernel_rfl) ?_)
    | refine finish_pure ?_ (by repeat' (first | exact AS.le.refl _ | assumption | (refine le_set (by first | assumption | (simp only [*]; done) | exact AS.le.fresh (by assumption) (by simp only [*])) ?_) | (refine le_ty (by first | assumption | (simp only [*]; done) | exact AS.le.fresh (by assumption) (by simp only [*])) ?_)))
    | simp -dsimp only [↓bp, bq, br, afin, bsk, cWrites, opsWrites, pieceGh, rsk, ne_eq, if_true, if_false, exists_eq_left', forall_const, forall_eq, Nat.reduceLT, Int.reduceSub, Nat.reduceAdd, Nat.reduceSub, Nat.reduceMul, Nat.reduceLeDiff, Nat.reduceEqDiff, Nat.reduceBEq, Nat.reduceBNe, Int.reduceNeg, Int.reduceAdd, Int.reduceMul, Int.reduceLE, Int.reduceLT, Int.reduceEq, Int.reduceToNat, reduceIte, reduceCtorEq, tbTermApi, *])
    all_goals rfl
  | true => cases eb : right b with
    | false =>
      rw [ea] at ra
      rw [eb] at rb
      rw [Bool.true_and, Bool.false_and]
      clear ho
      refine Tri.of_awp mixed Tryd.func12 rfl (by kernel_rfl) (by kernel_rfl) (by simp [Tryd.ntmps12]) Tryd.results12 ?_
      repeat' (first
    | with_reducible refine condW_both (fun _ _ => ?_) (fun _ _ => ?_)
    | with_reducible refine gW_both (fun _ _ => ?_) (fun _ _ => ?_)
    | with_reducible refine condW_split (fun _ => ?_) (fun _ => ?_)
    | with_reducible refine gW_split (fun _ => ?_) (fun _ => ?_)
    | with_reducible refine pickW_split (fun _ => ?_) (fun _ => ?_)
    | (refine newW_intro ?_; intro bx hbx; (try simp only [fresh_box, fresh_tip, fresh_ty] at hbx))
    | (refine newT_plain ?_; intro bx hbx; (try simp only [fresh_box, fresh_tip, fresh_ty] at hbx))
    | refine Pure.use (ra) ?_
    | refine Pure.head (ra) ?_
    | refine Pure.use (rb) ?_
    | refine Pure.head (rb) ?_
    | refine storeX_w ?_
    | ((with_reducible refine And.intro ?_ ?_); omega)
    | refine bo_buildSlice (d' := ⟨⟩) ?_
    | (refine draw_all (by kernel_rfl) ?_)
    | refine finish_pure ?_ (by repeat' (first | exact AS.le.refl _ | assumption | (refine le_set (by first | assumption | (simp only [*]; done) | exact AS.le.fresh (by assumption) (by simp only [*])) ?_) | (refine le_ty (by first | assumption | (simp only [*]; done) | exact AS.le.fresh (by assumption) (by simp only [*])) ?_)))
    | simp -dsimp only [↓bp, bq, br, afin, bsk, cWrites, opsWrites, pieceGh, rsk, ne_eq, if_true, if_false, exists_eq_left', forall_const, forall_eq, Nat.reduceLT, Int.reduceSub, Nat.reduceAdd, Nat.reduceSub, Nat.reduceMul, Nat.reduceLeDiff, Nat.reduceEqDiff, Nat.reduceBEq, Nat.reduceBNe, Int.reduceNeg, Int.reduceAdd, Int.reduceMul, Int.reduceLE, Int.reduceLT, Int.reduceEq, Int.reduceToNat, reduceIte, reduceCtorEq, tbTermApi, *])
      all_goals rfl
    | true =>
      rw [ea] at ra
      rw [eb] at rb
      rw [Bool.true_and, Bool.true_and]
      have ho := ho ea eb
      refine Tri.of_awp mixed Tryd.func12 rfl (by kernel_rfl) (by kernel_rfl) (by simp [Tryd.ntmps12]) Tryd.results12 ?_
      repeat' (first
    | with_reducible refine condW_both (fun _ _ => ?_) (fun _ _ => ?_)
    | with_reducible refine gW_both (fun _ _ => ?_) (fun _ _ => ?_)
    | with_reducible refine condW_split (fun _ => ?_) (fun _ => ?_)
    | with_reducible refine gW_split (fun _ => ?_) (fun _ => ?_)
    | with_reducible refine pickW_split (fun _ => ?_) (fun _ => ?_)
    | (refine newW_intro ?_; intro bx hbx; (try simp only [fresh_box, fresh_tip, fresh_ty] at hbx))
    | (refine newT_plain ?_; intro bx hbx; (try simp only [fresh_box, fresh_tip, fresh_ty] at hbx))
    | refine Pure.use (ra) ?_
    | refine Pure.head (ra) ?_
    | refine Pure.use (rb) ?_
    | refine Pure.head (rb) ?_
    | refine Pure.use (ho) ?_
    | refine Pure.head (ho) ?_
    | refine storeX_w ?_
    | ((with_reducible refine And.intro ?_ ?_); omega)
    | refine bo_buildSlice (d' := ⟨⟩) ?_
    | (refine draw_all (by kernel_rfl) ?_)
    | refine finish_pure ?_ (by repeat' (first | exact AS.le.refl _ | assumption | (refine le_set (by first | assumption | (simp only [*]; done) | exact AS.le.fresh (by assumption) (by simp only [*])) ?_) | (refine le_ty (by first | assumption | (simp only [*]; done) | exact AS.le.fresh (by assumption) (by simp only [*])) ?_)))
    | simp -dsimp only [↓bp, bq, br, afin, bsk, cWrites, opsWrites, pieceGh, rsk, ne_eq, if_true, if_false, exists_eq_left', forall_const, forall_eq, Nat.reduceLT, Int.reduceSub, Nat.reduceAdd, Nat.reduceSub, Nat.reduceMul, Nat.reduceLeDiff, Nat.reduceEqDiff, Nat.reduceBEq, Nat.reduceBNe, Int.reduceNeg, Int.reduceAdd, Int.reduceMul, Int.reduceLE, Int.reduceLT, Int.reduceEq, Int.reduceToNat, reduceIte, reduceCtorEq, tbTermApi, *])
      all_goals rfl
theorem leE_of_full (l : List Term) : LeE (.sl .full (l.map Term.enc) []) (encs l) := LeE.of Le.gh rfl rfl rfl
theorem copies_one (h : Term) (hb : h.bulk ≤ 1000000000) : Pure Tryd.prog G 40 [.sl .full [.sl .full [h.enc] []] []] (.sl .none [h.enc] []) := by
  have k := (copies_pure G [[h]] (by simp) (by simp) (fun x hx => by simp at hx; subst hx; exact copy_pure G x hb)).lessArgs (args := [.sl .full [.sl .full [h.enc] []] []]) (.cons (Le.sl (.cons (leE_of_full [h]) .nil)) .nil)
  simpa [encs] using k
theorem copies_head (h : Term) (l : List Term) (hh : h.bulk ≤ 1000000000) (hb : bulks l < 1000000000) : Pure Tryd.prog G 40 [.sl .full [.sl .full [h.enc] [], encs l] []] (encs (h :: l)) := by
  have hl := len_le_bulks l
  have k := (copies_pure G [[h], l] (by simp) (by simp; omega) (fun x hx => by
    simp at hx
    rcases hx with rfl | hx
    · exact copy_pure G _ hh
    · exact copy_pure G x (by have := bulk_mem hx; omega))).lessArgs (args := [.sl .full [.sl .full [h.enc] [], encs l] []]) (.cons (Le.sl (.cons (leE_of_full [h]) (.cons (LeE.of (Le.refl _) rfl rfl rfl) .nil))) .nil)
  simpa using k
theorem copies_row (l : List Term) (hb : bulks l < 1000000000) : Pure Tryd.prog G 40 [.sl .full [encs l] []] (encs l) :=
  copies1_pure G l (by have := len_le_bulks l; omega) fun x hx => copy_pure G x (by have := bulk_mem hx; omega)
theorem listT_le (l r : List Term) : Le (.agg [.int .u8 7, .bool false, .nil, .str [], .int .i64 0, encs l, encs r]) (listT l r).enc := by
  rw [← Term.fold_enc (listT l r)]
  refine Le.agg ?_ (fun d hd => ones (listT l r) d (by rw [Term.flat_enc]; exact hd))
  exact .cons (Le.refl _) (.cons (Le.refl _) (.cons Le.nil (.cons (Le.refl _) (.cons (Le.refl _) (.cons (Le.refl _) (.cons (Le.refl _) .nil))))))
end Go.Proofs.YtjnhalmeddafdaaDoor
