/- TaleOrder on abstract values. -/
import Derived.Test.YtpginpbcndlfmaaDoorZLawTale
set_option linter.unusedVariables false
set_option linter.unusedSimpArgs false
set_option maxRecDepth 20000
set_option linter.defProp false
namespace Go.Proofs.YtpginpbcndlfmaaDoor
open Go Go.Av
def tbLawTaleB := And.intro (And.intro (And.intro (And.intro @tf3 @tf4) (And.intro @tf5 (And.intro @tf9 @tf31))) (And.intro (And.intro @tf22 @tf23) (And.intro @tf24 (And.intro @tf26 @isv_encs)))) (And.intro (And.intro (And.intro @flat_encs @len_encs) (And.intro @Seen.flat_enc (And.intro @Seen.isv_enc @Seen.fold_enc))) (And.intro (And.intro @isv_encE (And.intro @flat_encE @len_encE)) (And.intro @isv_encN (And.intro @flat_encN @len_encN))))
variable {G : Nat → AV}
set_option maxHeartbeats 4000000 in
theorem tale_c3 {a b c : Seen} {m n : Int} {p q : Nat} {Z T : Bool} (h : TEnds G a b c m n p q true false Z true false T) : Pure Tryd.prog G 3 [a.enc, b.enc, c.enc, .int .i64 m, .int .i64 n] (.bool true) := by
  obtain ⟨w, ga, gb, gc, waa, saa, wab, wbc, wac, wba, sab, sba, sad, ta, tb, tx, cp, hw1, hw2, pk1, pk2, sl1, sl2, wca, wcb, tt⟩ := h
  have hd := sad rfl rfl; have tb' := True.intro
  clear sad tb
  intro σ
  refine Tri.of_awp mixed Tryd.func3 rfl (by kernel_rfl) (by kernel_rfl) (by simp [Tryd.ntmps3]) Tryd.results3 ?_
  repeat' (first
    | with_reducible refine condW_both (fun _ _ => ?_) (fun _ _ => ?_)
    | with_reducible refine gW_both (fun _ _ => ?_) (fun _ _ => ?_)
    | with_reducible refine condW_split (fun _ => ?_) (fun _ => ?_)
    | with_reducible refine gW_split (fun _ => ?_) (fun _ => ?_)
    | with_reducible refine pickW_split (fun _ => ?_) (fun _ => ?_)
    | (refine newW_intro ?_; intro bx hbx; (try simp only [fresh_box, fresh_tip, fresh_ty] at hbx))
    | (refine newT_plain ?_; intro bx hbx; (try simp only [fresh_box, fresh_tip, fresh_ty] at hbx))
    | refine Pure.use (w) ?_
    | refine Pure.head (w) ?_
    | refine Pure.use (ga) ?_
    | refine Pure.head (ga) ?_
    | refine Pure.use (gb) ?_
    | refine Pure.head (gb) ?_
    | refine Pure.use (gc) ?_
    | refine Pure.head (gc) ?_
    | refine Pure.use (waa) ?_
    | refine Pure.head (waa) ?_
    | refine Pure.use (saa) ?_
    | refine Pure.head (saa) ?_
    | refine Pure.use (wab) ?_
    | refine Pure.head (wab) ?_
    | refine Pure.use (wbc) ?_
    | refine Pure.head (wbc) ?_
    | refine Pure.use (wac) ?_
    | refine Pure.head (wac) ?_
    | refine Pure.use (wba) ?_
    | refine Pure.head (wba) ?_
    | refine Pure.use (sab) ?_
    | refine Pure.head (sab) ?_
    | refine Pure.use (sba) ?_
    | refine Pure.head (sba) ?_
    | refine Pure.use (hd) ?_
    | refine Pure.head (hd) ?_
    | refine Pure.use (ta) ?_
    | refine Pure.head (ta) ?_
    | refine Pure.use (tb') ?_
    | refine Pure.head (tb') ?_
    | refine Pure.use (tx) ?_
    | refine Pure.head (tx) ?_
    | refine Pure.use (cp) ?_
    | refine Pure.head (cp) ?_
    | refine Pure.use (pk1) ?_
    | refine Pure.head (pk1) ?_
    | refine Pure.use (pk2) ?_
    | refine Pure.head (pk2) ?_
    | refine Pure.use (wca) ?_
    | refine Pure.head (wca) ?_
    | (refine draw_float1 6 bx (by decide +kernel) AS.set_get ?_)
    | refine storeX_w ?_
    | ((with_reducible refine And.intro ?_ ?_); omega)
    | refine bo_buildSlice (d' := ⟨⟩) ?_
    | (refine draw_all (by kernel_rfl) ?_)
    | refine finish_pure ?_ (by repeat' (first | exact AS.le.refl _ | assumption | (refine le_set (by first | assumption | (simp only [*]; done) | exact AS.le.fresh (by assumption) (by simp only [*])) ?_) | (refine le_ty (by first | assumption | (simp only [*]; done) | exact AS.le.fresh (by assumption) (by simp only [*])) ?_)))
    | simp -dsimp only [↓bp, bq, br, afin, bsk, cWrites, opsWrites, pieceGh, rsk, ne_eq, if_true, if_false, exists_eq_left', forall_const, forall_eq, Nat.reduceLT, Int.reduceSub, Nat.reduceAdd, Nat.reduceSub, Nat.reduceMul, Nat.reduceLeDiff, Nat.reduceEqDiff, Nat.reduceBEq, Nat.reduceBNe, Int.reduceNeg, Int.reduceAdd, Int.reduceMul, Int.reduceLE, Int.reduceLT, Int.reduceEq, Int.reduceToNat, reduceIte, reduceCtorEq, tbLawTaleB, *])
  all_goals
    rcases tt with ⟨t1, t2, rfl⟩ | ⟨t1, t2, rfl⟩ | ⟨t1, rfl⟩
    all_goals try (exfalso; first | (have hh := of_eq_false t1; contradiction) | (have hh := of_eq_true t1; contradiction))
  all_goals
    repeat' (first
    | with_reducible refine condW_both (fun _ _ => ?_) (fun _ _ => ?_)
    | with_reducible refine gW_both (fun _ _ => ?_) (fun _ _ => ?_)
    | with_reducible refine condW_split (fun _ => ?_) (fun _ => ?_)
    | with_reducible refine gW_split (fun _ => ?_) (fun _ => ?_)
    | with_reducible refine pickW_split (fun _ => ?_) (fun _ => ?_)
    | (refine newW_intro ?_; intro bx hbx; (try simp only [fresh_box, fresh_tip, fresh_ty] at hbx))
    | (refine newT_plain ?_; intro bx hbx; (try simp only [fresh_box, fresh_tip, fresh_ty] at hbx))
    | refine Pure.use (wcb) ?_
    | refine Pure.head (wcb) ?_
    | refine storeX_w ?_
    | ((with_reducible refine And.intro ?_ ?_); omega)
    | refine bo_buildSlice (d' := ⟨⟩) ?_
    | (refine draw_all (by kernel_rfl) ?_)
    | refine finish_pure ?_ (by repeat' (first | exact AS.le.refl _ | assumption | (refine le_set (by first | assumption | (simp only [*]; done) | exact AS.le.fresh (by assumption) (by simp only [*])) ?_) | (refine le_ty (by first | assumption | (simp only [*]; done) | exact AS.le.fresh (by assumption) (by simp only [*])) ?_)))
    | simp -dsimp only [↓bp, bq, br, afin, bsk, cWrites, opsWrites, pieceGh, rsk, ne_eq, if_true, if_false, exists_eq_left', forall_const, forall_eq, Nat.reduceLT, Int.reduceSub, Nat.reduceAdd, Nat.reduceSub, Nat.reduceMul, Nat.reduceLeDiff, Nat.reduceEqDiff, Nat.reduceBEq, Nat.reduceBNe, Int.reduceNeg, Int.reduceAdd, Int.reduceMul, Int.reduceLE, Int.reduceLT, Int.reduceEq, Int.reduceToNat, reduceIte, reduceCtorEq, tbLawTaleB, *])
    all_goals rfl
set_option maxHeartbeats 4000000 in
theorem tale_c4 {a b c : Seen} {m n : Int} {p q : Nat} {Z T : Bool} (h : TEnds G a b c m n p q true false Z true true T) : Pure Tryd.prog G 3 [a.enc, b.enc, c.enc, .int .i64 m, .int .i64 n] (.bool true) := by
  obtain ⟨w, ga, gb, gc, waa, saa, wab, wbc, wac, wba, sab, sba, sad, ta, tb, tx, cp, hw1, hw2, pk1, pk2, sl1, sl2, wca, wcb, tt⟩ := h
  have hd := sad rfl rfl; have tb' := tb rfl
  clear sad tb
  intro σ
  refine Tri.of_awp mixed Tryd.func3 rfl (by kernel_rfl) (by kernel_rfl) (by simp [Tryd.ntmps3]) Tryd.results3 ?_
  repeat' (first
    | with_reducible refine condW_both (fun _ _ => ?_) (fun _ _ => ?_)
    | with_reducible refine gW_both (fun _ _ => ?_) (fun _ _ => ?_)
    | with_reducible refine condW_split (fun _ => ?_) (fun _ => ?_)
    | with_reducible refine gW_split (fun _ => ?_) (fun _ => ?_)
    | with_reducible refine pickW_split (fun _ => ?_) (fun _ => ?_)
    | (refine newW_intro ?_; intro bx hbx; (try simp only [fresh_box, fresh_tip, fresh_ty] at hbx))
    | (refine newT_plain ?_; intro bx hbx; (try simp only [fresh_box, fresh_tip, fresh_ty] at hbx))
    | refine Pure.use (w) ?_
    | refine Pure.head (w) ?_
    | refine Pure.use (ga) ?_
    | refine Pure.head (ga) ?_
    | refine Pure.use (gb) ?_
    | refine Pure.head (gb) ?_
    | refine Pure.use (gc) ?_
    | refine Pure.head (gc) ?_
    | refine Pure.use (waa) ?_
    | refine Pure.head (waa) ?_
    | refine Pure.use (saa) ?_
    | refine Pure.head (saa) ?_
    | refine Pure.use (wab) ?_
    | refine Pure.head (wab) ?_
    | refine Pure.use (wbc) ?_
    | refine Pure.head (wbc) ?_
    | refine Pure.use (wac) ?_
    | refine Pure.head (wac) ?_
    | refine Pure.use (wba) ?_
    | refine Pure.head (wba) ?_
    | refine Pure.use (sab) ?_
    | refine Pure.head (sab) ?_
    | refine Pure.use (sba) ?_
    | refine Pure.head (sba) ?_
    | refine Pure.use (hd) ?_
    | refine Pure.head (hd) ?_
    | refine Pure.use (ta) ?_
    | refine Pure.head (ta) ?_
    | refine Pure.use (tb') ?_
    | refine Pure.head (tb') ?_
    | refine Pure.use (tx) ?_
    | refine Pure.head (tx) ?_
    | refine Pure.use (cp) ?_
    | refine Pure.head (cp) ?_
    | refine Pure.use (pk1) ?_
    | refine Pure.head (pk1) ?_
    | refine Pure.use (pk2) ?_
    | refine Pure.head (pk2) ?_
    | refine Pure.use (wca) ?_
    | refine Pure.head (wca) ?_
    | (refine draw_float1 6 bx (by decide +kernel) AS.set_get ?_)
    | refine storeX_w ?_
    | ((with_reducible refine And.intro ?_ ?_); omega)
    | refine bo_buildSlice (d' := ⟨⟩) ?_
    | (refine draw_all (by kernel_rfl) ?_)
    | refine finish_pure ?_ (by repeat' (first | exact AS.le.refl _ | assumption | (refine le_set (by first | assumption | (simp only [*]; done) | exact AS.le.fresh (by assumption) (by simp only [*])) ?_) | (refine le_ty (by first | assumption | (simp only [*]; done) | exact AS.le.fresh (by assumption) (by simp only [*])) ?_)))
    | simp -dsimp only [↓bp, bq, br, afin, bsk, cWrites, opsWrites, pieceGh, rsk, ne_eq, if_true, if_false, exists_eq_left', forall_const, forall_eq, Nat.reduceLT, Int.reduceSub, Nat.reduceAdd, Nat.reduceSub, Nat.reduceMul, Nat.reduceLeDiff, Nat.reduceEqDiff, Nat.reduceBEq, Nat.reduceBNe, Int.reduceNeg, Int.reduceAdd, Int.reduceMul, Int.reduceLE, Int.reduceLT, Int.reduceEq, Int.reduceToNat, reduceIte, reduceCtorEq, tbLawTaleB, *])
  all_goals
    rcases tt with ⟨t1, t2, rfl⟩ | ⟨t1, t2, rfl⟩ | ⟨t1, rfl⟩
    all_goals try (exfalso; first | (have hh := of_eq_false t1; contradiction) | (have hh := of_eq_true t1; contradiction))
  all_goals
    repeat' (first
    | with_reducible refine condW_both (fun _ _ => ?_) (fun _ _ => ?_)
    | with_reducible refine gW_both (fun _ _ => ?_) (fun _ _ => ?_)
    | with_reducible refine condW_split (fun _ => ?_) (fun _ => ?_)
    | with_reducible refine gW_split (fun _ => ?_) (fun _ => ?_)
    | with_reducible refine pickW_split (fun _ => ?_) (fun _ => ?_)
    | (refine newW_intro ?_; intro bx hbx; (try simp only [fresh_box, fresh_tip, fresh_ty] at hbx))
    | (refine newT_plain ?_; intro bx hbx; (try simp only [fresh_box, fresh_tip, fresh_ty] at hbx))
    | refine Pure.use (wcb) ?_
    | refine Pure.head (wcb) ?_
    | refine storeX_w ?_
    | ((with_reducible refine And.intro ?_ ?_); omega)
    | refine bo_buildSlice (d' := ⟨⟩) ?_
    | (refine draw_all (by kernel_rfl) ?_)
    | refine finish_pure ?_ (by repeat' (first | exact AS.le.refl _ | assumption | (refine le_set (by first | assumption | (simp only [*]; done) | exact AS.le.fresh (by assumption) (by simp only [*])) ?_) | (refine le_ty (by first | assumption | (simp only [*]; done) | exact AS.le.fresh (by assumption) (by simp only [*])) ?_)))
    | simp -dsimp only [↓bp, bq, br, afin, bsk, cWrites, opsWrites, pieceGh, rsk, ne_eq, if_true, if_false, exists_eq_left', forall_const, forall_eq, Nat.reduceLT, Int.reduceSub, Nat.reduceAdd, Nat.reduceSub, Nat.reduceMul, Nat.reduceLeDiff, Nat.reduceEqDiff, Nat.reduceBEq, Nat.reduceBNe, Int.reduceNeg, Int.reduceAdd, Int.reduceMul, Int.reduceLE, Int.reduceLT, Int.reduceEq, Int.reduceToNat, reduceIte, reduceCtorEq, tbLawTaleB, *])
    all_goals rfl
end Go.Proofs.YtpginpbcndlfmaaDoor
