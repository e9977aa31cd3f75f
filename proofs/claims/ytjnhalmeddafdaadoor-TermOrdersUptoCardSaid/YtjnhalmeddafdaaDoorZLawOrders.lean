/- TermOrders on abstract values. -/
import Derived.Test.YtjnhalmeddafdaaDoorZAwk
import Derived.Test.YtjnhalmeddafdaaDoorZRefK
set_option linter.unusedVariables false
set_option linter.unusedSimpArgs false
set_option maxRecDepth 20000
set_option linter.defProp false
namespace Go.Proofs.YtjnhalmeddafdaaDoor
open Go Go.Av
def tbLawOrders := And.intro (And.intro (And.intro (And.intro @tf3 @tf4) (And.intro @tf5 (And.intro @tf9 @tf22))) (And.intro (And.intro @tf24 @tf26) (And.intro @Term.flat_enc (And.intro @Term.isv_enc @Term.fold_enc)))) (And.intro (And.intro (And.intro @isv_encs @flat_encs) (And.intro @len_encs (And.intro @isv_lims @flat_lims))) (And.intro (And.intro @Term.flat_lent @Term.isv_lent) (And.intro @Term.fold_lent (And.intro @isv_lents @flat_lents))))
variable {G : Nat → AV}
set_option maxHeartbeats 4000000 in
theorem orders_law (hg : GlobT G) (a b : Term) (ha : a.bulk ≤ 2000000) (hb : b.bulk ≤ 2000000) : Pure Tryd.prog G 3 [a.enc, b.enc] (.bool true) := by
  have w := awake_pure hg
  have g1 := (great_pure G [a, b] (by simp only [bulks]; omega)).lessArgs (.cons (le_full [a, b]) .nil)
  simp only [List.map_cons, List.map_nil] at g1
  cases hgr : great [a, b]
  · rw [hgr] at g1
    have n1 := lent_pure G a (by omega)
    have n2 := lent_pure G b (by omega)
    have k1 := kept_pure G a (by omega)
    have k2 := kept_pure G b (by omega)
    have c1 := (compare_pure G a b (by omega) (by omega)).lessArgs (args := [a.lent, b.lent]) (.cons (lent_le a) (.cons (lent_le b) .nil))
    have s1 := (sameT_pure G a b (by omega) (by omega)).lessArgs (args := [a.lent, b.lent]) (.cons (lent_le a) (.cons (lent_le b) .nil))
    have c2 := rcompare_pure G a b (by omega) (by omega)
    have s2 := rsame_pure G a b (by omega) (by omega)
    generalize compare a b = z at *
    generalize sameT a b = e at *
    clear hg ha hb hgr
    intro σ
    cases e
    all_goals
      refine Tri.of_awp mixed Tryd.func3 rfl (by kernel_rfl) (by kernel_rfl) (by simp [Tryd.ntmps3]) Tryd.results3 ?_
      repeat' (first
    | with_reducible refine condW_both (fun _ _ => ?_) (fun _ _ => ?_)
    | with_reducible refine gW_both (fun _ _ => ?_) (fun _ _ => ?_)
    | with_reducible refine condW_split (fun _ => ?_) (fun _ => ?_)
    | with_reducible refine gW_split (fun _ => ?_) (fun _ => ?_)
    | with_reducible refine pickW_split (fun _ => ?_) (fun _ => ?_)
    | (refine newW_intro ?_; intro bx hbx; (try simp only [fresh_box, fresh_tip, fresh_ty] at hbx))
    | (refine newT_plain ?_; intro bx hbx; (try simp only [fresh_box, fresh_tip, fresh_ty] at hbx))
    | refine Pure.use (w) ?_
    | refine Pure.head (w) ?_
    | refine Pure.use (g1) ?_
    | refine Pure.head (g1) ?_
    | refine Pure.use (n1) ?_
    | refine Pure.head (n1) ?_
    | refine Pure.use (n2) ?_
    | refine Pure.head (n2) ?_
    | refine Pure.use (c1) ?_
    | refine Pure.head (c1) ?_
    | refine Pure.use (c2) ?_
    | refine Pure.head (c2) ?_
    | refine Pure.use (s1) ?_
    | refine Pure.head (s1) ?_
    | refine Pure.use (s2) ?_
    | refine Pure.head (s2) ?_
    | refine Pure.use (k1) ?_
    | refine Pure.head (k1) ?_
    | refine Pure.use (k2) ?_
    | refine Pure.head (k2) ?_
    | refine storeX_w ?_
    | ((with_reducible refine And.intro ?_ ?_); omega)
    | refine bo_buildSlice (d' := ⟨⟩) ?_
    | (refine draw_all (by kernel_rfl) ?_)
    | refine finish_pure ?_ (by repeat' (first | exact AS.le.refl _ | assumption | (refine le_set (by first | assumption | (simp only [*]; done) | exact AS.le.fresh (by assumption) (by simp only [*])) ?_) | (refine le_ty (by first | assumption | (simp only [*]; done) | exact AS.le.fresh (by assumption) (by simp only [*])) ?_)))
    | simp -dsimp only [↓bp, bq, br, afin, bsk, cWrites, opsWrites, pieceGh, rsk, ne_eq, if_true, if_false, exists_eq_left', forall_const, forall_eq, Nat.reduceLT, Int.reduceSub, Nat.reduceAdd, Nat.reduceSub, Nat.reduceMul, Nat.reduceLeDiff, Nat.reduceEqDiff, Nat.reduceBEq, Nat.reduceBNe, Int.reduceNeg, Int.reduceAdd, Int.reduceMul, Int.reduceLE, Int.reduceLT, Int.reduceEq, Int.reduceToNat, reduceIte, reduceCtorEq, tbLawOrders, *])
    all_goals rfl
  · rw [hgr] at g1
    clear hg
    intro σ
    refine Tri.of_awp mixed Tryd.func3 rfl (by kernel_rfl) (by kernel_rfl) (by simp [Tryd.ntmps3]) Tryd.results3 ?_
    repeat' (first
    | with_reducible refine condW_both (fun _ _ => ?_) (fun _ _ => ?_)
    | with_reducible refine gW_both (fun _ _ => ?_) (fun _ _ => ?_)
    | with_reducible refine condW_split (fun _ => ?_) (fun _ => ?_)
    | with_reducible refine gW_split (fun _ => ?_) (fun _ => ?_)
    | with_reducible refine pickW_split (fun _ => ?_) (fun _ => ?_)
    | (refine newW_intro ?_; intro bx hbx; (try simp only [fresh_box, fresh_tip, fresh_ty] at hbx))
    | (refine newT_plain ?_; intro bx hbx; (try simp only [fresh_box, fresh_tip, fresh_ty] at hbx))
    | refine Pure.use (w) ?_
    | refine Pure.head (w) ?_
    | refine Pure.use (g1) ?_
    | refine Pure.head (g1) ?_
    | refine storeX_w ?_
    | ((with_reducible refine And.intro ?_ ?_); omega)
    | refine bo_buildSlice (d' := ⟨⟩) ?_
    | (refine draw_all (by kernel_rfl) ?_)
    | refine finish_pure ?_ (by repeat' (first | exact AS.le.refl _ | assumption | (refine le_set (by first | assumption | (simp only [*]; done) | exact AS.le.fresh (by assumption) (by simp only [*])) ?_) | (refine le_ty (by first | assumption | (simp only [*]; done) | exact AS.le.fresh (by assumption) (by simp only [*])) ?_)))
    | simp -dsimp only [↓bp, bq, br, afin, bsk, cWrites, opsWrites, pieceGh, rsk, ne_eq, if_true, if_false, exists_eq_left', forall_const, forall_eq, Nat.reduceLT, Int.reduceSub, Nat.reduceAdd, Nat.reduceSub, Nat.reduceMul, Nat.reduceLeDiff, Nat.reduceEqDiff, Nat.reduceBEq, Nat.reduceBNe, Int.reduceNeg, Int.reduceAdd, Int.reduceMul, Int.reduceLE, Int.reduceLT, Int.reduceEq, Int.reduceToNat, reduceIte, reduceCtorEq, tbLawOrders, *])
    all_goals rfl
end Go.Proofs.YtjnhalmeddafdaaDoor
