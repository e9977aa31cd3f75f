/- The laws' own small functions; the chapter's examples. -/
import Derived.Test.YtjnhalmeddafdaaDoorZK
import Derived.Test.YtjnhalmeddafdaaDoorZTermApi2
import Derived.Test.YtjnhalmeddafdaaDoorZTermApi3
set_option linter.unusedVariables false
set_option linter.unusedSimpArgs false
set_option maxRecDepth 20000
set_option linter.defProp false
namespace Go.Proofs.YtjnhalmeddafdaaDoor
open Go Go.Av
def tbLawKit := And.intro (And.intro (And.intro (And.intro @tf3 @tf4) (And.intro @tf5 @tf44)) (And.intro (And.intro @tf9 @tf23) (And.intro @tf22 (And.intro @tf24 @tf26)))) (And.intro (And.intro (And.intro @Term.flat_enc @Term.isv_enc) (And.intro @Term.fold_enc (And.intro @isv_encs @flat_encs))) (And.intro (And.intro @len_encs @ix_encs) (And.intro @ix_encs' (And.intro @isv_lims @flat_lims))))
variable {G : Nat → AV}
def atomTm (s : List UInt8) : Term := .mk 2 false [] s 0 [] []
def intTm (n : UInt32) : Term := .mk 1 false [n] [] 0 [] []
def tupTm (l : List Term) : Term := .mk 6 false [] [] 0 l []
def impTm (tl : Term) (l : List Term) : Term := .mk 7 false [] [] 0 l [tl]
theorem le_full (l : List Term) : Le (.sl .full (l.map Term.enc) []) (encs l) := Le.gh
theorem fold_le (t : Term) {cs : List AV} (h : Les cs [.int .u8 t.knd, .bool t.neg, lims t.limbs, .str t.text, .int .i64 t.num, encs t.items, encs t.tail]) : Le (.agg cs) t.enc := by
  rw [← Term.fold_enc t]
  exact Le.agg h (fun d hd => ones t d (by rw [Term.flat_enc]; exact hd))
theorem atomL_pure (s : List UInt8) : Pure Tryd.prog G 25 [.str s] (atomTm s).enc := by
  refine Pure.of_le fun σ => ?_
  refine Tri.of_awp mixed Tryd.func25 rfl (by kernel_rfl) (by kernel_rfl) (by simp [Tryd.ntmps25]) Tryd.results25 ?_
  repeat' (first
    | with_reducible refine condW_both (fun _ _ => ?_) (fun _ _ => ?_)
    | with_reducible refine gW_both (fun _ _ => ?_) (fun _ _ => ?_)
    | with_reducible refine condW_split (fun _ => ?_) (fun _ => ?_)
    | with_reducible refine gW_split (fun _ => ?_) (fun _ => ?_)
    | with_reducible refine pickW_split (fun _ => ?_) (fun _ => ?_)
    | (refine newW_intro ?_; intro bx hbx; (try simp only [fresh_box, fresh_tip, fresh_ty] at hbx))
    | (refine newT_plain ?_; intro bx hbx; (try simp only [fresh_box, fresh_tip, fresh_ty] at hbx))
    | refine storeX_w ?_
    | ((with_reducible refine And.intro ?_ ?_); omega)
    | refine bo_buildSlice (d' := ⟨⟩) ?_
    | (refine draw_all (by kernel_rfl) ?_)
    | refine finish_pure ?_ (by repeat' (first | exact AS.le.refl _ | assumption | (refine le_set (by first | assumption | (simp only [*]; done) | exact AS.le.fresh (by assumption) (by simp only [*])) ?_) | (refine le_ty (by first | assumption | (simp only [*]; done) | exact AS.le.fresh (by assumption) (by simp only [*])) ?_)))
    | simp -dsimp only [↓bp, bq, br, afin, bsk, cWrites, opsWrites, pieceGh, rsk, ne_eq, if_true, if_false, exists_eq_left', forall_const, forall_eq, Nat.reduceLT, Int.reduceSub, Nat.reduceAdd, Nat.reduceSub, Nat.reduceMul, Nat.reduceLeDiff, Nat.reduceEqDiff, Nat.reduceBEq, Nat.reduceBNe, Int.reduceNeg, Int.reduceAdd, Int.reduceMul, Int.reduceLE, Int.reduceLT, Int.reduceEq, Int.reduceToNat, reduceIte, reduceCtorEq, tbLawKit, *])
  exact finish_le (enc_nil 2 false s 0) (by repeat' (first | exact AS.le.refl _ | assumption | (refine le_set (by first | assumption | (simp only [*]; done) | exact AS.le.fresh (by assumption) (by simp only [*])) ?_)))
theorem wholeL_pure (n : UInt32) (m : Int) (hm : m = n.toNat) : Pure Tryd.prog G 27 [.int .u32 m] (intTm n).enc := by
  subst hm
  refine Pure.of_le fun σ => ?_
  refine Tri.of_awp mixed Tryd.func27 rfl (by kernel_rfl) (by kernel_rfl) (by simp [Tryd.ntmps27]) Tryd.results27 ?_
  repeat' (first
    | with_reducible refine condW_both (fun _ _ => ?_) (fun _ _ => ?_)
    | with_reducible refine gW_both (fun _ _ => ?_) (fun _ _ => ?_)
    | with_reducible refine condW_split (fun _ => ?_) (fun _ => ?_)
    | with_reducible refine gW_split (fun _ => ?_) (fun _ => ?_)
    | with_reducible refine pickW_split (fun _ => ?_) (fun _ => ?_)
    | (refine newW_intro ?_; intro bx hbx; (try simp only [fresh_box, fresh_tip, fresh_ty] at hbx))
    | (refine newT_plain ?_; intro bx hbx; (try simp only [fresh_box, fresh_tip, fresh_ty] at hbx))
    | refine storeX_w ?_
    | ((with_reducible refine And.intro ?_ ?_); omega)
    | refine bo_buildSlice (d' := ⟨⟩) ?_
    | (refine draw_all (by kernel_rfl) ?_)
    | refine finish_pure ?_ (by repeat' (first | exact AS.le.refl _ | assumption | (refine le_set (by first | assumption | (simp only [*]; done) | exact AS.le.fresh (by assumption) (by simp only [*])) ?_) | (refine le_ty (by first | assumption | (simp only [*]; done) | exact AS.le.fresh (by assumption) (by simp only [*])) ?_)))
    | simp -dsimp only [↓bp, bq, br, afin, bsk, cWrites, opsWrites, pieceGh, rsk, ne_eq, if_true, if_false, exists_eq_left', forall_const, forall_eq, Nat.reduceLT, Int.reduceSub, Nat.reduceAdd, Nat.reduceSub, Nat.reduceMul, Nat.reduceLeDiff, Nat.reduceEqDiff, Nat.reduceBEq, Nat.reduceBNe, Int.reduceNeg, Int.reduceAdd, Int.reduceMul, Int.reduceLE, Int.reduceLT, Int.reduceEq, Int.reduceToNat, reduceIte, reduceCtorEq, tbLawKit, *])
  exact finish_le (fold_le (intTm n) (.cons (Le.refl _) (.cons (Le.refl _) (.cons Le.gh (.cons (Le.refl _) (.cons (Le.refl _) (.cons Le.nil (.cons Le.nil .nil)))))))) (by repeat' (first | exact AS.le.refl _ | assumption | (refine le_set (by first | assumption | (simp only [*]; done) | exact AS.le.fresh (by assumption) (by simp only [*])) ?_)))
theorem listL_pure (l : List Term) : Pure Tryd.prog G 28 [encs l] (listT l []).enc := by
  refine Pure.of_le fun σ => ?_
  refine Tri.of_awp mixed Tryd.func28 rfl (by kernel_rfl) (by kernel_rfl) (by simp [Tryd.ntmps28]) Tryd.results28 ?_
  repeat' (first
    | with_reducible refine condW_both (fun _ _ => ?_) (fun _ _ => ?_)
    | with_reducible refine gW_both (fun _ _ => ?_) (fun _ _ => ?_)
    | with_reducible refine condW_split (fun _ => ?_) (fun _ => ?_)
    | with_reducible refine gW_split (fun _ => ?_) (fun _ => ?_)
    | with_reducible refine pickW_split (fun _ => ?_) (fun _ => ?_)
    | (refine newW_intro ?_; intro bx hbx; (try simp only [fresh_box, fresh_tip, fresh_ty] at hbx))
    | (refine newT_plain ?_; intro bx hbx; (try simp only [fresh_box, fresh_tip, fresh_ty] at hbx))
    | refine storeX_w ?_
    | ((with_reducible refine And.intro ?_ ?_); omega)
    | refine bo_buildSlice (d' := ⟨⟩) ?_
    | (refine draw_all (by kernel_rfl) ?_)
    | refine finish_pure ?_ (by repeat' (first | exact AS.le.refl _ | assumption | (refine le_set (by first | assumption | (simp only [*]; done) | exact AS.le.fresh (by assumption) (by simp only [*])) ?_) | (refine le_ty (by first | assumption | (simp only [*]; done) | exact AS.le.fresh (by assumption) (by simp only [*])) ?_)))
    | simp -dsimp only [↓bp, bq, br, afin, bsk, cWrites, opsWrites, pieceGh, rsk, ne_eq, if_true, if_false, exists_eq_left', forall_const, forall_eq, Nat.reduceLT, Int.reduceSub, Nat.reduceAdd, Nat.reduceSub, Nat.reduceMul, Nat.reduceLeDiff, Nat.reduceEqDiff, Nat.reduceBEq, Nat.reduceBNe, Int.reduceNeg, Int.reduceAdd, Int.reduceMul, Int.reduceLE, Int.reduceLT, Int.reduceEq, Int.reduceToNat, reduceIte, reduceCtorEq, tbLawKit, *])
  exact finish_le (fold_le (listT l []) (.cons (Le.refl _) (.cons (Le.refl _) (.cons Le.nil (.cons (Le.refl _) (.cons (Le.refl _) (.cons (Le.refl _) (.cons Le.nil .nil)))))))) (by repeat' (first | exact AS.le.refl _ | assumption | (refine le_set (by first | assumption | (simp only [*]; done) | exact AS.le.fresh (by assumption) (by simp only [*])) ?_)))
theorem tupL_pure (l : List Term) : Pure Tryd.prog G 24 [encs l] (tupTm l).enc := by
  refine Pure.of_le fun σ => ?_
  refine Tri.of_awp mixed Tryd.func24 rfl (by kernel_rfl) (by kernel_rfl) (by simp [Tryd.ntmps24]) Tryd.results24 ?_
  repeat' (first
    | with_reducible refine condW_both (fun _ _ => ?_) (fun _ _ => ?_)
    | with_reducible refine gW_both (fun _ _ => ?_) (fun _ _ => ?_)
    | with_reducible refine condW_split (fun _ => ?_) (fun _ => ?_)
    | with_reducible refine gW_split (fun _ => ?_) (fun _ => ?_)
    | with_reducible refine pickW_split (fun _ => ?_) (fun _ => ?_)
    | (refine newW_intro ?_; intro bx hbx; (try simp only [fresh_box, fresh_tip, fresh_ty] at hbx))
    | (refine newT_plain ?_; intro bx hbx; (try simp only [fresh_box, fresh_tip, fresh_ty] at hbx))
    | refine storeX_w ?_
    | ((with_reducible refine And.intro ?_ ?_); omega)
    | refine bo_buildSlice (d' := ⟨⟩) ?_
    | (refine draw_all (by kernel_rfl) ?_)
    | refine finish_pure ?_ (by repeat' (first | exact AS.le.refl _ | assumption | (refine le_set (by first | assumption | (simp only [*]; done) | exact AS.le.fresh (by assumption) (by simp only [*])) ?_) | (refine le_ty (by first | assumption | (simp only [*]; done) | exact AS.le.fresh (by assumption) (by simp only [*])) ?_)))
    | simp -dsimp only [↓bp, bq, br, afin, bsk, cWrites, opsWrites, pieceGh, rsk, ne_eq, if_true, if_false, exists_eq_left', forall_const, forall_eq, Nat.reduceLT, Int.reduceSub, Nat.reduceAdd, Nat.reduceSub, Nat.reduceMul, Nat.reduceLeDiff, Nat.reduceEqDiff, Nat.reduceBEq, Nat.reduceBNe, Int.reduceNeg, Int.reduceAdd, Int.reduceMul, Int.reduceLE, Int.reduceLT, Int.reduceEq, Int.reduceToNat, reduceIte, reduceCtorEq, tbLawKit, *])
  exact finish_le (fold_le (tupTm l) (.cons (Le.refl _) (.cons (Le.refl _) (.cons Le.nil (.cons (Le.refl _) (.cons (Le.refl _) (.cons (Le.refl _) (.cons Le.nil .nil)))))))) (by repeat' (first | exact AS.le.refl _ | assumption | (refine le_set (by first | assumption | (simp only [*]; done) | exact AS.le.fresh (by assumption) (by simp only [*])) ?_)))
theorem impL_pure (tl : Term) (l : List Term) : Pure Tryd.prog G 26 [tl.enc, encs l] (impTm tl l).enc := by
  refine Pure.of_le fun σ => ?_
  refine Tri.of_awp mixed Tryd.func26 rfl (by kernel_rfl) (by kernel_rfl) (by simp [Tryd.ntmps26]) Tryd.results26 ?_
  repeat' (first
    | with_reducible refine condW_both (fun _ _ => ?_) (fun _ _ => ?_)
    | with_reducible refine gW_both (fun _ _ => ?_) (fun _ _ => ?_)
    | with_reducible refine condW_split (fun _ => ?_) (fun _ => ?_)
    | with_reducible refine gW_split (fun _ => ?_) (fun _ => ?_)
    | with_reducible refine pickW_split (fun _ => ?_) (fun _ => ?_)
    | (refine newW_intro ?_; intro bx hbx; (try simp only [fresh_box, fresh_tip, fresh_ty] at hbx))
    | (refine newT_plain ?_; intro bx hbx; (try simp only [fresh_box, fresh_tip, fresh_ty] at hbx))
    | refine storeX_w ?_
    | ((with_reducible refine And.intro ?_ ?_); omega)
    | refine bo_buildSlice (d' := ⟨⟩) ?_
    | (refine draw_all (by kernel_rfl) ?_)
    | refine finish_pure ?_ (by repeat' (first | exact AS.le.refl _ | assumption | (refine le_set (by first | assumption | (simp only [*]; done) | exact AS.le.fresh (by assumption) (by simp only [*])) ?_) | (refine le_ty (by first | assumption | (simp only [*]; done) | exact AS.le.fresh (by assumption) (by simp only [*])) ?_)))
    | simp -dsimp only [↓bp, bq, br, afin, bsk, cWrites, opsWrites, pieceGh, rsk, ne_eq, if_true, if_false, exists_eq_left', forall_const, forall_eq, Nat.reduceLT, Int.reduceSub, Nat.reduceAdd, Nat.reduceSub, Nat.reduceMul, Nat.reduceLeDiff, Nat.reduceEqDiff, Nat.reduceBEq, Nat.reduceBNe, Int.reduceNeg, Int.reduceAdd, Int.reduceMul, Int.reduceLE, Int.reduceLT, Int.reduceEq, Int.reduceToNat, reduceIte, reduceCtorEq, tbLawKit, *])
  exact finish_le (fold_le (impTm tl l) (.cons (Le.refl _) (.cons (Le.refl _) (.cons Le.nil (.cons (Le.refl _) (.cons (Le.refl _) (.cons (Le.refl _) (.cons (le_full [tl]) .nil)))))))) (by repeat' (first | exact AS.le.refl _ | assumption | (refine le_set (by first | assumption | (simp only [*]; done) | exact AS.le.fresh (by assumption) (by simp only [*])) ?_)))
end Go.Proofs.YtjnhalmeddafdaaDoor
