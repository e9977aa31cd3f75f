/- TermOrder on abstract values. -/
import Derived.Test.YtjnhalmeddafdaaDoorZAwk
set_option linter.unusedVariables false
set_option linter.unusedSimpArgs false
set_option maxRecDepth 20000
namespace Go.Proofs.YtjnhalmeddafdaaDoor
open Go Go.Av
variable {G : Nat → AV}
/-- what the three comparisons and the looks beside them answer -/
structure Ends (G : Nat → AV) (a b c : Term) (X Y Z N : Int) (e : Bool) : Prop where
  w : Pure Tryd.prog G 8 [] (.bool true)
  g1 : Pure Tryd.prog G 7 [.sl .full [a.enc, b.enc, c.enc] []] (.bool false)
  ra : Pure Tryd.prog G 15 [a.enc] (.bool true)
  rb : Pure Tryd.prog G 15 [b.enc] (.bool true)
  rc : Pure Tryd.prog G 15 [c.enc] (.bool true)
  c1 : Pure Tryd.prog G 10 [a.enc, b.enc] (.int .i64 X)
  c2 : Pure Tryd.prog G 10 [b.enc, c.enc] (.int .i64 Y)
  c3 : Pure Tryd.prog G 10 [a.enc, c.enc] (.int .i64 Z)
  c4 : Pure Tryd.prog G 10 [b.enc, a.enc] (.int .i64 N)
  c5 : Pure Tryd.prog G 10 [a.enc, a.enc] (.int .i64 0)
  s1 : Pure Tryd.prog G 12 [a.enc, b.enc] (.bool e)
  s2 : Pure Tryd.prog G 12 [a.enc, a.enc] (.bool true)
  k1 : Pure Tryd.prog G 16 [a.enc, b.enc] (.bool e)
  cp : Pure Tryd.prog G 17 [a.enc] a.enc
set_option maxHeartbeats 4000000 in
theorem order_c1 {a b c : Term} {Y Z : Int} (h : Ends G a b c 1 Y Z (-1) false) (hk : (b.knd ≤ a.knd) = True) : Pure Tryd.prog G 4 [a.enc, b.enc, c.enc] (.bool true) := by
  obtain ⟨w, g1, ra, rb, rc, c1, c2, c3, c4, c5, s1, s2, k1, cp⟩ := h
  have w0 : IntKind.i64.wrap 0 = 0 := by decide
  have w1 : IntKind.i64.wrap 1 = 1 := by decide
  have w2 : IntKind.i64.wrap (-1) = -1 := by decide
  intro σ
  refine Tri.of_awp mixed Tryd.func4 rfl (by kernel_rfl) (by kernel_rfl) (by simp [Tryd.ntmps4]) Tryd.results4 ?_
  repeat' (first
    | with_reducible refine condW_both (fun _ _ => ?_) (fun _ _ => ?_)
    | with_reducible refine gW_both (fun _ _ => ?_) (fun _ _ => ?_)
    | with_reducible refine condW_split (fun _ => ?_) (fun _ => ?_)
    | with_reducible refine gW_split (fun _ => ?_) (fun _ => ?_)
    | with_reducible refine pickW_split (fun _ => ?_) (fun _ => ?_)
    | (refine newW_intro ?_; intro bx hbx; (try simp only [fresh_box, fresh_tip, fresh_ty] at hbx))
    | (refine newT_plain ?_; intro bx hbx; (try simp only [fresh_box, fresh_tip, fresh_ty] at hbx))
    | refine Pure.use (w) ?_
    | refine Pure.head (w) ?_
    | refine Pure.use (g1) ?_
    | refine Pure.head (g1) ?_
    | refine Pure.use (ra) ?_
    | refine Pure.head (ra) ?_
    | refine Pure.use (rb) ?_
    | refine Pure.head (rb) ?_
    | refine Pure.use (rc) ?_
    | refine Pure.head (rc) ?_
    | refine Pure.use (c1) ?_
    | refine Pure.head (c1) ?_
    | refine Pure.use (c2) ?_
    | refine Pure.head (c2) ?_
    | refine Pure.use (c3) ?_
    | refine Pure.head (c3) ?_
    | refine Pure.use (c4) ?_
    | refine Pure.head (c4) ?_
    | refine Pure.use (c5) ?_
    | refine Pure.head (c5) ?_
    | refine Pure.use (s1) ?_
    | refine Pure.head (s1) ?_
    | refine Pure.use (s2) ?_
    | refine Pure.head (s2) ?_
    | refine Pure.use (k1) ?_
    | refine Pure.head (k1) ?_
    | refine Pure.use (cp) ?_
    | refine Pure.head (cp) ?_
    | refine storeX_w ?_
    | ((with_reducible refine And.intro ?_ ?_); omega)
    | refine bo_buildSlice (d' := ⟨⟩) ?_
    | (refine draw_all (by kernel_rfl) ?_)
    | refine finish_pure ?_ (by repeat' (first | exact AS.le.refl _ | assumption | (refine le_set (by first | assumption | (simp only [*]; done) | exact AS.le.fresh (by assumption) (by simp only [*])) ?_) | (refine le_ty (by first | assumption | (simp only [*]; done) | exact AS.le.fresh (by assumption) (by simp only [*])) ?_)))
    | simp -dsimp only [↓bp, bq, br, afin, bsk, cWrites, opsWrites, pieceGh, rsk, ne_eq, if_true, if_false, exists_eq_left', forall_const, forall_eq, Nat.reduceLT, Int.reduceSub, Nat.reduceAdd, Nat.reduceSub, Nat.reduceMul, Nat.reduceLeDiff, Nat.reduceEqDiff, Nat.reduceBEq, Nat.reduceBNe, Int.reduceNeg, Int.reduceAdd, Int.reduceMul, Int.reduceLE, Int.reduceLT, Int.reduceEq, Int.reduceToNat, reduceIte, reduceCtorEq, tf3, tf4, tf5, tf9, tf22, tf24, tf26, Term.flat_enc, Term.isv_enc, Term.fold_enc, isv_encs, flat_encs, len_encs, isv_lims, flat_lims, *])
  all_goals rfl
set_option maxHeartbeats 4000000 in
theorem order_c2 {a b c : Term} {Z : Int} (h : Ends G a b c 0 1 Z 0 true) (hk : (b.knd ≤ a.knd) = True) : Pure Tryd.prog G 4 [a.enc, b.enc, c.enc] (.bool true) := by
  obtain ⟨w, g1, ra, rb, rc, c1, c2, c3, c4, c5, s1, s2, k1, cp⟩ := h
  have w0 : IntKind.i64.wrap 0 = 0 := by decide
  have w1 : IntKind.i64.wrap 1 = 1 := by decide
  have w2 : IntKind.i64.wrap (-1) = -1 := by decide
  intro σ
  refine Tri.of_awp mixed Tryd.func4 rfl (by kernel_rfl) (by kernel_rfl) (by simp [Tryd.ntmps4]) Tryd.results4 ?_
  repeat' (first
    | with_reducible refine condW_both (fun _ _ => ?_) (fun _ _ => ?_)
    | with_reducible refine gW_both (fun _ _ => ?_) (fun _ _ => ?_)
    | with_reducible refine condW_split (fun _ => ?_) (fun _ => ?_)
    | with_reducible refine gW_split (fun _ => ?_) (fun _ => ?_)
    | with_reducible refine pickW_split (fun _ => ?_) (fun _ => ?_)
    | (refine newW_intro ?_; intro bx hbx; (try simp only [fresh_box, fresh_tip, fresh_ty] at hbx))
    | (refine newT_plain ?_; intro bx hbx; (try simp only [fresh_box, fresh_tip, fresh_ty] at hbx))
    | refine Pure.use (w) ?_
    | refine Pure.head (w) ?_
    | refine Pure.use (g1) ?_
    | refine Pure.head (g1) ?_
    | refine Pure.use (ra) ?_
    | refine Pure.head (ra) ?_
    | refine Pure.use (rb) ?_
    | refine Pure.head (rb) ?_
    | refine Pure.use (rc) ?_
    | refine Pure.head (rc) ?_
    | refine Pure.use (c1) ?_
    | refine Pure.head (c1) ?_
    | refine Pure.use (c2) ?_
    | refine Pure.head (c2) ?_
    | refine Pure.use (c3) ?_
    | refine Pure.head (c3) ?_
    | refine Pure.use (c4) ?_
    | refine Pure.head (c4) ?_
    | refine Pure.use (c5) ?_
    | refine Pure.head (c5) ?_
    | refine Pure.use (s1) ?_
    | refine Pure.head (s1) ?_
    | refine Pure.use (s2) ?_
    | refine Pure.head (s2) ?_
    | refine Pure.use (k1) ?_
    | refine Pure.head (k1) ?_
    | refine Pure.use (cp) ?_
    | refine Pure.head (cp) ?_
    | refine storeX_w ?_
    | ((with_reducible refine And.intro ?_ ?_); omega)
    | refine bo_buildSlice (d' := ⟨⟩) ?_
    | (refine draw_all (by kernel_rfl) ?_)
    | refine finish_pure ?_ (by repeat' (first | exact AS.le.refl _ | assumption | (refine le_set (by first | assumption | (simp only [*]; done) | exact AS.le.fresh (by assumption) (by simp only [*])) ?_) | (refine le_ty (by first | assumption | (simp only [*]; done) | exact AS.le.fresh (by assumption) (by simp only [*])) ?_)))
    | simp -dsimp only [↓bp, bq, br, afin, bsk, cWrites, opsWrites, pieceGh, rsk, ne_eq, if_true, if_false, exists_eq_left', forall_const, forall_eq, Nat.reduceLT, Int.reduceSub, Nat.reduceAdd, Nat.reduceSub, Nat.reduceMul, Nat.reduceLeDiff, Nat.reduceEqDiff, Nat.reduceBEq, Nat.reduceBNe, Int.reduceNeg, Int.reduceAdd, Int.reduceMul, Int.reduceLE, Int.reduceLT, Int.reduceEq, Int.reduceToNat, reduceIte, reduceCtorEq, tf3, tf4, tf5, tf9, tf22, tf24, tf26, Term.flat_enc, Term.isv_enc, Term.fold_enc, isv_encs, flat_encs, len_encs, isv_lims, flat_lims, *])
  all_goals rfl
set_option maxHeartbeats 4000000 in
theorem order_c3 {a b c : Term} (h : Ends G a b c 0 0 0 0 true) (hk : (b.knd ≤ a.knd) = True) : Pure Tryd.prog G 4 [a.enc, b.enc, c.enc] (.bool true) := by
  obtain ⟨w, g1, ra, rb, rc, c1, c2, c3, c4, c5, s1, s2, k1, cp⟩ := h
  have w0 : IntKind.i64.wrap 0 = 0 := by decide
  have w1 : IntKind.i64.wrap 1 = 1 := by decide
  have w2 : IntKind.i64.wrap (-1) = -1 := by decide
  intro σ
  refine Tri.of_awp mixed Tryd.func4 rfl (by kernel_rfl) (by kernel_rfl) (by simp [Tryd.ntmps4]) Tryd.results4 ?_
  repeat' (first
    | with_reducible refine condW_both (fun _ _ => ?_) (fun _ _ => ?_)
    | with_reducible refine gW_both (fun _ _ => ?_) (fun _ _ => ?_)
    | with_reducible refine condW_split (fun _ => ?_) (fun _ => ?_)
    | with_reducible refine gW_split (fun _ => ?_) (fun _ => ?_)
    | with_reducible refine pickW_split (fun _ => ?_) (fun _ => ?_)
    | (refine newW_intro ?_; intro bx hbx; (try simp only [fresh_box, fresh_tip, fresh_ty] at hbx))
    | (refine newT_plain ?_; intro bx hbx; (try simp only [fresh_box, fresh_tip, fresh_ty] at hbx))
    | refine Pure.use (w) ?_
    | refine Pure.head (w) ?_
    | refine Pure.use (g1) ?_
    | refine Pure.head (g1) ?_
    | refine Pure.use (ra) ?_
    | refine Pure.head (ra) ?_
    | refine Pure.use (rb) ?_
    | refine Pure.head (rb) ?_
    | refine Pure.use (rc) ?_
    | refine Pure.head (rc) ?_
    | refine Pure.use (c1) ?_
    | refine Pure.head (c1) ?_
    | refine Pure.use (c2) ?_
    | refine Pure.head (c2) ?_
    | refine Pure.use (c3) ?_
    | refine Pure.head (c3) ?_
    | refine Pure.use (c4) ?_
    | refine Pure.head (c4) ?_
    | refine Pure.use (c5) ?_
    | refine Pure.head (c5) ?_
    | refine Pure.use (s1) ?_
    | refine Pure.head (s1) ?_
    | refine Pure.use (s2) ?_
    | refine Pure.head (s2) ?_
    | refine Pure.use (k1) ?_
    | refine Pure.head (k1) ?_
    | refine Pure.use (cp) ?_
    | refine Pure.head (cp) ?_
    | refine storeX_w ?_
    | ((with_reducible refine And.intro ?_ ?_); omega)
    | refine bo_buildSlice (d' := ⟨⟩) ?_
    | (refine draw_all (by kernel_rfl) ?_)
    | refine finish_pure ?_ (by repeat' (first | exact AS.le.refl _ | assumption | (refine le_set (by first | assumption | (simp only [*]; done) | exact AS.le.fresh (by assumption) (by simp only [*])) ?_) | (refine le_ty (by first | assumption | (simp only [*]; done) | exact AS.le.fresh (by assumption) (by simp only [*])) ?_)))
    | simp -dsimp only [↓bp, bq, br, afin, bsk, cWrites, opsWrites, pieceGh, rsk, ne_eq, if_true, if_false, exists_eq_left', forall_const, forall_eq, Nat.reduceLT, Int.reduceSub, Nat.reduceAdd, Nat.reduceSub, Nat.reduceMul, Nat.reduceLeDiff, Nat.reduceEqDiff, Nat.reduceBEq, Nat.reduceBNe, Int.reduceNeg, Int.reduceAdd, Int.reduceMul, Int.reduceLE, Int.reduceLT, Int.reduceEq, Int.reduceToNat, reduceIte, reduceCtorEq, tf3, tf4, tf5, tf9, tf22, tf24, tf26, Term.flat_enc, Term.isv_enc, Term.fold_enc, isv_encs, flat_encs, len_encs, isv_lims, flat_lims, *])
  all_goals rfl
set_option maxHeartbeats 4000000 in
theorem order_c4 {a b c : Term} (h : Ends G a b c 0 0 (-1) 0 true) (hk : (b.knd ≤ a.knd) = True) : Pure Tryd.prog G 4 [a.enc, b.enc, c.enc] (.bool true) := by
  obtain ⟨w, g1, ra, rb, rc, c1, c2, c3, c4, c5, s1, s2, k1, cp⟩ := h
  have w0 : IntKind.i64.wrap 0 = 0 := by decide
  have w1 : IntKind.i64.wrap 1 = 1 := by decide
  have w2 : IntKind.i64.wrap (-1) = -1 := by decide
  intro σ
  refine Tri.of_awp mixed Tryd.func4 rfl (by kernel_rfl) (by kernel_rfl) (by simp [Tryd.ntmps4]) Tryd.results4 ?_
  repeat' (first
    | with_reducible refine condW_both (fun _ _ => ?_) (fun _ _ => ?_)
    | with_reducible refine gW_both (fun _ _ => ?_) (fun _ _ => ?_)
    | with_reducible refine condW_split (fun _ => ?_) (fun _ => ?_)
    | with_reducible refine gW_split (fun _ => ?_) (fun _ => ?_)
    | with_reducible refine pickW_split (fun _ => ?_) (fun _ => ?_)
    | (refine newW_intro ?_; intro bx hbx; (try simp only [fresh_box, fresh_tip, fresh_ty] at hbx))
    | (refine newT_plain ?_; intro bx hbx; (try simp only [fresh_box, fresh_tip, fresh_ty] at hbx))
    | refine Pure.use (w) ?_
    | refine Pure.head (w) ?_
    | refine Pure.use (g1) ?_
    | refine Pure.head (g1) ?_
    | refine Pure.use (ra) ?_
    | refine Pure.head (ra) ?_
    | refine Pure.use (rb) ?_
    | refine Pure.head (rb) ?_
    | refine Pure.use (rc) ?_
    | refine Pure.head (rc) ?_
    | refine Pure.use (c1) ?_
    | refine Pure.head (c1) ?_
    | refine Pure.use (c2) ?_
    | refine Pure.head (c2) ?_
    | refine Pure.use (c3) ?_
    | refine Pure.head (c3) ?_
    | refine Pure.use (c4) ?_
    | refine Pure.head (c4) ?_
    | refine Pure.use (c5) ?_
    | refine Pure.head (c5) ?_
    | refine Pure.use (s1) ?_
    | refine Pure.head (s1) ?_
    | refine Pure.use (s2) ?_
    | refine Pure.head (s2) ?_
    | refine Pure.use (k1) ?_
    | refine Pure.head (k1) ?_
    | refine Pure.use (cp) ?_
    | refine Pure.head (cp) ?_
    | refine storeX_w ?_
    | ((with_reducible refine And.intro ?_ ?_); omega)
    | refine bo_buildSlice (d' := ⟨⟩) ?_
    | (refine draw_all (by kernel_rfl) ?_)
    | refine finish_pure ?_ (by repeat' (first | exact AS.le.refl _ | assumption | (refine le_set (by first | assumption | (simp only [*]; done) | exact AS.le.fresh (by assumption) (by simp only [*])) ?_) | (refine le_ty (by first | assumption | (simp only [*]; done) | exact AS.le.fresh (by assumption) (by simp only [*])) ?_)))
    | simp -dsimp only [↓bp, bq, br, afin, bsk, cWrites, opsWrites, pieceGh, rsk, ne_eq, if_true, if_false, exists_eq_left', forall_const, forall_eq, Nat.reduceLT, Int.reduceSub, Nat.reduceAdd, Nat.reduceSub, Nat.reduceMul, Nat.reduceLeDiff, Nat.reduceEqDiff, Nat.reduceBEq, Nat.reduceBNe, Int.reduceNeg, Int.reduceAdd, Int.reduceMul, Int.reduceLE, Int.reduceLT, Int.reduceEq, Int.reduceToNat, reduceIte, reduceCtorEq, tf3, tf4, tf5, tf9, tf22, tf24, tf26, Term.flat_enc, Term.isv_enc, Term.fold_enc, isv_encs, flat_encs, len_encs, isv_lims, flat_lims, *])
  all_goals rfl
set_option maxHeartbeats 4000000 in
theorem order_c5 {a b c : Term} (h : Ends G a b c 0 (-1) (-1) 0 true) (hk : (b.knd ≤ a.knd) = True) : Pure Tryd.prog G 4 [a.enc, b.enc, c.enc] (.bool true) := by
  obtain ⟨w, g1, ra, rb, rc, c1, c2, c3, c4, c5, s1, s2, k1, cp⟩ := h
  have w0 : IntKind.i64.wrap 0 = 0 := by decide
  have w1 : IntKind.i64.wrap 1 = 1 := by decide
  have w2 : IntKind.i64.wrap (-1) = -1 := by decide
  intro σ
  refine Tri.of_awp mixed Tryd.func4 rfl (by kernel_rfl) (by kernel_rfl) (by simp [Tryd.ntmps4]) Tryd.results4 ?_
  repeat' (first
    | with_reducible refine condW_both (fun _ _ => ?_) (fun _ _ => ?_)
    | with_reducible refine gW_both (fun _ _ => ?_) (fun _ _ => ?_)
    | with_reducible refine condW_split (fun _ => ?_) (fun _ => ?_)
    | with_reducible refine gW_split (fun _ => ?_) (fun _ => ?_)
    | with_reducible refine pickW_split (fun _ => ?_) (fun _ => ?_)
    | (refine newW_intro ?_; intro bx hbx; (try simp only [fresh_box, fresh_tip, fresh_ty] at hbx))
    | (refine newT_plain ?_; intro bx hbx; (try simp only [fresh_box, fresh_tip, fresh_ty] at hbx))
    | refine Pure.use (w) ?_
    | refine Pure.head (w) ?_
    | refine Pure.use (g1) ?_
    | refine Pure.head (g1) ?_
    | refine Pure.use (ra) ?_
    | refine Pure.head (ra) ?_
    | refine Pure.use (rb) ?_
    | refine Pure.head (rb) ?_
    | refine Pure.use (rc) ?_
    | refine Pure.head (rc) ?_
    | refine Pure.use (c1) ?_
    | refine Pure.head (c1) ?_
    | refine Pure.use (c2) ?_
    | refine Pure.head (c2) ?_
    | refine Pure.use (c3) ?_
    | refine Pure.head (c3) ?_
    | refine Pure.use (c4) ?_
    | refine Pure.head (c4) ?_
    | refine Pure.use (c5) ?_
    | refine Pure.head (c5) ?_
    | refine Pure.use (s1) ?_
    | refine Pure.head (s1) ?_
    | refine Pure.use (s2) ?_
    | refine Pure.head (s2) ?_
    | refine Pure.use (k1) ?_
    | refine Pure.head (k1) ?_
    | refine Pure.use (cp) ?_
    | refine Pure.head (cp) ?_
    | refine storeX_w ?_
    | ((with_reducible refine And.intro ?_ ?_); omega)
    | refine bo_buildSlice (d' := ⟨⟩) ?_
    | (refine draw_all (by kernel_rfl) ?_)
    | refine finish_pure ?_ (by repeat' (first | exact AS.le.refl _ | assumption | (refine le_set (by first | assumption | (simp only [*]; done) | exact AS.le.fresh (by assumption) (by simp only [*])) ?_) | (refine le_ty (by first | assumption | (simp only [*]; done) | exact AS.le.fresh (by assumption) (by simp only [*])) ?_)))
    | simp -dsimp only [↓bp, bq, br, afin, bsk, cWrites, opsWrites, pieceGh, rsk, ne_eq, if_true, if_false, exists_eq_left', forall_const, forall_eq, Nat.reduceLT, Int.reduceSub, Nat.reduceAdd, Nat.reduceSub, Nat.reduceMul, Nat.reduceLeDiff, Nat.reduceEqDiff, Nat.reduceBEq, Nat.reduceBNe, Int.reduceNeg, Int.reduceAdd, Int.reduceMul, Int.reduceLE, Int.reduceLT, Int.reduceEq, Int.reduceToNat, reduceIte, reduceCtorEq, tf3, tf4, tf5, tf9, tf22, tf24, tf26, Term.flat_enc, Term.isv_enc, Term.fold_enc, isv_encs, flat_encs, len_encs, isv_lims, flat_lims, *])
  all_goals rfl
set_option maxHeartbeats 4000000 in
theorem order_c6 {a b c : Term} {Z : Int} (h : Ends G a b c (-1) 1 Z 1 false) : Pure Tryd.prog G 4 [a.enc, b.enc, c.enc] (.bool true) := by
  obtain ⟨w, g1, ra, rb, rc, c1, c2, c3, c4, c5, s1, s2, k1, cp⟩ := h
  have w0 : IntKind.i64.wrap 0 = 0 := by decide
  have w1 : IntKind.i64.wrap 1 = 1 := by decide
  have w2 : IntKind.i64.wrap (-1) = -1 := by decide
  intro σ
  refine Tri.of_awp mixed Tryd.func4 rfl (by kernel_rfl) (by kernel_rfl) (by simp [Tryd.ntmps4]) Tryd.results4 ?_
  repeat' (first
    | with_reducible refine condW_both (fun _ _ => ?_) (fun _ _ => ?_)
    | with_reducible refine gW_both (fun _ _ => ?_) (fun _ _ => ?_)
    | with_reducible refine condW_split (fun _ => ?_) (fun _ => ?_)
    | with_reducible refine gW_split (fun _ => ?_) (fun _ => ?_)
    | with_reducible refine pickW_split (fun _ => ?_) (fun _ => ?_)
    | (refine newW_intro ?_; intro bx hbx; (try simp only [fresh_box, fresh_tip, fresh_ty] at hbx))
    | (refine newT_plain ?_; intro bx hbx; (try simp only [fresh_box, fresh_tip, fresh_ty] at hbx))
    | refine Pure.use (w) ?_
    | refine Pure.head (w) ?_
    | refine Pure.use (g1) ?_
    | refine Pure.head (g1) ?_
    | refine Pure.use (ra) ?_
    | refine Pure.head (ra) ?_
    | refine Pure.use (rb) ?_
    | refine Pure.head (rb) ?_
    | refine Pure.use (rc) ?_
    | refine Pure.head (rc) ?_
    | refine Pure.use (c1) ?_
    | refine Pure.head (c1) ?_
    | refine Pure.use (c2) ?_
    | refine Pure.head (c2) ?_
    | refine Pure.use (c3) ?_
    | refine Pure.head (c3) ?_
    | refine Pure.use (c4) ?_
    | refine Pure.head (c4) ?_
    | refine Pure.use (c5) ?_
    | refine Pure.head (c5) ?_
    | refine Pure.use (s1) ?_
    | refine Pure.head (s1) ?_
    | refine Pure.use (s2) ?_
    | refine Pure.head (s2) ?_
    | refine Pure.use (k1) ?_
    | refine Pure.head (k1) ?_
    | refine Pure.use (cp) ?_
    | refine Pure.head (cp) ?_
    | refine storeX_w ?_
    | ((with_reducible refine And.intro ?_ ?_); omega)
    | refine bo_buildSlice (d' := ⟨⟩) ?_
    | (refine draw_all (by kernel_rfl) ?_)
    | refine finish_pure ?_ (by repeat' (first | exact AS.le.refl _ | assumption | (refine le_set (by first | assumption | (simp only [*]; done) | exact AS.le.fresh (by assumption) (by simp only [*])) ?_) | (refine le_ty (by first | assumption | (simp only [*]; done) | exact AS.le.fresh (by assumption) (by simp only [*])) ?_)))
    | simp -dsimp only [↓bp, bq, br, afin, bsk, cWrites, opsWrites, pieceGh, rsk, ne_eq, if_true, if_false, exists_eq_left', forall_const, forall_eq, Nat.reduceLT, Int.reduceSub, Nat.reduceAdd, Nat.reduceSub, Nat.reduceMul, Nat.reduceLeDiff, Nat.reduceEqDiff, Nat.reduceBEq, Nat.reduceBNe, Int.reduceNeg, Int.reduceAdd, Int.reduceMul, Int.reduceLE, Int.reduceLT, Int.reduceEq, Int.reduceToNat, reduceIte, reduceCtorEq, tf3, tf4, tf5, tf9, tf22, tf24, tf26, Term.flat_enc, Term.isv_enc, Term.fold_enc, isv_encs, flat_encs, len_encs, isv_lims, flat_lims, *])
  all_goals rfl
set_option maxHeartbeats 4000000 in
theorem order_c7 {a b c : Term} (h : Ends G a b c (-1) 0 (-1) 1 false) : Pure Tryd.prog G 4 [a.enc, b.enc, c.enc] (.bool true) := by
  obtain ⟨w, g1, ra, rb, rc, c1, c2, c3, c4, c5, s1, s2, k1, cp⟩ := h
  have w0 : IntKind.i64.wrap 0 = 0 := by decide
  have w1 : IntKind.i64.wrap 1 = 1 := by decide
  have w2 : IntKind.i64.wrap (-1) = -1 := by decide
  intro σ
  refine Tri.of_awp mixed Tryd.func4 rfl (by kernel_rfl) (by kernel_rfl) (by simp [Tryd.ntmps4]) Tryd.results4 ?_
  repeat' (first
    | with_reducible refine condW_both (fun _ _ => ?_) (fun _ _ => ?_)
    | with_reducible refine gW_both (fun _ _ => ?_) (fun _ _ => ?_)
    | with_reducible refine condW_split (fun _ => ?_) (fun _ => ?_)
    | with_reducible refine gW_split (fun _ => ?_) (fun _ => ?_)
    | with_reducible refine pickW_split (fun _ => ?_) (fun _ => ?_)
    | (refine newW_intro ?_; intro bx hbx; (try simp only [fresh_box, fresh_tip, fresh_ty] at hbx))
    | (refine newT_plain ?_; intro bx hbx; (try simp only [fresh_box, fresh_tip, fresh_ty] at hbx))
    | refine Pure.use (w) ?_
    | refine Pure.head (w) ?_
    | refine Pure.use (g1) ?_
    | refine Pure.head (g1) ?_
    | refine Pure.use (ra) ?_
    | refine Pure.head (ra) ?_
    | refine Pure.use (rb) ?_
    | refine Pure.head (rb) ?_
    | refine Pure.use (rc) ?_
    | refine Pure.head (rc) ?_
    | refine Pure.use (c1) ?_
    | refine Pure.head (c1) ?_
    | refine Pure.use (c2) ?_
    | refine Pure.head (c2) ?_
    | refine Pure.use (c3) ?_
    | refine Pure.head (c3) ?_
    | refine Pure.use (c4) ?_
    | refine Pure.head (c4) ?_
    | refine Pure.use (c5) ?_
    | refine Pure.head (c5) ?_
    | refine Pure.use (s1) ?_
    | refine Pure.head (s1) ?_
    | refine Pure.use (s2) ?_
    | refine Pure.head (s2) ?_
    | refine Pure.use (k1) ?_
    | refine Pure.head (k1) ?_
    | refine Pure.use (cp) ?_
    | refine Pure.head (cp) ?_
    | refine storeX_w ?_
    | ((with_reducible refine And.intro ?_ ?_); omega)
    | refine bo_buildSlice (d' := ⟨⟩) ?_
    | (refine draw_all (by kernel_rfl) ?_)
    | refine finish_pure ?_ (by repeat' (first | exact AS.le.refl _ | assumption | (refine le_set (by first | assumption | (simp only [*]; done) | exact AS.le.fresh (by assumption) (by simp only [*])) ?_) | (refine le_ty (by first | assumption | (simp only [*]; done) | exact AS.le.fresh (by assumption) (by simp only [*])) ?_)))
    | simp -dsimp only [↓bp, bq, br, afin, bsk, cWrites, opsWrites, pieceGh, rsk, ne_eq, if_true, if_false, exists_eq_left', forall_const, forall_eq, Nat.reduceLT, Int.reduceSub, Nat.reduceAdd, Nat.reduceSub, Nat.reduceMul, Nat.reduceLeDiff, Nat.reduceEqDiff, Nat.reduceBEq, Nat.reduceBNe, Int.reduceNeg, Int.reduceAdd, Int.reduceMul, Int.reduceLE, Int.reduceLT, Int.reduceEq, Int.reduceToNat, reduceIte, reduceCtorEq, tf3, tf4, tf5, tf9, tf22, tf24, tf26, Term.flat_enc, Term.isv_enc, Term.fold_enc, isv_encs, flat_encs, len_encs, isv_lims, flat_lims, *])
  all_goals rfl
set_option maxHeartbeats 4000000 in
theorem order_c8 {a b c : Term} (h : Ends G a b c (-1) (-1) (-1) 1 false) : Pure Tryd.prog G 4 [a.enc, b.enc, c.enc] (.bool true) := by
  obtain ⟨w, g1, ra, rb, rc, c1, c2, c3, c4, c5, s1, s2, k1, cp⟩ := h
  have w0 : IntKind.i64.wrap 0 = 0 := by decide
  have w1 : IntKind.i64.wrap 1 = 1 := by decide
  have w2 : IntKind.i64.wrap (-1) = -1 := by decide
  intro σ
  refine Tri.of_awp mixed Tryd.func4 rfl (by kernel_rfl) (by kernel_rfl) (by simp [Tryd.ntmps4]) Tryd.results4 ?_
  repeat' (first
    | with_reducible refine condW_both (fun _ _ => ?_) (fun _ _ => ?_)
    | with_reducible refine gW_both (fun _ _ => ?_) (fun _ _ => ?_)
    | with_reducible refine condW_split (fun _ => ?_) (fun _ => ?_)
    | with_reducible refine gW_split (fun _ => ?_) (fun _ => ?_)
    | with_reducible refine pickW_split (fun _ => ?_) (fun _ => ?_)
    | (refine newW_intro ?_; intro bx hbx; (try simp only [fresh_box, fresh_tip, fresh_ty] at hbx))
    | (refine newT_plain ?_; intro bx hbx; (try simp only [fresh_box, fresh_tip, fresh_ty] at hbx))
    | refine Pure.use (w) ?_
    | refine Pure.head (w) ?_
    | refine Pure.use (g1) ?_
    | refine Pure.head (g1) ?_
    | refine Pure.use (ra) ?_
    | refine Pure.head (ra) ?_
    | refine Pure.use (rb) ?_
    | refine Pure.head (rb) ?_
    | refine Pure.use (rc) ?_
    | refine Pure.head (rc) ?_
    | refine Pure.use (c1) ?_
    | refine Pure.head (c1) ?_
    | refine Pure.use (c2) ?_
    | refine Pure.head (c2) ?_
    | refine Pure.use (c3) ?_
    | refine Pure.head (c3) ?_
    | refine Pure.use (c4) ?_
    | refine Pure.head (c4) ?_
    | refine Pure.use (c5) ?_
    | refine Pure.head (c5) ?_
    | refine Pure.use (s1) ?_
    | refine Pure.head (s1) ?_
    | refine Pure.use (s2) ?_
    | refine Pure.head (s2) ?_
    | refine Pure.use (k1) ?_
    | refine Pure.head (k1) ?_
    | refine Pure.use (cp) ?_
    | refine Pure.head (cp) ?_
    | refine storeX_w ?_
    | ((with_reducible refine And.intro ?_ ?_); omega)
    | refine bo_buildSlice (d' := ⟨⟩) ?_
    | (refine draw_all (by kernel_rfl) ?_)
    | refine finish_pure ?_ (by repeat' (first | exact AS.le.refl _ | assumption | (refine le_set (by first | assumption | (simp only [*]; done) | exact AS.le.fresh (by assumption) (by simp only [*])) ?_) | (refine le_ty (by first | assumption | (simp only [*]; done) | exact AS.le.fresh (by assumption) (by simp only [*])) ?_)))
    | simp -dsimp only [↓bp, bq, br, afin, bsk, cWrites, opsWrites, pieceGh, rsk, ne_eq, if_true, if_false, exists_eq_left', forall_const, forall_eq, Nat.reduceLT, Int.reduceSub, Nat.reduceAdd, Nat.reduceSub, Nat.reduceMul, Nat.reduceLeDiff, Nat.reduceEqDiff, Nat.reduceBEq, Nat.reduceBNe, Int.reduceNeg, Int.reduceAdd, Int.reduceMul, Int.reduceLE, Int.reduceLT, Int.reduceEq, Int.reduceToNat, reduceIte, reduceCtorEq, tf3, tf4, tf5, tf9, tf22, tf24, tf26, Term.flat_enc, Term.isv_enc, Term.fold_enc, isv_encs, flat_encs, len_encs, isv_lims, flat_lims, *])
  all_goals rfl
set_option maxHeartbeats 4000000 in
theorem order_law (hg : GlobT G) (a b c : Term) (ha : a.bulk ≤ 2000000) (hb : b.bulk ≤ 2000000) (hc : c.bulk ≤ 2000000) : Pure Tryd.prog G 4 [a.enc, b.enc, c.enc] (.bool true) := by
  have w := awake_pure hg
  have g1 := (great_pure G [a, b, c] (by simp only [bulks]; omega)).lessArgs (.cons (le_full [a, b, c]) .nil)
  simp only [List.map_cons, List.map_nil] at g1
  have ra := right_pure G a (by omega)
  have rb := right_pure G b (by omega)
  have rc := right_pure G c (by omega)
  clear hg
  generalize great [a, b, c] = gr at *
  by_cases hgo : gr = false ∧ right a = true ∧ right b = true ∧ right c = true
  rotate_left
  · generalize right a = xa at *
    generalize right b = xb at *
    generalize right c = xc at *
    intro σ
    cases gr
    · cases xa
      · clear hgo
        refine Tri.of_awp mixed Tryd.func4 rfl (by kernel_rfl) (by kernel_rfl) (by simp [Tryd.ntmps4]) Tryd.results4 ?_
        repeat' (first
    | with_reducible refine condW_both (fun _ _ => ?_) (fun _ _ => ?_)
    | with_reducible refine gW_both (fun _ _ => ?_) (fun _ _ => ?_)
    | with_reducible refine condW_split (fun _ => ?_) (fun _ => ?_)
    | with_reducible refine gW_split (fun _ => ?_) (fun _ => ?_)
    | with_reducible refine pickW_split (fun _ => ?_) (fun _ => ?_)
    | (refine newW_intro ?_; intro bx hbx; (try simp only [fresh_box, fresh_tip, fresh_ty] at hbx))
    | (refine newT_plain ?_; intro bx hbx; (try simp only [fresh_box, fresh_tip, fresh_ty] at hbx))
    | refine Pure.use (w) ?_
    | refine Pure.head (w) ?_
    | refine Pure.use (g1) ?_
    | refine Pure.head (g1) ?_
    | refine Pure.use (ra) ?_
    | refine Pure.head (ra) ?_
    | refine Pure.use (rb) ?_
    | refine Pure.head (rb) ?_
    | refine Pure.use (rc) ?_
    | refine Pure.head (rc) ?_
    | refine storeX_w ?_
    | ((with_reducible refine And.intro ?_ ?_); omega)
    | refine bo_buildSlice (d' := ⟨⟩) ?_
    | (refine draw_all (by kernel_rfl) ?_)
    | refine finish_pure ?_ (by repeat' (first | exact AS.le.refl _ | assumption | (refine le_set (by first | assumption | (simp only [*]; done) | exact AS.le.fresh (by assumption) (by simp only [*])) ?_) | (refine le_ty (by first | assumption | (simp only [*]; done) | exact AS.le.fresh (by assumption) (by simp only [*])) ?_)))
    | simp -dsimp only [↓bp, bq, br, afin, bsk, cWrites, opsWrites, pieceGh, rsk, ne_eq, if_true, if_false, exists_eq_left', forall_const, forall_eq, Nat.reduceLT, Int.reduceSub, Nat.reduceAdd, Nat.reduceSub, Nat.reduceMul, Nat.reduceLeDiff, Nat.reduceEqDiff, Nat.reduceBEq, Nat.reduceBNe, Int.reduceNeg, Int.reduceAdd, Int.reduceMul, Int.reduceLE, Int.reduceLT, Int.reduceEq, Int.reduceToNat, reduceIte, reduceCtorEq, tf3, tf4, tf5, tf9, tf22, tf24, tf26, Term.flat_enc, Term.isv_enc, Term.fold_enc, isv_encs, flat_encs, len_encs, isv_lims, flat_lims, *])
        all_goals rfl
      · cases xb
        · clear hgo
          refine Tri.of_awp mixed Tryd.func4 rfl (by kernel_rfl) (by kernel_rfl) (by simp [Tryd.ntmps4]) Tryd.results4 ?_
          repeat' (first
    | with_reducible refine condW_both (fun _ _ => ?_) (fun _ _ => ?_)
    | with_reducible refine gW_both (fun _ _ => ?_) (fun _ _ => ?_)
    | with_reducible refine condW_split (fun _ => ?_) (fun _ => ?_)
    | with_reducible refine gW_split (fun _ => ?_) (fun _ => ?_)
    | with_reducible refine pickW_split (fun _ => ?_) (fun _ => ?_)
    | (refine newW_intro ?_; intro bx hbx; (try simp only [fresh_box, fresh_tip, fresh_ty] at hbx))
    | (refine newT_plain ?_; intro bx hbx; (try simp only [fresh_box, fresh_tip, fresh_ty] at hbx))
    | refine Pure.use (w) ?_
    | refine Pure.head (w) ?_
    | refine Pure.use (g1) ?_
    | refine Pure.head (g1) ?_
    | refine Pure.use (ra) ?_
    | refine Pure.head (ra) ?_
    | refine Pure.use (rb) ?_
    | refine Pure.head (rb) ?_
    | refine Pure.use (rc) ?_
    | refine Pure.head (rc) ?_
    | refine storeX_w ?_
    | ((with_reducible refine And.intro ?_ ?_); omega)
    | refine bo_buildSlice (d' := ⟨⟩) ?_
    | (refine draw_all (by kernel_rfl) ?_)
    | refine finish_pure ?_ (by repeat' (first | exact AS.le.refl _ | assumption | (refine le_set (by first | assumption | (simp only [*]; done) | exact AS.le.fresh (by assumption) (by simp only [*])) ?_) | (refine le_ty (by first | assumption | (simp only [*]; done) | exact AS.le.fresh (by assumption) (by simp only [*])) ?_)))
    | simp -dsimp only [↓bp, bq, br, afin, bsk, cWrites, opsWrites, pieceGh, rsk, ne_eq, if_true, if_false, exists_eq_left', forall_const, forall_eq, Nat.reduceLT, Int.reduceSub, Nat.reduceAdd, Nat.reduceSub, Nat.reduceMul, Nat.reduceLeDiff, Nat.reduceEqDiff, Nat.reduceBEq, Nat.reduceBNe, Int.reduceNeg, Int.reduceAdd, Int.reduceMul, Int.reduceLE, Int.reduceLT, Int.reduceEq, Int.reduceToNat, reduceIte, reduceCtorEq, tf3, tf4, tf5, tf9, tf22, tf24, tf26, Term.flat_enc, Term.isv_enc, Term.fold_enc, isv_encs, flat_encs, len_encs, isv_lims, flat_lims, *])
          all_goals rfl
        · cases xc
          · clear hgo
            refine Tri.of_awp mixed Tryd.func4 rfl (by kernel_rfl) (by kernel_rfl) (by simp [Tryd.ntmps4]) Tryd.results4 ?_
            repeat' (first
    | with_reducible refine condW_both (fun _ _ => ?_) (fun _ _ => ?_)
    | with_reducible refine gW_both (fun _ _ => ?_) (fun _ _ => ?_)
    | with_reducible refine condW_split (fun _ => ?_) (fun _ => ?_)
    | with_reducible refine gW_split (fun _ => ?_) (fun _ => ?_)
    | with_reducible refine pickW_split (fun _ => ?_) (fun _ => ?_)
    | (refine newW_intro ?_; intro bx hbx; (try simp only [fresh_box, fresh_tip, fresh_ty] at hbx))
    | (refine newT_plain ?_; intro bx hbx; (try simp only [fresh_box, fresh_tip, fresh_ty] at hbx))
    | refine Pure.use (w) ?_
    | refine Pure.head (w) ?_
    | refine Pure.use (g1) ?_
    | refine Pure.head (g1) ?_
    | refine Pure.use (ra) ?_
    | refine Pure.head (ra) ?_
    | refine Pure.use (rb) ?_
    | refine Pure.head (rb) ?_
    | refine Pure.use (rc) ?_
    | refine Pure.head (rc) ?_
    | refine storeX_w ?_
    | ((with_reducible refine And.intro ?_ ?_); omega)
    | refine bo_buildSlice (d' := ⟨⟩) ?_
    | (refine draw_all (by kernel_rfl) ?_)
    | refine finish_pure ?_ (by repeat' (first | exact AS.le.refl _ | assumption | (refine le_set (by first | assumption | (simp only [*]; done) | exact AS.le.fresh (by assumption) (by simp only [*])) ?_) | (refine le_ty (by first | assumption | (simp only [*]; done) | exact AS.le.fresh (by assumption) (by simp only [*])) ?_)))
    | simp -dsimp only [↓bp, bq, br, afin, bsk, cWrites, opsWrites, pieceGh, rsk, ne_eq, if_true, if_false, exists_eq_left', forall_const, forall_eq, Nat.reduceLT, Int.reduceSub, Nat.reduceAdd, Nat.reduceSub, Nat.reduceMul, Nat.reduceLeDiff, Nat.reduceEqDiff, Nat.reduceBEq, Nat.reduceBNe, Int.reduceNeg, Int.reduceAdd, Int.reduceMul, Int.reduceLE, Int.reduceLT, Int.reduceEq, Int.reduceToNat, reduceIte, reduceCtorEq, tf3, tf4, tf5, tf9, tf22, tf24, tf26, Term.flat_enc, Term.isv_enc, Term.fold_enc, isv_encs, flat_encs, len_encs, isv_lims, flat_lims, *])
            all_goals rfl
          · simp at hgo
    · clear hgo
      refine Tri.of_awp mixed Tryd.func4 rfl (by kernel_rfl) (by kernel_rfl) (by simp [Tryd.ntmps4]) Tryd.results4 ?_
      repeat' (first
    | with_reducible refine condW_both (fun _ _ => ?_) (fun _ _ => ?_)
    | with_reducible refine gW_both (fun _ _ => ?_) (fun _ _ => ?_)
    | with_reducible refine condW_split (fun _ => ?_) (fun _ => ?_)
    | with_reducible refine gW_split (fun _ => ?_) (fun _ => ?_)
    | with_reducible refine pickW_split (fun _ => ?_) (fun _ => ?_)
    | (refine newW_intro ?_; intro bx hbx; (try simp only [fresh_box, fresh_tip, fresh_ty] at hbx))
    | (refine newT_plain ?_; intro bx hbx; (try simp only [fresh_box, fresh_tip, fresh_ty] at hbx))
    | refine Pure.use (w) ?_
    | refine Pure.head (w) ?_
    | refine Pure.use (g1) ?_
    | refine Pure.head (g1) ?_
    | refine Pure.use (ra) ?_
    | refine Pure.head (ra) ?_
    | refine Pure.use (rb) ?_
    | refine Pure.head (rb) ?_
    | refine Pure.use (rc) ?_
    | refine Pure.head (rc) ?_
    | refine storeX_w ?_
    | ((with_reducible refine And.intro ?_ ?_); omega)
    | refine bo_buildSlice (d' := ⟨⟩) ?_
    | (refine draw_all (by kernel_rfl) ?_)
    | refine finish_pure ?_ (by repeat' (first | exact AS.le.refl _ | assumption | (refine le_set (by first | assumption | (simp only [*]; done) | exact AS.le.fresh (by assumption) (by simp only [*])) ?_) | (refine le_ty (by first | assumption | (simp only [*]; done) | exact AS.le.fresh (by assumption) (by simp only [*])) ?_)))
    | simp -dsimp only [↓bp, bq, br, afin, bsk, cWrites, opsWrites, pieceGh, rsk, ne_eq, if_true, if_false, exists_eq_left', forall_const, forall_eq, Nat.reduceLT, Int.reduceSub, Nat.reduceAdd, Nat.reduceSub, Nat.reduceMul, Nat.reduceLeDiff, Nat.reduceEqDiff, Nat.reduceBEq, Nat.reduceBNe, Int.reduceNeg, Int.reduceAdd, Int.reduceMul, Int.reduceLE, Int.reduceLT, Int.reduceEq, Int.reduceToNat, reduceIte, reduceCtorEq, tf3, tf4, tf5, tf9, tf22, tf24, tf26, Term.flat_enc, Term.isv_enc, Term.fold_enc, isv_encs, flat_encs, len_encs, isv_lims, flat_lims, *])
      all_goals rfl
  · obtain ⟨h0, h1, h2, h3⟩ := hgo
    subst h0
    rw [h1] at ra
    rw [h2] at rb
    rw [h3] at rc
    have cxy : ∀ x y : Term, right x = true → right y = true → compare x y = order x y := fun x y hx hy => by unfold compare; rw [if_pos ⟨hx, hy⟩]
    have c1 := compare_pure G a b (by omega) (by omega)
    have c2 := compare_pure G b c (by omega) (by omega)
    have c3 := compare_pure G a c (by omega) (by omega)
    have c4 := compare_pure G b a (by omega) (by omega)
    have c5 := compare_pure G a a (by omega) (by omega)
    have s1 := sameT_pure G a b (by omega) (by omega)
    have s2 := sameT_pure G a a (by omega) (by omega)
    have k1 := same_pure G a b (by omega) (by omega)
    have cp := copy_pure G a (by omega)
    have ez : order a b = 0 ↔ a = b := ⟨order_zero a b h1 h2, fun e => by subst e; exact order_self a⟩
    have es : sameT a b = decide (order a b = 0) := by unfold sameT; rw [h1, h2]; simp
    have es2 : sameT a a = true := by unfold sameT; rw [h1, order_self]; simp
    have ek : same a b = decide (order a b = 0) := by rw [Bool.eq_iff_iff, same_iff, decide_eq_true_eq, ez]
    rw [cxy _ _ h1 h2] at c1
    rw [cxy _ _ h2 h3] at c2
    rw [cxy _ _ h1 h3] at c3
    rw [cxy _ _ h2 h1, order_neg a b] at c4
    rw [cxy _ _ h1 h1, order_self] at c5
    rw [es] at s1
    rw [es2] at s2
    rw [ek] at k1
    have hR := order_R a b
    have hR2 := order_R b c
    have hR3 := order_R a c
    have hG := order_G a b c h1 h2 h3
    have hkind : a.knd < b.knd → order a b = -1 := fun h => by rw [order_kind (by omega)]; unfold cmpI; rw [if_pos h]
    unfold R3 at hR hR2 hR3
    unfold G3 at hG
    have hT : order a b ≤ 0 → order b c ≤ 0 → order a c ≤ 0 ∧ (order a c = 0 → order a b = 0 ∧ order b c = 0) := by omega
    have hE : Ends G a b c (order a b) (order b c) (order a c) (-order a b) (decide (order a b = 0)) := ⟨w, g1, ra, rb, rc, c1, c2, c3, c4, c5, s1, s2, k1, cp⟩
    clear w g1 ra rb rc c1 c2 c3 c4 c5 s1 s2 k1 cp hG cxy es es2 ek ez
    generalize order a b = X at *
    generalize order b c = Y at *
    generalize order a c = Z at *
    have hK : X ≠ -1 → (b.knd ≤ a.knd) = True := fun h => eq_true (by
      rcases Int.lt_or_le a.knd b.knd with g | g
      · exact absurd (hkind g) h
      · exact g)
    rcases (show X = 1 ∨ X = 0 ∨ X = -1 by omega) with rfl | rfl | rfl
    · exact order_c1 hE (hK (by omega))
    · rcases (show Y = 1 ∨ Y = 0 ∧ Z = 0 ∨ Y = 0 ∧ Z = -1 ∨ Y = -1 ∧ Z = -1 by omega) with rfl | ⟨rfl, rfl⟩ | ⟨rfl, rfl⟩ | ⟨rfl, rfl⟩
      · exact order_c2 hE (hK (by omega))
      · exact order_c3 hE (hK (by omega))
      · exact order_c4 hE (hK (by omega))
      · exact order_c5 hE (hK (by omega))
    · rcases (show Y = 1 ∨ Y = 0 ∧ Z = -1 ∨ Y = -1 ∧ Z = -1 by omega) with rfl | ⟨rfl, rfl⟩ | ⟨rfl, rfl⟩
      · exact order_c6 hE
      · exact order_c7 hE
      · exact order_c8 hE
end Go.Proofs.YtjnhalmeddafdaaDoor
