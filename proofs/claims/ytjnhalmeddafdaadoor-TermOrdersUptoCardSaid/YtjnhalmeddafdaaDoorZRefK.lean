/- The reference's order of lists, and of right terms. -/
import Derived.Test.YtjnhalmeddafdaaDoorZE
import Derived.Test.YtjnhalmeddafdaaDoorZRefC
set_option linter.unusedVariables false
set_option linter.unusedSimpArgs false
set_option maxRecDepth 20000
set_option linter.defProp false
namespace Go.Proofs.YtjnhalmeddafdaaDoor
open Go Go.Av
def tbRefK := And.intro (And.intro (And.intro (And.intro @tf3 @tf4) (And.intro @tf5 (And.intro @tf44 @tf9))) (And.intro (And.intro @tf23 @tf22) (And.intro @tf24 (And.intro @tf26 @Term.flat_enc)))) (And.intro (And.intro (And.intro @Term.isv_enc @Term.fold_enc) (And.intro @isv_encs (And.intro @flat_encs @len_encs))) (And.intro (And.intro @ix_encs @ix_encs') (And.intro @isv_lims (And.intro @flat_lims @len_lims))))
variable (G : Nat → AV)
def zeroL : AV := .agg [.int .u8 7, .bool false, .nil, .str [], .int .i64 0, .nil, .nil]
theorem zeroL_le : Le zeroL (listT [] []).enc := enc_nil 7 false [] 0
theorem lex3 (p q z : Int) : (p = 0 ∧ q = 0 ∧ lex (lex p q) z = z) ∨ (p = 0 ∧ ¬ q = 0 ∧ lex (lex p q) z = q) ∨ (¬ p = 0 ∧ lex (lex p q) z = p) := by
  by_cases c1 : p = 0
  · subst c1
    by_cases c2 : q = 0
    · subst c2; exact .inl ⟨rfl, rfl, rfl⟩
    · exact .inr (.inl ⟨rfl, c2, by unfold lex; simp [c2]⟩)
  · exact .inr (.inr ⟨c1, by unfold lex; simp [c1]⟩)
theorem rlists_0 (a b : Term) (p q : Int) (hrow : Pure Tryd.prog G 65 [encs a.items, encs b.items] (.int .i64 p)) (hn : Pure Tryd.prog G 61 [.int .i64 a.items.length, .int .i64 b.items.length] (.int .i64 q)) (h1 : (a.tail.length : Int) = 0) (h2 : (b.tail.length : Int) = 0) : Pure Tryd.prog G 64 [a.enc, b.enc] (.int .i64 (lex (lex p q) 0)) := by
  have hz : True := trivial
  have hm : True := trivial
  obtain ⟨z, hz0⟩ : ∃ z : Int, z = 0 := ⟨_, rfl⟩
  rw [← hz0]
  intro σ
  rcases lex3 p q z with ⟨rfl, rfl, e⟩ | ⟨rfl, c, e⟩ | ⟨c, e⟩ <;> rw [e] <;> clear e
  all_goals (try replace c := eq_false c)
  all_goals (try subst hz0)
  all_goals
    refine Tri.of_awp mixed Tryd.func64 rfl (by kernel_rfl) (by kernel_rfl) (by simp [Tryd.ntmps64]) Tryd.results64 ?_
    repeat' (first
    | with_reducible refine condW_both (fun _ _ => ?_) (fun _ _ => ?_)
    | with_reducible refine gW_both (fun _ _ => ?_) (fun _ _ => ?_)
    | with_reducible refine condW_split (fun _ => ?_) (fun _ => ?_)
    | with_reducible refine gW_split (fun _ => ?_) (fun _ => ?_)
    | with_reducible refine pickW_split (fun _ => ?_) (fun _ => ?_)
    | (refine newW_intro ?_; intro bx hbx; (try simp only [fresh_box, fresh_tip, fresh_ty] at hbx))
    | (refine newT_plain ?_; intro bx hbx; (try simp only [fresh_box, fresh_tip, fresh_ty] at hbx))
    | refine Pure.use (hrow) ?_
    | refine Pure.head (hrow) ?_
    | refine Pure.use (hn) ?_
    | refine Pure.head (hn) ?_
    | refine storeX_w ?_
    | ((with_reducible refine And.intro ?_ ?_); omega)
    | refine bo_buildSlice (d' := ⟨⟩) ?_
    | (refine draw_all (by kernel_rfl) ?_)
    | refine finish_pure ?_ (by repeat' (first | exact AS.le.refl _ | assumption | (refine le_set (by first | assumption | (simp only [*]; done) | exact AS.le.fresh (by assumption) (by simp only [*])) ?_) | (refine le_ty (by first | assumption | (simp only [*]; done) | exact AS.le.fresh (by assumption) (by simp only [*])) ?_)))
    | simp -dsimp only [↓bp, bq, br, afin, bsk, cWrites, opsWrites, pieceGh, rsk, ne_eq, if_true, if_false, exists_eq_left', forall_const, forall_eq, Nat.reduceLT, Int.reduceSub, Nat.reduceAdd, Nat.reduceSub, Nat.reduceMul, Nat.reduceLeDiff, Nat.reduceEqDiff, Nat.reduceBEq, Nat.reduceBNe, Int.reduceNeg, Int.reduceAdd, Int.reduceMul, Int.reduceLE, Int.reduceLT, Int.reduceEq, Int.reduceToNat, reduceIte, reduceCtorEq, tbRefK, *])
    all_goals rfl
theorem rlists_1 (a b : Term) (p q z : Int) (x : Term) (hrow : Pure Tryd.prog G 65 [encs a.items, encs b.items] (.int .i64 p)) (hn : Pure Tryd.prog G 61 [.int .i64 a.items.length, .int .i64 b.items.length] (.int .i64 q)) (h1 : a.tail[0]? = some x) (h2 : (b.tail.length : Int) = 0) (hz : Pure Tryd.prog G 33 [x.enc, zeroL] (.int .i64 z)) : Pure Tryd.prog G 64 [a.enc, b.enc] (.int .i64 (lex (lex p q) z)) := by
  have l1 : (0 : Int) < a.tail.length := by have := (List.getElem?_eq_some_iff.1 h1).1; omega
  have l2 : ¬ (a.tail.length : Int) = 0 := by omega
  unfold zeroL at hz
  have hm := hn
  intro σ
  rcases lex3 p q z with ⟨rfl, rfl, e⟩ | ⟨rfl, c, e⟩ | ⟨c, e⟩ <;> rw [e] <;> clear e
  all_goals (try replace c := eq_false c)
  all_goals
    refine Tri.of_awp mixed Tryd.func64 rfl (by kernel_rfl) (by kernel_rfl) (by simp [Tryd.ntmps64]) Tryd.results64 ?_
    repeat' (first
    | with_reducible refine condW_both (fun _ _ => ?_) (fun _ _ => ?_)
    | with_reducible refine gW_both (fun _ _ => ?_) (fun _ _ => ?_)
    | with_reducible refine condW_split (fun _ => ?_) (fun _ => ?_)
    | with_reducible refine gW_split (fun _ => ?_) (fun _ => ?_)
    | with_reducible refine pickW_split (fun _ => ?_) (fun _ => ?_)
    | (refine newW_intro ?_; intro bx hbx; (try simp only [fresh_box, fresh_tip, fresh_ty] at hbx))
    | (refine newT_plain ?_; intro bx hbx; (try simp only [fresh_box, fresh_tip, fresh_ty] at hbx))
    | refine Pure.use (hrow) ?_
    | refine Pure.head (hrow) ?_
    | refine Pure.use (hn) ?_
    | refine Pure.head (hn) ?_
    | refine Pure.use (hz) ?_
    | refine Pure.head (hz) ?_
    | refine Pure.use (hm) ?_
    | refine Pure.head (hm) ?_
    | refine storeX_w ?_
    | ((with_reducible refine And.intro ?_ ?_); omega)
    | refine bo_buildSlice (d' := ⟨⟩) ?_
    | (refine draw_all (by kernel_rfl) ?_)
    | refine finish_pure ?_ (by repeat' (first | exact AS.le.refl _ | assumption | (refine le_set (by first | assumption | (simp only [*]; done) | exact AS.le.fresh (by assumption) (by simp only [*])) ?_) | (refine le_ty (by first | assumption | (simp only [*]; done) | exact AS.le.fresh (by assumption) (by simp only [*])) ?_)))
    | simp -dsimp only [↓bp, bq, br, afin, bsk, cWrites, opsWrites, pieceGh, rsk, ne_eq, if_true, if_false, exists_eq_left', forall_const, forall_eq, Nat.reduceLT, Int.reduceSub, Nat.reduceAdd, Nat.reduceSub, Nat.reduceMul, Nat.reduceLeDiff, Nat.reduceEqDiff, Nat.reduceBEq, Nat.reduceBNe, Int.reduceNeg, Int.reduceAdd, Int.reduceMul, Int.reduceLE, Int.reduceLT, Int.reduceEq, Int.reduceToNat, reduceIte, reduceCtorEq, tbRefK, *])
    all_goals rfl
theorem rlists_2 (a b : Term) (p q z : Int) (y : Term) (hrow : Pure Tryd.prog G 65 [encs a.items, encs b.items] (.int .i64 p)) (hn : Pure Tryd.prog G 61 [.int .i64 a.items.length, .int .i64 b.items.length] (.int .i64 q)) (h1 : (a.tail.length : Int) = 0) (h2 : b.tail[0]? = some y) (hz : Pure Tryd.prog G 33 [zeroL, y.enc] (.int .i64 z)) : Pure Tryd.prog G 64 [a.enc, b.enc] (.int .i64 (lex (lex p q) z)) := by
  have l1 : (0 : Int) < b.tail.length := by have := (List.getElem?_eq_some_iff.1 h2).1; omega
  have l2 : ¬ (b.tail.length : Int) = 0 := by omega
  unfold zeroL at hz
  have hm := hn
  intro σ
  rcases lex3 p q z with ⟨rfl, rfl, e⟩ | ⟨rfl, c, e⟩ | ⟨c, e⟩ <;> rw [e] <;> clear e
  all_goals (try replace c := eq_false c)
  all_goals
    refine Tri.of_awp mixed Tryd.func64 rfl (by kernel_rfl) (by kernel_rfl) (by simp [Tryd.ntmps64]) Tryd.results64 ?_
    repeat' (first
    | with_reducible refine condW_both (fun _ _ => ?_) (fun _ _ => ?_)
    | with_reducible refine gW_both (fun _ _ => ?_) (fun _ _ => ?_)
    | with_reducible refine condW_split (fun _ => ?_) (fun _ => ?_)
    | with_reducible refine gW_split (fun _ => ?_) (fun _ => ?_)
    | with_reducible refine pickW_split (fun _ => ?_) (fun _ => ?_)
    | (refine newW_intro ?_; intro bx hbx; (try simp only [fresh_box, fresh_tip, fresh_ty] at hbx))
    | (refine newT_plain ?_; intro bx hbx; (try simp only [fresh_box, fresh_tip, fresh_ty] at hbx))
    | refine Pure.use (hrow) ?_
    | refine Pure.head (hrow) ?_
    | refine Pure.use (hn) ?_
    | refine Pure.head (hn) ?_
    | refine Pure.use (hz) ?_
    | refine Pure.head (hz) ?_
    | refine Pure.use (hm) ?_
    | refine Pure.head (hm) ?_
    | refine storeX_w ?_
    | ((with_reducible refine And.intro ?_ ?_); omega)
    | refine bo_buildSlice (d' := ⟨⟩) ?_
    | (refine draw_all (by kernel_rfl) ?_)
    | refine finish_pure ?_ (by repeat' (first | exact AS.le.refl _ | assumption | (refine le_set (by first | assumption | (simp only [*]; done) | exact AS.le.fresh (by assumption) (by simp only [*])) ?_) | (refine le_ty (by first | assumption | (simp only [*]; done) | exact AS.le.fresh (by assumption) (by simp only [*])) ?_)))
    | simp -dsimp only [↓bp, bq, br, afin, bsk, cWrites, opsWrites, pieceGh, rsk, ne_eq, if_true, if_false, exists_eq_left', forall_const, forall_eq, Nat.reduceLT, Int.reduceSub, Nat.reduceAdd, Nat.reduceSub, Nat.reduceMul, Nat.reduceLeDiff, Nat.reduceEqDiff, Nat.reduceBEq, Nat.reduceBNe, Int.reduceNeg, Int.reduceAdd, Int.reduceMul, Int.reduceLE, Int.reduceLT, Int.reduceEq, Int.reduceToNat, reduceIte, reduceCtorEq, tbRefK, *])
    all_goals rfl
theorem rlists_3 (a b : Term) (p q z : Int) (x y : Term) (hrow : Pure Tryd.prog G 65 [encs a.items, encs b.items] (.int .i64 p)) (hn : Pure Tryd.prog G 61 [.int .i64 a.items.length, .int .i64 b.items.length] (.int .i64 q)) (h1 : a.tail[0]? = some x) (h2 : b.tail[0]? = some y) (hz : Pure Tryd.prog G 33 [x.enc, y.enc] (.int .i64 z)) : Pure Tryd.prog G 64 [a.enc, b.enc] (.int .i64 (lex (lex p q) z)) := by
  have l1 : (0 : Int) < b.tail.length := by have := (List.getElem?_eq_some_iff.1 h2).1; omega
  have l2 : ¬ (b.tail.length : Int) = 0 := by omega
  have l3 : (0 : Int) < a.tail.length := by have := (List.getElem?_eq_some_iff.1 h1).1; omega
  have l4 : ¬ (a.tail.length : Int) = 0 := by omega
  have hm := hn
  intro σ
  rcases lex3 p q z with ⟨rfl, rfl, e⟩ | ⟨rfl, c, e⟩ | ⟨c, e⟩ <;> rw [e] <;> clear e
  all_goals (try replace c := eq_false c)
  all_goals
    refine Tri.of_awp mixed Tryd.func64 rfl (by kernel_rfl) (by kernel_rfl) (by simp [Tryd.ntmps64]) Tryd.results64 ?_
    repeat' (first
    | with_reducible refine condW_both (fun _ _ => ?_) (fun _ _ => ?_)
    | with_reducible refine gW_both (fun _ _ => ?_) (fun _ _ => ?_)
    | with_reducible refine condW_split (fun _ => ?_) (fun _ => ?_)
    | with_reducible refine gW_split (fun _ => ?_) (fun _ => ?_)
    | with_reducible refine pickW_split (fun _ => ?_) (fun _ => ?_)
    | (refine newW_intro ?_; intro bx hbx; (try simp only [fresh_box, fresh_tip, fresh_ty] at hbx))
    | (refine newT_plain ?_; intro bx hbx; (try simp only [fresh_box, fresh_tip, fresh_ty] at hbx))
    | refine Pure.use (hrow) ?_
    | refine Pure.head (hrow) ?_
    | refine Pure.use (hn) ?_
    | refine Pure.head (hn) ?_
    | refine Pure.use (hz) ?_
    | refine Pure.head (hz) ?_
    | refine Pure.use (hm) ?_
    | refine Pure.head (hm) ?_
    | refine storeX_w ?_
    | ((with_reducible refine And.intro ?_ ?_); omega)
    | refine bo_buildSlice (d' := ⟨⟩) ?_
    | (refine draw_all (by kernel_rfl) ?_)
    | refine finish_pure ?_ (by repeat' (first | exact AS.le.refl _ | assumption | (refine le_set (by first | assumption | (simp only [*]; done) | exact AS.le.fresh (by assumption) (by simp only [*])) ?_) | (refine le_ty (by first | assumption | (simp only [*]; done) | exact AS.le.fresh (by assumption) (by simp only [*])) ?_)))
    | simp -dsimp only [↓bp, bq, br, afin, bsk, cWrites, opsWrites, pieceGh, rsk, ne_eq, if_true, if_false, exists_eq_left', forall_const, forall_eq, Nat.reduceLT, Int.reduceSub, Nat.reduceAdd, Nat.reduceSub, Nat.reduceMul, Nat.reduceLeDiff, Nat.reduceEqDiff, Nat.reduceBEq, Nat.reduceBNe, Int.reduceNeg, Int.reduceAdd, Int.reduceMul, Int.reduceLE, Int.reduceLT, Int.reduceEq, Int.reduceToNat, reduceIte, reduceCtorEq, tbRefK, *])
    all_goals rfl
theorem bulk_wr (t : Term) (h : wr t = true) : t.bulk ≤ 1000000 := by
  obtain ⟨_, h2, _, h4, h5, h6, _⟩ := wr_spec h
  have := t.bulk_eq
  rw [h2, h4, h5] at this
  simp [bulks] at this
  omega
theorem rorder_2 (a b : Term) (ke : (a.knd = b.knd) = True) (n1 : (a.knd = 1) = False) (k1 : (a.knd = 2) = True) (k2 : (b.knd = 2) = True) : Pure Tryd.prog G 33 [a.enc, b.enc] (.int .i64 (cmpS a.text b.text)) := by
  have hp := rtext_pure G a.text b.text
  intro σ
  refine Tri.of_awp mixed Tryd.func33 rfl (by kernel_rfl) (by kernel_rfl) (by simp [Tryd.ntmps33]) Tryd.results33 ?_
  repeat' (first
    | with_reducible refine condW_both (fun _ _ => ?_) (fun _ _ => ?_)
    | with_reducible refine gW_both (fun _ _ => ?_) (fun _ _ => ?_)
    | with_reducible refine condW_split (fun _ => ?_) (fun _ => ?_)
    | with_reducible refine gW_split (fun _ => ?_) (fun _ => ?_)
    | with_reducible refine pickW_split (fun _ => ?_) (fun _ => ?_)
    | (refine newW_intro ?_; intro bx hbx; (try simp only [fresh_box, fresh_tip, fresh_ty] at hbx))
    | (refine newT_plain ?_; intro bx hbx; (try simp only [fresh_box, fresh_tip, fresh_ty] at hbx))
    | refine Pure.use (hp) ?_
    | refine Pure.head (hp) ?_
    | refine storeX_w ?_
    | ((with_reducible refine And.intro ?_ ?_); omega)
    | refine bo_buildSlice (d' := ⟨⟩) ?_
    | (refine draw_all (by kernel_rfl) ?_)
    | refine finish_pure ?_ (by repeat' (first | exact AS.le.refl _ | assumption | (refine le_set (by first | assumption | (simp only [*]; done) | exact AS.le.fresh (by assumption) (by simp only [*])) ?_) | (refine le_ty (by first | assumption | (simp only [*]; done) | exact AS.le.fresh (by assumption) (by simp only [*])) ?_)))
    | simp -dsimp only [↓bp, bq, br, afin, bsk, cWrites, opsWrites, pieceGh, rsk, ne_eq, if_true, if_false, exists_eq_left', forall_const, forall_eq, Nat.reduceLT, Int.reduceSub, Nat.reduceAdd, Nat.reduceSub, Nat.reduceMul, Nat.reduceLeDiff, Nat.reduceEqDiff, Nat.reduceBEq, Nat.reduceBNe, Int.reduceNeg, Int.reduceAdd, Int.reduceMul, Int.reduceLE, Int.reduceLT, Int.reduceEq, Int.reduceToNat, reduceIte, reduceCtorEq, tbRefK, *])
  all_goals rfl
theorem rorder_1 (a b : Term) (ke : (a.knd = b.knd) = True) (k1 : (a.knd = 1) = True) (k2 : (b.knd = 1) = True) (h1 : wr a = true) (h2 : wr b = true) : Pure Tryd.prog G 33 [a.enc, b.enc] (.int .i64 (cmpW a b)) := by
  have hp := rcmp_pure G a b h1 h2 (bulk_wr a h1) (bulk_wr b h2)
  clear h1 h2
  intro σ
  refine Tri.of_awp mixed Tryd.func33 rfl (by kernel_rfl) (by kernel_rfl) (by simp [Tryd.ntmps33]) Tryd.results33 ?_
  repeat' (first
    | with_reducible refine condW_both (fun _ _ => ?_) (fun _ _ => ?_)
    | with_reducible refine gW_both (fun _ _ => ?_) (fun _ _ => ?_)
    | with_reducible refine condW_split (fun _ => ?_) (fun _ => ?_)
    | with_reducible refine gW_split (fun _ => ?_) (fun _ => ?_)
    | with_reducible refine pickW_split (fun _ => ?_) (fun _ => ?_)
    | (refine newW_intro ?_; intro bx hbx; (try simp only [fresh_box, fresh_tip, fresh_ty] at hbx))
    | (refine newT_plain ?_; intro bx hbx; (try simp only [fresh_box, fresh_tip, fresh_ty] at hbx))
    | refine Pure.use (hp) ?_
    | refine Pure.head (hp) ?_
    | refine storeX_w ?_
    | ((with_reducible refine And.intro ?_ ?_); omega)
    | refine bo_buildSlice (d' := ⟨⟩) ?_
    | (refine draw_all (by kernel_rfl) ?_)
    | refine finish_pure ?_ (by repeat' (first | exact AS.le.refl _ | assumption | (refine le_set (by first | assumption | (simp only [*]; done) | exact AS.le.fresh (by assumption) (by simp only [*])) ?_) | (refine le_ty (by first | assumption | (simp only [*]; done) | exact AS.le.fresh (by assumption) (by simp only [*])) ?_)))
    | simp -dsimp only [↓bp, bq, br, afin, bsk, cWrites, opsWrites, pieceGh, rsk, ne_eq, if_true, if_false, exists_eq_left', forall_const, forall_eq, Nat.reduceLT, Int.reduceSub, Nat.reduceAdd, Nat.reduceSub, Nat.reduceMul, Nat.reduceLeDiff, Nat.reduceEqDiff, Nat.reduceBEq, Nat.reduceBNe, Int.reduceNeg, Int.reduceAdd, Int.reduceMul, Int.reduceLE, Int.reduceLT, Int.reduceEq, Int.reduceToNat, reduceIte, reduceCtorEq, tbRefK, *])
  all_goals rfl
theorem rorder_7 (a b : Term) (ke : (a.knd = b.knd) = True) (n1 : (a.knd = 1) = False) (n2 : (a.knd = 2) = False) (k1 : (a.knd = 7) = True) (k2 : (b.knd = 7) = True) (z : Int) (hp : Pure Tryd.prog G 64 [a.enc, b.enc] (.int .i64 z)) : Pure Tryd.prog G 33 [a.enc, b.enc] (.int .i64 z) := by
  intro σ
  refine Tri.of_awp mixed Tryd.func33 rfl (by kernel_rfl) (by kernel_rfl) (by simp [Tryd.ntmps33]) Tryd.results33 ?_
  repeat' (first
    | with_reducible refine condW_both (fun _ _ => ?_) (fun _ _ => ?_)
    | with_reducible refine gW_both (fun _ _ => ?_) (fun _ _ => ?_)
    | with_reducible refine condW_split (fun _ => ?_) (fun _ => ?_)
    | with_reducible refine gW_split (fun _ => ?_) (fun _ => ?_)
    | with_reducible refine pickW_split (fun _ => ?_) (fun _ => ?_)
    | (refine newW_intro ?_; intro bx hbx; (try simp only [fresh_box, fresh_tip, fresh_ty] at hbx))
    | (refine newT_plain ?_; intro bx hbx; (try simp only [fresh_box, fresh_tip, fresh_ty] at hbx))
    | refine Pure.use (hp) ?_
    | refine Pure.head (hp) ?_
    | refine storeX_w ?_
    | ((with_reducible refine And.intro ?_ ?_); omega)
    | refine bo_buildSlice (d' := ⟨⟩) ?_
    | (refine draw_all (by kernel_rfl) ?_)
    | refine finish_pure ?_ (by repeat' (first | exact AS.le.refl _ | assumption | (refine le_set (by first | assumption | (simp only [*]; done) | exact AS.le.fresh (by assumption) (by simp only [*])) ?_) | (refine le_ty (by first | assumption | (simp only [*]; done) | exact AS.le.fresh (by assumption) (by simp only [*])) ?_)))
    | simp -dsimp only [↓bp, bq, br, afin, bsk, cWrites, opsWrites, pieceGh, rsk, ne_eq, if_true, if_false, exists_eq_left', forall_const, forall_eq, Nat.reduceLT, Int.reduceSub, Nat.reduceAdd, Nat.reduceSub, Nat.reduceMul, Nat.reduceLeDiff, Nat.reduceEqDiff, Nat.reduceBEq, Nat.reduceBNe, Int.reduceNeg, Int.reduceAdd, Int.reduceMul, Int.reduceLE, Int.reduceLT, Int.reduceEq, Int.reduceToNat, reduceIte, reduceCtorEq, tbRefK, *])
  all_goals rfl
theorem rorder_x (a b : Term) (ke : (a.knd = b.knd) = True) (k1 : (b.knd = 1) = False) (k2 : (b.knd = 2) = False) (k7 : (b.knd = 7) = False) (p q z : Int) (hm : Pure Tryd.prog G 61 [.int .i64 a.num, .int .i64 b.num] (.int .i64 p)) (hn : Pure Tryd.prog G 61 [.int .i64 a.items.length, .int .i64 b.items.length] (.int .i64 q)) (hrow : Pure Tryd.prog G 65 [encs a.items, encs b.items] (.int .i64 z)) : Pure Tryd.prog G 33 [a.enc, b.enc] (.int .i64 (lex (lex p q) z)) := by
  have e : a.knd = b.knd := ke ▸ trivial
  have k1' : (a.knd = 1) = False := by rw [e]; exact k1
  have k2' : (a.knd = 2) = False := by rw [e]; exact k2
  have k7' : (a.knd = 7) = False := by rw [e]; exact k7
  clear e
  have hz := hrow
  intro σ
  rcases lex3 p q z with ⟨rfl, rfl, e⟩ | ⟨rfl, c, e⟩ | ⟨c, e⟩ <;> rw [e] <;> clear e
  all_goals (try replace c := eq_false c)
  all_goals
    refine Tri.of_awp mixed Tryd.func33 rfl (by kernel_rfl) (by kernel_rfl) (by simp [Tryd.ntmps33]) Tryd.results33 ?_
    repeat' (first
    | with_reducible refine condW_both (fun _ _ => ?_) (fun _ _ => ?_)
    | with_reducible refine gW_both (fun _ _ => ?_) (fun _ _ => ?_)
    | with_reducible refine condW_split (fun _ => ?_) (fun _ => ?_)
    | with_reducible refine gW_split (fun _ => ?_) (fun _ => ?_)
    | with_reducible refine pickW_split (fun _ => ?_) (fun _ => ?_)
    | (refine newW_intro ?_; intro bx hbx; (try simp only [fresh_box, fresh_tip, fresh_ty] at hbx))
    | (refine newT_plain ?_; intro bx hbx; (try simp only [fresh_box, fresh_tip, fresh_ty] at hbx))
    | refine Pure.use (hrow) ?_
    | refine Pure.head (hrow) ?_
    | refine Pure.use (hn) ?_
    | refine Pure.head (hn) ?_
    | refine Pure.use (hz) ?_
    | refine Pure.head (hz) ?_
    | refine Pure.use (hm) ?_
    | refine Pure.head (hm) ?_
    | refine storeX_w ?_
    | ((with_reducible refine And.intro ?_ ?_); omega)
    | refine bo_buildSlice (d' := ⟨⟩) ?_
    | (refine draw_all (by kernel_rfl) ?_)
    | refine finish_pure ?_ (by repeat' (first | exact AS.le.refl _ | assumption | (refine le_set (by first | assumption | (simp only [*]; done) | exact AS.le.fresh (by assumption) (by simp only [*])) ?_) | (refine le_ty (by first | assumption | (simp only [*]; done) | exact AS.le.fresh (by assumption) (by simp only [*])) ?_)))
    | simp -dsimp only [↓bp, bq, br, afin, bsk, cWrites, opsWrites, pieceGh, rsk, ne_eq, if_true, if_false, exists_eq_left', forall_const, forall_eq, Nat.reduceLT, Int.reduceSub, Nat.reduceAdd, Nat.reduceSub, Nat.reduceMul, Nat.reduceLeDiff, Nat.reduceEqDiff, Nat.reduceBEq, Nat.reduceBNe, Int.reduceNeg, Int.reduceAdd, Int.reduceMul, Int.reduceLE, Int.reduceLT, Int.reduceEq, Int.reduceToNat, reduceIte, reduceCtorEq, tbRefK, *])
    all_goals rfl
theorem rorder_pure (a : Term) : ∀ b : Term, a.bulk ≤ 1000000000 → b.bulk ≤ 1000000000 → right a = true → right b = true → Pure Tryd.prog G 33 [a.enc, b.enc] (.int .i64 (order a b)) := by
  refine Term.ind (P := fun a => ∀ b : Term, a.bulk ≤ 1000000000 → b.bulk ≤ 1000000000 → right a = true → right b = true → Pure Tryd.prog G 33 [a.enc, b.enc] (.int .i64 (order a b))) (fun a ih1 ih2 b ha hb ra rb => ?_) a
  have A := right_spec ra
  have B := right_spec rb
  by_cases hk : a.knd = b.knd
  rotate_left
  · rw [order_kind hk]; exact rkinds_pure G a b hk
  have hitems : ∀ x, x ∈ a.items → ∀ y, y ∈ b.items → Pure Tryd.prog G 33 [x.enc, y.enc] (.int .i64 (order x y)) := fun x hx y hy =>
    ih1 x hx y (by have := bulk_item hx; omega) (by have := bulk_item hy; omega) (A.items x hx) (B.items y hy)
  have hrow := rrows_pure G a.items b.items (by have := len_items a; omega) (by have := len_items b; omega) hitems
  have hn := number_pure G a.items.length b.items.length
  rw [order_eq, if_neg (show ¬ a.knd ≠ b.knd by simp [hk])]
  by_cases h1 : a.knd = 1
  · rw [if_pos h1]
    exact rorder_1 G a b (eq_true hk) (eq_true h1) (eq_true (by omega)) (A.int h1) (B.int (by omega))
  rw [if_neg h1]
  by_cases h7 : a.knd = 7
  · rw [if_pos h7]
    refine rorder_7 G a b (eq_true hk) (eq_false (by omega)) (eq_false (by omega)) (eq_true h7) (eq_true (by omega)) _ ?_
    obtain ⟨c1, c2, c3⟩ := A.list h7
    obtain ⟨d1, d2, d3⟩ := B.list (by omega)
    cases ea : a.tail with
    | nil => cases eb : b.tail with
      | nil =>
        rw [tl]
        exact rlists_0 G a b _ _ hrow hn (by rw [ea]; rfl) (by rw [eb]; rfl)
      | cons y r =>
        rw [tl]
        refine rlists_2 G a b _ _ _ y hrow hn (by rw [ea]; rfl) (by rw [eb]; rfl) ?_
        exact (rkinds_pure G (listT [] []) y (fun h => d3 y (by rw [eb]; simp) h.symm)).lessArgs (.cons zeroL_le (.cons (Le.refl _) .nil))
    | cons x l => cases eb : b.tail with
      | nil =>
        rw [tl]
        refine rlists_1 G a b _ _ _ x hrow hn (by rw [ea]; rfl) (by rw [eb]; rfl) ?_
        exact (rkinds_pure G x (listT [] []) (c3 x (by rw [ea]; simp))).lessArgs (.cons (Le.refl _) (.cons zeroL_le .nil))
      | cons y r =>
        rw [tl]
        have hx : x ∈ a.tail := by rw [ea]; simp
        have hy : y ∈ b.tail := by rw [eb]; simp
        exact rlists_3 G a b _ _ _ x y hrow hn (by rw [ea]; rfl) (by rw [eb]; rfl) (ih2 x hx y (by have := bulk_tail hx; omega) (by have := bulk_tail hy; omega) (A.tail x hx) (B.tail y hy))
  · rw [if_neg h7]
    obtain ⟨_, _, a3, a4, a5, a6⟩ := A.rest h1
    obtain ⟨_, _, b3, b4, b5, b6⟩ := B.rest (by omega)
    by_cases h2 : a.knd = 2
    · rw [a5 (.inl h2), b5 (.inl (by omega)), a6 (.inl h2), b6 (.inl (by omega))]
      have e : ∀ s, lex (lex s (lex (cmpI 0 0) (cmpI (([] : List Term).length : Int) (([] : List Term).length : Int)))) (rows [] []) = s := by
        intro s
        have : cmpI (([] : List Term).length : Int) (([] : List Term).length : Int) = 0 := rfl
        rw [this]
        have : cmpI 0 0 = 0 := rfl
        rw [this]
        unfold lex rows
        split <;> simp_all
      rw [e]
      exact rorder_2 G a b (eq_true hk) (eq_false (by omega)) (eq_true h2) (eq_true (by omega))
    · rw [a3 h2, b3 (by omega)]
      have e : ∀ p q z, lex (lex (cmpS [] []) (lex p q)) z = lex (lex p q) z := fun p q z => rfl
      rw [e]
      exact rorder_x G a b (eq_true hk) (eq_false (by omega)) (eq_false (by omega)) (eq_false (by omega)) _ _ _ (number_pure G a.num b.num) hn hrow
/-! what is asked of any two -/
theorem rright_all (t : Term) (hb : t.bulk ≤ 1000000000) : Pure Tryd.prog G 32 [t.enc] (.bool (right t)) := rrightT_pure G t (rsz_pure G t hb)
theorem rcompare_pure (a b : Term) (ha : a.bulk ≤ 1000000000) (hb : b.bulk ≤ 1000000000) : Pure Tryd.prog G 11 [a.enc, b.enc] (.int .i64 (compare a b)) := by
  have r1 := rright_all G a ha
  have r2 := rright_all G b hb
  have ho := rorder_pure G a b ha hb
  have e : compare a b = if right a = true ∧ right b = true then order a b else 0 := rfl
  rw [e]
  clear ha hb e
  generalize order a b = z at *
  generalize right a = x at *
  generalize right b = y at *
  intro σ
  cases x <;> cases y
  all_goals (first | replace ho := ho rfl rfl | clear ho)
  all_goals
    refine Tri.of_awp mixed Tryd.func11 rfl (by kernel_rfl) (by kernel_rfl) (by simp [Tryd.ntmps11]) Tryd.results11 ?_
    repeat' (first
    | with_reducible refine condW_both (fun _ _ => ?_) (fun _ _ => ?_)
    | with_reducible refine gW_both (fun _ _ => ?_) (fun _ _ => ?_)
    | with_reducible refine condW_split (fun _ => ?_) (fun _ => ?_)
    | with_reducible refine gW_split (fun _ => ?_) (fun _ => ?_)
    | with_reducible refine pickW_split (fun _ => ?_) (fun _ => ?_)
    | (refine newW_intro ?_; intro bx hbx; (try simp only [fresh_box, fresh_tip, fresh_ty] at hbx))
    | (refine newT_plain ?_; intro bx hbx; (try simp only [fresh_box, fresh_tip, fresh_ty] at hbx))
    | refine Pure.use (r1) ?_
    | refine Pure.head (r1) ?_
    | refine Pure.use (r2) ?_
    | refine Pure.head (r2) ?_
    | refine Pure.use (ho) ?_
    | refine Pure.head (ho) ?_
    | refine storeX_w ?_
    | ((with_reducible refine And.intro ?_ ?_); omega)
    | refine bo_buildSlice (d' := ⟨⟩) ?_
    | (refine draw_all (by kernel_rfl) ?_)
    | refine finish_pure ?_ (by repeat' (first | exact AS.le.refl _ | assumption | (refine le_set (by first | assumption | (simp only [*]; done) | exact AS.le.fresh (by assumption) (by simp only [*])) ?_) | (refine le_ty (by first | assumption | (simp only [*]; done) | exact AS.le.fresh (by assumption) (by simp only [*])) ?_)))
    | simp -dsimp only [↓bp, bq, br, afin, bsk, cWrites, opsWrites, pieceGh, rsk, ne_eq, if_true, if_false, exists_eq_left', forall_const, forall_eq, Nat.reduceLT, Int.reduceSub, Nat.reduceAdd, Nat.reduceSub, Nat.reduceMul, Nat.reduceLeDiff, Nat.reduceEqDiff, Nat.reduceBEq, Nat.reduceBNe, Int.reduceNeg, Int.reduceAdd, Int.reduceMul, Int.reduceLE, Int.reduceLT, Int.reduceEq, Int.reduceToNat, reduceIte, reduceCtorEq, tbRefK, *])
    all_goals rfl
theorem rsame_pure (a b : Term) (ha : a.bulk ≤ 1000000000) (hb : b.bulk ≤ 1000000000) : Pure Tryd.prog G 13 [a.enc, b.enc] (.bool (sameT a b)) := by
  have r1 := rright_all G a ha
  have r2 := rright_all G b hb
  have ho := rorder_pure G a b ha hb
  have e : sameT a b = (right a && (right b && decide (order a b = 0))) := by unfold sameT; cases right a <;> cases right b <;> simp
  rw [e]
  clear ha hb e
  generalize order a b = z at *
  generalize right a = x at *
  generalize right b = y at *
  intro σ
  cases x <;> cases y
  all_goals (first | replace ho := ho rfl rfl | clear ho)
  all_goals
    refine Tri.of_awp mixed Tryd.func13 rfl (by kernel_rfl) (by kernel_rfl) (by simp [Tryd.ntmps13]) Tryd.results13 ?_
    repeat' (first
    | with_reducible refine condW_both (fun _ _ => ?_) (fun _ _ => ?_)
    | with_reducible refine gW_both (fun _ _ => ?_) (fun _ _ => ?_)
    | with_reducible refine condW_split (fun _ => ?_) (fun _ => ?_)
    | with_reducible refine gW_split (fun _ => ?_) (fun _ => ?_)
    | with_reducible refine pickW_split (fun _ => ?_) (fun _ => ?_)
    | (refine newW_intro ?_; intro bx hbx; (try simp only [fresh_box, fresh_tip, fresh_ty] at hbx))
    | (refine newT_plain ?_; intro bx hbx; (try simp only [fresh_box, fresh_tip, fresh_ty] at hbx))
    | refine Pure.use (r1) ?_
    | refine Pure.head (r1) ?_
    | refine Pure.use (r2) ?_
    | refine Pure.head (r2) ?_
    | refine Pure.use (ho) ?_
    | refine Pure.head (ho) ?_
    | refine storeX_w ?_
    | ((with_reducible refine And.intro ?_ ?_); omega)
    | refine bo_buildSlice (d' := ⟨⟩) ?_
    | (refine draw_all (by kernel_rfl) ?_)
    | refine finish_pure ?_ (by repeat' (first | exact AS.le.refl _ | assumption | (refine le_set (by first | assumption | (simp only [*]; done) | exact AS.le.fresh (by assumption) (by simp only [*])) ?_) | (refine le_ty (by first | assumption | (simp only [*]; done) | exact AS.le.fresh (by assumption) (by simp only [*])) ?_)))
    | simp -dsimp only [↓bp, bq, br, afin, bsk, cWrites, opsWrites, pieceGh, rsk, ne_eq, if_true, if_false, exists_eq_left', forall_const, forall_eq, Nat.reduceLT, Int.reduceSub, Nat.reduceAdd, Nat.reduceSub, Nat.reduceMul, Nat.reduceLeDiff, Nat.reduceEqDiff, Nat.reduceBEq, Nat.reduceBNe, Int.reduceNeg, Int.reduceAdd, Int.reduceMul, Int.reduceLE, Int.reduceLT, Int.reduceEq, Int.reduceToNat, reduceIte, reduceCtorEq, tbRefK, *])
    all_goals rfl
end Go.Proofs.YtjnhalmeddafdaaDoor
