/- The reference's size, on abstract values: by kinds. -/
import Derived.Test.YtjnhalmeddafdaaDoorZRefH2
set_option linter.unusedVariables false
set_option linter.unusedSimpArgs false
set_option maxRecDepth 20000
set_option linter.defProp false
namespace Go.Proofs.YtjnhalmeddafdaaDoor
open Go Go.Av
def tbRefH5 := And.intro (And.intro (And.intro (And.intro @tf3 @tf4) (And.intro @tf5 (And.intro @tf44 @tf9))) (And.intro (And.intro @tf23 @tf22) (And.intro @tf24 (And.intro @tf26 @Term.flat_enc)))) (And.intro (And.intro (And.intro @Term.isv_enc @Term.fold_enc) (And.intro @isv_encs (And.intro @flat_encs @len_encs))) (And.intro (And.intro @ix_encs @ix_encs') (And.intro @isv_lims (And.intro @flat_lims @len_lims))))
variable (G : Nat → AV)
set_option maxHeartbeats 4000000 in
theorem rsz_7b1 (t x : Term) (s u : Int) (k1 : (t.knd = 1) = False) (k2 : (t.knd = 2) = False) (k3 : (t.knd = 3) = False) (k4 : (t.knd = 4) = False) (k5 : (t.knd = 5) = False) (k6 : (t.knd = 6) = False) (k7 : (t.knd = 7) = True) (l0 : (t.tail.length : Int) = 1) (hx : t.tail[0]? = some x) (hi : Pure Tryd.prog G 83 [encs t.items, .int .i64 1, .int .i64 1] (.int .i64 s)) (hs : (s < 0) = True) : Pure Tryd.prog G 60 [t.enc] (.int .i64 (-1)) := by
  intro σ
  refine Tri.of_awp mixed Tryd.func60 rfl (by kernel_rfl) (by kernel_rfl) (by simp [Tryd.ntmps60]) Tryd.results60 ?_
  repeat' (first
    | with_reducible refine condW_both (fun _ _ => ?_) (fun _ _ => ?_)
    | with_reducible refine gW_both (fun _ _ => ?_) (fun _ _ => ?_)
    | with_reducible refine condW_split (fun _ => ?_) (fun _ => ?_)
    | with_reducible refine gW_split (fun _ => ?_) (fun _ => ?_)
    | with_reducible refine pickW_split (fun _ => ?_) (fun _ => ?_)
    | (refine newW_intro ?_; intro bx hbx; (try simp only [fresh_box, fresh_tip, fresh_ty] at hbx))
    | (refine newT_plain ?_; intro bx hbx; (try simp only [fresh_box, fresh_tip, fresh_ty] at hbx))
    | refine Pure.use (hi) ?_
    | refine Pure.head (hi) ?_
    | refine storeX_w ?_
    | ((with_reducible refine And.intro ?_ ?_); omega)
    | refine bo_buildSlice (d' := ⟨⟩) ?_
    | (refine draw_all (by kernel_rfl) ?_)
    | refine finish_pure ?_ (by repeat' (first | exact AS.le.refl _ | assumption | (refine le_set (by first | assumption | (simp only [*]; done) | exact AS.le.fresh (by assumption) (by simp only [*])) ?_) | (refine le_ty (by first | assumption | (simp only [*]; done) | exact AS.le.fresh (by assumption) (by simp only [*])) ?_)))
    | simp -dsimp only [↓bp, bq, br, afin, bsk, cWrites, opsWrites, pieceGh, rsk, ne_eq, if_true, if_false, exists_eq_left', forall_const, forall_eq, Nat.reduceLT, Int.reduceSub, Nat.reduceAdd, Nat.reduceSub, Nat.reduceMul, Nat.reduceLeDiff, Nat.reduceEqDiff, Nat.reduceBEq, Nat.reduceBNe, Int.reduceNeg, Int.reduceAdd, Int.reduceMul, Int.reduceLE, Int.reduceLT, Int.reduceEq, Int.reduceToNat, reduceIte, reduceCtorEq, tbRefH5, *])
  all_goals rfl
set_option maxHeartbeats 4000000 in
theorem rsz_7b2 (t x : Term) (s u : Int) (k1 : (t.knd = 1) = False) (k2 : (t.knd = 2) = False) (k3 : (t.knd = 3) = False) (k4 : (t.knd = 4) = False) (k5 : (t.knd = 5) = False) (k6 : (t.knd = 6) = False) (k7 : (t.knd = 7) = True) (l0 : (t.tail.length : Int) = 1) (hx : t.tail[0]? = some x) (hi : Pure Tryd.prog G 83 [encs t.items, .int .i64 1, .int .i64 1] (.int .i64 s)) (hj : Pure Tryd.prog G 83 [encs t.tail, .int .i64 s, .int .i64 0] (.int .i64 u)) (hs : (s < 0) = False) (x7 : (x.knd = 7) = True) : Pure Tryd.prog G 60 [t.enc] (.int .i64 (-1)) := by
  intro σ
  refine Tri.of_awp mixed Tryd.func60 rfl (by kernel_rfl) (by kernel_rfl) (by simp [Tryd.ntmps60]) Tryd.results60 ?_
  repeat' (first
    | with_reducible refine condW_both (fun _ _ => ?_) (fun _ _ => ?_)
    | with_reducible refine gW_both (fun _ _ => ?_) (fun _ _ => ?_)
    | with_reducible refine condW_split (fun _ => ?_) (fun _ => ?_)
    | with_reducible refine gW_split (fun _ => ?_) (fun _ => ?_)
    | with_reducible refine pickW_split (fun _ => ?_) (fun _ => ?_)
    | (refine newW_intro ?_; intro bx hbx; (try simp only [fresh_box, fresh_tip, fresh_ty] at hbx))
    | (refine newT_plain ?_; intro bx hbx; (try simp only [fresh_box, fresh_tip, fresh_ty] at hbx))
    | refine Pure.use (hi) ?_
    | refine Pure.head (hi) ?_
    | refine Pure.use (hj) ?_
    | refine Pure.head (hj) ?_
    | refine storeX_w ?_
    | ((with_reducible refine And.intro ?_ ?_); omega)
    | refine bo_buildSlice (d' := ⟨⟩) ?_
    | (refine draw_all (by kernel_rfl) ?_)
    | refine finish_pure ?_ (by repeat' (first | exact AS.le.refl _ | assumption | (refine le_set (by first | assumption | (simp only [*]; done) | exact AS.le.fresh (by assumption) (by simp only [*])) ?_) | (refine le_ty (by first | assumption | (simp only [*]; done) | exact AS.le.fresh (by assumption) (by simp only [*])) ?_)))
    | simp -dsimp only [↓bp, bq, br, afin, bsk, cWrites, opsWrites, pieceGh, rsk, ne_eq, if_true, if_false, exists_eq_left', forall_const, forall_eq, Nat.reduceLT, Int.reduceSub, Nat.reduceAdd, Nat.reduceSub, Nat.reduceMul, Nat.reduceLeDiff, Nat.reduceEqDiff, Nat.reduceBEq, Nat.reduceBNe, Int.reduceNeg, Int.reduceAdd, Int.reduceMul, Int.reduceLE, Int.reduceLT, Int.reduceEq, Int.reduceToNat, reduceIte, reduceCtorEq, tbRefH5, *])
  all_goals rfl
set_option maxHeartbeats 4000000 in
theorem rsz_7b3 (t x : Term) (s u : Int) (k1 : (t.knd = 1) = False) (k2 : (t.knd = 2) = False) (k3 : (t.knd = 3) = False) (k4 : (t.knd = 4) = False) (k5 : (t.knd = 5) = False) (k6 : (t.knd = 6) = False) (k7 : (t.knd = 7) = True) (l0 : (t.tail.length : Int) = 1) (hx : t.tail[0]? = some x) (hi : Pure Tryd.prog G 83 [encs t.items, .int .i64 1, .int .i64 1] (.int .i64 s)) (hj : Pure Tryd.prog G 83 [encs t.tail, .int .i64 s, .int .i64 0] (.int .i64 u)) (hs : (s < 0) = False) (x7 : (x.knd = 7) = False) (c1 : t.neg = false) (c2' : (0 < (t.limbs.length : Int)) = False) (c2 : ((t.limbs.length : Int) = 0) = True) (c3 : (t.text = []) = True) (c4 : (t.num = 0) = True) (c5 : ((t.items.length : Int) = 0) = False) : Pure Tryd.prog G 60 [t.enc] (.int .i64 u) := by
  intro σ
  refine Tri.of_awp mixed Tryd.func60 rfl (by kernel_rfl) (by kernel_rfl) (by simp [Tryd.ntmps60]) Tryd.results60 ?_
  repeat' (first
    | with_reducible refine condW_both (fun _ _ => ?_) (fun _ _ => ?_)
    | with_reducible refine gW_both (fun _ _ => ?_) (fun _ _ => ?_)
    | with_reducible refine condW_split (fun _ => ?_) (fun _ => ?_)
    | with_reducible refine gW_split (fun _ => ?_) (fun _ => ?_)
    | with_reducible refine pickW_split (fun _ => ?_) (fun _ => ?_)
    | (refine newW_intro ?_; intro bx hbx; (try simp only [fresh_box, fresh_tip, fresh_ty] at hbx))
    | (refine newT_plain ?_; intro bx hbx; (try simp only [fresh_box, fresh_tip, fresh_ty] at hbx))
    | refine Pure.use (hi) ?_
    | refine Pure.head (hi) ?_
    | refine Pure.use (hj) ?_
    | refine Pure.head (hj) ?_
    | refine storeX_w ?_
    | ((with_reducible refine And.intro ?_ ?_); omega)
    | refine bo_buildSlice (d' := ⟨⟩) ?_
    | (refine draw_all (by kernel_rfl) ?_)
    | refine finish_pure ?_ (by repeat' (first | exact AS.le.refl _ | assumption | (refine le_set (by first | assumption | (simp only [*]; done) | exact AS.le.fresh (by assumption) (by simp only [*])) ?_) | (refine le_ty (by first | assumption | (simp only [*]; done) | exact AS.le.fresh (by assumption) (by simp only [*])) ?_)))
    | simp -dsimp only [↓bp, bq, br, afin, bsk, cWrites, opsWrites, pieceGh, rsk, ne_eq, if_true, if_false, exists_eq_left', forall_const, forall_eq, Nat.reduceLT, Int.reduceSub, Nat.reduceAdd, Nat.reduceSub, Nat.reduceMul, Nat.reduceLeDiff, Nat.reduceEqDiff, Nat.reduceBEq, Nat.reduceBNe, Int.reduceNeg, Int.reduceAdd, Int.reduceMul, Int.reduceLE, Int.reduceLT, Int.reduceEq, Int.reduceToNat, reduceIte, reduceCtorEq, tbRefH5, *])
  all_goals rfl
set_option maxHeartbeats 4000000 in
theorem rsz_7b4 (t x : Term) (s u : Int) (k1 : (t.knd = 1) = False) (k2 : (t.knd = 2) = False) (k3 : (t.knd = 3) = False) (k4 : (t.knd = 4) = False) (k5 : (t.knd = 5) = False) (k6 : (t.knd = 6) = False) (k7 : (t.knd = 7) = True) (l0 : (t.tail.length : Int) = 1) (hx : t.tail[0]? = some x) (hi : Pure Tryd.prog G 83 [encs t.items, .int .i64 1, .int .i64 1] (.int .i64 s)) (hj : Pure Tryd.prog G 83 [encs t.tail, .int .i64 s, .int .i64 0] (.int .i64 u)) (hs : (s < 0) = False) (x7 : (x.knd = 7) = False) (hc : Hid (¬ (t.neg = false ∧ (t.limbs.length : Int) = 0 ∧ t.text = [] ∧ t.num = 0 ∧ ¬ (t.items.length : Int) = 0))) : Pure Tryd.prog G 60 [t.enc] (.int .i64 (-1)) := by
  intro σ
  refine Tri.of_awp mixed Tryd.func60 rfl (by kernel_rfl) (by kernel_rfl) (by simp [Tryd.ntmps60]) Tryd.results60 ?_
  repeat' (first
    | with_reducible refine condW_both (fun _ _ => ?_) (fun _ _ => ?_)
    | with_reducible refine gW_both (fun _ _ => ?_) (fun _ _ => ?_)
    | with_reducible refine condW_split (fun _ => ?_) (fun _ => ?_)
    | with_reducible refine gW_split (fun _ => ?_) (fun _ => ?_)
    | with_reducible refine pickW_split (fun _ => ?_) (fun _ => ?_)
    | (refine newW_intro ?_; intro bx hbx; (try simp only [fresh_box, fresh_tip, fresh_ty] at hbx))
    | (refine newT_plain ?_; intro bx hbx; (try simp only [fresh_box, fresh_tip, fresh_ty] at hbx))
    | refine Pure.use (hi) ?_
    | refine Pure.head (hi) ?_
    | refine Pure.use (hj) ?_
    | refine Pure.head (hj) ?_
    | refine storeX_w ?_
    | ((with_reducible refine And.intro ?_ ?_); omega)
    | refine bo_buildSlice (d' := ⟨⟩) ?_
    | (refine draw_all (by kernel_rfl) ?_)
    | refine finish_pure ?_ (by repeat' (first | exact AS.le.refl _ | assumption | (refine le_set (by first | assumption | (simp only [*]; done) | exact AS.le.fresh (by assumption) (by simp only [*])) ?_) | (refine le_ty (by first | assumption | (simp only [*]; done) | exact AS.le.fresh (by assumption) (by simp only [*])) ?_)))
    | simp -dsimp only [↓bp, bq, br, afin, bsk, cWrites, opsWrites, pieceGh, rsk, ne_eq, if_true, if_false, exists_eq_left', forall_const, forall_eq, Nat.reduceLT, Int.reduceSub, Nat.reduceAdd, Nat.reduceSub, Nat.reduceMul, Nat.reduceLeDiff, Nat.reduceEqDiff, Nat.reduceBEq, Nat.reduceBNe, Int.reduceNeg, Int.reduceAdd, Int.reduceMul, Int.reduceLE, Int.reduceLT, Int.reduceEq, Int.reduceToNat, reduceIte, reduceCtorEq, tbRefH5, *])
  all_goals first | rfl | (exfalso; unfold Hid at hc; apply hc; refine ⟨?_, ?_, ?_, ?_, ?_⟩ <;> first | assumption | omega | (simp_all; done))
set_option maxHeartbeats 4000000 in
theorem rsz_7b (t : Term) (hb : t.bulk ≤ 1000000000) (hk : t.knd = 7) (hit : ∀ x, x ∈ t.items → Pure Tryd.prog G 60 [x.enc] (.int .i64 (rsize x))) (htt : ∀ x, x ∈ t.tail → Pure Tryd.prog G 60 [x.enc] (.int .i64 (rsize x))) (x : Term) (hx : t.tail[0]? = some x) (hl : t.tail.length = 1) : Pure Tryd.prog G 60 [t.enc] (.int .i64 (rsize t)) := by
  have hbe := t.bulk_eq
  have hi := items_pure G t.items 1 1 (by omega) (by omega) (by omega) (by omega) (by omega) hit
  have hsl := ritems_le t.items 1 (by omega) (by omega) (fun x _ => rsize_le x) 1 (by omega)
  have hj : 0 ≤ ritems t.items 1 1 → Pure Tryd.prog G 83 [encs t.tail, .int .i64 (ritems t.items 1 1), .int .i64 0] (.int .i64 (ritems t.tail (ritems t.items 1 1) 0)) := fun h => items_pure G t.tail _ 0 (by omega) (by omega) h (by omega) (by omega) htt
  have e0 : rsize t = if t.neg = false ∧ (t.limbs.length : Int) = 0 ∧ t.text = [] ∧ t.num = 0 ∧ ¬ (t.items.length : Int) = 0 ∧ ¬ x.knd = 7 then (if ritems t.items 1 1 < 0 then -1 else ritems t.tail (ritems t.items 1 1) 0) else -1 := by
    rw [rsize_7 hk]
    have e1 : t.tail = [x] := by
      cases ht : t.tail with
      | nil => rw [ht] at hl; simp at hl
      | cons y l => rw [ht] at hl hx; simp at hl hx; rw [hl, hx]
    have e2 : ((t.tail.length : Int) ≤ (if (t.items.length : Int) < 1 then (t.items.length : Int) else 1)) = (¬ (t.items.length : Int) = 0) := by
      rw [hl]; apply propext; constructor
      · intro h; split at h <;> omega
      · intro h; split <;> omega
    have e3 : (t.tail.all fun x => decide (x.knd ≠ 7)) = decide (¬ x.knd = 7) := by rw [e1]; simp
    rw [e3]
    simp only [e2, decide_eq_true_eq]
  have k1 := eq_false (show ¬ t.knd = 1 by omega)
  have k2 := eq_false (show ¬ t.knd = 2 by omega)
  have k3 := eq_false (show ¬ t.knd = 3 by omega)
  have k4 := eq_false (show ¬ t.knd = 4 by omega)
  have k5 := eq_false (show ¬ t.knd = 5 by omega)
  have k6 := eq_false (show ¬ t.knd = 6 by omega)
  have k7 := eq_true hk
  have l0 : (t.tail.length : Int) = 1 := by omega
  clear hk hbe hb hit htt hsl hl
  generalize rsize t = r at *
  generalize ritems t.items 1 1 = s at *
  by_cases hs : s < 0
  · have e : r = -1 := by rw [e0, if_pos hs, ite_self]
    rw [e]
    exact rsz_7b1 G t x s 0 k1 k2 k3 k4 k5 k6 k7 l0 hx hi (eq_true hs)
  · have hj := hj (by omega)
    rw [if_neg hs] at e0
    generalize ritems t.tail s 0 = u at *
    by_cases x7 : x.knd = 7
    · have e : r = -1 := by rw [e0, if_neg (fun hc => hc.2.2.2.2.2 x7)]
      rw [e]
      exact rsz_7b2 G t x s u k1 k2 k3 k4 k5 k6 k7 l0 hx hi hj (eq_false hs) (eq_true x7)
    · simp only [x7, not_false_eq_true, and_true] at e0
      by_cases hc : t.neg = false ∧ (t.limbs.length : Int) = 0 ∧ t.text = [] ∧ t.num = 0 ∧ ¬ (t.items.length : Int) = 0
      · rw [if_pos hc] at e0
        obtain ⟨c1, c2, c3, c4, c5⟩ := hc
        rw [e0]
        exact rsz_7b3 G t x s u k1 k2 k3 k4 k5 k6 k7 l0 hx hi hj (eq_false hs) (eq_false x7) c1 (eq_false (by omega)) (eq_true c2) (eq_true c3) (eq_true c4) (eq_false c5)
      · rw [if_neg hc] at e0
        rw [e0]
        exact rsz_7b4 G t x s u k1 k2 k3 k4 k5 k6 k7 l0 hx hi hj (eq_false hs) (eq_false x7) hc
end Go.Proofs.YtjnhalmeddafdaaDoor
