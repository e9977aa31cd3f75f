/- The reference's size, on abstract values: by kinds. -/
import Derived.Test.YtjnhalmeddafdaaDoorZRefH2
import Derived.Test.YtjnhalmeddafdaaDoorZRefH
set_option linter.unusedVariables false
set_option linter.unusedSimpArgs false
set_option maxRecDepth 20000
set_option linter.defProp false
namespace Go.Proofs.YtjnhalmeddafdaaDoor
open Go Go.Av
def tbRefH3 := And.intro (And.intro (And.intro (And.intro @tf3 @tf4) (And.intro @tf5 @tf44)) (And.intro (And.intro @tf9 @tf23) (And.intro @tf22 (And.intro @tf24 @tf26)))) (And.intro (And.intro (And.intro @Term.flat_enc @Term.isv_enc) (And.intro @Term.fold_enc @isv_encs)) (And.intro (And.intro @flat_encs @len_encs) (And.intro @isv_lims (And.intro @flat_lims @len_lims))))
variable (G : Nat → AV)
set_option maxHeartbeats 4000000 in
theorem rsz_7a (t : Term) (hb : t.bulk ≤ 1000000000) (hk : t.knd = 7) (hit : ∀ x, x ∈ t.items → Pure Tryd.prog G 60 [x.enc] (.int .i64 (rsize x))) (htt : ∀ x, x ∈ t.tail → Pure Tryd.prog G 60 [x.enc] (.int .i64 (rsize x))) (hl : t.tail.length = 0) : Pure Tryd.prog G 60 [t.enc] (.int .i64 (rsize t)) := by
  have hbe := t.bulk_eq
  have hi := items_pure G t.items 1 1 (by omega) (by omega) (by omega) (by omega) (by omega) hit
  have hsl := ritems_le t.items 1 (by omega) (by omega) (fun x _ => rsize_le x) 1 (by omega)
  have hj : 0 ≤ ritems t.items 1 1 → Pure Tryd.prog G 83 [encs t.tail, .int .i64 (ritems t.items 1 1), .int .i64 0] (.int .i64 (ritems t.tail (ritems t.items 1 1) 0)) := fun h => items_pure G t.tail _ 0 (by omega) (by omega) h (by omega) (by omega) htt
  have e0 : rsize t = if t.neg = false ∧ (t.limbs.length : Int) = 0 ∧ t.text = [] ∧ t.num = 0 then (if ritems t.items 1 1 < 0 then -1 else ritems t.tail (ritems t.items 1 1) 0) else -1 := by
    rw [rsize_7 hk]
    have e1 : t.tail = [] := List.eq_nil_of_length_eq_zero hl
    have e2 : ((t.tail.length : Int) ≤ (if (t.items.length : Int) < 1 then (t.items.length : Int) else 1)) = True := eq_true (by rw [hl]; split <;> omega)
    have e3 : (t.tail.all fun x => decide (x.knd ≠ 7)) = true := by rw [e1]; rfl
    rw [e3]
    simp only [e2, and_true]
  have k1 := eq_false (show ¬ t.knd = 1 by omega)
  have k2 := eq_false (show ¬ t.knd = 2 by omega)
  have k3 := eq_false (show ¬ t.knd = 3 by omega)
  have k4 := eq_false (show ¬ t.knd = 4 by omega)
  have k5 := eq_false (show ¬ t.knd = 5 by omega)
  have k6 := eq_false (show ¬ t.knd = 6 by omega)
  have k7 := eq_true hk
  have l0 : (t.tail.length : Int) = 0 := by omega
  clear hk hbe hb hit htt hsl hl
  generalize rsize t = r at *
  generalize ritems t.items 1 1 = s at *
  by_cases hs : s < 0
  · clear hj
    rw [if_pos hs] at e0
    have e : Hid _ := e0
    clear e0
    have hs := eq_true hs
    intro σ
    refine Tri.of_awp mixed Tryd.func60 rfl (by kernel_rfl) (by kernel_rfl) (by simp [Tryd.ntmps60]) Tryd.results60 ?_
    repeat' (first
    | with_reducible refine condW_both (fun _ _ => ?_) (fun _ _ => ?_)
    | with_reducible refine gW_both (fun _ _ => ?_) (fun _ _ => ?_)
    | with_reducible refine condW_split (fun _ => ?_) (fun _ => ?_)
    | with_reducible refine gW_split (fun _ => ?_) (fun _ => ?_)
    | with_reducible refine pickW_split (fun _ => ?_) (fun _ => ?_)
    | (refine newW_intro ?_; intro bx hbx; (try simp only [fresh_box, fresh_tip, fresh_ty] at hbx))
    | (refine newT_plain ?_; intro bx hbx; (try simp only [fresh_box, fresh_tip, fresh_ty] at hbx))
    | refine Pure.use (hi) ?_
    | refine Pure.head (hi) ?_
    | refine storeX_w ?_
    | ((with_reducible refine And.intro ?_ ?_); omega)
    | refine bo_buildSlice (d' := ⟨⟩) ?_
    | (refine draw_all (by kernel_rfl) ?_)
    | refine finish_pure ?_ (by repeat' (first | exact AS.le.refl _ | assumption | (refine le_set (by first | assumption | (simp only [*]; done) | exact AS.le.fresh (by assumption) (by simp only [*])) ?_) | (refine le_ty (by first | assumption | (simp only [*]; done) | exact AS.le.fresh (by assumption) (by simp only [*])) ?_)))
    | simp -dsimp only [↓bp, bq, br, afin, bsk, cWrites, opsWrites, pieceGh, rsk, ne_eq, if_true, if_false, exists_eq_left', forall_const, forall_eq, Nat.reduceLT, Int.reduceSub, Nat.reduceAdd, Nat.reduceSub, Nat.reduceMul, Nat.reduceLeDiff, Nat.reduceEqDiff, Nat.reduceBEq, Nat.reduceBNe, Int.reduceNeg, Int.reduceAdd, Int.reduceMul, Int.reduceLE, Int.reduceLT, Int.reduceEq, Int.reduceToNat, reduceIte, reduceCtorEq, tbRefH3, *])
    all_goals
      unfold Hid at e
      rw [e]
      split
      · rename_i hc
        obtain ⟨c1, c2, c3, c4⟩ := hc
        first | rfl | (exfalso; first | omega | (simp_all; done))
      · rename_i hc
        first | rfl | (exfalso; apply hc; refine ⟨?_, ?_, ?_, ?_⟩ <;> first | assumption | omega | (simp_all; done))
  · have hj := hj (by omega)
    rw [if_neg hs] at e0
    have e : Hid _ := e0
    clear e0
    generalize ritems t.tail s 0 = u at *
    have hs := eq_false hs
    intro σ
    refine Tri.of_awp mixed Tryd.func60 rfl (by kernel_rfl) (by kernel_rfl) (by simp [Tryd.ntmps60]) Tryd.results60 ?_
    repeat' (first
    | with_reducible refine condW_both (fun _ _ => ?_) (fun _ _ => ?_)
    | with_reducible refine gW_both (fun _ _ => ?_) (fun _ _ => ?_)
    | with_reducible refine condW_split (fun _ => ?_) (fun _ => ?_)
    | with_reducible refine gW_split (fun _ => ?_) (fun _ => ?_)
    | with_reducible refine pickW_split (fun _ => ?_) (fun _ => ?_)
    | (refine newW_intro ?_; intro bx hbx; (try simp only [fresh_box, fresh_tip, fresh_ty] at hbx))
    | (refine newT_plain ?_; intro bx hbx; (try simp only [fresh_box, fresh_tip, fresh_ty] at hbx))
    | refine Pure.use (hi) ?_
    | refine Pure.head (hi) ?_
    | refine Pure.use (hj) ?_
    | refine Pure.head (hj) ?_
    | refine storeX_w ?_
    | ((with_reducible refine And.intro ?_ ?_); omega)
    | refine bo_buildSlice (d' := ⟨⟩) ?_
    | (refine draw_all (by kernel_rfl) ?_)
    | refine finish_pure ?_ (by repeat' (first | exact AS.le.refl _ | assumption | (refine le_set (by first | assumption | (simp only [*]; done) | exact AS.le.fresh (by assumption) (by simp only [*])) ?_) | (refine le_ty (by first | assumption | (simp only [*]; done) | exact AS.le.fresh (by assumption) (by simp only [*])) ?_)))
    | simp -dsimp only [↓bp, bq, br, afin, bsk, cWrites, opsWrites, pieceGh, rsk, ne_eq, if_true, if_false, exists_eq_left', forall_const, forall_eq, Nat.reduceLT, Int.reduceSub, Nat.reduceAdd, Nat.reduceSub, Nat.reduceMul, Nat.reduceLeDiff, Nat.reduceEqDiff, Nat.reduceBEq, Nat.reduceBNe, Int.reduceNeg, Int.reduceAdd, Int.reduceMul, Int.reduceLE, Int.reduceLT, Int.reduceEq, Int.reduceToNat, reduceIte, reduceCtorEq, tbRefH3, *])
    all_goals
      unfold Hid at e
      rw [e]
      split
      · rename_i hc
        obtain ⟨c1, c2, c3, c4⟩ := hc
        first | rfl | (exfalso; first | omega | (simp_all; done))
      · rename_i hc
        first | rfl | (exfalso; apply hc; refine ⟨?_, ?_, ?_, ?_⟩ <;> first | assumption | omega | (simp_all; done))

end Go.Proofs.YtjnhalmeddafdaaDoor
set_option linter.unusedVariables false
set_option linter.unusedSimpArgs false
set_option maxRecDepth 20000
namespace Go.Proofs.YtjnhalmeddafdaaDoor
open Go Go.Av
def tbRefH4 := And.intro (And.intro (And.intro (And.intro @tf3 @tf4) (And.intro @tf5 @tf44)) (And.intro (And.intro @tf9 @tf23) (And.intro @tf22 (And.intro @tf24 @tf26)))) (And.intro (And.intro (And.intro @Term.flat_enc @Term.isv_enc) (And.intro @Term.fold_enc @isv_encs)) (And.intro (And.intro @flat_encs @len_encs) (And.intro @isv_lims (And.intro @flat_lims @len_lims))))
variable (G : Nat → AV)
set_option maxHeartbeats 4000000 in
theorem rsz_0 (t : Term) (hk : ¬ (1 ≤ t.knd ∧ t.knd ≤ 7)) : Pure Tryd.prog G 60 [t.enc] (.int .i64 (rsize t)) := by
  rw [rsize_0 hk]
  have k1 := eq_false (show ¬ t.knd = 1 by omega)
  have k2 := eq_false (show ¬ t.knd = 2 by omega)
  have k3 := eq_false (show ¬ t.knd = 3 by omega)
  have k4 := eq_false (show ¬ t.knd = 4 by omega)
  have k5 := eq_false (show ¬ t.knd = 5 by omega)
  have k6 := eq_false (show ¬ t.knd = 6 by omega)
  have k7 := eq_false (show ¬ t.knd = 7 by omega)
  clear hk
  intro σ
  refine Tri.of_awp mixed Tryd.func60 rfl (by kernel_rfl) (by kernel_rfl) (by simp [Tryd.ntmps60]) Tryd.results60 ?_
  repeat' (first
    | with_reducible refine condW_both (fun _ _ => ?_) (fun _ _ => ?_)
    | with_reducible refine gW_both (fun _ _ => ?_) (fun _ _ => ?_)
    | with_reducible refine condW_split (fun _ => ?_) (fun _ => ?_)
    | with_reducible refine gW_split (fun _ => ?_) (fun _ => ?_)
    | with_reducible refine pickW_split (fun _ => ?_) (fun _ => ?_)
    | (refine newW_intro ?_; intro bx hbx; (try simp only [fresh_box, fresh_tip, fresh_ty] at hbx))
    | (refine newT_plain ?_; intro bx hbx; (try simp only [fresh_box, fresh_tip, fresh_ty] at hbx))
    | refine storeX_w ?_
    | ((with_reducible refine And.intro ?_ ?_); omega)
    | refine bo_buildSlice (d' := ⟨⟩) ?_
    | (refine draw_all (by kernel_rfl) ?_)
    | refine finish_pure ?_ (by repeat' (first | exact AS.le.refl _ | assumption | (refine le_set (by first | assumption | (simp only [*]; done) | exact AS.le.fresh (by assumption) (by simp only [*])) ?_) | (refine le_ty (by first | assumption | (simp only [*]; done) | exact AS.le.fresh (by assumption) (by simp only [*])) ?_)))
    | simp -dsimp only [↓bp, bq, br, afin, bsk, cWrites, opsWrites, pieceGh, rsk, ne_eq, if_true, if_false, exists_eq_left', forall_const, forall_eq, Nat.reduceLT, Int.reduceSub, Nat.reduceAdd, Nat.reduceSub, Nat.reduceMul, Nat.reduceLeDiff, Nat.reduceEqDiff, Nat.reduceBEq, Nat.reduceBNe, Int.reduceNeg, Int.reduceAdd, Int.reduceMul, Int.reduceLE, Int.reduceLT, Int.reduceEq, Int.reduceToNat, reduceIte, reduceCtorEq, tbRefH4, *])
  all_goals rfl
set_option maxHeartbeats 4000000 in
theorem rsz_7c (t : Term) (hk : t.knd = 7) (hl : 1 < (t.tail.length : Int)) : Pure Tryd.prog G 60 [t.enc] (.int .i64 (rsize t)) := by
  have e : rsize t = -1 := by
    rw [rsize_7 hk, if_neg (fun hc => ?_)]
    have := hc.2.2.2.2.1
    split at this <;> omega
  rw [e]
  have k1 := eq_false (show ¬ t.knd = 1 by omega)
  have k2 := eq_false (show ¬ t.knd = 2 by omega)
  have k3 := eq_false (show ¬ t.knd = 3 by omega)
  have k4 := eq_false (show ¬ t.knd = 4 by omega)
  have k5 := eq_false (show ¬ t.knd = 5 by omega)
  have k6 := eq_false (show ¬ t.knd = 6 by omega)
  have k7 := eq_true hk
  have l1 := eq_true hl
  clear hk e hl
  intro σ
  refine Tri.of_awp mixed Tryd.func60 rfl (by kernel_rfl) (by kernel_rfl) (by simp [Tryd.ntmps60]) Tryd.results60 ?_
  repeat' (first
    | with_reducible refine condW_both (fun _ _ => ?_) (fun _ _ => ?_)
    | with_reducible refine gW_both (fun _ _ => ?_) (fun _ _ => ?_)
    | with_reducible refine condW_split (fun _ => ?_) (fun _ => ?_)
    | with_reducible refine gW_split (fun _ => ?_) (fun _ => ?_)
    | with_reducible refine pickW_split (fun _ => ?_) (fun _ => ?_)
    | (refine newW_intro ?_; intro bx hbx; (try simp only [fresh_box, fresh_tip, fresh_ty] at hbx))
    | (refine newT_plain ?_; intro bx hbx; (try simp only [fresh_box, fresh_tip, fresh_ty] at hbx))
    | refine storeX_w ?_
    | ((with_reducible refine And.intro ?_ ?_); omega)
    | refine bo_buildSlice (d' := ⟨⟩) ?_
    | (refine draw_all (by kernel_rfl) ?_)
    | refine finish_pure ?_ (by repeat' (first | exact AS.le.refl _ | assumption | (refine le_set (by first | assumption | (simp only [*]; done) | exact AS.le.fresh (by assumption) (by simp only [*])) ?_) | (refine le_ty (by first | assumption | (simp only [*]; done) | exact AS.le.fresh (by assumption) (by simp only [*])) ?_)))
    | simp -dsimp only [↓bp, bq, br, afin, bsk, cWrites, opsWrites, pieceGh, rsk, ne_eq, if_true, if_false, exists_eq_left', forall_const, forall_eq, Nat.reduceLT, Int.reduceSub, Nat.reduceAdd, Nat.reduceSub, Nat.reduceMul, Nat.reduceLeDiff, Nat.reduceEqDiff, Nat.reduceBEq, Nat.reduceBNe, Int.reduceNeg, Int.reduceAdd, Int.reduceMul, Int.reduceLE, Int.reduceLT, Int.reduceEq, Int.reduceToNat, reduceIte, reduceCtorEq, tbRefH4, *])
  all_goals rfl
end Go.Proofs.YtjnhalmeddafdaaDoor
