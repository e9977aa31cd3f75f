/- Is all of what is seen such as has one text? -/
import Derived.Test.YtpginpbcndlfmaaDoorZTaleG
set_option linter.unusedVariables false
set_option linter.unusedSimpArgs false
set_option maxRecDepth 20000
set_option linter.defProp false
namespace Go.Proofs.YtpginpbcndlfmaaDoor
open Go Go.Av
def tbTaleB := And.intro (And.intro (And.intro (And.intro (And.intro @tf3 @tf4) (And.intro @tf5 (And.intro @tf61 @tf9))) (And.intro (And.intro @tf31 @tf38) (And.intro @tf37 (And.intro @tf22 @tf40)))) (And.intro (And.intro (And.intro @tf23 @tf44) (And.intro @tf24 (And.intro @tf46 @tf26))) (And.intro (And.intro @Term.flat_enc (And.intro @Term.isv_enc @Term.fold_enc)) (And.intro @isv_encs (And.intro @flat_encs @len_encs))))) (And.intro (And.intro (And.intro (And.intro @ix_encs @ix_encs') (And.intro @isv_lims (And.intro @flat_lims @len_lims))) (And.intro (And.intro @Ended.flat_enc (And.intro @Ended.isv_enc @Ended.fold_enc)) (And.intro @Named.flat_enc (And.intro @Named.isv_enc @Named.fold_enc)))) (And.intro (And.intro (And.intro @Seen.flat_enc @Seen.isv_enc) (And.intro @Seen.fold_enc (And.intro @isv_encE @flat_encE))) (And.intro (And.intro @len_encE (And.intro @ix_encE @isv_encN)) (And.intro @flat_encN (And.intro @len_encN @ix_encN)))))
variable (G : Nat → AV)
/-- a right term is such as has one text if it is no ref, fun or pid, and its parts are such -/
theorem bareT_step {t : Term} (h : right t = true) (hk : ¬ (t.knd = 3 ∨ t.knd = 4 ∨ t.knd = 5)) : bareT t = (t.items.all bareT && t.tail.all bareT) := by
  have A := right_spec h
  have key : ∀ l : List Term, (∀ x, x ∈ l → right x = true) → plainTs l = l.all bareT := by
    intro l
    induction l with
    | nil => intro _; rfl
    | cons x l ih =>
      intro hx
      rw [plainTs, List.all_cons, ih (fun y hy => hx y (by simp [hy]))]
      unfold bareT
      rw [hx x (by simp), Bool.true_and]
  unfold bareT at *
  rw [h, plainT_eq, key t.items A.items, key t.tail A.tail]
  have : (decide (t.knd = 3) || decide (t.knd = 4) || decide (t.knd = 5)) = false := by
    simp only [Bool.or_eq_false_iff, decide_eq_false_iff_not]; omega
  rw [this]
  simp
theorem bareT_no {t : Term} (hk : right t = false ∨ t.knd = 3 ∨ t.knd = 4 ∨ t.knd = 5) : bareT t = false := by
  unfold bareT
  rcases hk with h | h | h | h
  · rw [h]; rfl
  all_goals
    rw [plainT_eq, h]
    simp
theorem bare_0 (t : Term) (hr : Pure Tryd.prog G 36 [t.enc] (.bool false)) : Pure Tryd.prog G 29 [t.enc] (.bool false) := by
  intro σ
  refine Tri.of_awp mixed Tryd.func29 rfl (by kernel_rfl) (by kernel_rfl) (by simp [Tryd.ntmps29]) Tryd.results29 ?_
  repeat' (first
    | with_reducible refine condW_both (fun _ _ => ?_) (fun _ _ => ?_)
    | with_reducible refine gW_both (fun _ _ => ?_) (fun _ _ => ?_)
    | with_reducible refine condW_split (fun _ => ?_) (fun _ => ?_)
    | with_reducible refine gW_split (fun _ => ?_) (fun _ => ?_)
    | with_reducible refine pickW_split (fun _ => ?_) (fun _ => ?_)
    | (refine newW_intro ?_; intro bx hbx; (try simp only [fresh_box, fresh_tip, fresh_ty] at hbx))
    | (refine newT_plain ?_; intro bx hbx; (try simp only [fresh_box, fresh_tip, fresh_ty] at hbx))
    | refine Pure.use (hr) ?_
    | refine Pure.head (hr) ?_
    | refine storeX_w ?_
    | ((with_reducible refine And.intro ?_ ?_); omega)
    | refine bo_buildSlice (d' := ⟨⟩) ?_
    | (refine draw_all (by kernel_rfl) ?_)
    | refine finish_pure ?_ (by repeat' (first | exact AS.le.refl _ | assumption | (refine le_set (by first | assumption | (simp only [*]; done) | exact AS.le.fresh (by assumption) (by simp only [*])) ?_) | (refine le_ty (by first | assumption | (simp only [*]; done) | exact AS.le.fresh (by assumption) (by simp only [*])) ?_)))
    | simp -dsimp only [↓bp, bq, br, afin, bsk, cWrites, opsWrites, pieceGh, rsk, ne_eq, if_true, if_false, exists_eq_left', forall_const, forall_eq, Nat.reduceLT, Int.reduceSub, Nat.reduceAdd, Nat.reduceSub, Nat.reduceMul, Nat.reduceLeDiff, Nat.reduceEqDiff, Nat.reduceBEq, Nat.reduceBNe, Int.reduceNeg, Int.reduceAdd, Int.reduceMul, Int.reduceLE, Int.reduceLT, Int.reduceEq, Int.reduceToNat, reduceIte, reduceCtorEq, tbTaleB, *])
  all_goals rfl
theorem bare_3 (t : Term) (hr : Pure Tryd.prog G 36 [t.enc] (.bool true)) (h : t.knd = 3 ∨ t.knd = 4 ∨ t.knd = 5) : Pure Tryd.prog G 29 [t.enc] (.bool false) := by
  have hc : ((t.knd = 3) = True) ∨ ((t.knd = 3) = False ∧ (t.knd = 4) = True) ∨ ((t.knd = 3) = False ∧ (t.knd = 4) = False ∧ (t.knd = 5) = True) := by
    rcases h with h | h | h
    · exact .inl (eq_true h)
    · exact .inr (.inl ⟨eq_false (by omega), eq_true h⟩)
    · exact .inr (.inr ⟨eq_false (by omega), eq_false (by omega), eq_true h⟩)
  clear h
  rcases hc with c | ⟨c1, c2⟩ | ⟨c1, c2, c3⟩
  all_goals
    intro σ
    refine Tri.of_awp mixed Tryd.func29 rfl (by kernel_rfl) (by kernel_rfl) (by simp [Tryd.ntmps29]) Tryd.results29 ?_
    repeat' (first
    | with_reducible refine condW_both (fun _ _ => ?_) (fun _ _ => ?_)
    | with_reducible refine gW_both (fun _ _ => ?_) (fun _ _ => ?_)
    | with_reducible refine condW_split (fun _ => ?_) (fun _ => ?_)
    | with_reducible refine gW_split (fun _ => ?_) (fun _ => ?_)
    | with_reducible refine pickW_split (fun _ => ?_) (fun _ => ?_)
    | (refine newW_intro ?_; intro bx hbx; (try simp only [fresh_box, fresh_tip, fresh_ty] at hbx))
    | (refine newT_plain ?_; intro bx hbx; (try simp only [fresh_box, fresh_tip, fresh_ty] at hbx))
    | refine Pure.use (hr) ?_
    | refine Pure.head (hr) ?_
    | refine storeX_w ?_
    | ((with_reducible refine And.intro ?_ ?_); omega)
    | refine bo_buildSlice (d' := ⟨⟩) ?_
    | (refine draw_all (by kernel_rfl) ?_)
    | refine finish_pure ?_ (by repeat' (first | exact AS.le.refl _ | assumption | (refine le_set (by first | assumption | (simp only [*]; done) | exact AS.le.fresh (by assumption) (by simp only [*])) ?_) | (refine le_ty (by first | assumption | (simp only [*]; done) | exact AS.le.fresh (by assumption) (by simp only [*])) ?_)))
    | simp -dsimp only [↓bp, bq, br, afin, bsk, cWrites, opsWrites, pieceGh, rsk, ne_eq, if_true, if_false, exists_eq_left', forall_const, forall_eq, Nat.reduceLT, Int.reduceSub, Nat.reduceAdd, Nat.reduceSub, Nat.reduceMul, Nat.reduceLeDiff, Nat.reduceEqDiff, Nat.reduceBEq, Nat.reduceBNe, Int.reduceNeg, Int.reduceAdd, Int.reduceMul, Int.reduceLE, Int.reduceLT, Int.reduceEq, Int.reduceToNat, reduceIte, reduceCtorEq, tbTaleB, *])
    all_goals rfl
set_option maxHeartbeats 2000000 in
theorem bare_x (t : Term) (hr : Pure Tryd.prog G 36 [t.enc] (.bool true)) (k3 : (t.knd = 3) = False) (k4 : (t.knd = 4) = False) (k5 : (t.knd = 5) = False) (hl : t.items.length ≤ 1000000000) (ht : t.tail.length ≤ 1)
    (h1 : ∀ x, x ∈ t.items → Pure Tryd.prog G 29 [x.enc] (.bool (bareT x))) (h2 : ∀ x, x ∈ t.tail → Pure Tryd.prog G 29 [x.enc] (.bool (bareT x))) : Pure Tryd.prog G 29 [t.enc] (.bool (t.items.all bareT && t.tail.all bareT)) := by
  intro σ
  refine Tri.of_awp mixed Tryd.func29 rfl (by kernel_rfl) (by kernel_rfl) (by simp [Tryd.ntmps29]) Tryd.results29 ?_
  simp -dsimp only [↓bp, bq, br, afin, bsk, cWrites, opsWrites, pieceGh, rsk, ne_eq, if_true, if_false, exists_eq_left', forall_const, forall_eq, Nat.reduceLT, Int.reduceSub, Nat.reduceAdd, Nat.reduceSub, Nat.reduceMul, Nat.reduceLeDiff, Nat.reduceEqDiff, Nat.reduceBEq, Nat.reduceBNe, Int.reduceNeg, Int.reduceAdd, Int.reduceMul, Int.reduceLE, Int.reduceLT, Int.reduceEq, Int.reduceToNat, reduceIte, reduceCtorEq, tbTaleB]
  refine newW_intro fun b hb => ?_
  have hle0 := le_set (cs := [.int .u8 t.knd, .bool t.neg, lims t.limbs, .str t.text, .int .i64 t.num, encs t.items, encs t.tail]) hb (AS.le.refl σ)
  repeat' (first
    | with_reducible refine condW_both (fun _ _ => ?_) (fun _ _ => ?_)
    | with_reducible refine gW_both (fun _ _ => ?_) (fun _ _ => ?_)
    | with_reducible refine condW_split (fun _ => ?_) (fun _ => ?_)
    | with_reducible refine gW_split (fun _ => ?_) (fun _ => ?_)
    | with_reducible refine pickW_split (fun _ => ?_) (fun _ => ?_)
    | (refine newW_intro ?_; intro bx hbx; (try simp only [fresh_box, fresh_tip, fresh_ty] at hbx))
    | (refine newT_plain ?_; intro bx hbx; (try simp only [fresh_box, fresh_tip, fresh_ty] at hbx))
    | refine Pure.use (hr) ?_
    | refine Pure.head (hr) ?_
    | refine storeX_w ?_
    | ((with_reducible refine And.intro ?_ ?_); omega)
    | refine bo_buildSlice (d' := ⟨⟩) ?_
    | (refine draw_all (by kernel_rfl) ?_)
    | refine finish_pure ?_ (by repeat' (first | exact AS.le.refl _ | assumption | (refine le_set (by first | assumption | (simp only [*]; done) | exact AS.le.fresh (by assumption) (by simp only [*])) ?_) | (refine le_ty (by first | assumption | (simp only [*]; done) | exact AS.le.fresh (by assumption) (by simp only [*])) ?_)))
    | simp -dsimp only [↓bp, bq, br, afin, bsk, cWrites, opsWrites, pieceGh, rsk, ne_eq, if_true, if_false, exists_eq_left', forall_const, forall_eq, Nat.reduceLT, Int.reduceSub, Nat.reduceAdd, Nat.reduceSub, Nat.reduceMul, Nat.reduceLeDiff, Nat.reduceEqDiff, Nat.reduceBEq, Nat.reduceBNe, Int.reduceNeg, Int.reduceAdd, Int.reduceMul, Int.reduceLE, Int.reduceLT, Int.reduceEq, Int.reduceToNat, reduceIte, reduceCtorEq, tbTaleB, *])
  refine loop_keep mixed (fun n e => ∃ i : Nat, i ≤ t.items.length ∧ n = t.items.length - i ∧ e 3 = .int .i64 i ∧ (t.items.drop i).all bareT = t.items.all bareT) t.items.length
    ⟨0, by omega, by omega, by first | (simp -dsimp only [↓bp, bq, br, afin, bsk, cWrites, opsWrites, pieceGh, rsk, ne_eq, if_true, if_false, exists_eq_left', forall_const, forall_eq, Nat.reduceLT, Int.reduceSub, Nat.reduceAdd, Nat.reduceSub, Nat.reduceMul, Nat.reduceLeDiff, Nat.reduceEqDiff, Nat.reduceBEq, Nat.reduceBNe, Int.reduceNeg, Int.reduceAdd, Int.reduceMul, Int.reduceLE, Int.reduceLT, Int.reduceEq, Int.reduceToNat, reduceIte, reduceCtorEq, tbTaleB]; done) | (simp -dsimp only [↓bp, bq, br, afin, bsk, cWrites, opsWrites, pieceGh, rsk, ne_eq, if_true, if_false, exists_eq_left', forall_const, forall_eq, Nat.reduceLT, Int.reduceSub, Nat.reduceAdd, Nat.reduceSub, Nat.reduceMul, Nat.reduceLeDiff, Nat.reduceEqDiff, Nat.reduceBEq, Nat.reduceBNe, Int.reduceNeg, Int.reduceAdd, Int.reduceMul, Int.reduceLE, Int.reduceLT, Int.reduceEq, Int.reduceToNat, reduceIte, reduceCtorEq, tbTaleB]; rfl), by rw [List.drop_zero]⟩ ?_
  rintro n v ⟨i, hi, rfl, h3, hz⟩
  simp -dsimp only [↓bp, bq, br, afin, bsk, cWrites, opsWrites, pieceGh, rsk, ne_eq, if_true, if_false, exists_eq_left', forall_const, forall_eq, Nat.reduceLT, Int.reduceSub, Nat.reduceAdd, Nat.reduceSub, Nat.reduceMul, Nat.reduceLeDiff, Nat.reduceEqDiff, Nat.reduceBEq, Nat.reduceBNe, Int.reduceNeg, Int.reduceAdd, Int.reduceMul, Int.reduceLE, Int.reduceLT, Int.reduceEq, Int.reduceToNat, reduceIte, reduceCtorEq, tbTaleB] at h3
  by_cases hlt : i < t.items.length
  · obtain ⟨x, hx⟩ : ∃ x, t.items[i]? = some x := ⟨_, List.getElem?_eq_getElem hlt⟩
    have hp := h1 x (List.mem_of_getElem? hx)
    rw [drop_get _ _ _ hx, List.all_cons] at hz
    have hw : IntKind.i64.wrap ((i : Int) + 1) = ((i + 1 : Nat) : Int) := by rw [wrap_nat (by omega) (by omega)]; rfl
    have hlt' : ((i : Int) < t.items.length) = True := eq_true (by omega)
    clear h1 h2 hr hl ht
    cases hv : bareT x
    · rw [hv] at hp hz
      rw [← hz, Bool.false_and, Bool.false_and]
      clear hz hi hlt
      repeat' (first
    | with_reducible refine condW_both (fun _ _ => ?_) (fun _ _ => ?_)
    | with_reducible refine gW_both (fun _ _ => ?_) (fun _ _ => ?_)
    | with_reducible refine condW_split (fun _ => ?_) (fun _ => ?_)
    | with_reducible refine gW_split (fun _ => ?_) (fun _ => ?_)
    | with_reducible refine pickW_split (fun _ => ?_) (fun _ => ?_)
    | (refine newW_intro ?_; intro bx hbx; (try simp only [fresh_box, fresh_tip, fresh_ty] at hbx))
    | (refine newT_plain ?_; intro bx hbx; (try simp only [fresh_box, fresh_tip, fresh_ty] at hbx))
    | refine Pure.use (hp) ?_
    | refine Pure.head (hp) ?_
    | refine storeX_w ?_
    | ((with_reducible refine And.intro ?_ ?_); omega)
    | refine bo_buildSlice (d' := ⟨⟩) ?_
    | (refine draw_all (by kernel_rfl) ?_)
    | refine finish_pure ?_ (by repeat' (first | exact AS.le.refl _ | assumption | (refine le_set (by first | assumption | (simp only [*]; done) | exact AS.le.fresh (by assumption) (by simp only [*])) ?_) | (refine le_ty (by first | assumption | (simp only [*]; done) | exact AS.le.fresh (by assumption) (by simp only [*])) ?_)))
    | simp -dsimp only [↓bp, bq, br, afin, bsk, cWrites, opsWrites, pieceGh, rsk, ne_eq, if_true, if_false, exists_eq_left', forall_const, forall_eq, Nat.reduceLT, Int.reduceSub, Nat.reduceAdd, Nat.reduceSub, Nat.reduceMul, Nat.reduceLeDiff, Nat.reduceEqDiff, Nat.reduceBEq, Nat.reduceBNe, Int.reduceNeg, Int.reduceAdd, Int.reduceMul, Int.reduceLE, Int.reduceLT, Int.reduceEq, Int.reduceToNat, reduceIte, reduceCtorEq, tbTaleB, *])
      all_goals rfl
    · rw [hv] at hp hz
      rw [Bool.true_and] at hz
      simp -dsimp only [↓bp, bq, br, afin, bsk, cWrites, opsWrites, pieceGh, rsk, ne_eq, if_true, if_false, exists_eq_left', forall_const, forall_eq, Nat.reduceLT, Int.reduceSub, Nat.reduceAdd, Nat.reduceSub, Nat.reduceMul, Nat.reduceLeDiff, Nat.reduceEqDiff, Nat.reduceBEq, Nat.reduceBNe, Int.reduceNeg, Int.reduceAdd, Int.reduceMul, Int.reduceLE, Int.reduceLT, Int.reduceEq, Int.reduceToNat, reduceIte, reduceCtorEq, tbTaleB, h3, hx, hlt']
      refine Pure.use hp ?_
      simp -dsimp only [↓bp, bq, br, afin, bsk, cWrites, opsWrites, pieceGh, rsk, ne_eq, if_true, if_false, exists_eq_left', forall_const, forall_eq, Nat.reduceLT, Int.reduceSub, Nat.reduceAdd, Nat.reduceSub, Nat.reduceMul, Nat.reduceLeDiff, Nat.reduceEqDiff, Nat.reduceBEq, Nat.reduceBNe, Int.reduceNeg, Int.reduceAdd, Int.reduceMul, Int.reduceLE, Int.reduceLT, Int.reduceEq, Int.reduceToNat, reduceIte, reduceCtorEq, tbTaleB, h3, hx, hlt', hw]
      exact ⟨t.items.length - (i + 1), by omega, i + 1, by omega, rfl, rfl, hz⟩
  · have : i = t.items.length := by omega
    subst this
    rw [List.drop_length, List.all_nil] at hz
    rw [← hz, Bool.true_and]
    have hlt' : ((t.items.length : Int) < t.items.length) = False := eq_false (by omega)
    clear h1 hr hl hz hi hlt
    obtain ⟨q, hq⟩ : ∃ q, q = t.tail.all bareT := ⟨_, rfl⟩
    rw [← hq]
    have hc : t.tail = [] ∨ ∃ y, t.tail = [y] := by
      cases ha : t.tail with
      | nil => exact .inl rfl
      | cons y l => rw [ha] at ht; simp at ht; subst ht; exact .inr ⟨y, rfl⟩
    rcases hc with ha | ⟨y, ha⟩
    · have l0 : ((t.tail.length : Int) = 0) = True := eq_true (by rw [ha]; rfl)
      have hq : q = true := by rw [hq, ha]; rfl
      rw [hq]
      clear h2 ht ha hq
      repeat' (first
    | with_reducible refine condW_both (fun _ _ => ?_) (fun _ _ => ?_)
    | with_reducible refine gW_both (fun _ _ => ?_) (fun _ _ => ?_)
    | with_reducible refine condW_split (fun _ => ?_) (fun _ => ?_)
    | with_reducible refine gW_split (fun _ => ?_) (fun _ => ?_)
    | with_reducible refine pickW_split (fun _ => ?_) (fun _ => ?_)
    | (refine newW_intro ?_; intro bx hbx; (try simp only [fresh_box, fresh_tip, fresh_ty] at hbx))
    | (refine newT_plain ?_; intro bx hbx; (try simp only [fresh_box, fresh_tip, fresh_ty] at hbx))
    | refine storeX_w ?_
    | ((with_reducible refine And.intro ?_ ?_); omega)
    | refine bo_buildSlice (d' := ⟨⟩) ?_
    | (refine draw_all (by kernel_rfl) ?_)
    | refine finish_pure ?_ (by repeat' (first | exact AS.le.refl _ | assumption | (refine le_set (by first | assumption | (simp only [*]; done) | exact AS.le.fresh (by assumption) (by simp only [*])) ?_) | (refine le_ty (by first | assumption | (simp only [*]; done) | exact AS.le.fresh (by assumption) (by simp only [*])) ?_)))
    | simp -dsimp only [↓bp, bq, br, afin, bsk, cWrites, opsWrites, pieceGh, rsk, ne_eq, if_true, if_false, exists_eq_left', forall_const, forall_eq, Nat.reduceLT, Int.reduceSub, Nat.reduceAdd, Nat.reduceSub, Nat.reduceMul, Nat.reduceLeDiff, Nat.reduceEqDiff, Nat.reduceBEq, Nat.reduceBNe, Int.reduceNeg, Int.reduceAdd, Int.reduceMul, Int.reduceLE, Int.reduceLT, Int.reduceEq, Int.reduceToNat, reduceIte, reduceCtorEq, tbTaleB, *])
      all_goals rfl
    · have l0 : ((t.tail.length : Int) = 0) = False := eq_false (by rw [ha]; simp)
      have hy : t.tail[0]? = some y := by rw [ha]; rfl
      have hp := h2 y (by rw [ha]; simp)
      have hq : q = bareT y := by rw [hq, ha]; simp
      rw [hq]
      clear h2 ht ha hq
      repeat' (first
    | with_reducible refine condW_both (fun _ _ => ?_) (fun _ _ => ?_)
    | with_reducible refine gW_both (fun _ _ => ?_) (fun _ _ => ?_)
    | with_reducible refine condW_split (fun _ => ?_) (fun _ => ?_)
    | with_reducible refine gW_split (fun _ => ?_) (fun _ => ?_)
    | with_reducible refine pickW_split (fun _ => ?_) (fun _ => ?_)
    | (refine newW_intro ?_; intro bx hbx; (try simp only [fresh_box, fresh_tip, fresh_ty] at hbx))
    | (refine newT_plain ?_; intro bx hbx; (try simp only [fresh_box, fresh_tip, fresh_ty] at hbx))
    | refine Pure.use (hp) ?_
    | refine Pure.head (hp) ?_
    | refine storeX_w ?_
    | ((with_reducible refine And.intro ?_ ?_); omega)
    | refine bo_buildSlice (d' := ⟨⟩) ?_
    | (refine draw_all (by kernel_rfl) ?_)
    | refine finish_pure ?_ (by repeat' (first | exact AS.le.refl _ | assumption | (refine le_set (by first | assumption | (simp only [*]; done) | exact AS.le.fresh (by assumption) (by simp only [*])) ?_) | (refine le_ty (by first | assumption | (simp only [*]; done) | exact AS.le.fresh (by assumption) (by simp only [*])) ?_)))
    | simp -dsimp only [↓bp, bq, br, afin, bsk, cWrites, opsWrites, pieceGh, rsk, ne_eq, if_true, if_false, exists_eq_left', forall_const, forall_eq, Nat.reduceLT, Int.reduceSub, Nat.reduceAdd, Nat.reduceSub, Nat.reduceMul, Nat.reduceLeDiff, Nat.reduceEqDiff, Nat.reduceBEq, Nat.reduceBNe, Int.reduceNeg, Int.reduceAdd, Int.reduceMul, Int.reduceLE, Int.reduceLT, Int.reduceEq, Int.reduceToNat, reduceIte, reduceCtorEq, tbTaleB, *])
      all_goals rfl
theorem bare_pure (t : Term) : t.bulk ≤ 100000000 → Pure Tryd.prog G 29 [t.enc] (.bool (bareT t)) := by
  refine Term.ind (P := fun t => t.bulk ≤ 100000000 → Pure Tryd.prog G 29 [t.enc] (.bool (bareT t))) (fun t ih1 ih2 hb => ?_) t
  have hr := right_pure G t (by omega)
  cases e : right t
  · rw [e] at hr
    rw [bareT_no (.inl e)]
    exact bare_0 G t hr
  · rw [e] at hr
    by_cases hk : t.knd = 3 ∨ t.knd = 4 ∨ t.knd = 5
    · rw [bareT_no (.inr hk)]
      exact bare_3 G t hr hk
    · rw [bareT_step e hk]
      have A := right_spec e
      have ht : t.tail.length ≤ 1 := by
        by_cases h7 : t.knd = 7
        · exact (A.list h7).1
        · by_cases h1 : t.knd = 1
          · rw [(wr_spec (A.int h1)).2.2.2.2.1]; simp
          · rw [(A.rest h1).2.2.2.1 h7]; simp
      exact bare_x G t hr (eq_false (by omega)) (eq_false (by omega)) (eq_false (by omega)) (by have := len_items t; omega) ht (fun x hx => ih1 x hx (by have := bulk_item hx; omega)) (fun x hx => ih2 x hx (by have := bulk_tail hx; omega))
set_option maxHeartbeats 2000000 in
theorem plainS_pure (s : Seen) (hb : s.bulk ≤ 2000000) : Pure Tryd.prog G 13 [s.enc] (.bool (plainS s)) := by
  have n1 : s.out.length ≤ 2000000 := by have := len_le_bulks s.out; unfold Seen.bulk at hb; omega
  have n2 : s.ended.length ≤ 2000000 := by have := lenE_le s.ended; unfold Seen.bulk at hb; omega
  have n3 : s.names.length ≤ 2000000 := by have := lenN_le s.names; unfold Seen.bulk at hb; omega
  have hto : ∀ x, x ∈ s.out → Pure Tryd.prog G 29 [x.enc] (.bool (bareT x)) := fun x hx => by
    have := bulk_mem hx
    unfold Seen.bulk at hb
    exact bare_pure G x (by omega)
  have hte : ∀ x, x ∈ s.ended → Pure Tryd.prog G 29 [x.reason.enc] (.bool (bareT x.reason)) := fun x hx => by
    have := bulkE_mem hx
    unfold Seen.bulk at hb
    exact bare_pure G x.reason (by omega)
  obtain ⟨r, hr⟩ : ∃ r, r = plainS s := ⟨_, rfl⟩
  rw [← hr]
  unfold plainS at hr
  clear hb
  intro σ
  refine Tri.of_awp mixed Tryd.func13 rfl (by kernel_rfl) (by kernel_rfl) (by simp [Tryd.ntmps13]) Tryd.results13 ?_
  simp -dsimp only [↓bp, bq, br, afin, bsk, cWrites, opsWrites, pieceGh, rsk, ne_eq, if_true, if_false, exists_eq_left', forall_const, forall_eq, Nat.reduceLT, Int.reduceSub, Nat.reduceAdd, Nat.reduceSub, Nat.reduceMul, Nat.reduceLeDiff, Nat.reduceEqDiff, Nat.reduceBEq, Nat.reduceBNe, Int.reduceNeg, Int.reduceAdd, Int.reduceMul, Int.reduceLE, Int.reduceLT, Int.reduceEq, Int.reduceToNat, reduceIte, reduceCtorEq, tbTaleB]
  refine newW_intro fun b hb => ?_
  have hle0 := le_set (cs := [encs s.out, encE s.ended, encN s.names, .int .i64 s.verdict, .int .i64 s.spent, .int .i64 s.clock]) hb (AS.le.refl σ)
  simp -dsimp only [↓bp, bq, br, afin, bsk, cWrites, opsWrites, pieceGh, rsk, ne_eq, if_true, if_false, exists_eq_left', forall_const, forall_eq, Nat.reduceLT, Int.reduceSub, Nat.reduceAdd, Nat.reduceSub, Nat.reduceMul, Nat.reduceLeDiff, Nat.reduceEqDiff, Nat.reduceBEq, Nat.reduceBNe, Int.reduceNeg, Int.reduceAdd, Int.reduceMul, Int.reduceLE, Int.reduceLT, Int.reduceEq, Int.reduceToNat, reduceIte, reduceCtorEq, tbTaleB]
  refine loop_keep mixed (fun n e => ∃ i : Nat, i ≤ s.out.length ∧ n = s.out.length - i ∧ e 3 = .int .i64 i ∧ (s.out.drop i).all bareT = s.out.all bareT) s.out.length
    ⟨0, by omega, by omega, by first | (simp -dsimp only [↓bp, bq, br, afin, bsk, cWrites, opsWrites, pieceGh, rsk, ne_eq, if_true, if_false, exists_eq_left', forall_const, forall_eq, Nat.reduceLT, Int.reduceSub, Nat.reduceAdd, Nat.reduceSub, Nat.reduceMul, Nat.reduceLeDiff, Nat.reduceEqDiff, Nat.reduceBEq, Nat.reduceBNe, Int.reduceNeg, Int.reduceAdd, Int.reduceMul, Int.reduceLE, Int.reduceLT, Int.reduceEq, Int.reduceToNat, reduceIte, reduceCtorEq, tbTaleB]; done) | (simp -dsimp only [↓bp, bq, br, afin, bsk, cWrites, opsWrites, pieceGh, rsk, ne_eq, if_true, if_false, exists_eq_left', forall_const, forall_eq, Nat.reduceLT, Int.reduceSub, Nat.reduceAdd, Nat.reduceSub, Nat.reduceMul, Nat.reduceLeDiff, Nat.reduceEqDiff, Nat.reduceBEq, Nat.reduceBNe, Int.reduceNeg, Int.reduceAdd, Int.reduceMul, Int.reduceLE, Int.reduceLT, Int.reduceEq, Int.reduceToNat, reduceIte, reduceCtorEq, tbTaleB]; rfl), by rw [List.drop_zero]⟩ ?_
  rintro n v ⟨i, hi, rfl, h3, hz⟩
  simp -dsimp only [↓bp, bq, br, afin, bsk, cWrites, opsWrites, pieceGh, rsk, ne_eq, if_true, if_false, exists_eq_left', forall_const, forall_eq, Nat.reduceLT, Int.reduceSub, Nat.reduceAdd, Nat.reduceSub, Nat.reduceMul, Nat.reduceLeDiff, Nat.reduceEqDiff, Nat.reduceBEq, Nat.reduceBNe, Int.reduceNeg, Int.reduceAdd, Int.reduceMul, Int.reduceLE, Int.reduceLT, Int.reduceEq, Int.reduceToNat, reduceIte, reduceCtorEq, tbTaleB] at h3
  by_cases hlt : i < s.out.length
  · obtain ⟨x, hx⟩ : ∃ x, s.out[i]? = some x := ⟨_, List.getElem?_eq_getElem hlt⟩
    have hp := hto x (List.mem_of_getElem? hx)
    rw [drop_get _ _ _ hx, List.all_cons] at hz
    have hw : IntKind.i64.wrap ((i : Int) + 1) = ((i + 1 : Nat) : Int) := by rw [wrap_nat (by omega) (by omega)]; rfl
    have hlt' : ((i : Int) < s.out.length) = True := eq_true (by omega)
    cases hv : bareT x
    · rw [hv] at hp
      have hf : r = false := by rw [hr, ← hz]; simp only [hv, Bool.false_and, Bool.and_false, Bool.false_eq_true, if_true]
      simp -dsimp only [↓bp, bq, br, afin, bsk, cWrites, opsWrites, pieceGh, rsk, ne_eq, if_true, if_false, exists_eq_left', forall_const, forall_eq, Nat.reduceLT, Int.reduceSub, Nat.reduceAdd, Nat.reduceSub, Nat.reduceMul, Nat.reduceLeDiff, Nat.reduceEqDiff, Nat.reduceBEq, Nat.reduceBNe, Int.reduceNeg, Int.reduceAdd, Int.reduceMul, Int.reduceLE, Int.reduceLT, Int.reduceEq, Int.reduceToNat, reduceIte, reduceCtorEq, tbTaleB, h3, hx, hlt']
      refine Pure.use hp ?_
      simp -dsimp only [↓bp, bq, br, afin, bsk, cWrites, opsWrites, pieceGh, rsk, ne_eq, if_true, if_false, exists_eq_left', forall_const, forall_eq, Nat.reduceLT, Int.reduceSub, Nat.reduceAdd, Nat.reduceSub, Nat.reduceMul, Nat.reduceLeDiff, Nat.reduceEqDiff, Nat.reduceBEq, Nat.reduceBNe, Int.reduceNeg, Int.reduceAdd, Int.reduceMul, Int.reduceLE, Int.reduceLT, Int.reduceEq, Int.reduceToNat, reduceIte, reduceCtorEq, tbTaleB, h3, hx, hlt', hp]
      exact finish_pure (by rw [hf]) hle0
    · rw [hv] at hp
      simp -dsimp only [↓bp, bq, br, afin, bsk, cWrites, opsWrites, pieceGh, rsk, ne_eq, if_true, if_false, exists_eq_left', forall_const, forall_eq, Nat.reduceLT, Int.reduceSub, Nat.reduceAdd, Nat.reduceSub, Nat.reduceMul, Nat.reduceLeDiff, Nat.reduceEqDiff, Nat.reduceBEq, Nat.reduceBNe, Int.reduceNeg, Int.reduceAdd, Int.reduceMul, Int.reduceLE, Int.reduceLT, Int.reduceEq, Int.reduceToNat, reduceIte, reduceCtorEq, tbTaleB, h3, hx, hlt']
      refine Pure.use hp ?_
      simp -dsimp only [↓bp, bq, br, afin, bsk, cWrites, opsWrites, pieceGh, rsk, ne_eq, if_true, if_false, exists_eq_left', forall_const, forall_eq, Nat.reduceLT, Int.reduceSub, Nat.reduceAdd, Nat.reduceSub, Nat.reduceMul, Nat.reduceLeDiff, Nat.reduceEqDiff, Nat.reduceBEq, Nat.reduceBNe, Int.reduceNeg, Int.reduceAdd, Int.reduceMul, Int.reduceLE, Int.reduceLT, Int.reduceEq, Int.reduceToNat, reduceIte, reduceCtorEq, tbTaleB, h3, hx, hlt', hw, hp]
      exact ⟨s.out.length - (i + 1), by omega, i + 1, by omega, rfl, rfl, by rw [← hz]; simp only [hv, Bool.true_and, if_true]⟩
  · have : i = s.out.length := by omega
    subst this
    have hlt' : ((s.out.length : Int) < s.out.length) = False := eq_false (by omega)
    rw [List.drop_length, List.all_nil] at hz
    rw [← hz, Bool.true_and] at hr
    simp -dsimp only [↓bp, bq, br, afin, bsk, cWrites, opsWrites, pieceGh, rsk, ne_eq, if_true, if_false, exists_eq_left', forall_const, forall_eq, Nat.reduceLT, Int.reduceSub, Nat.reduceAdd, Nat.reduceSub, Nat.reduceMul, Nat.reduceLeDiff, Nat.reduceEqDiff, Nat.reduceBEq, Nat.reduceBNe, Int.reduceNeg, Int.reduceAdd, Int.reduceMul, Int.reduceLE, Int.reduceLT, Int.reduceEq, Int.reduceToNat, reduceIte, reduceCtorEq, tbTaleB, h3, hlt']
    clear hz hlt hi hlt' h3 hto
    refine loop_keep mixed (fun n e => ∃ i : Nat, i ≤ s.ended.length ∧ n = s.ended.length - i ∧ e 4 = .int .i64 i ∧ (s.ended.drop i).all (fun e => bareT e.reason) = s.ended.all (fun e => bareT e.reason)) s.ended.length
      ⟨0, by omega, by omega, by first | (simp -dsimp only [↓bp, bq, br, afin, bsk, cWrites, opsWrites, pieceGh, rsk, ne_eq, if_true, if_false, exists_eq_left', forall_const, forall_eq, Nat.reduceLT, Int.reduceSub, Nat.reduceAdd, Nat.reduceSub, Nat.reduceMul, Nat.reduceLeDiff, Nat.reduceEqDiff, Nat.reduceBEq, Nat.reduceBNe, Int.reduceNeg, Int.reduceAdd, Int.reduceMul, Int.reduceLE, Int.reduceLT, Int.reduceEq, Int.reduceToNat, reduceIte, reduceCtorEq, tbTaleB]; done) | (simp -dsimp only [↓bp, bq, br, afin, bsk, cWrites, opsWrites, pieceGh, rsk, ne_eq, if_true, if_false, exists_eq_left', forall_const, forall_eq, Nat.reduceLT, Int.reduceSub, Nat.reduceAdd, Nat.reduceSub, Nat.reduceMul, Nat.reduceLeDiff, Nat.reduceEqDiff, Nat.reduceBEq, Nat.reduceBNe, Int.reduceNeg, Int.reduceAdd, Int.reduceMul, Int.reduceLE, Int.reduceLT, Int.reduceEq, Int.reduceToNat, reduceIte, reduceCtorEq, tbTaleB]; rfl), by rw [List.drop_zero]⟩ ?_
    rintro n v ⟨i, hi, rfl, h3, hz⟩
    simp -dsimp only [↓bp, bq, br, afin, bsk, cWrites, opsWrites, pieceGh, rsk, ne_eq, if_true, if_false, exists_eq_left', forall_const, forall_eq, Nat.reduceLT, Int.reduceSub, Nat.reduceAdd, Nat.reduceSub, Nat.reduceMul, Nat.reduceLeDiff, Nat.reduceEqDiff, Nat.reduceBEq, Nat.reduceBNe, Int.reduceNeg, Int.reduceAdd, Int.reduceMul, Int.reduceLE, Int.reduceLT, Int.reduceEq, Int.reduceToNat, reduceIte, reduceCtorEq, tbTaleB] at h3
    by_cases hlt : i < s.ended.length
    · obtain ⟨x, hx⟩ : ∃ x, s.ended[i]? = some x := ⟨_, List.getElem?_eq_getElem hlt⟩
      have hp := hte x (List.mem_of_getElem? hx)
      rw [drop_get _ _ _ hx, List.all_cons] at hz
      have hw : IntKind.i64.wrap ((i : Int) + 1) = ((i + 1 : Nat) : Int) := by rw [wrap_nat (by omega) (by omega)]; rfl
      have hlt' : ((i : Int) < s.ended.length) = True := eq_true (by omega)
      cases hv : bareT x.reason
      · rw [hv] at hp
        have hf : r = false := by rw [hr, ← hz]; simp only [hv, Bool.false_and, Bool.and_false, Bool.false_eq_true, if_true]
        simp -dsimp only [↓bp, bq, br, afin, bsk, cWrites, opsWrites, pieceGh, rsk, ne_eq, if_true, if_false, exists_eq_left', forall_const, forall_eq, Nat.reduceLT, Int.reduceSub, Nat.reduceAdd, Nat.reduceSub, Nat.reduceMul, Nat.reduceLeDiff, Nat.reduceEqDiff, Nat.reduceBEq, Nat.reduceBNe, Int.reduceNeg, Int.reduceAdd, Int.reduceMul, Int.reduceLE, Int.reduceLT, Int.reduceEq, Int.reduceToNat, reduceIte, reduceCtorEq, tbTaleB, h3, hx, hlt']
        refine Pure.use hp ?_
        simp -dsimp only [↓bp, bq, br, afin, bsk, cWrites, opsWrites, pieceGh, rsk, ne_eq, if_true, if_false, exists_eq_left', forall_const, forall_eq, Nat.reduceLT, Int.reduceSub, Nat.reduceAdd, Nat.reduceSub, Nat.reduceMul, Nat.reduceLeDiff, Nat.reduceEqDiff, Nat.reduceBEq, Nat.reduceBNe, Int.reduceNeg, Int.reduceAdd, Int.reduceMul, Int.reduceLE, Int.reduceLT, Int.reduceEq, Int.reduceToNat, reduceIte, reduceCtorEq, tbTaleB, h3, hx, hlt', hp]
        exact finish_pure (by rw [hf]) hle0
      · rw [hv] at hp
        simp -dsimp only [↓bp, bq, br, afin, bsk, cWrites, opsWrites, pieceGh, rsk, ne_eq, if_true, if_false, exists_eq_left', forall_const, forall_eq, Nat.reduceLT, Int.reduceSub, Nat.reduceAdd, Nat.reduceSub, Nat.reduceMul, Nat.reduceLeDiff, Nat.reduceEqDiff, Nat.reduceBEq, Nat.reduceBNe, Int.reduceNeg, Int.reduceAdd, Int.reduceMul, Int.reduceLE, Int.reduceLT, Int.reduceEq, Int.reduceToNat, reduceIte, reduceCtorEq, tbTaleB, h3, hx, hlt']
        refine Pure.use hp ?_
        simp -dsimp only [↓bp, bq, br, afin, bsk, cWrites, opsWrites, pieceGh, rsk, ne_eq, if_true, if_false, exists_eq_left', forall_const, forall_eq, Nat.reduceLT, Int.reduceSub, Nat.reduceAdd, Nat.reduceSub, Nat.reduceMul, Nat.reduceLeDiff, Nat.reduceEqDiff, Nat.reduceBEq, Nat.reduceBNe, Int.reduceNeg, Int.reduceAdd, Int.reduceMul, Int.reduceLE, Int.reduceLT, Int.reduceEq, Int.reduceToNat, reduceIte, reduceCtorEq, tbTaleB, h3, hx, hlt', hw, hp]
        exact ⟨s.ended.length - (i + 1), by omega, i + 1, by omega, rfl, rfl, by rw [← hz]; simp only [hv, Bool.true_and, if_true]⟩
    · have : i = s.ended.length := by omega
      subst this
      have hlt' : ((s.ended.length : Int) < s.ended.length) = False := eq_false (by omega)
      rw [List.drop_length, List.all_nil] at hz
      rw [← hz, Bool.true_and] at hr
      simp -dsimp only [↓bp, bq, br, afin, bsk, cWrites, opsWrites, pieceGh, rsk, ne_eq, if_true, if_false, exists_eq_left', forall_const, forall_eq, Nat.reduceLT, Int.reduceSub, Nat.reduceAdd, Nat.reduceSub, Nat.reduceMul, Nat.reduceLeDiff, Nat.reduceEqDiff, Nat.reduceBEq, Nat.reduceBNe, Int.reduceNeg, Int.reduceAdd, Int.reduceMul, Int.reduceLE, Int.reduceLT, Int.reduceEq, Int.reduceToNat, reduceIte, reduceCtorEq, tbTaleB, h3, hlt']
      clear hz hlt hi hlt' h3 hte
      have htn : ∀ x, x ∈ s.names → decide ((x.name.length : Int) ≤ 40) = decide ((x.name.length : Int) ≤ 40) := fun x hx => rfl
      refine loop_keep mixed (fun n e => ∃ i : Nat, i ≤ s.names.length ∧ n = s.names.length - i ∧ e 5 = .int .i64 i ∧ (s.names.drop i).all (fun n => decide ((n.name.length : Int) ≤ 40)) = s.names.all (fun n => decide ((n.name.length : Int) ≤ 40))) s.names.length
        ⟨0, by omega, by omega, by first | (simp -dsimp only [↓bp, bq, br, afin, bsk, cWrites, opsWrites, pieceGh, rsk, ne_eq, if_true, if_false, exists_eq_left', forall_const, forall_eq, Nat.reduceLT, Int.reduceSub, Nat.reduceAdd, Nat.reduceSub, Nat.reduceMul, Nat.reduceLeDiff, Nat.reduceEqDiff, Nat.reduceBEq, Nat.reduceBNe, Int.reduceNeg, Int.reduceAdd, Int.reduceMul, Int.reduceLE, Int.reduceLT, Int.reduceEq, Int.reduceToNat, reduceIte, reduceCtorEq, tbTaleB]; done) | (simp -dsimp only [↓bp, bq, br, afin, bsk, cWrites, opsWrites, pieceGh, rsk, ne_eq, if_true, if_false, exists_eq_left', forall_const, forall_eq, Nat.reduceLT, Int.reduceSub, Nat.reduceAdd, Nat.reduceSub, Nat.reduceMul, Nat.reduceLeDiff, Nat.reduceEqDiff, Nat.reduceBEq, Nat.reduceBNe, Int.reduceNeg, Int.reduceAdd, Int.reduceMul, Int.reduceLE, Int.reduceLT, Int.reduceEq, Int.reduceToNat, reduceIte, reduceCtorEq, tbTaleB]; rfl), by rw [List.drop_zero]⟩ ?_
      rintro n v ⟨i, hi, rfl, h3, hz⟩
      simp -dsimp only [↓bp, bq, br, afin, bsk, cWrites, opsWrites, pieceGh, rsk, ne_eq, if_true, if_false, exists_eq_left', forall_const, forall_eq, Nat.reduceLT, Int.reduceSub, Nat.reduceAdd, Nat.reduceSub, Nat.reduceMul, Nat.reduceLeDiff, Nat.reduceEqDiff, Nat.reduceBEq, Nat.reduceBNe, Int.reduceNeg, Int.reduceAdd, Int.reduceMul, Int.reduceLE, Int.reduceLT, Int.reduceEq, Int.reduceToNat, reduceIte, reduceCtorEq, tbTaleB] at h3
      by_cases hlt : i < s.names.length
      · obtain ⟨x, hx⟩ : ∃ x, s.names[i]? = some x := ⟨_, List.getElem?_eq_getElem hlt⟩
        rw [drop_get _ _ _ hx, List.all_cons] at hz
        have hw : IntKind.i64.wrap ((i : Int) + 1) = ((i + 1 : Nat) : Int) := by rw [wrap_nat (by omega) (by omega)]; rfl
        have hlt' : ((i : Int) < s.names.length) = True := eq_true (by omega)
        by_cases hv : (x.name.length : Int) ≤ 40
        · rw [decide_eq_true hv, Bool.true_and] at hz
          have hv' : (40 < (x.name.length : Int)) = False := eq_false (by omega)
          simp -dsimp only [↓bp, bq, br, afin, bsk, cWrites, opsWrites, pieceGh, rsk, ne_eq, if_true, if_false, exists_eq_left', forall_const, forall_eq, Nat.reduceLT, Int.reduceSub, Nat.reduceAdd, Nat.reduceSub, Nat.reduceMul, Nat.reduceLeDiff, Nat.reduceEqDiff, Nat.reduceBEq, Nat.reduceBNe, Int.reduceNeg, Int.reduceAdd, Int.reduceMul, Int.reduceLE, Int.reduceLT, Int.reduceEq, Int.reduceToNat, reduceIte, reduceCtorEq, tbTaleB, h3, hx, hlt', hw, hv']
          exact ⟨s.names.length - (i + 1), by omega, i + 1, by omega, rfl, rfl, hz⟩
        · rw [decide_eq_false hv, Bool.false_and] at hz
          have hf : r = false := by rw [hr, ← hz]
          have hv' : (40 < (x.name.length : Int)) = True := eq_true (by omega)
          simp -dsimp only [↓bp, bq, br, afin, bsk, cWrites, opsWrites, pieceGh, rsk, ne_eq, if_true, if_false, exists_eq_left', forall_const, forall_eq, Nat.reduceLT, Int.reduceSub, Nat.reduceAdd, Nat.reduceSub, Nat.reduceMul, Nat.reduceLeDiff, Nat.reduceEqDiff, Nat.reduceBEq, Nat.reduceBNe, Int.reduceNeg, Int.reduceAdd, Int.reduceMul, Int.reduceLE, Int.reduceLT, Int.reduceEq, Int.reduceToNat, reduceIte, reduceCtorEq, tbTaleB, h3, hx, hlt', hv']
          exact finish_pure (by rw [hf]) hle0
      · have : i = s.names.length := by omega
        subst this
        have hlt' : ((s.names.length : Int) < s.names.length) = False := eq_false (by omega)
        rw [List.drop_length, List.all_nil] at hz
        rw [← hz] at hr
        simp -dsimp only [↓bp, bq, br, afin, bsk, cWrites, opsWrites, pieceGh, rsk, ne_eq, if_true, if_false, exists_eq_left', forall_const, forall_eq, Nat.reduceLT, Int.reduceSub, Nat.reduceAdd, Nat.reduceSub, Nat.reduceMul, Nat.reduceLeDiff, Nat.reduceEqDiff, Nat.reduceBEq, Nat.reduceBNe, Int.reduceNeg, Int.reduceAdd, Int.reduceMul, Int.reduceLE, Int.reduceLT, Int.reduceEq, Int.reduceToNat, reduceIte, reduceCtorEq, tbTaleB, h3, hlt']
        exact finish_pure (by rw [hr]) hle0
end Go.Proofs.YtpginpbcndlfmaaDoor
