/- The kit's copies, of what is seen; numbers brought into a range; rows of texts that are the same. -/
import Derived.Test.YtpginpbcndlfmaaDoorZTaleA
import Derived.Test.YtpginpbcndlfmaaDoorZTermLent
import Derived.Test.YtpginpbcndlfmaaDoorZQuo
set_option linter.unusedVariables false
set_option linter.unusedSimpArgs false
set_option maxRecDepth 20000
set_option linter.defProp false
namespace Go.Proofs.YtpginpbcndlfmaaDoor
open Go Go.Av
def tbTaleK := And.intro (And.intro (And.intro (And.intro (And.intro @tf3 @tf4) (And.intro @tf5 (And.intro @tf61 @tf9))) (And.intro (And.intro @tf31 (And.intro @tf38 @tf37)) (And.intro @tf22 (And.intro @tf40 @tf23)))) (And.intro (And.intro (And.intro @tf44 @tf24) (And.intro @tf46 (And.intro @tf26 @Term.flat_enc))) (And.intro (And.intro @Term.isv_enc (And.intro @Term.fold_enc @isv_encs)) (And.intro @flat_encs (And.intro @len_encs @ix_encs))))) (And.intro (And.intro (And.intro (And.intro @isv_lims @flat_lims) (And.intro @len_lims (And.intro @ix_lims @flat_limA))) (And.intro (And.intro @Ended.flat_enc (And.intro @Ended.isv_enc @Ended.fold_enc)) (And.intro @Named.flat_enc (And.intro @Named.isv_enc @Named.fold_enc)))) (And.intro (And.intro (And.intro @Seen.flat_enc @Seen.isv_enc) (And.intro @Seen.fold_enc (And.intro @isv_encE @flat_encE))) (And.intro (And.intro @len_encE (And.intro @ix_encE @isv_encN)) (And.intro @flat_encN (And.intro @len_encN @ix_encN)))))
variable (G : Nat → AV)
theorem tlN : aelt Tryd.prog 38 = some (61, 1, 4) := tf38.2.2.2.2.2.2
theorem tlE : el Tryd.prog 38 = some 61 := tf38.2.2.2.1
theorem tfEN : aelt Tryd.prog 23 = some (44, 8, 112) := tf23.2.2.2.2.2.2
theorem tfEE : el Tryd.prog 23 = some 44 := tf23.2.2.2.1
theorem tfNN : aelt Tryd.prog 24 = some (46, 2, 24) := tf24.2.2.2.2.2.2
theorem tfNE : el Tryd.prog 24 = some 46 := tf24.2.2.2.1
theorem kcopyL_pure (l : List UInt32) (hl : l.length ≤ 1000000000) : Pure Tryd.prog G 51 [lims l] (lims l) := by
  refine Pure.of_le fun σ => ?_
  refine Tri.of_awp mixed Tryd.func51 rfl (by kernel_rfl) (by kernel_rfl) (by simp [Tryd.ntmps51]) Tryd.results51 ?_
  repeat' (first
    | with_reducible refine condW_both (fun _ _ => ?_) (fun _ _ => ?_)
    | with_reducible refine gW_both (fun _ _ => ?_) (fun _ _ => ?_)
    | with_reducible refine condW_split (fun _ => ?_) (fun _ => ?_)
    | with_reducible refine gW_split (fun _ => ?_) (fun _ => ?_)
    | with_reducible refine pickW_split (fun _ => ?_) (fun _ => ?_)
    | (refine newW_intro ?_; intro bx hbx; (try simp only [fresh_box, fresh_tip, fresh_ty] at hbx))
    | (refine newT_plain ?_; intro bx hbx; (try simp only [fresh_box, fresh_tip, fresh_ty] at hbx))
    | (refine app_buf (ys := l.map limA) (Buf.nil (AS.le.refl σ)) tlN (asrc_sl tlE) flat1 (by simp; omega) (fun v3 σ3 hB4 hx4 => ?_))
    | refine storeX_w ?_
    | ((with_reducible refine And.intro ?_ ?_); omega)
    | refine bo_buildSlice (d' := ⟨⟩) ?_
    | (refine draw_all (by kernel_rfl) ?_)
    | refine finish_pure ?_ (by repeat' (first | exact AS.le.refl _ | assumption | (refine le_set (by first | assumption | (simp only [*]; done) | exact AS.le.fresh (by assumption) (by simp only [*])) ?_) | (refine le_ty (by first | assumption | (simp only [*]; done) | exact AS.le.fresh (by assumption) (by simp only [*])) ?_)))
    | simp -dsimp only [↓bp, bq, br, afin, bsk, cWrites, opsWrites, pieceGh, rsk, ne_eq, if_true, if_false, exists_eq_left', forall_const, forall_eq, Nat.reduceLT, Int.reduceSub, Nat.reduceAdd, Nat.reduceSub, Nat.reduceMul, Nat.reduceLeDiff, Nat.reduceEqDiff, Nat.reduceBEq, Nat.reduceBNe, Int.reduceNeg, Int.reduceAdd, Int.reduceMul, Int.reduceLE, Int.reduceLT, Int.reduceEq, Int.reduceToNat, reduceIte, reduceCtorEq, tbTaleK, *])
  all_goals exact finish_le (by simpa [lims] using hB4.told) hB4.le
theorem kcopyN_pure (l : List Named) (hl : l.length ≤ 1000000000) : Pure Tryd.prog G 28 [encN l] (encN l) := by
  refine Pure.of_le fun σ => ?_
  refine Tri.of_awp mixed Tryd.func28 rfl (by kernel_rfl) (by kernel_rfl) (by simp [Tryd.ntmps28]) Tryd.results28 ?_
  repeat' (first
    | with_reducible refine condW_both (fun _ _ => ?_) (fun _ _ => ?_)
    | with_reducible refine gW_both (fun _ _ => ?_) (fun _ _ => ?_)
    | with_reducible refine condW_split (fun _ => ?_) (fun _ => ?_)
    | with_reducible refine gW_split (fun _ => ?_) (fun _ => ?_)
    | with_reducible refine pickW_split (fun _ => ?_) (fun _ => ?_)
    | (refine newW_intro ?_; intro bx hbx; (try simp only [fresh_box, fresh_tip, fresh_ty] at hbx))
    | (refine newT_plain ?_; intro bx hbx; (try simp only [fresh_box, fresh_tip, fresh_ty] at hbx))
    | (refine app_buf (ys := l.map Named.enc) (Buf.nil (AS.le.refl σ)) tfNN (asrc_sl tfNE) flat2 (by simp; omega) (fun v3 σ3 hB4 hx4 => ?_))
    | refine storeX_w ?_
    | ((with_reducible refine And.intro ?_ ?_); omega)
    | refine bo_buildSlice (d' := ⟨⟩) ?_
    | (refine draw_all (by kernel_rfl) ?_)
    | refine finish_pure ?_ (by repeat' (first | exact AS.le.refl _ | assumption | (refine le_set (by first | assumption | (simp only [*]; done) | exact AS.le.fresh (by assumption) (by simp only [*])) ?_) | (refine le_ty (by first | assumption | (simp only [*]; done) | exact AS.le.fresh (by assumption) (by simp only [*])) ?_)))
    | simp -dsimp only [↓bp, bq, br, afin, bsk, cWrites, opsWrites, pieceGh, rsk, ne_eq, if_true, if_false, exists_eq_left', forall_const, forall_eq, Nat.reduceLT, Int.reduceSub, Nat.reduceAdd, Nat.reduceSub, Nat.reduceMul, Nat.reduceLeDiff, Nat.reduceEqDiff, Nat.reduceBEq, Nat.reduceBNe, Int.reduceNeg, Int.reduceAdd, Int.reduceMul, Int.reduceLE, Int.reduceLT, Int.reduceEq, Int.reduceToNat, reduceIte, reduceCtorEq, tbTaleK, *])
  all_goals exact finish_le (by simpa [encN] using hB4.told) hB4.le
theorem kcopies_pure (l : List Term) (hl : l.length ≤ 1000000000) (hf : ∀ x, x ∈ l → Pure Tryd.prog G 39 [x.enc] x.enc) : Pure Tryd.prog G 26 [encs l] (encs l) := by
  refine Pure.of_le fun σ => ?_
  refine Tri.of_awp mixed Tryd.func26 rfl (by kernel_rfl) (by kernel_rfl) (by simp [Tryd.ntmps26]) Tryd.results26 ?_
  simp -dsimp only [↓bp, bq, br, afin, bsk, cWrites, opsWrites, pieceGh, rsk, ne_eq, if_true, if_false, exists_eq_left', forall_const, forall_eq, Nat.reduceLT, Int.reduceSub, Nat.reduceAdd, Nat.reduceSub, Nat.reduceMul, Nat.reduceLeDiff, Nat.reduceEqDiff, Nat.reduceBEq, Nat.reduceBNe, Int.reduceNeg, Int.reduceAdd, Int.reduceMul, Int.reduceLE, Int.reduceLT, Int.reduceEq, Int.reduceToNat, reduceIte, reduceCtorEq, tbTaleK]
  refine loop_intro (fun n e σ' => ∃ i : Nat, i ≤ (l).length ∧ n = (l).length - i ∧ e 4 = .int .i64 i ∧ ∃ v, e 3 = v ∧ Buf 7 σ σ' v ((l.take i).map Term.enc)) (l).length
      ⟨0, by omega, by omega, by simp -dsimp only [↓bp, bq, br, afin, bsk, cWrites, opsWrites, pieceGh, rsk, ne_eq, if_true, if_false, exists_eq_left', forall_const, forall_eq, Nat.reduceLT, Int.reduceSub, Nat.reduceAdd, Nat.reduceSub, Nat.reduceMul, Nat.reduceLeDiff, Nat.reduceEqDiff, Nat.reduceBEq, Nat.reduceBNe, Int.reduceNeg, Int.reduceAdd, Int.reduceMul, Int.reduceLE, Int.reduceLT, Int.reduceEq, Int.reduceToNat, reduceIte, reduceCtorEq, tbTaleK]; first | done | rfl, ⟨.nil, by first | (simp -dsimp only [↓bp, bq, br, afin, bsk, cWrites, opsWrites, pieceGh, rsk, ne_eq, if_true, if_false, exists_eq_left', forall_const, forall_eq, Nat.reduceLT, Int.reduceSub, Nat.reduceAdd, Nat.reduceSub, Nat.reduceMul, Nat.reduceLeDiff, Nat.reduceEqDiff, Nat.reduceBEq, Nat.reduceBNe, Int.reduceNeg, Int.reduceAdd, Int.reduceMul, Int.reduceLE, Int.reduceLT, Int.reduceEq, Int.reduceToNat, reduceIte, reduceCtorEq, tbTaleK]; done) | (simp -dsimp only [↓bp, bq, br, afin, bsk, cWrites, opsWrites, pieceGh, rsk, ne_eq, if_true, if_false, exists_eq_left', forall_const, forall_eq, Nat.reduceLT, Int.reduceSub, Nat.reduceAdd, Nat.reduceSub, Nat.reduceMul, Nat.reduceLeDiff, Nat.reduceEqDiff, Nat.reduceBEq, Nat.reduceBNe, Int.reduceNeg, Int.reduceAdd, Int.reduceMul, Int.reduceLE, Int.reduceLT, Int.reduceEq, Int.reduceToNat, reduceIte, reduceCtorEq, tbTaleK]; rfl), .nil (AS.le.refl σ)⟩⟩ ?_
  rintro n v σ' ⟨i, hi, rfl, h4, ⟨v3, h3, hB⟩⟩
  simp -dsimp only [↓bp, bq, br, afin, bsk, cWrites, opsWrites, pieceGh, rsk, ne_eq, if_true, if_false, exists_eq_left', forall_const, forall_eq, Nat.reduceLT, Int.reduceSub, Nat.reduceAdd, Nat.reduceSub, Nat.reduceMul, Nat.reduceLeDiff, Nat.reduceEqDiff, Nat.reduceBEq, Nat.reduceBNe, Int.reduceNeg, Int.reduceAdd, Int.reduceMul, Int.reduceLE, Int.reduceLT, Int.reduceEq, Int.reduceToNat, reduceIte, reduceCtorEq, tbTaleK] at h4 h3
  simp -dsimp only [↓bp, bq, br, afin, bsk, cWrites, opsWrites, pieceGh, rsk, ne_eq, if_true, if_false, exists_eq_left', forall_const, forall_eq, Nat.reduceLT, Int.reduceSub, Nat.reduceAdd, Nat.reduceSub, Nat.reduceMul, Nat.reduceLeDiff, Nat.reduceEqDiff, Nat.reduceBEq, Nat.reduceBNe, Int.reduceNeg, Int.reduceAdd, Int.reduceMul, Int.reduceLE, Int.reduceLT, Int.reduceEq, Int.reduceToNat, reduceIte, reduceCtorEq, tbTaleK, h4, h3]
  refine condW_dec (fun hlt => ?_) (fun hge => ?_)
  · obtain ⟨k, hk⟩ : ∃ k, l[i]? = some k := ⟨_, List.getElem?_eq_getElem (by omega)⟩
    have hp := hf k (List.mem_of_getElem? hk)
    have hil : i < l.length := (List.getElem?_eq_some_iff.1 hk).1
    have hlen : (l.take i).length = i := by rw [List.length_take]; omega
    clear hi hlt hf
    repeat' (first
    | with_reducible refine condW_both (fun _ _ => ?_) (fun _ _ => ?_)
    | with_reducible refine gW_both (fun _ _ => ?_) (fun _ _ => ?_)
    | with_reducible refine condW_split (fun _ => ?_) (fun _ => ?_)
    | with_reducible refine gW_split (fun _ => ?_) (fun _ => ?_)
    | with_reducible refine pickW_split (fun _ => ?_) (fun _ => ?_)
    | (refine newW_intro ?_; intro bx hbx; (try simp only [fresh_box, fresh_tip, fresh_ty] at hbx))
    | (refine newT_plain ?_; intro bx hbx; (try simp only [fresh_box, fresh_tip, fresh_ty] at hbx))
    | refine Pure.use (hp) ?_
    | refine Pure.head (hp) ?_
    | (refine build_one tfN (Term.isv_enc k) (by rw [k.flat_enc]; rfl) (by omega) ?_)
    | (refine app_buf (ys := [k.enc]) (hB.newBox (by first | assumption | (simp only [*]; done)) _) tfN (asrc_sl tfE) (fun a ha => by simp at ha; subst ha; rw [k.flat_enc]; rfl) (by simp; omega) (fun v3 σ3 hB4 hx4 => ?_))
    | refine storeX_w ?_
    | ((with_reducible refine And.intro ?_ ?_); omega)
    | refine bo_buildSlice (d' := ⟨⟩) ?_
    | (refine draw_all (by kernel_rfl) ?_)
    | refine finish_pure ?_ (by repeat' (first | exact AS.le.refl _ | assumption | (refine le_set (by first | assumption | (simp only [*]; done) | exact AS.le.fresh (by assumption) (by simp only [*])) ?_) | (refine le_ty (by first | assumption | (simp only [*]; done) | exact AS.le.fresh (by assumption) (by simp only [*])) ?_)))
    | simp -dsimp only [↓bp, bq, br, afin, bsk, cWrites, opsWrites, pieceGh, rsk, ne_eq, if_true, if_false, exists_eq_left', forall_const, forall_eq, Nat.reduceLT, Int.reduceSub, Nat.reduceAdd, Nat.reduceSub, Nat.reduceMul, Nat.reduceLeDiff, Nat.reduceEqDiff, Nat.reduceBEq, Nat.reduceBNe, Int.reduceNeg, Int.reduceAdd, Int.reduceMul, Int.reduceLE, Int.reduceLT, Int.reduceEq, Int.reduceToNat, reduceIte, reduceCtorEq, tbTaleK, *])
    all_goals exact ⟨l.length - (i + 1), by omega, i + 1, by omega, rfl, by rw [wrap_nat (by omega) (by omega)]; rfl, by rw [take_succ_get _ _ _ hk, List.map_append]; exact hB4⟩
  · have : i = l.length := by omega
    subst this
    rw [List.take_length] at hB
    clear hi hge hf
    repeat' (first
    | with_reducible refine condW_both (fun _ _ => ?_) (fun _ _ => ?_)
    | with_reducible refine gW_both (fun _ _ => ?_) (fun _ _ => ?_)
    | with_reducible refine condW_split (fun _ => ?_) (fun _ => ?_)
    | with_reducible refine gW_split (fun _ => ?_) (fun _ => ?_)
    | with_reducible refine pickW_split (fun _ => ?_) (fun _ => ?_)
    | (refine newW_intro ?_; intro bx hbx; (try simp only [fresh_box, fresh_tip, fresh_ty] at hbx))
    | (refine newT_plain ?_; intro bx hbx; (try simp only [fresh_box, fresh_tip, fresh_ty] at hbx))
    | refine storeX_w ?_
    | ((with_reducible refine And.intro ?_ ?_); omega)
    | refine bo_buildSlice (d' := ⟨⟩) ?_
    | (refine draw_all (by kernel_rfl) ?_)
    | refine finish_pure ?_ (by repeat' (first | exact AS.le.refl _ | assumption | (refine le_set (by first | assumption | (simp only [*]; done) | exact AS.le.fresh (by assumption) (by simp only [*])) ?_) | (refine le_ty (by first | assumption | (simp only [*]; done) | exact AS.le.fresh (by assumption) (by simp only [*])) ?_)))
    | simp -dsimp only [↓bp, bq, br, afin, bsk, cWrites, opsWrites, pieceGh, rsk, ne_eq, if_true, if_false, exists_eq_left', forall_const, forall_eq, Nat.reduceLT, Int.reduceSub, Nat.reduceAdd, Nat.reduceSub, Nat.reduceMul, Nat.reduceLeDiff, Nat.reduceEqDiff, Nat.reduceBEq, Nat.reduceBNe, Int.reduceNeg, Int.reduceAdd, Int.reduceMul, Int.reduceLE, Int.reduceLT, Int.reduceEq, Int.reduceToNat, reduceIte, reduceCtorEq, tbTaleK, *])
    exact finish_le hB.told hB.le
theorem kcopy_pure (t : Term) : t.bulk ≤ 1000000000 → Pure Tryd.prog G 39 [t.enc] t.enc := by
  refine Term.ind (P := fun t => t.bulk ≤ 1000000000 → Pure Tryd.prog G 39 [t.enc] t.enc) (fun t ih1 ih2 hb => ?_) t
  have h1 := kcopies_pure G t.items (by have := len_items t; omega) (fun x hx => ih1 x hx (by have := bulk_item hx; omega))
  have h2 := kcopies_pure G t.tail (by have := len_tail t; omega) (fun x hx => ih2 x hx (by have := bulk_tail hx; omega))
  have h3 := kcopyL_pure G t.limbs (by have := len_limbs t; omega)
  clear ih1 ih2 hb
  intro σ
  refine Tri.of_awp mixed Tryd.func39 rfl (by kernel_rfl) (by kernel_rfl) (by simp [Tryd.ntmps39]) Tryd.results39 ?_
  repeat' (first
    | with_reducible refine condW_both (fun _ _ => ?_) (fun _ _ => ?_)
    | with_reducible refine gW_both (fun _ _ => ?_) (fun _ _ => ?_)
    | with_reducible refine condW_split (fun _ => ?_) (fun _ => ?_)
    | with_reducible refine gW_split (fun _ => ?_) (fun _ => ?_)
    | with_reducible refine pickW_split (fun _ => ?_) (fun _ => ?_)
    | (refine newW_intro ?_; intro bx hbx; (try simp only [fresh_box, fresh_tip, fresh_ty] at hbx))
    | (refine newT_plain ?_; intro bx hbx; (try simp only [fresh_box, fresh_tip, fresh_ty] at hbx))
    | refine Pure.use (h1) ?_
    | refine Pure.head (h1) ?_
    | refine Pure.use (h2) ?_
    | refine Pure.head (h2) ?_
    | refine Pure.use (h3) ?_
    | refine Pure.head (h3) ?_
    | refine storeX_w ?_
    | ((with_reducible refine And.intro ?_ ?_); omega)
    | refine bo_buildSlice (d' := ⟨⟩) ?_
    | (refine draw_all (by kernel_rfl) ?_)
    | refine finish_pure ?_ (by repeat' (first | exact AS.le.refl _ | assumption | (refine le_set (by first | assumption | (simp only [*]; done) | exact AS.le.fresh (by assumption) (by simp only [*])) ?_) | (refine le_ty (by first | assumption | (simp only [*]; done) | exact AS.le.fresh (by assumption) (by simp only [*])) ?_)))
    | simp -dsimp only [↓bp, bq, br, afin, bsk, cWrites, opsWrites, pieceGh, rsk, ne_eq, if_true, if_false, exists_eq_left', forall_const, forall_eq, Nat.reduceLT, Int.reduceSub, Nat.reduceAdd, Nat.reduceSub, Nat.reduceMul, Nat.reduceLeDiff, Nat.reduceEqDiff, Nat.reduceBEq, Nat.reduceBNe, Int.reduceNeg, Int.reduceAdd, Int.reduceMul, Int.reduceLE, Int.reduceLT, Int.reduceEq, Int.reduceToNat, reduceIte, reduceCtorEq, tbTaleK, *])
  all_goals skip
theorem kcopyE1_pure (e : Ended) (hb : e.reason.bulk ≤ 1000000000) : Pure Tryd.prog G 40 [e.enc] e.enc := by
  have h1 := kcopy_pure G e.reason hb
  clear hb
  intro σ
  refine Tri.of_awp mixed Tryd.func40 rfl (by kernel_rfl) (by kernel_rfl) (by simp [Tryd.ntmps40]) Tryd.results40 ?_
  repeat' (first
    | with_reducible refine condW_both (fun _ _ => ?_) (fun _ _ => ?_)
    | with_reducible refine gW_both (fun _ _ => ?_) (fun _ _ => ?_)
    | with_reducible refine condW_split (fun _ => ?_) (fun _ => ?_)
    | with_reducible refine gW_split (fun _ => ?_) (fun _ => ?_)
    | with_reducible refine pickW_split (fun _ => ?_) (fun _ => ?_)
    | (refine newW_intro ?_; intro bx hbx; (try simp only [fresh_box, fresh_tip, fresh_ty] at hbx))
    | (refine newT_plain ?_; intro bx hbx; (try simp only [fresh_box, fresh_tip, fresh_ty] at hbx))
    | refine Pure.use (h1) ?_
    | refine Pure.head (h1) ?_
    | refine storeX_w ?_
    | ((with_reducible refine And.intro ?_ ?_); omega)
    | refine bo_buildSlice (d' := ⟨⟩) ?_
    | (refine draw_all (by kernel_rfl) ?_)
    | refine finish_pure ?_ (by repeat' (first | exact AS.le.refl _ | assumption | (refine le_set (by first | assumption | (simp only [*]; done) | exact AS.le.fresh (by assumption) (by simp only [*])) ?_) | (refine le_ty (by first | assumption | (simp only [*]; done) | exact AS.le.fresh (by assumption) (by simp only [*])) ?_)))
    | simp -dsimp only [↓bp, bq, br, afin, bsk, cWrites, opsWrites, pieceGh, rsk, ne_eq, if_true, if_false, exists_eq_left', forall_const, forall_eq, Nat.reduceLT, Int.reduceSub, Nat.reduceAdd, Nat.reduceSub, Nat.reduceMul, Nat.reduceLeDiff, Nat.reduceEqDiff, Nat.reduceBEq, Nat.reduceBNe, Int.reduceNeg, Int.reduceAdd, Int.reduceMul, Int.reduceLE, Int.reduceLT, Int.reduceEq, Int.reduceToNat, reduceIte, reduceCtorEq, tbTaleK, *])
  all_goals skip
theorem kcopyE_pure (l : List Ended) (hl : l.length ≤ 1000000000) (hf : ∀ x, x ∈ l → Pure Tryd.prog G 40 [x.enc] x.enc) : Pure Tryd.prog G 27 [encE l] (encE l) := by
  refine Pure.of_le fun σ => ?_
  refine Tri.of_awp mixed Tryd.func27 rfl (by kernel_rfl) (by kernel_rfl) (by simp [Tryd.ntmps27]) Tryd.results27 ?_
  simp -dsimp only [↓bp, bq, br, afin, bsk, cWrites, opsWrites, pieceGh, rsk, ne_eq, if_true, if_false, exists_eq_left', forall_const, forall_eq, Nat.reduceLT, Int.reduceSub, Nat.reduceAdd, Nat.reduceSub, Nat.reduceMul, Nat.reduceLeDiff, Nat.reduceEqDiff, Nat.reduceBEq, Nat.reduceBNe, Int.reduceNeg, Int.reduceAdd, Int.reduceMul, Int.reduceLE, Int.reduceLT, Int.reduceEq, Int.reduceToNat, reduceIte, reduceCtorEq, tbTaleK]
  refine loop_intro (fun n e σ' => ∃ i : Nat, i ≤ (l).length ∧ n = (l).length - i ∧ e 4 = .int .i64 i ∧ ∃ v, e 3 = v ∧ Buf 8 σ σ' v ((l.take i).map Ended.enc)) (l).length
      ⟨0, by omega, by omega, by simp -dsimp only [↓bp, bq, br, afin, bsk, cWrites, opsWrites, pieceGh, rsk, ne_eq, if_true, if_false, exists_eq_left', forall_const, forall_eq, Nat.reduceLT, Int.reduceSub, Nat.reduceAdd, Nat.reduceSub, Nat.reduceMul, Nat.reduceLeDiff, Nat.reduceEqDiff, Nat.reduceBEq, Nat.reduceBNe, Int.reduceNeg, Int.reduceAdd, Int.reduceMul, Int.reduceLE, Int.reduceLT, Int.reduceEq, Int.reduceToNat, reduceIte, reduceCtorEq, tbTaleK]; first | done | rfl, ⟨.nil, by first | (simp -dsimp only [↓bp, bq, br, afin, bsk, cWrites, opsWrites, pieceGh, rsk, ne_eq, if_true, if_false, exists_eq_left', forall_const, forall_eq, Nat.reduceLT, Int.reduceSub, Nat.reduceAdd, Nat.reduceSub, Nat.reduceMul, Nat.reduceLeDiff, Nat.reduceEqDiff, Nat.reduceBEq, Nat.reduceBNe, Int.reduceNeg, Int.reduceAdd, Int.reduceMul, Int.reduceLE, Int.reduceLT, Int.reduceEq, Int.reduceToNat, reduceIte, reduceCtorEq, tbTaleK]; done) | (simp -dsimp only [↓bp, bq, br, afin, bsk, cWrites, opsWrites, pieceGh, rsk, ne_eq, if_true, if_false, exists_eq_left', forall_const, forall_eq, Nat.reduceLT, Int.reduceSub, Nat.reduceAdd, Nat.reduceSub, Nat.reduceMul, Nat.reduceLeDiff, Nat.reduceEqDiff, Nat.reduceBEq, Nat.reduceBNe, Int.reduceNeg, Int.reduceAdd, Int.reduceMul, Int.reduceLE, Int.reduceLT, Int.reduceEq, Int.reduceToNat, reduceIte, reduceCtorEq, tbTaleK]; rfl), .nil (AS.le.refl σ)⟩⟩ ?_
  rintro n v σ' ⟨i, hi, rfl, h4, ⟨v3, h3, hB⟩⟩
  simp -dsimp only [↓bp, bq, br, afin, bsk, cWrites, opsWrites, pieceGh, rsk, ne_eq, if_true, if_false, exists_eq_left', forall_const, forall_eq, Nat.reduceLT, Int.reduceSub, Nat.reduceAdd, Nat.reduceSub, Nat.reduceMul, Nat.reduceLeDiff, Nat.reduceEqDiff, Nat.reduceBEq, Nat.reduceBNe, Int.reduceNeg, Int.reduceAdd, Int.reduceMul, Int.reduceLE, Int.reduceLT, Int.reduceEq, Int.reduceToNat, reduceIte, reduceCtorEq, tbTaleK] at h4 h3
  simp -dsimp only [↓bp, bq, br, afin, bsk, cWrites, opsWrites, pieceGh, rsk, ne_eq, if_true, if_false, exists_eq_left', forall_const, forall_eq, Nat.reduceLT, Int.reduceSub, Nat.reduceAdd, Nat.reduceSub, Nat.reduceMul, Nat.reduceLeDiff, Nat.reduceEqDiff, Nat.reduceBEq, Nat.reduceBNe, Int.reduceNeg, Int.reduceAdd, Int.reduceMul, Int.reduceLE, Int.reduceLT, Int.reduceEq, Int.reduceToNat, reduceIte, reduceCtorEq, tbTaleK, h4, h3]
  refine condW_dec (fun hlt => ?_) (fun hge => ?_)
  · obtain ⟨k, hk⟩ : ∃ k, l[i]? = some k := ⟨_, List.getElem?_eq_getElem (by omega)⟩
    have hp := hf k (List.mem_of_getElem? hk)
    have hil : i < l.length := (List.getElem?_eq_some_iff.1 hk).1
    have hlen : (l.take i).length = i := by rw [List.length_take]; omega
    clear hi hlt hf
    repeat' (first
    | with_reducible refine condW_both (fun _ _ => ?_) (fun _ _ => ?_)
    | with_reducible refine gW_both (fun _ _ => ?_) (fun _ _ => ?_)
    | with_reducible refine condW_split (fun _ => ?_) (fun _ => ?_)
    | with_reducible refine gW_split (fun _ => ?_) (fun _ => ?_)
    | with_reducible refine pickW_split (fun _ => ?_) (fun _ => ?_)
    | (refine newW_intro ?_; intro bx hbx; (try simp only [fresh_box, fresh_tip, fresh_ty] at hbx))
    | (refine newT_plain ?_; intro bx hbx; (try simp only [fresh_box, fresh_tip, fresh_ty] at hbx))
    | refine Pure.use (hp) ?_
    | refine Pure.head (hp) ?_
    | (refine build_one tfEN (Ended.isv_enc k) (by rw [k.flat_enc]; rfl) (by omega) ?_)
    | (refine app_buf (ys := [k.enc]) (hB.newBox (by first | assumption | (simp only [*]; done)) _) tfEN (asrc_sl tfEE) (fun a ha => by simp at ha; subst ha; rw [k.flat_enc]; rfl) (by simp; omega) (fun v3 σ3 hB4 hx4 => ?_))
    | refine storeX_w ?_
    | ((with_reducible refine And.intro ?_ ?_); omega)
    | refine bo_buildSlice (d' := ⟨⟩) ?_
    | (refine draw_all (by kernel_rfl) ?_)
    | refine finish_pure ?_ (by repeat' (first | exact AS.le.refl _ | assumption | (refine le_set (by first | assumption | (simp only [*]; done) | exact AS.le.fresh (by assumption) (by simp only [*])) ?_) | (refine le_ty (by first | assumption | (simp only [*]; done) | exact AS.le.fresh (by assumption) (by simp only [*])) ?_)))
    | simp -dsimp only [↓bp, bq, br, afin, bsk, cWrites, opsWrites, pieceGh, rsk, ne_eq, if_true, if_false, exists_eq_left', forall_const, forall_eq, Nat.reduceLT, Int.reduceSub, Nat.reduceAdd, Nat.reduceSub, Nat.reduceMul, Nat.reduceLeDiff, Nat.reduceEqDiff, Nat.reduceBEq, Nat.reduceBNe, Int.reduceNeg, Int.reduceAdd, Int.reduceMul, Int.reduceLE, Int.reduceLT, Int.reduceEq, Int.reduceToNat, reduceIte, reduceCtorEq, tbTaleK, *])
    all_goals exact ⟨l.length - (i + 1), by omega, i + 1, by omega, rfl, by rw [wrap_nat (by omega) (by omega)]; rfl, by rw [take_succ_get _ _ _ hk, List.map_append]; exact hB4⟩
  · have : i = l.length := by omega
    subst this
    rw [List.take_length] at hB
    clear hi hge hf
    repeat' (first
    | with_reducible refine condW_both (fun _ _ => ?_) (fun _ _ => ?_)
    | with_reducible refine gW_both (fun _ _ => ?_) (fun _ _ => ?_)
    | with_reducible refine condW_split (fun _ => ?_) (fun _ => ?_)
    | with_reducible refine gW_split (fun _ => ?_) (fun _ => ?_)
    | with_reducible refine pickW_split (fun _ => ?_) (fun _ => ?_)
    | (refine newW_intro ?_; intro bx hbx; (try simp only [fresh_box, fresh_tip, fresh_ty] at hbx))
    | (refine newT_plain ?_; intro bx hbx; (try simp only [fresh_box, fresh_tip, fresh_ty] at hbx))
    | refine storeX_w ?_
    | ((with_reducible refine And.intro ?_ ?_); omega)
    | refine bo_buildSlice (d' := ⟨⟩) ?_
    | (refine draw_all (by kernel_rfl) ?_)
    | refine finish_pure ?_ (by repeat' (first | exact AS.le.refl _ | assumption | (refine le_set (by first | assumption | (simp only [*]; done) | exact AS.le.fresh (by assumption) (by simp only [*])) ?_) | (refine le_ty (by first | assumption | (simp only [*]; done) | exact AS.le.fresh (by assumption) (by simp only [*])) ?_)))
    | simp -dsimp only [↓bp, bq, br, afin, bsk, cWrites, opsWrites, pieceGh, rsk, ne_eq, if_true, if_false, exists_eq_left', forall_const, forall_eq, Nat.reduceLT, Int.reduceSub, Nat.reduceAdd, Nat.reduceSub, Nat.reduceMul, Nat.reduceLeDiff, Nat.reduceEqDiff, Nat.reduceBEq, Nat.reduceBNe, Int.reduceNeg, Int.reduceAdd, Int.reduceMul, Int.reduceLE, Int.reduceLT, Int.reduceEq, Int.reduceToNat, reduceIte, reduceCtorEq, tbTaleK, *])
    exact finish_le hB.told hB.le
theorem kcopyS_pure (s : Seen) (hb : s.bulk ≤ 100000000) : Pure Tryd.prog G 11 [s.enc] s.enc := by
  unfold Seen.bulk at hb
  have h1 := kcopies_pure G s.out (by have := len_le_bulks s.out; omega) (fun x hx => kcopy_pure G x (by have := bulk_mem hx; omega))
  have h2 := kcopyE_pure G s.ended (by have := lenE_le s.ended; omega) (fun x hx => kcopyE1_pure G x (by have := bulkE_mem hx; omega))
  have h3 := kcopyN_pure G s.names (by have := lenN_le s.names; omega)
  clear hb
  intro σ
  refine Tri.of_awp mixed Tryd.func11 rfl (by kernel_rfl) (by kernel_rfl) (by simp [Tryd.ntmps11]) Tryd.results11 ?_
  repeat' (first
    | with_reducible refine condW_both (fun _ _ => ?_) (fun _ _ => ?_)
    | with_reducible refine gW_both (fun _ _ => ?_) (fun _ _ => ?_)
    | with_reducible refine condW_split (fun _ => ?_) (fun _ => ?_)
    | with_reducible refine gW_split (fun _ => ?_) (fun _ => ?_)
    | with_reducible refine pickW_split (fun _ => ?_) (fun _ => ?_)
    | (refine newW_intro ?_; intro bx hbx; (try simp only [fresh_box, fresh_tip, fresh_ty] at hbx))
    | (refine newT_plain ?_; intro bx hbx; (try simp only [fresh_box, fresh_tip, fresh_ty] at hbx))
    | refine Pure.use (h1) ?_
    | refine Pure.head (h1) ?_
    | refine Pure.use (h2) ?_
    | refine Pure.head (h2) ?_
    | refine Pure.use (h3) ?_
    | refine Pure.head (h3) ?_
    | refine storeX_w ?_
    | ((with_reducible refine And.intro ?_ ?_); omega)
    | refine bo_buildSlice (d' := ⟨⟩) ?_
    | (refine draw_all (by kernel_rfl) ?_)
    | refine finish_pure ?_ (by repeat' (first | exact AS.le.refl _ | assumption | (refine le_set (by first | assumption | (simp only [*]; done) | exact AS.le.fresh (by assumption) (by simp only [*])) ?_) | (refine le_ty (by first | assumption | (simp only [*]; done) | exact AS.le.fresh (by assumption) (by simp only [*])) ?_)))
    | simp -dsimp only [↓bp, bq, br, afin, bsk, cWrites, opsWrites, pieceGh, rsk, ne_eq, if_true, if_false, exists_eq_left', forall_const, forall_eq, Nat.reduceLT, Int.reduceSub, Nat.reduceAdd, Nat.reduceSub, Nat.reduceMul, Nat.reduceLeDiff, Nat.reduceEqDiff, Nat.reduceBEq, Nat.reduceBNe, Int.reduceNeg, Int.reduceAdd, Int.reduceMul, Int.reduceLE, Int.reduceLT, Int.reduceEq, Int.reduceToNat, reduceIte, reduceCtorEq, tbTaleK, *])
  all_goals skip
/-- a number brought into 0 .. n - 1 -/
def pickI (x n : Int) : Int := if n < 1 then 0 else if x.tmod n < 0 then x.tmod n + n else x.tmod n
theorem pickI_lt (x n : Int) (h : 1 ≤ n) : 0 ≤ pickI x n ∧ pickI x n < n := by
  unfold pickI
  rw [if_neg (by omega)]
  have h1 := Int.tmod_lt_of_pos x (show 0 < n by omega)
  have h2 : -n < x.tmod n := by
    by_cases hx : 0 ≤ x
    · have := Int.tmod_nonneg n hx; omega
    · have e : x.tmod n = -((-x).tmod n) := by rw [Int.neg_tmod, Int.neg_neg]
      have := Int.tmod_lt_of_pos (-x) (show 0 < n by omega)
      omega
  split <;> omega
theorem pick_pure (x n : Int) (h : 1 ≤ n) (hn : n ≤ 1000000000) : Pure Tryd.prog G 12 [.int .i64 x, .int .i64 n] (.int .i64 (pickI x n)) := by
  have h1 := Int.tmod_lt_of_pos x (show 0 < n by omega)
  have hr := pickI_lt x n h
  have e : pickI x n = if x.tmod n < 0 then x.tmod n + n else x.tmod n := by unfold pickI; rw [if_neg (by omega)]
  have hn1 : (n < 1) = False := eq_false (by omega)
  have hn0 : (n = 0) = False := eq_false (by omega)
  intro σ
  by_cases c : x.tmod n < 0
  · rw [if_pos c] at e
    have hw : IntKind.i64.wrap (x.tmod n + n) = x.tmod n + n := wrap_nat (by omega) (by omega)
    rw [e]
    have c := eq_true c
    clear h1 hr e h hn
    refine Tri.of_awp mixed Tryd.func12 rfl (by kernel_rfl) (by kernel_rfl) (by simp [Tryd.ntmps12]) Tryd.results12 ?_
    repeat' (first
    | with_reducible refine condW_both (fun _ _ => ?_) (fun _ _ => ?_)
    | with_reducible refine gW_both (fun _ _ => ?_) (fun _ _ => ?_)
    | with_reducible refine condW_split (fun _ => ?_) (fun _ => ?_)
    | with_reducible refine gW_split (fun _ => ?_) (fun _ => ?_)
    | with_reducible refine pickW_split (fun _ => ?_) (fun _ => ?_)
    | (refine newW_intro ?_; intro bx hbx; (try simp only [fresh_box, fresh_tip, fresh_ty] at hbx))
    | (refine newT_plain ?_; intro bx hbx; (try simp only [fresh_box, fresh_tip, fresh_ty] at hbx))
    | refine storeX_w ?_
    | ((with_reducible refine And.intro ?_ ?_); omega)
    | refine bo_buildSlice (d' := ⟨⟩) ?_
    | (refine draw_all (by kernel_rfl) ?_)
    | refine finish_pure ?_ (by repeat' (first | exact AS.le.refl _ | assumption | (refine le_set (by first | assumption | (simp only [*]; done) | exact AS.le.fresh (by assumption) (by simp only [*])) ?_) | (refine le_ty (by first | assumption | (simp only [*]; done) | exact AS.le.fresh (by assumption) (by simp only [*])) ?_)))
    | simp -dsimp only [↓bp, bq, br, afin, bsk, cWrites, opsWrites, pieceGh, rsk, ne_eq, if_true, if_false, exists_eq_left', forall_const, forall_eq, Nat.reduceLT, Int.reduceSub, Nat.reduceAdd, Nat.reduceSub, Nat.reduceMul, Nat.reduceLeDiff, Nat.reduceEqDiff, Nat.reduceBEq, Nat.reduceBNe, Int.reduceNeg, Int.reduceAdd, Int.reduceMul, Int.reduceLE, Int.reduceLT, Int.reduceEq, Int.reduceToNat, reduceIte, reduceCtorEq, tbTaleK, *])
    all_goals rfl
  · rw [if_neg c] at e
    rw [e]
    have c := eq_false c
    clear h1 hr e h hn
    refine Tri.of_awp mixed Tryd.func12 rfl (by kernel_rfl) (by kernel_rfl) (by simp [Tryd.ntmps12]) Tryd.results12 ?_
    repeat' (first
    | with_reducible refine condW_both (fun _ _ => ?_) (fun _ _ => ?_)
    | with_reducible refine gW_both (fun _ _ => ?_) (fun _ _ => ?_)
    | with_reducible refine condW_split (fun _ => ?_) (fun _ => ?_)
    | with_reducible refine gW_split (fun _ => ?_) (fun _ => ?_)
    | with_reducible refine pickW_split (fun _ => ?_) (fun _ => ?_)
    | (refine newW_intro ?_; intro bx hbx; (try simp only [fresh_box, fresh_tip, fresh_ty] at hbx))
    | (refine newT_plain ?_; intro bx hbx; (try simp only [fresh_box, fresh_tip, fresh_ty] at hbx))
    | refine storeX_w ?_
    | ((with_reducible refine And.intro ?_ ?_); omega)
    | refine bo_buildSlice (d' := ⟨⟩) ?_
    | (refine draw_all (by kernel_rfl) ?_)
    | refine finish_pure ?_ (by repeat' (first | exact AS.le.refl _ | assumption | (refine le_set (by first | assumption | (simp only [*]; done) | exact AS.le.fresh (by assumption) (by simp only [*])) ?_) | (refine le_ty (by first | assumption | (simp only [*]; done) | exact AS.le.fresh (by assumption) (by simp only [*])) ?_)))
    | simp -dsimp only [↓bp, bq, br, afin, bsk, cWrites, opsWrites, pieceGh, rsk, ne_eq, if_true, if_false, exists_eq_left', forall_const, forall_eq, Nat.reduceLT, Int.reduceSub, Nat.reduceAdd, Nat.reduceSub, Nat.reduceMul, Nat.reduceLeDiff, Nat.reduceEqDiff, Nat.reduceBEq, Nat.reduceBNe, Int.reduceNeg, Int.reduceAdd, Int.reduceMul, Int.reduceLE, Int.reduceLT, Int.reduceEq, Int.reduceToNat, reduceIte, reduceCtorEq, tbTaleK, *])
    all_goals rfl
theorem sameX_pure (l r : List (List UInt8)) (hl : l.length ≤ 1000000000) (hr : r.length ≤ 1000000000) : Pure Tryd.prog G 9 [texts l, texts r] (.bool (decide (l = r))) := by
  intro σ
  by_cases hn : (l.length : Int) = r.length
  · have hn' := eq_true hn
    refine Tri.of_awp mixed Tryd.func9 rfl (by kernel_rfl) (by kernel_rfl) (by simp [Tryd.ntmps9]) Tryd.results9 ?_
    simp -dsimp only [↓bp, bq, br, afin, bsk, cWrites, opsWrites, pieceGh, rsk, ne_eq, if_true, if_false, exists_eq_left', forall_const, forall_eq, Nat.reduceLT, Int.reduceSub, Nat.reduceAdd, Nat.reduceSub, Nat.reduceMul, Nat.reduceLeDiff, Nat.reduceEqDiff, Nat.reduceBEq, Nat.reduceBNe, Int.reduceNeg, Int.reduceAdd, Int.reduceMul, Int.reduceLE, Int.reduceLT, Int.reduceEq, Int.reduceToNat, reduceIte, reduceCtorEq, tbTaleK, hn', len_texts]
    refine loop_keep mixed (fun n e => ∃ i : Nat, i ≤ (l).length ∧ n = (l).length - i ∧ e 5 = .int .i64 i ∧ l.take i = r.take i) (l).length
        ⟨0, by omega, by omega, by simp -dsimp only [↓bp, bq, br, afin, bsk, cWrites, opsWrites, pieceGh, rsk, ne_eq, if_true, if_false, exists_eq_left', forall_const, forall_eq, Nat.reduceLT, Int.reduceSub, Nat.reduceAdd, Nat.reduceSub, Nat.reduceMul, Nat.reduceLeDiff, Nat.reduceEqDiff, Nat.reduceBEq, Nat.reduceBNe, Int.reduceNeg, Int.reduceAdd, Int.reduceMul, Int.reduceLE, Int.reduceLT, Int.reduceEq, Int.reduceToNat, reduceIte, reduceCtorEq, tbTaleK]; first | done | rfl, rfl⟩ ?_
    rintro n v ⟨i, hi, rfl, h5, htk⟩
    simp -dsimp only [↓bp, bq, br, afin, bsk, cWrites, opsWrites, pieceGh, rsk, ne_eq, if_true, if_false, exists_eq_left', forall_const, forall_eq, Nat.reduceLT, Int.reduceSub, Nat.reduceAdd, Nat.reduceSub, Nat.reduceMul, Nat.reduceLeDiff, Nat.reduceEqDiff, Nat.reduceBEq, Nat.reduceBNe, Int.reduceNeg, Int.reduceAdd, Int.reduceMul, Int.reduceLE, Int.reduceLT, Int.reduceEq, Int.reduceToNat, reduceIte, reduceCtorEq, tbTaleK] at h5
    simp -dsimp only [↓bp, bq, br, afin, bsk, cWrites, opsWrites, pieceGh, rsk, ne_eq, if_true, if_false, exists_eq_left', forall_const, forall_eq, Nat.reduceLT, Int.reduceSub, Nat.reduceAdd, Nat.reduceSub, Nat.reduceMul, Nat.reduceLeDiff, Nat.reduceEqDiff, Nat.reduceBEq, Nat.reduceBNe, Int.reduceNeg, Int.reduceAdd, Int.reduceMul, Int.reduceLE, Int.reduceLT, Int.reduceEq, Int.reduceToNat, reduceIte, reduceCtorEq, tbTaleK, h5, len_texts]
    refine condW_dec (fun hlt => ?_) (fun hge => ?_)
    · obtain ⟨x, hx⟩ : ∃ x, l[i]? = some x := ⟨_, List.getElem?_eq_getElem (by omega)⟩
      obtain ⟨y, hy⟩ : ∃ y, r[i]? = some y := ⟨_, List.getElem?_eq_getElem (by omega)⟩
      have hw : IntKind.i64.wrap ((i : Int) + 1) = ((i + 1 : Nat) : Int) := by rw [wrap_nat (by omega) (by omega)]; rfl
      by_cases hxy : x = y
      · subst hxy
        have h2 := take_same htk hx hy
        clear hi hn hl hr
        repeat' (first
    | with_reducible refine condW_both (fun _ _ => ?_) (fun _ _ => ?_)
    | with_reducible refine gW_both (fun _ _ => ?_) (fun _ _ => ?_)
    | with_reducible refine condW_split (fun _ => ?_) (fun _ => ?_)
    | with_reducible refine gW_split (fun _ => ?_) (fun _ => ?_)
    | with_reducible refine pickW_split (fun _ => ?_) (fun _ => ?_)
    | (refine newW_intro ?_; intro bx hbx; (try simp only [fresh_box, fresh_tip, fresh_ty] at hbx))
    | (refine newT_plain ?_; intro bx hbx; (try simp only [fresh_box, fresh_tip, fresh_ty] at hbx))
    | refine storeX_w ?_
    | ((with_reducible refine And.intro ?_ ?_); omega)
    | refine bo_buildSlice (d' := ⟨⟩) ?_
    | (refine draw_all (by kernel_rfl) ?_)
    | refine finish_pure ?_ (by repeat' (first | exact AS.le.refl _ | assumption | (refine le_set (by first | assumption | (simp only [*]; done) | exact AS.le.fresh (by assumption) (by simp only [*])) ?_) | (refine le_ty (by first | assumption | (simp only [*]; done) | exact AS.le.fresh (by assumption) (by simp only [*])) ?_)))
    | simp -dsimp only [↓bp, bq, br, afin, bsk, cWrites, opsWrites, pieceGh, rsk, ne_eq, if_true, if_false, exists_eq_left', forall_const, forall_eq, Nat.reduceLT, Int.reduceSub, Nat.reduceAdd, Nat.reduceSub, Nat.reduceMul, Nat.reduceLeDiff, Nat.reduceEqDiff, Nat.reduceBEq, Nat.reduceBNe, Int.reduceNeg, Int.reduceAdd, Int.reduceMul, Int.reduceLE, Int.reduceLT, Int.reduceEq, Int.reduceToNat, reduceIte, reduceCtorEq, tbTaleK, len_texts, ix_texts, *])
        all_goals (have hlt := (List.getElem?_eq_some_iff.1 hx).1)
        all_goals exact ⟨l.length - (i + 1), by omega, i + 1, by omega, rfl, rfl, h2⟩
      · have hd : decide (l = r) = false := decide_eq_false (take_ne hx hy hxy)
        have hne := eq_false hxy
        rw [hd]
        clear hi hn hl hr hd hxy
        repeat' (first
    | with_reducible refine condW_both (fun _ _ => ?_) (fun _ _ => ?_)
    | with_reducible refine gW_both (fun _ _ => ?_) (fun _ _ => ?_)
    | with_reducible refine condW_split (fun _ => ?_) (fun _ => ?_)
    | with_reducible refine gW_split (fun _ => ?_) (fun _ => ?_)
    | with_reducible refine pickW_split (fun _ => ?_) (fun _ => ?_)
    | (refine newW_intro ?_; intro bx hbx; (try simp only [fresh_box, fresh_tip, fresh_ty] at hbx))
    | (refine newT_plain ?_; intro bx hbx; (try simp only [fresh_box, fresh_tip, fresh_ty] at hbx))
    | refine storeX_w ?_
    | ((with_reducible refine And.intro ?_ ?_); omega)
    | refine bo_buildSlice (d' := ⟨⟩) ?_
    | (refine draw_all (by kernel_rfl) ?_)
    | refine finish_pure ?_ (by repeat' (first | exact AS.le.refl _ | assumption | (refine le_set (by first | assumption | (simp only [*]; done) | exact AS.le.fresh (by assumption) (by simp only [*])) ?_) | (refine le_ty (by first | assumption | (simp only [*]; done) | exact AS.le.fresh (by assumption) (by simp only [*])) ?_)))
    | simp -dsimp only [↓bp, bq, br, afin, bsk, cWrites, opsWrites, pieceGh, rsk, ne_eq, if_true, if_false, exists_eq_left', forall_const, forall_eq, Nat.reduceLT, Int.reduceSub, Nat.reduceAdd, Nat.reduceSub, Nat.reduceMul, Nat.reduceLeDiff, Nat.reduceEqDiff, Nat.reduceBEq, Nat.reduceBNe, Int.reduceNeg, Int.reduceAdd, Int.reduceMul, Int.reduceLE, Int.reduceLT, Int.reduceEq, Int.reduceToNat, reduceIte, reduceCtorEq, tbTaleK, len_texts, ix_texts, *])
        all_goals rfl
    · have : i = l.length := by omega
      subst this
      have hd : decide (l = r) = true := decide_eq_true (take_end (by omega) htk)
      rw [hd]
      clear hi hn hl hr hd hn'
      repeat' (first
    | with_reducible refine condW_both (fun _ _ => ?_) (fun _ _ => ?_)
    | with_reducible refine gW_both (fun _ _ => ?_) (fun _ _ => ?_)
    | with_reducible refine condW_split (fun _ => ?_) (fun _ => ?_)
    | with_reducible refine gW_split (fun _ => ?_) (fun _ => ?_)
    | with_reducible refine pickW_split (fun _ => ?_) (fun _ => ?_)
    | (refine newW_intro ?_; intro bx hbx; (try simp only [fresh_box, fresh_tip, fresh_ty] at hbx))
    | (refine newT_plain ?_; intro bx hbx; (try simp only [fresh_box, fresh_tip, fresh_ty] at hbx))
    | refine storeX_w ?_
    | ((with_reducible refine And.intro ?_ ?_); omega)
    | refine bo_buildSlice (d' := ⟨⟩) ?_
    | (refine draw_all (by kernel_rfl) ?_)
    | refine finish_pure ?_ (by repeat' (first | exact AS.le.refl _ | assumption | (refine le_set (by first | assumption | (simp only [*]; done) | exact AS.le.fresh (by assumption) (by simp only [*])) ?_) | (refine le_ty (by first | assumption | (simp only [*]; done) | exact AS.le.fresh (by assumption) (by simp only [*])) ?_)))
    | simp -dsimp only [↓bp, bq, br, afin, bsk, cWrites, opsWrites, pieceGh, rsk, ne_eq, if_true, if_false, exists_eq_left', forall_const, forall_eq, Nat.reduceLT, Int.reduceSub, Nat.reduceAdd, Nat.reduceSub, Nat.reduceMul, Nat.reduceLeDiff, Nat.reduceEqDiff, Nat.reduceBEq, Nat.reduceBNe, Int.reduceNeg, Int.reduceAdd, Int.reduceMul, Int.reduceLE, Int.reduceLT, Int.reduceEq, Int.reduceToNat, reduceIte, reduceCtorEq, tbTaleK, len_texts, *])
      all_goals rfl
  · have hd : decide (l = r) = false := decide_eq_false fun e => by subst e; exact hn rfl
    have hn' := eq_false hn
    rw [hd]
    clear hn hl hr hd
    refine Tri.of_awp mixed Tryd.func9 rfl (by kernel_rfl) (by kernel_rfl) (by simp [Tryd.ntmps9]) Tryd.results9 ?_
    repeat' (first
    | with_reducible refine condW_both (fun _ _ => ?_) (fun _ _ => ?_)
    | with_reducible refine gW_both (fun _ _ => ?_) (fun _ _ => ?_)
    | with_reducible refine condW_split (fun _ => ?_) (fun _ => ?_)
    | with_reducible refine gW_split (fun _ => ?_) (fun _ => ?_)
    | with_reducible refine pickW_split (fun _ => ?_) (fun _ => ?_)
    | (refine newW_intro ?_; intro bx hbx; (try simp only [fresh_box, fresh_tip, fresh_ty] at hbx))
    | (refine newT_plain ?_; intro bx hbx; (try simp only [fresh_box, fresh_tip, fresh_ty] at hbx))
    | refine storeX_w ?_
    | ((with_reducible refine And.intro ?_ ?_); omega)
    | refine bo_buildSlice (d' := ⟨⟩) ?_
    | (refine draw_all (by kernel_rfl) ?_)
    | refine finish_pure ?_ (by repeat' (first | exact AS.le.refl _ | assumption | (refine le_set (by first | assumption | (simp only [*]; done) | exact AS.le.fresh (by assumption) (by simp only [*])) ?_) | (refine le_ty (by first | assumption | (simp only [*]; done) | exact AS.le.fresh (by assumption) (by simp only [*])) ?_)))
    | simp -dsimp only [↓bp, bq, br, afin, bsk, cWrites, opsWrites, pieceGh, rsk, ne_eq, if_true, if_false, exists_eq_left', forall_const, forall_eq, Nat.reduceLT, Int.reduceSub, Nat.reduceAdd, Nat.reduceSub, Nat.reduceMul, Nat.reduceLeDiff, Nat.reduceEqDiff, Nat.reduceBEq, Nat.reduceBNe, Int.reduceNeg, Int.reduceAdd, Int.reduceMul, Int.reduceLE, Int.reduceLT, Int.reduceEq, Int.reduceToNat, reduceIte, reduceCtorEq, tbTaleK, len_texts, *])
    all_goals rfl
end Go.Proofs.YtpginpbcndlfmaaDoor
