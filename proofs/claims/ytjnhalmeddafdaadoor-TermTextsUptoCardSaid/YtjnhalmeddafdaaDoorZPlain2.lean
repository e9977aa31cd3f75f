/- Is there no ref, fun or pid in a term? The look, on abstract values. -/
import Derived.Test.YtjnhalmeddafdaaDoorZInj
import Derived.Test.YtjnhalmeddafdaaDoorZTermLent
import Derived.Test.YtjnhalmeddafdaaDoorZGreat2
set_option linter.unusedVariables false
set_option linter.unusedSimpArgs false
set_option maxRecDepth 20000
namespace Go.Proofs.YtjnhalmeddafdaaDoor
open Go Go.Av
variable (G : Nat → AV)
set_option maxHeartbeats 4000000 in
theorem plain_pure (t : Term) : t.bulk ≤ 1000000000 → Pure Tryd.prog G 22 [t.enc] (.bool (plainT t)) := by
  refine Term.ind (P := fun t => t.bulk ≤ 1000000000 → Pure Tryd.prog G 22 [t.enc] (.bool (plainT t))) (fun t ih1 ih2 hbulk => ?_) t
  intro σ
  have hbe := t.bulk_eq
  have hl1 := len_le_bulks t.items
  have hl2 := len_le_bulks t.tail
  have hde := plainT_eq t
  by_cases hk : t.knd = 3 ∨ t.knd = 4 ∨ t.knd = 5
  · have hf : plainT t = false := by rw [hde]; rcases hk with h | h | h <;> simp [h]
    rw [hf]
    clear hde hf ih1 ih2 hbe hl1 hl2 hbulk
    rcases hk with h | h | h
    · have k3 := eq_true h
      clear h
      refine Tri.of_awp mixed Tryd.func22 rfl (by kernel_rfl) (by kernel_rfl) (by simp [Tryd.ntmps22]) Tryd.results22 ?_
      simp -dsimp only [↓bp, bq, br, afin, bsk, cWrites, opsWrites, pieceGh, rsk, ne_eq, if_true, if_false, exists_eq_left', forall_const, forall_eq, Nat.reduceLT, Int.reduceSub, Nat.reduceAdd, Nat.reduceSub, Nat.reduceMul, Nat.reduceLeDiff, Nat.reduceEqDiff, Nat.reduceBEq, Nat.reduceBNe, Int.reduceNeg, Int.reduceAdd, Int.reduceMul, Int.reduceLE, Int.reduceLT, Int.reduceEq, Int.reduceToNat, reduceIte, reduceCtorEq, tf3, tf4, tf5, tf9, tf22, tf24, tf26, tf23, Term.flat_enc, Term.isv_enc, Term.fold_enc, isv_encs, flat_encs, len_encs, ix_encs, ix_encs', isv_lims, flat_lims]
      intro b hb
      simp -dsimp only [↓bp, bq, br, afin, bsk, cWrites, opsWrites, pieceGh, rsk, ne_eq, if_true, if_false, exists_eq_left', forall_const, forall_eq, Nat.reduceLT, Int.reduceSub, Nat.reduceAdd, Nat.reduceSub, Nat.reduceMul, Nat.reduceLeDiff, Nat.reduceEqDiff, Nat.reduceBEq, Nat.reduceBNe, Int.reduceNeg, Int.reduceAdd, Int.reduceMul, Int.reduceLE, Int.reduceLT, Int.reduceEq, Int.reduceToNat, reduceIte, reduceCtorEq, tf3, tf4, tf5, tf9, tf22, tf24, tf26, tf23, Term.flat_enc, Term.isv_enc, Term.fold_enc, isv_encs, flat_encs, len_encs, ix_encs, ix_encs', isv_lims, flat_lims, k3]
      exact finish_pure rfl (le_set hb (AS.le.refl σ))
    · have k3 := eq_false (show ¬ t.knd = 3 by omega)
      have k4 := eq_true h
      clear h
      refine Tri.of_awp mixed Tryd.func22 rfl (by kernel_rfl) (by kernel_rfl) (by simp [Tryd.ntmps22]) Tryd.results22 ?_
      simp -dsimp only [↓bp, bq, br, afin, bsk, cWrites, opsWrites, pieceGh, rsk, ne_eq, if_true, if_false, exists_eq_left', forall_const, forall_eq, Nat.reduceLT, Int.reduceSub, Nat.reduceAdd, Nat.reduceSub, Nat.reduceMul, Nat.reduceLeDiff, Nat.reduceEqDiff, Nat.reduceBEq, Nat.reduceBNe, Int.reduceNeg, Int.reduceAdd, Int.reduceMul, Int.reduceLE, Int.reduceLT, Int.reduceEq, Int.reduceToNat, reduceIte, reduceCtorEq, tf3, tf4, tf5, tf9, tf22, tf24, tf26, tf23, Term.flat_enc, Term.isv_enc, Term.fold_enc, isv_encs, flat_encs, len_encs, ix_encs, ix_encs', isv_lims, flat_lims]
      intro b hb
      simp -dsimp only [↓bp, bq, br, afin, bsk, cWrites, opsWrites, pieceGh, rsk, ne_eq, if_true, if_false, exists_eq_left', forall_const, forall_eq, Nat.reduceLT, Int.reduceSub, Nat.reduceAdd, Nat.reduceSub, Nat.reduceMul, Nat.reduceLeDiff, Nat.reduceEqDiff, Nat.reduceBEq, Nat.reduceBNe, Int.reduceNeg, Int.reduceAdd, Int.reduceMul, Int.reduceLE, Int.reduceLT, Int.reduceEq, Int.reduceToNat, reduceIte, reduceCtorEq, tf3, tf4, tf5, tf9, tf22, tf24, tf26, tf23, Term.flat_enc, Term.isv_enc, Term.fold_enc, isv_encs, flat_encs, len_encs, ix_encs, ix_encs', isv_lims, flat_lims, k3, k4]
      exact finish_pure rfl (le_set hb (AS.le.refl σ))
    · have k3 := eq_false (show ¬ t.knd = 3 by omega)
      have k4 := eq_false (show ¬ t.knd = 4 by omega)
      have k5 := eq_true h
      clear h
      refine Tri.of_awp mixed Tryd.func22 rfl (by kernel_rfl) (by kernel_rfl) (by simp [Tryd.ntmps22]) Tryd.results22 ?_
      simp -dsimp only [↓bp, bq, br, afin, bsk, cWrites, opsWrites, pieceGh, rsk, ne_eq, if_true, if_false, exists_eq_left', forall_const, forall_eq, Nat.reduceLT, Int.reduceSub, Nat.reduceAdd, Nat.reduceSub, Nat.reduceMul, Nat.reduceLeDiff, Nat.reduceEqDiff, Nat.reduceBEq, Nat.reduceBNe, Int.reduceNeg, Int.reduceAdd, Int.reduceMul, Int.reduceLE, Int.reduceLT, Int.reduceEq, Int.reduceToNat, reduceIte, reduceCtorEq, tf3, tf4, tf5, tf9, tf22, tf24, tf26, tf23, Term.flat_enc, Term.isv_enc, Term.fold_enc, isv_encs, flat_encs, len_encs, ix_encs, ix_encs', isv_lims, flat_lims]
      intro b hb
      simp -dsimp only [↓bp, bq, br, afin, bsk, cWrites, opsWrites, pieceGh, rsk, ne_eq, if_true, if_false, exists_eq_left', forall_const, forall_eq, Nat.reduceLT, Int.reduceSub, Nat.reduceAdd, Nat.reduceSub, Nat.reduceMul, Nat.reduceLeDiff, Nat.reduceEqDiff, Nat.reduceBEq, Nat.reduceBNe, Int.reduceNeg, Int.reduceAdd, Int.reduceMul, Int.reduceLE, Int.reduceLT, Int.reduceEq, Int.reduceToNat, reduceIte, reduceCtorEq, tf3, tf4, tf5, tf9, tf22, tf24, tf26, tf23, Term.flat_enc, Term.isv_enc, Term.fold_enc, isv_encs, flat_encs, len_encs, ix_encs, ix_encs', isv_lims, flat_lims, k3, k4, k5]
      exact finish_pure rfl (le_set hb (AS.le.refl σ))
  have k3 := eq_false (show ¬ t.knd = 3 by omega)
  have k4 := eq_false (show ¬ t.knd = 4 by omega)
  have k5 := eq_false (show ¬ t.knd = 5 by omega)
  simp only [k3, k4, k5, decide_false, Bool.or_false, Bool.not_false, Bool.true_and] at hde
  clear hk
  refine Tri.of_awp mixed Tryd.func22 rfl (by kernel_rfl) (by kernel_rfl) (by simp [Tryd.ntmps22]) Tryd.results22 ?_
  simp -dsimp only [↓bp, bq, br, afin, bsk, cWrites, opsWrites, pieceGh, rsk, ne_eq, if_true, if_false, exists_eq_left', forall_const, forall_eq, Nat.reduceLT, Int.reduceSub, Nat.reduceAdd, Nat.reduceSub, Nat.reduceMul, Nat.reduceLeDiff, Nat.reduceEqDiff, Nat.reduceBEq, Nat.reduceBNe, Int.reduceNeg, Int.reduceAdd, Int.reduceMul, Int.reduceLE, Int.reduceLT, Int.reduceEq, Int.reduceToNat, reduceIte, reduceCtorEq, tf3, tf4, tf5, tf9, tf22, tf24, tf26, tf23, Term.flat_enc, Term.isv_enc, Term.fold_enc, isv_encs, flat_encs, len_encs, ix_encs, ix_encs', isv_lims, flat_lims]
  intro b hb
  simp -dsimp only [↓bp, bq, br, afin, bsk, cWrites, opsWrites, pieceGh, rsk, ne_eq, if_true, if_false, exists_eq_left', forall_const, forall_eq, Nat.reduceLT, Int.reduceSub, Nat.reduceAdd, Nat.reduceSub, Nat.reduceMul, Nat.reduceLeDiff, Nat.reduceEqDiff, Nat.reduceBEq, Nat.reduceBNe, Int.reduceNeg, Int.reduceAdd, Int.reduceMul, Int.reduceLE, Int.reduceLT, Int.reduceEq, Int.reduceToNat, reduceIte, reduceCtorEq, tf3, tf4, tf5, tf9, tf22, tf24, tf26, tf23, Term.flat_enc, Term.isv_enc, Term.fold_enc, isv_encs, flat_encs, len_encs, ix_encs, ix_encs', isv_lims, flat_lims, k3, k4, k5]
  refine loop_intro (fun n e σ' => ∃ i : Nat, i ≤ t.items.length ∧ n = t.items.length - i ∧ e 3 = .int .i64 i ∧ plainTs (t.items.drop i) = plainTs t.items ∧
      σ' = σ.setBox b [.int .u8 t.knd, .bool t.neg, lims t.limbs, .str t.text, .int .i64 t.num, encs t.items, encs t.tail]) t.items.length
    ⟨0, by omega, by omega, by simp -dsimp only [↓bp, bq, br, afin, bsk, cWrites, opsWrites, pieceGh, rsk, ne_eq, if_true, if_false, exists_eq_left', forall_const, forall_eq, Nat.reduceLT, Int.reduceSub, Nat.reduceAdd, Nat.reduceSub, Nat.reduceMul, Nat.reduceLeDiff, Nat.reduceEqDiff, Nat.reduceBEq, Nat.reduceBNe, Int.reduceNeg, Int.reduceAdd, Int.reduceMul, Int.reduceLE, Int.reduceLT, Int.reduceEq, Int.reduceToNat, reduceIte, reduceCtorEq, tf3, tf4, tf5, tf9, tf22, tf24, tf26, tf23, Term.flat_enc, Term.isv_enc, Term.fold_enc, isv_encs, flat_encs, len_encs, ix_encs, ix_encs', isv_lims, flat_lims]; rfl, by rw [List.drop_zero], rfl⟩ ?_
  rintro n v σ' ⟨i, hi, rfl, h3, hz, rfl⟩
  simp -dsimp only [↓bp, bq, br, afin, bsk, cWrites, opsWrites, pieceGh, rsk, ne_eq, if_true, if_false, exists_eq_left', forall_const, forall_eq, Nat.reduceLT, Int.reduceSub, Nat.reduceAdd, Nat.reduceSub, Nat.reduceMul, Nat.reduceLeDiff, Nat.reduceEqDiff, Nat.reduceBEq, Nat.reduceBNe, Int.reduceNeg, Int.reduceAdd, Int.reduceMul, Int.reduceLE, Int.reduceLT, Int.reduceEq, Int.reduceToNat, reduceIte, reduceCtorEq, tf3, tf4, tf5, tf9, tf22, tf24, tf26, tf23, Term.flat_enc, Term.isv_enc, Term.fold_enc, isv_encs, flat_encs, len_encs, ix_encs, ix_encs', isv_lims, flat_lims] at h3
  simp -dsimp only [↓bp, bq, br, afin, bsk, cWrites, opsWrites, pieceGh, rsk, ne_eq, if_true, if_false, exists_eq_left', forall_const, forall_eq, Nat.reduceLT, Int.reduceSub, Nat.reduceAdd, Nat.reduceSub, Nat.reduceMul, Nat.reduceLeDiff, Nat.reduceEqDiff, Nat.reduceBEq, Nat.reduceBNe, Int.reduceNeg, Int.reduceAdd, Int.reduceMul, Int.reduceLE, Int.reduceLT, Int.reduceEq, Int.reduceToNat, reduceIte, reduceCtorEq, tf3, tf4, tf5, tf9, tf22, tf24, tf26, tf23, Term.flat_enc, Term.isv_enc, Term.fold_enc, isv_encs, flat_encs, len_encs, ix_encs, ix_encs', isv_lims, flat_lims, h3]
  refine condW_dec (fun hlt => ?_) (fun hge => ?_)
  · obtain ⟨k, hk⟩ : ∃ k, t.items[i]? = some k := ⟨_, List.getElem?_eq_getElem (by omega)⟩
    have hkm : k ∈ t.items := List.mem_of_getElem? hk
    have hkb := bulk_mem hkm
    have hdr := drop_get _ _ _ hk
    simp -dsimp only [↓bp, bq, br, afin, bsk, cWrites, opsWrites, pieceGh, rsk, ne_eq, if_true, if_false, exists_eq_left', forall_const, forall_eq, Nat.reduceLT, Int.reduceSub, Nat.reduceAdd, Nat.reduceSub, Nat.reduceMul, Nat.reduceLeDiff, Nat.reduceEqDiff, Nat.reduceBEq, Nat.reduceBNe, Int.reduceNeg, Int.reduceAdd, Int.reduceMul, Int.reduceLE, Int.reduceLT, Int.reduceEq, Int.reduceToNat, reduceIte, reduceCtorEq, tf3, tf4, tf5, tf9, tf22, tf24, tf26, tf23, Term.flat_enc, Term.isv_enc, Term.fold_enc, isv_encs, flat_encs, len_encs, ix_encs, ix_encs', isv_lims, flat_lims, h3, hk, hlt]
    refine Pure.use (ih1 k hkm (by omega)) ?_
    cases hp : plainT k
    · simp -dsimp only [↓bp, bq, br, afin, bsk, cWrites, opsWrites, pieceGh, rsk, ne_eq, if_true, if_false, exists_eq_left', forall_const, forall_eq, Nat.reduceLT, Int.reduceSub, Nat.reduceAdd, Nat.reduceSub, Nat.reduceMul, Nat.reduceLeDiff, Nat.reduceEqDiff, Nat.reduceBEq, Nat.reduceBNe, Int.reduceNeg, Int.reduceAdd, Int.reduceMul, Int.reduceLE, Int.reduceLT, Int.reduceEq, Int.reduceToNat, reduceIte, reduceCtorEq, tf3, tf4, tf5, tf9, tf22, tf24, tf26, tf23, Term.flat_enc, Term.isv_enc, Term.fold_enc, isv_encs, flat_encs, len_encs, ix_encs, ix_encs', isv_lims, flat_lims, h3, hk, hlt]
      refine finish_pure ?_ (le_set hb (AS.le.refl σ))
      rw [hde, ← hz, hdr]
      simp [plainTs, hp]
    · simp -dsimp only [↓bp, bq, br, afin, bsk, cWrites, opsWrites, pieceGh, rsk, ne_eq, if_true, if_false, exists_eq_left', forall_const, forall_eq, Nat.reduceLT, Int.reduceSub, Nat.reduceAdd, Nat.reduceSub, Nat.reduceMul, Nat.reduceLeDiff, Nat.reduceEqDiff, Nat.reduceBEq, Nat.reduceBNe, Int.reduceNeg, Int.reduceAdd, Int.reduceMul, Int.reduceLE, Int.reduceLT, Int.reduceEq, Int.reduceToNat, reduceIte, reduceCtorEq, tf3, tf4, tf5, tf9, tf22, tf24, tf26, tf23, Term.flat_enc, Term.isv_enc, Term.fold_enc, isv_encs, flat_encs, len_encs, ix_encs, ix_encs', isv_lims, flat_lims, h3, hk, hlt]
      refine ⟨t.items.length - (i + 1), by omega, i + 1, by omega, rfl, ?_, ?_⟩
      · rw [wrap_nat (by omega) (by omega)]; rfl
      · rw [← hz, hdr]; simp [plainTs, hp]
  · have : i = t.items.length := by omega
    subst this
    have hi1 : plainTs t.items = true := by rw [← hz, List.drop_length]; rfl
    rw [hi1, Bool.true_and] at hde
    clear hz hi1
    simp -dsimp only [↓bp, bq, br, afin, bsk, cWrites, opsWrites, pieceGh, rsk, ne_eq, if_true, if_false, exists_eq_left', forall_const, forall_eq, Nat.reduceLT, Int.reduceSub, Nat.reduceAdd, Nat.reduceSub, Nat.reduceMul, Nat.reduceLeDiff, Nat.reduceEqDiff, Nat.reduceBEq, Nat.reduceBNe, Int.reduceNeg, Int.reduceAdd, Int.reduceMul, Int.reduceLE, Int.reduceLT, Int.reduceEq, Int.reduceToNat, reduceIte, reduceCtorEq, tf3, tf4, tf5, tf9, tf22, tf24, tf26, tf23, Term.flat_enc, Term.isv_enc, Term.fold_enc, isv_encs, flat_encs, len_encs, ix_encs, ix_encs', isv_lims, flat_lims, h3, hge]
    refine loop_intro (fun n e σ' => ∃ i : Nat, i ≤ t.tail.length ∧ n = t.tail.length - i ∧ e 4 = .int .i64 i ∧ plainTs (t.tail.drop i) = plainTs t.tail ∧
        σ' = σ.setBox b [.int .u8 t.knd, .bool t.neg, lims t.limbs, .str t.text, .int .i64 t.num, encs t.items, encs t.tail]) t.tail.length
      ⟨0, by omega, by omega, by simp -dsimp only [↓bp, bq, br, afin, bsk, cWrites, opsWrites, pieceGh, rsk, ne_eq, if_true, if_false, exists_eq_left', forall_const, forall_eq, Nat.reduceLT, Int.reduceSub, Nat.reduceAdd, Nat.reduceSub, Nat.reduceMul, Nat.reduceLeDiff, Nat.reduceEqDiff, Nat.reduceBEq, Nat.reduceBNe, Int.reduceNeg, Int.reduceAdd, Int.reduceMul, Int.reduceLE, Int.reduceLT, Int.reduceEq, Int.reduceToNat, reduceIte, reduceCtorEq, tf3, tf4, tf5, tf9, tf22, tf24, tf26, tf23, Term.flat_enc, Term.isv_enc, Term.fold_enc, isv_encs, flat_encs, len_encs, ix_encs, ix_encs', isv_lims, flat_lims]; rfl, by rw [List.drop_zero], rfl⟩ ?_
    rintro n2 v2 σ' ⟨j, hj, rfl, h4, hz, rfl⟩
    simp -dsimp only [↓bp, bq, br, afin, bsk, cWrites, opsWrites, pieceGh, rsk, ne_eq, if_true, if_false, exists_eq_left', forall_const, forall_eq, Nat.reduceLT, Int.reduceSub, Nat.reduceAdd, Nat.reduceSub, Nat.reduceMul, Nat.reduceLeDiff, Nat.reduceEqDiff, Nat.reduceBEq, Nat.reduceBNe, Int.reduceNeg, Int.reduceAdd, Int.reduceMul, Int.reduceLE, Int.reduceLT, Int.reduceEq, Int.reduceToNat, reduceIte, reduceCtorEq, tf3, tf4, tf5, tf9, tf22, tf24, tf26, tf23, Term.flat_enc, Term.isv_enc, Term.fold_enc, isv_encs, flat_encs, len_encs, ix_encs, ix_encs', isv_lims, flat_lims] at h4
    simp -dsimp only [↓bp, bq, br, afin, bsk, cWrites, opsWrites, pieceGh, rsk, ne_eq, if_true, if_false, exists_eq_left', forall_const, forall_eq, Nat.reduceLT, Int.reduceSub, Nat.reduceAdd, Nat.reduceSub, Nat.reduceMul, Nat.reduceLeDiff, Nat.reduceEqDiff, Nat.reduceBEq, Nat.reduceBNe, Int.reduceNeg, Int.reduceAdd, Int.reduceMul, Int.reduceLE, Int.reduceLT, Int.reduceEq, Int.reduceToNat, reduceIte, reduceCtorEq, tf3, tf4, tf5, tf9, tf22, tf24, tf26, tf23, Term.flat_enc, Term.isv_enc, Term.fold_enc, isv_encs, flat_encs, len_encs, ix_encs, ix_encs', isv_lims, flat_lims, h4]
    refine condW_dec (fun hlt2 => ?_) (fun hge2 => ?_)
    · obtain ⟨k, hk⟩ : ∃ k, t.tail[j]? = some k := ⟨_, List.getElem?_eq_getElem (by omega)⟩
      have hkm : k ∈ t.tail := List.mem_of_getElem? hk
      have hkb := bulk_mem hkm
      have hdr := drop_get _ _ _ hk
      simp -dsimp only [↓bp, bq, br, afin, bsk, cWrites, opsWrites, pieceGh, rsk, ne_eq, if_true, if_false, exists_eq_left', forall_const, forall_eq, Nat.reduceLT, Int.reduceSub, Nat.reduceAdd, Nat.reduceSub, Nat.reduceMul, Nat.reduceLeDiff, Nat.reduceEqDiff, Nat.reduceBEq, Nat.reduceBNe, Int.reduceNeg, Int.reduceAdd, Int.reduceMul, Int.reduceLE, Int.reduceLT, Int.reduceEq, Int.reduceToNat, reduceIte, reduceCtorEq, tf3, tf4, tf5, tf9, tf22, tf24, tf26, tf23, Term.flat_enc, Term.isv_enc, Term.fold_enc, isv_encs, flat_encs, len_encs, ix_encs, ix_encs', isv_lims, flat_lims, h4, hk, hlt2]
      refine Pure.use (ih2 k hkm (by omega)) ?_
      cases hp : plainT k
      · simp -dsimp only [↓bp, bq, br, afin, bsk, cWrites, opsWrites, pieceGh, rsk, ne_eq, if_true, if_false, exists_eq_left', forall_const, forall_eq, Nat.reduceLT, Int.reduceSub, Nat.reduceAdd, Nat.reduceSub, Nat.reduceMul, Nat.reduceLeDiff, Nat.reduceEqDiff, Nat.reduceBEq, Nat.reduceBNe, Int.reduceNeg, Int.reduceAdd, Int.reduceMul, Int.reduceLE, Int.reduceLT, Int.reduceEq, Int.reduceToNat, reduceIte, reduceCtorEq, tf3, tf4, tf5, tf9, tf22, tf24, tf26, tf23, Term.flat_enc, Term.isv_enc, Term.fold_enc, isv_encs, flat_encs, len_encs, ix_encs, ix_encs', isv_lims, flat_lims, h4, hk, hlt2]
        refine finish_pure ?_ (le_set hb (AS.le.refl σ))
        rw [hde, ← hz, hdr]
        simp [plainTs, hp]
      · simp -dsimp only [↓bp, bq, br, afin, bsk, cWrites, opsWrites, pieceGh, rsk, ne_eq, if_true, if_false, exists_eq_left', forall_const, forall_eq, Nat.reduceLT, Int.reduceSub, Nat.reduceAdd, Nat.reduceSub, Nat.reduceMul, Nat.reduceLeDiff, Nat.reduceEqDiff, Nat.reduceBEq, Nat.reduceBNe, Int.reduceNeg, Int.reduceAdd, Int.reduceMul, Int.reduceLE, Int.reduceLT, Int.reduceEq, Int.reduceToNat, reduceIte, reduceCtorEq, tf3, tf4, tf5, tf9, tf22, tf24, tf26, tf23, Term.flat_enc, Term.isv_enc, Term.fold_enc, isv_encs, flat_encs, len_encs, ix_encs, ix_encs', isv_lims, flat_lims, h4, hk, hlt2]
        refine ⟨t.tail.length - (j + 1), by omega, j + 1, by omega, rfl, ?_, ?_⟩
        · rw [wrap_nat (by omega) (by omega)]; rfl
        · rw [← hz, hdr]; simp [plainTs, hp]
    · have : j = t.tail.length := by omega
      subst this
      have hi2 : plainTs t.tail = true := by rw [← hz, List.drop_length]; rfl
      simp -dsimp only [↓bp, bq, br, afin, bsk, cWrites, opsWrites, pieceGh, rsk, ne_eq, if_true, if_false, exists_eq_left', forall_const, forall_eq, Nat.reduceLT, Int.reduceSub, Nat.reduceAdd, Nat.reduceSub, Nat.reduceMul, Nat.reduceLeDiff, Nat.reduceEqDiff, Nat.reduceBEq, Nat.reduceBNe, Int.reduceNeg, Int.reduceAdd, Int.reduceMul, Int.reduceLE, Int.reduceLT, Int.reduceEq, Int.reduceToNat, reduceIte, reduceCtorEq, tf3, tf4, tf5, tf9, tf22, tf24, tf26, tf23, Term.flat_enc, Term.isv_enc, Term.fold_enc, isv_encs, flat_encs, len_encs, ix_encs, ix_encs', isv_lims, flat_lims, h4, hge2]
      refine finish_pure ?_ (le_set hb (AS.le.refl σ))
      rw [hde, hi2]
end Go.Proofs.YtjnhalmeddafdaaDoor
