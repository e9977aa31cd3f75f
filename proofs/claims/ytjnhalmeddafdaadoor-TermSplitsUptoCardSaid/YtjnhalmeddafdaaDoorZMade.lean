/- The integer of limbs. -/
import Derived.Test.YtjnhalmeddafdaaDoorZSaid
import Derived.Test.YtjnhalmeddafdaaDoorZTermLent
set_option linter.unusedVariables false
set_option linter.unusedSimpArgs false
set_option maxRecDepth 20000
namespace Go.Proofs.YtjnhalmeddafdaaDoor
open Go Go.Av
variable (G : Nat → AV)
/-- without noughts at the end -/
def strip : List UInt32 → List UInt32
  | [] => []
  | x :: l => if strip l = [] ∧ x = 0 then [] else x :: strip l
theorem strip_val : ∀ l, val (strip l) = val l
  | [] => rfl
  | x :: l => by
    have ih := strip_val l
    simp only [strip]
    split
    · rename_i h
      obtain ⟨h1, rfl⟩ := h
      rw [h1] at ih
      simp only [val] at ih ⊢
      rw [← ih]; rfl
    · simp only [val, ih]
theorem strip_zero : ∀ l, strip (l ++ [0]) = strip l
  | [] => by simp [strip]
  | x :: l => by simp only [List.cons_append, strip, strip_zero l]
theorem strip_keep : ∀ (l : List UInt32) (x : UInt32), x ≠ 0 → strip (l ++ [x]) = l ++ [x]
  | [], x, h => by simp [strip, h]
  | y :: l, x, h => by simp only [List.cons_append, strip, strip_keep l x h]; simp
theorem strip_len : ∀ l, (strip l).length ≤ l.length
  | [] => by simp [strip]
  | x :: l => by
    have := strip_len l
    simp only [strip]
    split <;> simp <;> omega
theorem strip_last : ∀ l, strip l = [] ∨ ∃ m x, strip l = m ++ [x] ∧ x ≠ 0
  | [] => .inl rfl
  | x :: l => by
    simp only [strip]
    rcases strip_last l with h | ⟨m, y, h, hy⟩
    · by_cases hx : x = 0
      · rw [if_pos ⟨h, hx⟩]; exact .inl rfl
      · rw [if_neg (fun c => hx c.2), h]; exact .inr ⟨[], x, rfl, hx⟩
    · rw [if_neg (fun c => by rw [h] at c; simp at c), h]; exact .inr ⟨x :: m, y, rfl, hy⟩
def intT (neg : Bool) (m : List UInt32) : Term := .mk 1 neg m [] 0 [] []
def madeR (l : List UInt32) (neg : Bool) : AV := if (strip l).length ≤ 32 then .tup [(intT (neg && decide (0 < ((strip l).length : Int))) (strip l)).enc, .bool true] else .tup [zeroT.enc, .bool false]
theorem intT_le (g : Bool) (m : List UInt32) : Le (.agg [.int .u8 1, .bool g, lims m, .str [], .int .i64 0, .nil, .nil]) (intT g m).enc := by
  rw [← Term.fold_enc (intT g m)]
  refine Le.agg ?_ (fun d hd => ones (intT g m) d (by rw [Term.flat_enc]; exact hd))
  exact .cons (Le.refl _) (.cons (Le.refl _) (.cons (Le.refl _) (.cons (Le.refl _) (.cons (Le.refl _) (.cons Le.nil (.cons Le.nil .nil))))))
theorem made_pure (l : List UInt32) (neg : Bool) (hl : l.length ≤ 1000000000) : Pure Tryd.prog G 72 [lims l, .bool neg] (madeR l neg) := by
  refine Pure.of_le fun σ => ?_
  have hc : ∀ m : List UInt32, m.length ≤ 1000000000 → Pure Tryd.prog G 39 [lims m] (lims m) := fun m hm => Pure.of_le (clone_tri G m hm)
  refine Tri.of_awp mixed Tryd.func72 rfl (by kernel_rfl) (by kernel_rfl) (by simp [Tryd.ntmps72]) Tryd.results72 ?_
  repeat' (first
    | with_reducible refine condW_both (fun _ _ => ?_) (fun _ _ => ?_)
    | with_reducible refine gW_both (fun _ _ => ?_) (fun _ _ => ?_)
    | with_reducible refine condW_split (fun _ => ?_) (fun _ => ?_)
    | with_reducible refine gW_split (fun _ => ?_) (fun _ => ?_)
    | with_reducible refine pickW_split (fun _ => ?_) (fun _ => ?_)
    | (refine newW_intro ?_; intro bx hbx; (try simp only [fresh_box, fresh_tip, fresh_ty] at hbx))
    | (refine newT_plain ?_; intro bx hbx; (try simp only [fresh_box, fresh_tip, fresh_ty] at hbx))
    | refine storeX_w ?_
    | ((with_reducible refine And.intro ?_ ?_); omega)
    | refine bo_buildSlice (d' := ⟨⟩) ?_
    | (refine draw_all (by kernel_rfl) ?_)
    | refine finish_pure ?_ (by repeat' (first | exact AS.le.refl _ | assumption | (refine le_set (by first | assumption | (simp only [*]; done) | exact AS.le.fresh (by assumption) (by simp only [*])) ?_) | (refine le_ty (by first | assumption | (simp only [*]; done) | exact AS.le.fresh (by assumption) (by simp only [*])) ?_)))
    | simp -dsimp only [↓bp, bq, br, afin, bsk, cWrites, opsWrites, pieceGh, rsk, ne_eq, if_true, if_false, exists_eq_left', forall_const, forall_eq, Nat.reduceLT, Int.reduceSub, Nat.reduceAdd, Nat.reduceSub, Nat.reduceMul, Nat.reduceLeDiff, Nat.reduceEqDiff, Nat.reduceBEq, Nat.reduceBNe, Int.reduceNeg, Int.reduceAdd, Int.reduceMul, Int.reduceLE, Int.reduceLT, Int.reduceEq, Int.reduceToNat, reduceIte, reduceCtorEq, tf3, tf4, tf5, tf44, tf103, tf84, tf9, tf23, tf22, tf24, tf26, Term.flat_enc, Term.isv_enc, Term.fold_enc, isv_lims, flat_lims, len_lims, ix_lims, ix_lims', flat_limA, ares_cons2, ares1_tmp, ares1_cell, aresk_some, *])
  refine loop_intro (fun n e σ' => ∃ m : List UInt32, n = m.length ∧ m.length ≤ l.length ∧ strip m = strip l ∧ e 0 = lims m ∧ σ' = σ.setBox bx [.int .u8 0, .bool false, .nil, .str [], .int .i64 0, .nil, .nil]) l.length ⟨l, rfl, Nat.le_refl _, rfl, by first | (simp -dsimp only [↓bp, bq, br, afin, bsk, cWrites, opsWrites, pieceGh, rsk, ne_eq, if_true, if_false, exists_eq_left', forall_const, forall_eq, Nat.reduceLT, Int.reduceSub, Nat.reduceAdd, Nat.reduceSub, Nat.reduceMul, Nat.reduceLeDiff, Nat.reduceEqDiff, Nat.reduceBEq, Nat.reduceBNe, Int.reduceNeg, Int.reduceAdd, Int.reduceMul, Int.reduceLE, Int.reduceLT, Int.reduceEq, Int.reduceToNat, reduceIte, reduceCtorEq, tf3, tf4, tf5, tf44, tf103, tf84, tf9, tf23, tf22, tf24, tf26, Term.flat_enc, Term.isv_enc, Term.fold_enc, isv_lims, flat_lims, len_lims, ix_lims, ix_lims', flat_limA, ares_cons2, ares1_tmp, ares1_cell, aresk_some]; done) | (simp -dsimp only [↓bp, bq, br, afin, bsk, cWrites, opsWrites, pieceGh, rsk, ne_eq, if_true, if_false, exists_eq_left', forall_const, forall_eq, Nat.reduceLT, Int.reduceSub, Nat.reduceAdd, Nat.reduceSub, Nat.reduceMul, Nat.reduceLeDiff, Nat.reduceEqDiff, Nat.reduceBEq, Nat.reduceBNe, Int.reduceNeg, Int.reduceAdd, Int.reduceMul, Int.reduceLE, Int.reduceLT, Int.reduceEq, Int.reduceToNat, reduceIte, reduceCtorEq, tf3, tf4, tf5, tf44, tf103, tf84, tf9, tf23, tf22, tf24, tf26, Term.flat_enc, Term.isv_enc, Term.fold_enc, isv_lims, flat_lims, len_lims, ix_lims, ix_lims', flat_limA, ares_cons2, ares1_tmp, ares1_cell, aresk_some]; rfl), rfl⟩ ?_
  rintro n v σ' ⟨m, rfl, hml, hst, h0, rfl⟩
  simp -dsimp only [↓bp, bq, br, afin, bsk, cWrites, opsWrites, pieceGh, rsk, ne_eq, if_true, if_false, exists_eq_left', forall_const, forall_eq, Nat.reduceLT, Int.reduceSub, Nat.reduceAdd, Nat.reduceSub, Nat.reduceMul, Nat.reduceLeDiff, Nat.reduceEqDiff, Nat.reduceBEq, Nat.reduceBNe, Int.reduceNeg, Int.reduceAdd, Int.reduceMul, Int.reduceLE, Int.reduceLT, Int.reduceEq, Int.reduceToNat, reduceIte, reduceCtorEq, tf3, tf4, tf5, tf44, tf103, tf84, tf9, tf23, tf22, tf24, tf26, Term.flat_enc, Term.isv_enc, Term.fold_enc, isv_lims, flat_lims, len_lims, ix_lims, ix_lims', flat_limA, ares_cons2, ares1_tmp, ares1_cell, aresk_some] at h0
  rcases List.eq_nil_or_concat m with rfl | ⟨m', x, rfl⟩
  · have hs : strip l = [] := by rw [← hst]; rfl
    have hcm := hc [] (by simp)
    have hlz : (([] : List UInt32).length : Int) = 0 := rfl
    have hr : madeR l neg = .tup [(intT false []).enc, .bool true] := by unfold madeR; rw [hs]; simp
    rw [hr]
    generalize hnil : ([] : List UInt32) = q at *
    clear hc hs hst hml hr
    repeat' (first
    | with_reducible refine condW_both (fun _ _ => ?_) (fun _ _ => ?_)
    | with_reducible refine gW_both (fun _ _ => ?_) (fun _ _ => ?_)
    | with_reducible refine condW_split (fun _ => ?_) (fun _ => ?_)
    | with_reducible refine gW_split (fun _ => ?_) (fun _ => ?_)
    | with_reducible refine pickW_split (fun _ => ?_) (fun _ => ?_)
    | (refine newW_intro ?_; intro bx hbx; (try simp only [fresh_box, fresh_tip, fresh_ty] at hbx))
    | (refine newT_plain ?_; intro bx hbx; (try simp only [fresh_box, fresh_tip, fresh_ty] at hbx))
    | refine Pure.use (hcm) ?_
    | refine Pure.head (hcm) ?_
    | refine storeX_w ?_
    | ((with_reducible refine And.intro ?_ ?_); omega)
    | refine bo_buildSlice (d' := ⟨⟩) ?_
    | (refine draw_all (by kernel_rfl) ?_)
    | refine finish_pure ?_ (by repeat' (first | exact AS.le.refl _ | assumption | (refine le_set (by first | assumption | (simp only [*]; done) | exact AS.le.fresh (by assumption) (by simp only [*])) ?_) | (refine le_ty (by first | assumption | (simp only [*]; done) | exact AS.le.fresh (by assumption) (by simp only [*])) ?_)))
    | simp -dsimp only [↓bp, bq, br, afin, bsk, cWrites, opsWrites, pieceGh, rsk, ne_eq, if_true, if_false, exists_eq_left', forall_const, forall_eq, Nat.reduceLT, Int.reduceSub, Nat.reduceAdd, Nat.reduceSub, Nat.reduceMul, Nat.reduceLeDiff, Nat.reduceEqDiff, Nat.reduceBEq, Nat.reduceBNe, Int.reduceNeg, Int.reduceAdd, Int.reduceMul, Int.reduceLE, Int.reduceLT, Int.reduceEq, Int.reduceToNat, reduceIte, reduceCtorEq, tf3, tf4, tf5, tf44, tf103, tf84, tf9, tf23, tf22, tf24, tf26, Term.flat_enc, Term.isv_enc, Term.fold_enc, isv_lims, flat_lims, len_lims, ix_lims, ix_lims', flat_limA, ares_cons2, ares1_tmp, ares1_cell, aresk_some, hlz, *])
    all_goals
      refine finishW_some σ (by repeat' (first | exact AS.le.refl _ | assumption | (refine le_set (by first | assumption | (simp only [*]; done) | exact AS.le.fresh (by assumption) (by simp only [*])) ?_))) ?_
      exact ⟨Le.tup (.cons (intT_le _ _) (.cons (Le.refl _) .nil)), rfl⟩
  · simp only [List.concat_eq_append] at *
    have hlen : ((m' ++ [x]).length : Int) = m'.length + 1 := by simp
    have hlen' : (m' ++ [x]).length = m'.length + 1 := by simp
    have hw : IntKind.i64.wrap ((m'.length : Int) + 1 - 1) = m'.length := by rw [wrap_nat (by omega) (by omega)]; omega
    have hget : (m' ++ [x])[m'.length]? = some x := by simp
    have htake : (m' ++ [x]).take m'.length = m' := by simp
    have hcm := hc (m' ++ [x]) (by omega)
    have hp : (0 : Int) < m'.length + 1 := by omega
    have hmm : m'.length ≤ (m' ++ [x]).length := by omega
    by_cases hx : x = 0
    · subst hx
      rw [strip_zero] at hst
      have hz : ((0 : UInt32).toNat : Int) = 0 := rfl
      have hml' : m'.length ≤ l.length := by omega
      generalize hq : m' ++ [0] = q at *
      clear hc hml hlen'
      repeat' (first
    | with_reducible refine condW_both (fun _ _ => ?_) (fun _ _ => ?_)
    | with_reducible refine gW_both (fun _ _ => ?_) (fun _ _ => ?_)
    | with_reducible refine condW_split (fun _ => ?_) (fun _ => ?_)
    | with_reducible refine gW_split (fun _ => ?_) (fun _ => ?_)
    | with_reducible refine pickW_split (fun _ => ?_) (fun _ => ?_)
    | (refine newW_intro ?_; intro bx hbx; (try simp only [fresh_box, fresh_tip, fresh_ty] at hbx))
    | (refine newT_plain ?_; intro bx hbx; (try simp only [fresh_box, fresh_tip, fresh_ty] at hbx))
    | refine storeX_w ?_
    | ((with_reducible refine And.intro ?_ ?_); omega)
    | refine bo_buildSlice (d' := ⟨⟩) ?_
    | (refine draw_all (by kernel_rfl) ?_)
    | refine finish_pure ?_ (by repeat' (first | exact AS.le.refl _ | assumption | (refine le_set (by first | assumption | (simp only [*]; done) | exact AS.le.fresh (by assumption) (by simp only [*])) ?_) | (refine le_ty (by first | assumption | (simp only [*]; done) | exact AS.le.fresh (by assumption) (by simp only [*])) ?_)))
    | simp -dsimp only [↓bp, bq, br, afin, bsk, cWrites, opsWrites, pieceGh, rsk, ne_eq, if_true, if_false, exists_eq_left', forall_const, forall_eq, Nat.reduceLT, Int.reduceSub, Nat.reduceAdd, Nat.reduceSub, Nat.reduceMul, Nat.reduceLeDiff, Nat.reduceEqDiff, Nat.reduceBEq, Nat.reduceBNe, Int.reduceNeg, Int.reduceAdd, Int.reduceMul, Int.reduceLE, Int.reduceLT, Int.reduceEq, Int.reduceToNat, reduceIte, reduceCtorEq, tf3, tf4, tf5, tf44, tf103, tf84, tf9, tf23, tf22, tf24, tf26, Term.flat_enc, Term.isv_enc, Term.fold_enc, isv_lims, flat_lims, len_lims, ix_lims, ix_lims', flat_limA, ares_cons2, ares1_tmp, ares1_cell, aresk_some, hlen, hw, limA, hz, sl_lims, *])
      all_goals exact ⟨m'.length, by rw [← hq]; simp, m', rfl, hml', hst, rfl⟩
    · have hs : strip l = m' ++ [x] := by rw [← hst, strip_keep _ _ hx]
      have hz : ¬ (x.toNat : Int) = 0 := fun e => hx (UInt32.toNat_inj.1 (by simpa using e))
      by_cases h32 : m'.length + 1 ≤ 32
      · have hr : madeR l neg = .tup [(intT (neg && true) (m' ++ [x])).enc, .bool true] := by unfold madeR; rw [hs, hlen', if_pos h32]; congr 5; simp
        rw [hr]
        have h32' : ¬ (32 : Int) < m'.length + 1 := by omega
        generalize hq : m' ++ [x] = q at *
        clear hc hs hst hml hr h32 hlen'
        repeat' (first
    | with_reducible refine condW_both (fun _ _ => ?_) (fun _ _ => ?_)
    | with_reducible refine gW_both (fun _ _ => ?_) (fun _ _ => ?_)
    | with_reducible refine condW_split (fun _ => ?_) (fun _ => ?_)
    | with_reducible refine gW_split (fun _ => ?_) (fun _ => ?_)
    | with_reducible refine pickW_split (fun _ => ?_) (fun _ => ?_)
    | (refine newW_intro ?_; intro bx hbx; (try simp only [fresh_box, fresh_tip, fresh_ty] at hbx))
    | (refine newT_plain ?_; intro bx hbx; (try simp only [fresh_box, fresh_tip, fresh_ty] at hbx))
    | refine Pure.use (hcm) ?_
    | refine Pure.head (hcm) ?_
    | refine storeX_w ?_
    | ((with_reducible refine And.intro ?_ ?_); omega)
    | refine bo_buildSlice (d' := ⟨⟩) ?_
    | (refine draw_all (by kernel_rfl) ?_)
    | refine finish_pure ?_ (by repeat' (first | exact AS.le.refl _ | assumption | (refine le_set (by first | assumption | (simp only [*]; done) | exact AS.le.fresh (by assumption) (by simp only [*])) ?_) | (refine le_ty (by first | assumption | (simp only [*]; done) | exact AS.le.fresh (by assumption) (by simp only [*])) ?_)))
    | simp -dsimp only [↓bp, bq, br, afin, bsk, cWrites, opsWrites, pieceGh, rsk, ne_eq, if_true, if_false, exists_eq_left', forall_const, forall_eq, Nat.reduceLT, Int.reduceSub, Nat.reduceAdd, Nat.reduceSub, Nat.reduceMul, Nat.reduceLeDiff, Nat.reduceEqDiff, Nat.reduceBEq, Nat.reduceBNe, Int.reduceNeg, Int.reduceAdd, Int.reduceMul, Int.reduceLE, Int.reduceLT, Int.reduceEq, Int.reduceToNat, reduceIte, reduceCtorEq, tf3, tf4, tf5, tf44, tf103, tf84, tf9, tf23, tf22, tf24, tf26, Term.flat_enc, Term.isv_enc, Term.fold_enc, isv_lims, flat_lims, len_lims, ix_lims, ix_lims', flat_limA, ares_cons2, ares1_tmp, ares1_cell, aresk_some, hlen, hw, limA, hz, sl_lims, *])
        all_goals
          refine finishW_some σ (by repeat' (first | exact AS.le.refl _ | assumption | (refine le_set (by first | assumption | (simp only [*]; done) | exact AS.le.fresh (by assumption) (by simp only [*])) ?_))) ?_
          cases neg <;> first | exact ⟨Le.tup (.cons (intT_le _ _) (.cons (Le.refl _) .nil)), rfl⟩ | (exfalso; simp_all; done)
      · have hr : madeR l neg = .tup [zeroT.enc, .bool false] := by unfold madeR; rw [hs, hlen', if_neg h32]
        rw [hr]
        have h32' : (32 : Int) < m'.length + 1 := by omega
        generalize hq : m' ++ [x] = q at *
        clear hc hs hst hml hr h32 hlen'
        repeat' (first
    | with_reducible refine condW_both (fun _ _ => ?_) (fun _ _ => ?_)
    | with_reducible refine gW_both (fun _ _ => ?_) (fun _ _ => ?_)
    | with_reducible refine condW_split (fun _ => ?_) (fun _ => ?_)
    | with_reducible refine gW_split (fun _ => ?_) (fun _ => ?_)
    | with_reducible refine pickW_split (fun _ => ?_) (fun _ => ?_)
    | (refine newW_intro ?_; intro bx hbx; (try simp only [fresh_box, fresh_tip, fresh_ty] at hbx))
    | (refine newT_plain ?_; intro bx hbx; (try simp only [fresh_box, fresh_tip, fresh_ty] at hbx))
    | refine Pure.use (hcm) ?_
    | refine Pure.head (hcm) ?_
    | refine storeX_w ?_
    | ((with_reducible refine And.intro ?_ ?_); omega)
    | refine bo_buildSlice (d' := ⟨⟩) ?_
    | (refine draw_all (by kernel_rfl) ?_)
    | refine finish_pure ?_ (by repeat' (first | exact AS.le.refl _ | assumption | (refine le_set (by first | assumption | (simp only [*]; done) | exact AS.le.fresh (by assumption) (by simp only [*])) ?_) | (refine le_ty (by first | assumption | (simp only [*]; done) | exact AS.le.fresh (by assumption) (by simp only [*])) ?_)))
    | simp -dsimp only [↓bp, bq, br, afin, bsk, cWrites, opsWrites, pieceGh, rsk, ne_eq, if_true, if_false, exists_eq_left', forall_const, forall_eq, Nat.reduceLT, Int.reduceSub, Nat.reduceAdd, Nat.reduceSub, Nat.reduceMul, Nat.reduceLeDiff, Nat.reduceEqDiff, Nat.reduceBEq, Nat.reduceBNe, Int.reduceNeg, Int.reduceAdd, Int.reduceMul, Int.reduceLE, Int.reduceLT, Int.reduceEq, Int.reduceToNat, reduceIte, reduceCtorEq, tf3, tf4, tf5, tf44, tf103, tf84, tf9, tf23, tf22, tf24, tf26, Term.flat_enc, Term.isv_enc, Term.fold_enc, isv_lims, flat_lims, len_lims, ix_lims, ix_lims', flat_limA, ares_cons2, ares1_tmp, ares1_cell, aresk_some, hlen, hw, limA, hz, sl_lims, *])
        all_goals
          refine finishW_some σ (by repeat' (first | exact AS.le.refl _ | assumption | (refine le_set (by first | assumption | (simp only [*]; done) | exact AS.le.fresh (by assumption) (by simp only [*])) ?_))) ?_
          exact ⟨Le.tup (.cons (enc_nil 0 false [] 0) (.cons (Le.refl _) .nil)), rfl⟩
end Go.Proofs.YtjnhalmeddafdaaDoor
