/- What the package says of terms: parted. -/
import Derived.Test.YtjnhalmeddafdaaDoorZTermApi
import Derived.Test.YtjnhalmeddafdaaDoorZB
set_option linter.unusedVariables false
set_option linter.unusedSimpArgs false
set_option maxRecDepth 20000
set_option linter.defProp false
namespace Go.Proofs.YtjnhalmeddafdaaDoor
open Go Go.Av
def tbTermApi3 := And.intro (And.intro (And.intro (And.intro @tf3 (And.intro @tf4 @tf5)) (And.intro (And.intro @tf44 @tf9) (And.intro @tf23 @tf22))) (And.intro (And.intro @tf24 (And.intro @tf26 @tf75)) (And.intro (And.intro @Term.flat_enc @Term.isv_enc) (And.intro @Term.fold_enc @isv_encs)))) (And.intro (And.intro (And.intro @flat_encs (And.intro @len_encs @ix_encs)) (And.intro (And.intro @ix_encs' @isv_lims) (And.intro @flat_lims @len_lims))) (And.intro (And.intro @ix_lims (And.intro @ix_lims' @flat_limA)) (And.intro (And.intro @ares_cons2 @ares1_tmp) (And.intro @ares1_cell @aresk_some))))
variable (G : Nat → AV)
def splitR (t : Term) : AV := match split t with
  | some (h, r) => .tup [h.enc, r.enc, .bool true]
  | none => .tup [zeroT.enc, zeroT.enc, .bool false]
theorem zero_le : Le (.agg [.int .u8 0, .bool false, .nil, .str [], .int .i64 0, .nil, .nil]) zeroT.enc := enc_nil 0 false [] 0
set_option maxHeartbeats 1000000 in
theorem split_pure (t : Term) (hb : t.bulk ≤ 300000000) : Pure Tryd.prog G 20 [t.enc] (splitR t) := by
  have rt := right_pure G t (by omega)
  have hbt := t.bulk_eq
  refine Pure.of_le fun σ => ?_
  cases et : right t with
  | false =>
    have e : splitR t = .tup [zeroT.enc, zeroT.enc, .bool false] := by unfold splitR split; rw [if_neg (by simp [et])]
    rw [e]
    rw [et] at rt
    clear hbt
    refine Tri.of_awp mixed Tryd.func20 rfl (by kernel_rfl) (by kernel_rfl) (by simp [Tryd.ntmps20]) Tryd.results20 ?_
    repeat' (first
    | with_reducible refine condW_both (fun _ _ => ?_) (fun _ _ => ?_)
    | with_reducible refine gW_both (fun _ _ => ?_) (fun _ _ => ?_)
    | with_reducible refine condW_split (fun _ => ?_) (fun _ => ?_)
    | with_reducible refine gW_split (fun _ => ?_) (fun _ => ?_)
    | with_reducible refine pickW_split (fun _ => ?_) (fun _ => ?_)
    | (refine newW_intro ?_; intro bx hbx; (try simp only [fresh_box, fresh_tip, fresh_ty] at hbx))
    | (refine newT_plain ?_; intro bx hbx; (try simp only [fresh_box, fresh_tip, fresh_ty] at hbx))
    | refine Pure.use (rt) ?_
    | refine Pure.head (rt) ?_
    | refine storeX_w ?_
    | ((with_reducible refine And.intro ?_ ?_); omega)
    | refine bo_buildSlice (d' := ⟨⟩) ?_
    | (refine draw_all (by kernel_rfl) ?_)
    | refine finish_pure ?_ (by repeat' (first | exact AS.le.refl _ | assumption | (refine le_set (by first | assumption | (simp only [*]; done) | exact AS.le.fresh (by assumption) (by simp only [*])) ?_) | (refine le_ty (by first | assumption | (simp only [*]; done) | exact AS.le.fresh (by assumption) (by simp only [*])) ?_)))
    | simp -dsimp only [↓bp, bq, br, afin, bsk, cWrites, opsWrites, pieceGh, rsk, ne_eq, if_true, if_false, exists_eq_left', forall_const, forall_eq, Nat.reduceLT, Int.reduceSub, Nat.reduceAdd, Nat.reduceSub, Nat.reduceMul, Nat.reduceLeDiff, Nat.reduceEqDiff, Nat.reduceBEq, Nat.reduceBNe, Int.reduceNeg, Int.reduceAdd, Int.reduceMul, Int.reduceLE, Int.reduceLT, Int.reduceEq, Int.reduceToNat, reduceIte, reduceCtorEq, tbTermApi3, *])
    refine finishW_some σ (by repeat' (first | exact AS.le.refl _ | assumption | (refine le_set (by first | assumption | (simp only [*]; done) | exact AS.le.fresh (by assumption) (by simp only [*])) ?_))) ?_
    exact ⟨Le.tup (.cons zero_le (.cons zero_le (.cons (Le.refl _) .nil))), rfl⟩
  | true =>
    rw [et] at rt
    by_cases h7 : t.knd = 7
    rotate_left
    · have e : splitR t = .tup [zeroT.enc, zeroT.enc, .bool false] := by unfold splitR split; rw [if_neg (by simp [h7])]
      rw [e]
      have k7 := eq_false h7
      clear h7 hbt
      refine Tri.of_awp mixed Tryd.func20 rfl (by kernel_rfl) (by kernel_rfl) (by simp [Tryd.ntmps20]) Tryd.results20 ?_
      repeat' (first
    | with_reducible refine condW_both (fun _ _ => ?_) (fun _ _ => ?_)
    | with_reducible refine gW_both (fun _ _ => ?_) (fun _ _ => ?_)
    | with_reducible refine condW_split (fun _ => ?_) (fun _ => ?_)
    | with_reducible refine gW_split (fun _ => ?_) (fun _ => ?_)
    | with_reducible refine pickW_split (fun _ => ?_) (fun _ => ?_)
    | (refine newW_intro ?_; intro bx hbx; (try simp only [fresh_box, fresh_tip, fresh_ty] at hbx))
    | (refine newT_plain ?_; intro bx hbx; (try simp only [fresh_box, fresh_tip, fresh_ty] at hbx))
    | refine Pure.use (rt) ?_
    | refine Pure.head (rt) ?_
    | refine storeX_w ?_
    | ((with_reducible refine And.intro ?_ ?_); omega)
    | refine bo_buildSlice (d' := ⟨⟩) ?_
    | (refine draw_all (by kernel_rfl) ?_)
    | refine finish_pure ?_ (by repeat' (first | exact AS.le.refl _ | assumption | (refine le_set (by first | assumption | (simp only [*]; done) | exact AS.le.fresh (by assumption) (by simp only [*])) ?_) | (refine le_ty (by first | assumption | (simp only [*]; done) | exact AS.le.fresh (by assumption) (by simp only [*])) ?_)))
    | simp -dsimp only [↓bp, bq, br, afin, bsk, cWrites, opsWrites, pieceGh, rsk, ne_eq, if_true, if_false, exists_eq_left', forall_const, forall_eq, Nat.reduceLT, Int.reduceSub, Nat.reduceAdd, Nat.reduceSub, Nat.reduceMul, Nat.reduceLeDiff, Nat.reduceEqDiff, Nat.reduceBEq, Nat.reduceBNe, Int.reduceNeg, Int.reduceAdd, Int.reduceMul, Int.reduceLE, Int.reduceLT, Int.reduceEq, Int.reduceToNat, reduceIte, reduceCtorEq, tbTermApi3, *])
      refine finishW_some σ (by repeat' (first | exact AS.le.refl _ | assumption | (refine le_set (by first | assumption | (simp only [*]; done) | exact AS.le.fresh (by assumption) (by simp only [*])) ?_))) ?_
      exact ⟨Le.tup (.cons zero_le (.cons zero_le (.cons (Le.refl _) .nil))), rfl⟩
    · have k7 := eq_true h7
      cases hi : t.items with
      | nil =>
        have e : splitR t = .tup [zeroT.enc, zeroT.enc, .bool false] := by unfold splitR split; rw [if_pos ⟨et, h7⟩, hi]
        rw [e]
        have hl : (t.items.length : Int) = 0 := by rw [hi]; rfl
        clear h7 hbt hi e
        refine Tri.of_awp mixed Tryd.func20 rfl (by kernel_rfl) (by kernel_rfl) (by simp [Tryd.ntmps20]) Tryd.results20 ?_
        repeat' (first
    | with_reducible refine condW_both (fun _ _ => ?_) (fun _ _ => ?_)
    | with_reducible refine gW_both (fun _ _ => ?_) (fun _ _ => ?_)
    | with_reducible refine condW_split (fun _ => ?_) (fun _ => ?_)
    | with_reducible refine gW_split (fun _ => ?_) (fun _ => ?_)
    | with_reducible refine pickW_split (fun _ => ?_) (fun _ => ?_)
    | (refine newW_intro ?_; intro bx hbx; (try simp only [fresh_box, fresh_tip, fresh_ty] at hbx))
    | (refine newT_plain ?_; intro bx hbx; (try simp only [fresh_box, fresh_tip, fresh_ty] at hbx))
    | refine Pure.use (rt) ?_
    | refine Pure.head (rt) ?_
    | refine storeX_w ?_
    | ((with_reducible refine And.intro ?_ ?_); omega)
    | refine bo_buildSlice (d' := ⟨⟩) ?_
    | (refine draw_all (by kernel_rfl) ?_)
    | refine finish_pure ?_ (by repeat' (first | exact AS.le.refl _ | assumption | (refine le_set (by first | assumption | (simp only [*]; done) | exact AS.le.fresh (by assumption) (by simp only [*])) ?_) | (refine le_ty (by first | assumption | (simp only [*]; done) | exact AS.le.fresh (by assumption) (by simp only [*])) ?_)))
    | simp -dsimp only [↓bp, bq, br, afin, bsk, cWrites, opsWrites, pieceGh, rsk, ne_eq, if_true, if_false, exists_eq_left', forall_const, forall_eq, Nat.reduceLT, Int.reduceSub, Nat.reduceAdd, Nat.reduceSub, Nat.reduceMul, Nat.reduceLeDiff, Nat.reduceEqDiff, Nat.reduceBEq, Nat.reduceBNe, Int.reduceNeg, Int.reduceAdd, Int.reduceMul, Int.reduceLE, Int.reduceLT, Int.reduceEq, Int.reduceToNat, reduceIte, reduceCtorEq, tbTermApi3, *])
        refine finishW_some σ (by repeat' (first | exact AS.le.refl _ | assumption | (refine le_set (by first | assumption | (simp only [*]; done) | exact AS.le.fresh (by assumption) (by simp only [*])) ?_))) ?_
        exact ⟨Le.tup (.cons zero_le (.cons zero_le (.cons (Le.refl _) .nil))), rfl⟩
      | cons x l =>
        have hx : t.items[0]? = some x := by rw [hi]; rfl
        have hbx : x.bulk ≤ bulks t.items := bulk_mem (by rw [hi]; simp)
        have cx := copy_pure G x (by omega)
        have hl0 : ¬ (t.items.length : Int) = 0 := by rw [hi]; simp; omega
        cases l with
        | nil =>
          have e : splitR t = .tup [x.enc, (tailOf t).enc, .bool true] := by unfold splitR split; rw [if_pos ⟨et, h7⟩, hi]
          rw [e]
          have hl1 : ¬ (1 : Int) < t.items.length := by rw [hi]; simp
          have t1 := tail_pure G t
          have t2 := copy_pure G (tailOf t) (by
            unfold tailOf
            cases htl : t.tail with
            | nil => simp [listT, Term.bulk, bulks]
            | cons y r => have := bulk_mem (show y ∈ t.tail by rw [htl]; simp); simp only; omega)
          clear h7 hbt hi e hbx
          refine Tri.of_awp mixed Tryd.func20 rfl (by kernel_rfl) (by kernel_rfl) (by simp [Tryd.ntmps20]) Tryd.results20 ?_
          repeat' (first
    | with_reducible refine condW_both (fun _ _ => ?_) (fun _ _ => ?_)
    | with_reducible refine gW_both (fun _ _ => ?_) (fun _ _ => ?_)
    | with_reducible refine condW_split (fun _ => ?_) (fun _ => ?_)
    | with_reducible refine gW_split (fun _ => ?_) (fun _ => ?_)
    | with_reducible refine pickW_split (fun _ => ?_) (fun _ => ?_)
    | (refine newW_intro ?_; intro bx hbx; (try simp only [fresh_box, fresh_tip, fresh_ty] at hbx))
    | (refine newT_plain ?_; intro bx hbx; (try simp only [fresh_box, fresh_tip, fresh_ty] at hbx))
    | refine Pure.use (rt) ?_
    | refine Pure.head (rt) ?_
    | refine Pure.use (cx) ?_
    | refine Pure.head (cx) ?_
    | refine Pure.use (t1) ?_
    | refine Pure.head (t1) ?_
    | refine Pure.use (t2) ?_
    | refine Pure.head (t2) ?_
    | refine storeX_w ?_
    | ((with_reducible refine And.intro ?_ ?_); omega)
    | refine bo_buildSlice (d' := ⟨⟩) ?_
    | (refine draw_all (by kernel_rfl) ?_)
    | refine finish_pure ?_ (by repeat' (first | exact AS.le.refl _ | assumption | (refine le_set (by first | assumption | (simp only [*]; done) | exact AS.le.fresh (by assumption) (by simp only [*])) ?_) | (refine le_ty (by first | assumption | (simp only [*]; done) | exact AS.le.fresh (by assumption) (by simp only [*])) ?_)))
    | simp -dsimp only [↓bp, bq, br, afin, bsk, cWrites, opsWrites, pieceGh, rsk, ne_eq, if_true, if_false, exists_eq_left', forall_const, forall_eq, Nat.reduceLT, Int.reduceSub, Nat.reduceAdd, Nat.reduceSub, Nat.reduceMul, Nat.reduceLeDiff, Nat.reduceEqDiff, Nat.reduceBEq, Nat.reduceBNe, Int.reduceNeg, Int.reduceAdd, Int.reduceMul, Int.reduceLE, Int.reduceLT, Int.reduceEq, Int.reduceToNat, reduceIte, reduceCtorEq, tbTermApi3, *])
          refine finishW_some σ (by repeat' (first | exact AS.le.refl _ | assumption | (refine le_set (by first | assumption | (simp only [*]; done) | exact AS.le.fresh (by assumption) (by simp only [*])) ?_))) ?_
          exact ⟨Le.tup (.cons (Le.refl _) (.cons (Le.refl _) (.cons (Le.refl _) .nil))), rfl⟩
        | cons y r =>
          have e : splitR t = .tup [x.enc, (listT (y :: r) t.tail).enc, .bool true] := by unfold splitR split; rw [if_pos ⟨et, h7⟩, hi]
          rw [e]
          have hl1 : (1 : Int) < t.items.length := by rw [hi]; simp; omega
          have hl2 : 1 ≤ t.items.length := by omega
          have hdr : (t.items.take t.items.length).drop 1 = y :: r := by rw [List.take_length, hi]; rfl
          have hdr2 : t.items.drop 1 = y :: r := by rw [hi]; rfl
          have hbb : bulks t.items = x.bulk + bulks (y :: r) := by rw [hi]; rfl
          have c1 := copies_row G (y :: r) (by omega)
          have c2 := copies_row G t.tail (by omega)
          clear h7 hbt hi e hbx hbb
          generalize y :: r = q at *
          refine Tri.of_awp mixed Tryd.func20 rfl (by kernel_rfl) (by kernel_rfl) (by simp [Tryd.ntmps20]) Tryd.results20 ?_
          repeat' (first
    | with_reducible refine condW_both (fun _ _ => ?_) (fun _ _ => ?_)
    | with_reducible refine gW_both (fun _ _ => ?_) (fun _ _ => ?_)
    | with_reducible refine condW_split (fun _ => ?_) (fun _ => ?_)
    | with_reducible refine gW_split (fun _ => ?_) (fun _ => ?_)
    | with_reducible refine pickW_split (fun _ => ?_) (fun _ => ?_)
    | (refine newW_intro ?_; intro bx hbx; (try simp only [fresh_box, fresh_tip, fresh_ty] at hbx))
    | (refine newT_plain ?_; intro bx hbx; (try simp only [fresh_box, fresh_tip, fresh_ty] at hbx))
    | refine Pure.use (rt) ?_
    | refine Pure.head (rt) ?_
    | refine Pure.use (cx) ?_
    | refine Pure.head (cx) ?_
    | refine Pure.use (c1) ?_
    | refine Pure.head (c1) ?_
    | refine Pure.use (c2) ?_
    | refine Pure.head (c2) ?_
    | (refine draw_intro 12 (by kernel_rfl) rfl rfl ?_)
    | (refine same_st (z := flat x.enc) tf26.1 (by rw [Term.flat_enc]; simp -dsimp only [↓bp, bq, br, afin, bsk, cWrites, opsWrites, pieceGh, rsk, ne_eq, if_true, if_false, exists_eq_left', forall_const, forall_eq, Nat.reduceLT, Int.reduceSub, Nat.reduceAdd, Nat.reduceSub, Nat.reduceMul, Nat.reduceLeDiff, Nat.reduceEqDiff, Nat.reduceBEq, Nat.reduceBNe, Int.reduceNeg, Int.reduceAdd, Int.reduceMul, Int.reduceLE, Int.reduceLT, Int.reduceEq, Int.reduceToNat, reduceIte, reduceCtorEq, tbTermApi3, hbx]) x.isv_enc (by rw [Term.flat_enc]; rfl) (by rw [Term.flat_enc]; simp) (by rw [Term.flat_enc]; rfl) ?_)
    | refine storeX_w ?_
    | ((with_reducible refine And.intro ?_ ?_); omega)
    | refine bo_buildSlice (d' := ⟨⟩) ?_
    | (refine draw_all (by kernel_rfl) ?_)
    | refine finish_pure ?_ (by repeat' (first | exact AS.le.refl _ | assumption | (refine le_set (by first | assumption | (simp only [*]; done) | exact AS.le.fresh (by assumption) (by simp only [*])) ?_) | (refine le_ty (by first | assumption | (simp only [*]; done) | exact AS.le.fresh (by assumption) (by simp only [*])) ?_)))
    | simp -dsimp only [↓bp, bq, br, afin, bsk, cWrites, opsWrites, pieceGh, rsk, ne_eq, if_true, if_false, exists_eq_left', forall_const, forall_eq, Nat.reduceLT, Int.reduceSub, Nat.reduceAdd, Nat.reduceSub, Nat.reduceMul, Nat.reduceLeDiff, Nat.reduceEqDiff, Nat.reduceBEq, Nat.reduceBNe, Int.reduceNeg, Int.reduceAdd, Int.reduceMul, Int.reduceLE, Int.reduceLT, Int.reduceEq, Int.reduceToNat, reduceIte, reduceCtorEq, tbTermApi3, sl_encs, *])
          refine finishW_some σ (by repeat' (first | exact AS.le.refl _ | assumption | (refine le_set (by first | assumption | (simp only [*]; done) | exact AS.le.fresh (by assumption) (by simp only [*])) ?_))) ?_
          exact ⟨Le.tup (.cons (Le.refl _) (.cons (listT_le _ _) (.cons (Le.refl _) .nil))), rfl⟩
end Go.Proofs.YtjnhalmeddafdaaDoor
