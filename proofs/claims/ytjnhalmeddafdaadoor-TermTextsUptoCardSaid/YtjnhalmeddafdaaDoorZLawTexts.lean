/- TermTexts on abstract values. -/
import Derived.Test.YtjnhalmeddafdaaDoorZAwk
import Derived.Test.YtjnhalmeddafdaaDoorZPlain2
set_option linter.unusedVariables false
set_option linter.unusedSimpArgs false
set_option maxRecDepth 20000
namespace Go.Proofs.YtjnhalmeddafdaaDoor
open Go Go.Av
variable {G : Nat → AV}
/-- what the parts answer -/
structure Tx (G : Nat → AV) (a b : Term) (s t : List UInt8) (ra rb pa pb e : Bool) : Prop where
  w : Pure Tryd.prog G 8 [] (.bool true)
  g1 : Pure Tryd.prog G 7 [.sl .full [a.enc, b.enc] []] (.bool false)
  ta : Pure Tryd.prog G 21 [a.enc] (.str s)
  tb : Pure Tryd.prog G 21 [b.enc] (.str t)
  ra : Pure Tryd.prog G 15 [a.enc] (.bool ra)
  rb : Pure Tryd.prog G 15 [b.enc] (.bool rb)
  pa : Pure Tryd.prog G 22 [a.enc] (.bool pa)
  pb : Pure Tryd.prog G 22 [b.enc] (.bool pb)
  sm : Pure Tryd.prog G 12 [a.enc, b.enc] (.bool e)
set_option maxHeartbeats 4000000 in
theorem texts_at {a b : Term} {s t : List UInt8} {ra rb pa pb e : Bool} (h : Tx G a b s t ra rb pa pb e) (hs : okS s) (hl : s.length ≤ 1000000000) (hr : ra = decide (s ≠ [])) (he : pa = true → pb = true → ra = true → rb = true → decide (s = t) = e) : Pure Tryd.prog G 6 [a.enc, b.enc] (.bool true) := by
  obtain ⟨w, g1, ta, tb, ra1, rb1, pa1, pb1, sm⟩ := h
  have hml : s.length ≤ maxLen := by unfold maxLen; omega
  have hrn : (decide ¬ s = []) = ra := hr.symm
  clear hr
  intro σ
  refine Tri.of_awp mixed Tryd.func6 rfl (by kernel_rfl) (by kernel_rfl) (by simp [Tryd.ntmps6]) Tryd.results6 ?_
  repeat' (first
    | with_reducible refine condW_both (fun _ _ => ?_) (fun _ _ => ?_)
    | with_reducible refine gW_both (fun _ _ => ?_) (fun _ _ => ?_)
    | with_reducible refine condW_split (fun _ => ?_) (fun _ => ?_)
    | with_reducible refine gW_split (fun _ => ?_) (fun _ => ?_)
    | with_reducible refine pickW_split (fun _ => ?_) (fun _ => ?_)
    | (refine newW_intro ?_; intro bx hbx; (try simp only [fresh_box, fresh_tip, fresh_ty] at hbx))
    | (refine newT_plain ?_; intro bx hbx; (try simp only [fresh_box, fresh_tip, fresh_ty] at hbx))
    | refine Pure.use (w) ?_
    | refine Pure.head (w) ?_
    | refine Pure.use (g1) ?_
    | refine Pure.head (g1) ?_
    | refine Pure.use (ta) ?_
    | refine Pure.head (ta) ?_
    | refine Pure.use (tb) ?_
    | refine Pure.head (tb) ?_
    | refine storeX_w ?_
    | ((with_reducible refine And.intro ?_ ?_); omega)
    | refine bo_buildSlice (d' := ⟨⟩) ?_
    | (refine draw_all (by kernel_rfl) ?_)
    | refine finish_pure ?_ (by repeat' (first | exact AS.le.refl _ | assumption | (refine le_set (by first | assumption | (simp only [*]; done) | exact AS.le.fresh (by assumption) (by simp only [*])) ?_) | (refine le_ty (by first | assumption | (simp only [*]; done) | exact AS.le.fresh (by assumption) (by simp only [*])) ?_)))
    | simp -dsimp only [↓bp, bq, br, afin, bsk, cWrites, opsWrites, pieceGh, rsk, ne_eq, if_true, if_false, exists_eq_left', forall_const, forall_eq, Nat.reduceLT, Int.reduceSub, Nat.reduceAdd, Nat.reduceSub, Nat.reduceMul, Nat.reduceLeDiff, Nat.reduceEqDiff, Nat.reduceBEq, Nat.reduceBNe, Int.reduceNeg, Int.reduceAdd, Int.reduceMul, Int.reduceLE, Int.reduceLT, Int.reduceEq, Int.reduceToNat, reduceIte, reduceCtorEq, tf3, tf4, tf5, tf9, tf22, tf24, tf26, tf23, Term.flat_enc, Term.isv_enc, Term.fold_enc, isv_encs, flat_encs, len_encs, isv_lims, flat_lims, hml, *])
  refine loop_keep mixed (fun n e => ∃ i : Nat, i ≤ (s).length ∧ n = (s).length - i ∧ e 7 = .int .i64 i) (s).length
      ⟨0, by omega, by omega, by simp -dsimp only [↓bp, bq, br, afin, bsk, cWrites, opsWrites, pieceGh, rsk, ne_eq, if_true, if_false, exists_eq_left', forall_const, forall_eq, Nat.reduceLT, Int.reduceSub, Nat.reduceAdd, Nat.reduceSub, Nat.reduceMul, Nat.reduceLeDiff, Nat.reduceEqDiff, Nat.reduceBEq, Nat.reduceBNe, Int.reduceNeg, Int.reduceAdd, Int.reduceMul, Int.reduceLE, Int.reduceLT, Int.reduceEq, Int.reduceToNat, reduceIte, reduceCtorEq, tf3, tf4, tf5, tf9, tf22, tf24, tf26, tf23, Term.flat_enc, Term.isv_enc, Term.fold_enc, isv_encs, flat_encs, len_encs, isv_lims, flat_lims]; first | done | rfl⟩ ?_
  rintro n v ⟨i, hi, rfl, h7⟩
  simp -dsimp only [↓bp, bq, br, afin, bsk, cWrites, opsWrites, pieceGh, rsk, ne_eq, if_true, if_false, exists_eq_left', forall_const, forall_eq, Nat.reduceLT, Int.reduceSub, Nat.reduceAdd, Nat.reduceSub, Nat.reduceMul, Nat.reduceLeDiff, Nat.reduceEqDiff, Nat.reduceBEq, Nat.reduceBNe, Int.reduceNeg, Int.reduceAdd, Int.reduceMul, Int.reduceLE, Int.reduceLT, Int.reduceEq, Int.reduceToNat, reduceIte, reduceCtorEq, tf3, tf4, tf5, tf9, tf22, tf24, tf26, tf23, Term.flat_enc, Term.isv_enc, Term.fold_enc, isv_encs, flat_encs, len_encs, isv_lims, flat_lims] at h7
  simp -dsimp only [↓bp, bq, br, afin, bsk, cWrites, opsWrites, pieceGh, rsk, ne_eq, if_true, if_false, exists_eq_left', forall_const, forall_eq, Nat.reduceLT, Int.reduceSub, Nat.reduceAdd, Nat.reduceSub, Nat.reduceMul, Nat.reduceLeDiff, Nat.reduceEqDiff, Nat.reduceBEq, Nat.reduceBNe, Int.reduceNeg, Int.reduceAdd, Int.reduceMul, Int.reduceLE, Int.reduceLT, Int.reduceEq, Int.reduceToNat, reduceIte, reduceCtorEq, tf3, tf4, tf5, tf9, tf22, tf24, tf26, tf23, Term.flat_enc, Term.isv_enc, Term.fold_enc, isv_encs, flat_encs, len_encs, isv_lims, flat_lims, h7]
  refine condW_dec (fun hlt => ?_) (fun hge => ?_)
  · obtain ⟨k, hk⟩ : ∃ k, s[i]? = some k := ⟨_, List.getElem?_eq_getElem (by omega)⟩
    have hkm := hs k (List.mem_of_getElem? hk)
    have k1 : ((k.toNat : Int) < 32) = False := eq_false (by omega)
    have k2 : (126 < (k.toNat : Int)) = False := eq_false (by omega)
    have hw : IntKind.i64.wrap ((i : Int) + 1) = ((i + 1 : Nat) : Int) := by rw [wrap_nat (by omega) (by omega)]; rfl
    clear hkm
    simp -dsimp only [↓bp, bq, br, afin, bsk, cWrites, opsWrites, pieceGh, rsk, ne_eq, if_true, if_false, exists_eq_left', forall_const, forall_eq, Nat.reduceLT, Int.reduceSub, Nat.reduceAdd, Nat.reduceSub, Nat.reduceMul, Nat.reduceLeDiff, Nat.reduceEqDiff, Nat.reduceBEq, Nat.reduceBNe, Int.reduceNeg, Int.reduceAdd, Int.reduceMul, Int.reduceLE, Int.reduceLT, Int.reduceEq, Int.reduceToNat, reduceIte, reduceCtorEq, tf3, tf4, tf5, tf9, tf22, tf24, tf26, tf23, Term.flat_enc, Term.isv_enc, Term.fold_enc, isv_encs, flat_encs, len_encs, isv_lims, flat_lims, h7, hk, hlt, k1, k2, hw]
    exact ⟨s.length - (i + 1), by omega, i + 1, by omega, rfl, rfl⟩
  · have : i = s.length := by omega
    subst this
    by_cases hall : pa = true ∧ pb = true ∧ ra = true ∧ rb = true
    · obtain ⟨q1, q2, q3, q4⟩ := hall
      have hse := he q1 q2 q3 q4
      subst q1 q2 q3 q4
      subst hse
      clear he
      repeat' (first
    | with_reducible refine condW_both (fun _ _ => ?_) (fun _ _ => ?_)
    | with_reducible refine gW_both (fun _ _ => ?_) (fun _ _ => ?_)
    | with_reducible refine condW_split (fun _ => ?_) (fun _ => ?_)
    | with_reducible refine gW_split (fun _ => ?_) (fun _ => ?_)
    | with_reducible refine pickW_split (fun _ => ?_) (fun _ => ?_)
    | (refine newW_intro ?_; intro bx hbx; (try simp only [fresh_box, fresh_tip, fresh_ty] at hbx))
    | (refine newT_plain ?_; intro bx hbx; (try simp only [fresh_box, fresh_tip, fresh_ty] at hbx))
    | refine Pure.use (ra1) ?_
    | refine Pure.head (ra1) ?_
    | refine Pure.use (rb1) ?_
    | refine Pure.head (rb1) ?_
    | refine Pure.use (pa1) ?_
    | refine Pure.head (pa1) ?_
    | refine Pure.use (pb1) ?_
    | refine Pure.head (pb1) ?_
    | refine Pure.use (sm) ?_
    | refine Pure.head (sm) ?_
    | refine storeX_w ?_
    | ((with_reducible refine And.intro ?_ ?_); omega)
    | refine bo_buildSlice (d' := ⟨⟩) ?_
    | (refine draw_all (by kernel_rfl) ?_)
    | refine finish_pure ?_ (by repeat' (first | exact AS.le.refl _ | assumption | (refine le_set (by first | assumption | (simp only [*]; done) | exact AS.le.fresh (by assumption) (by simp only [*])) ?_) | (refine le_ty (by first | assumption | (simp only [*]; done) | exact AS.le.fresh (by assumption) (by simp only [*])) ?_)))
    | simp -dsimp only [↓bp, bq, br, afin, bsk, cWrites, opsWrites, pieceGh, rsk, ne_eq, if_true, if_false, exists_eq_left', forall_const, forall_eq, Nat.reduceLT, Int.reduceSub, Nat.reduceAdd, Nat.reduceSub, Nat.reduceMul, Nat.reduceLeDiff, Nat.reduceEqDiff, Nat.reduceBEq, Nat.reduceBNe, Int.reduceNeg, Int.reduceAdd, Int.reduceMul, Int.reduceLE, Int.reduceLT, Int.reduceEq, Int.reduceToNat, reduceIte, reduceCtorEq, tf3, tf4, tf5, tf9, tf22, tf24, tf26, tf23, Term.flat_enc, Term.isv_enc, Term.fold_enc, isv_encs, flat_encs, len_encs, isv_lims, flat_lims, h7, hge, hrn, *])
      all_goals rfl
    · clear he
      repeat' (first
    | with_reducible refine condW_both (fun _ _ => ?_) (fun _ _ => ?_)
    | with_reducible refine gW_both (fun _ _ => ?_) (fun _ _ => ?_)
    | with_reducible refine condW_split (fun _ => ?_) (fun _ => ?_)
    | with_reducible refine gW_split (fun _ => ?_) (fun _ => ?_)
    | with_reducible refine pickW_split (fun _ => ?_) (fun _ => ?_)
    | (refine newW_intro ?_; intro bx hbx; (try simp only [fresh_box, fresh_tip, fresh_ty] at hbx))
    | (refine newT_plain ?_; intro bx hbx; (try simp only [fresh_box, fresh_tip, fresh_ty] at hbx))
    | refine Pure.use (ra1) ?_
    | refine Pure.head (ra1) ?_
    | refine Pure.use (rb1) ?_
    | refine Pure.head (rb1) ?_
    | refine Pure.use (pa1) ?_
    | refine Pure.head (pa1) ?_
    | refine Pure.use (pb1) ?_
    | refine Pure.head (pb1) ?_
    | refine Pure.use (sm) ?_
    | refine Pure.head (sm) ?_
    | refine storeX_w ?_
    | ((with_reducible refine And.intro ?_ ?_); omega)
    | refine bo_buildSlice (d' := ⟨⟩) ?_
    | (refine draw_all (by kernel_rfl) ?_)
    | refine finish_pure ?_ (by repeat' (first | exact AS.le.refl _ | assumption | (refine le_set (by first | assumption | (simp only [*]; done) | exact AS.le.fresh (by assumption) (by simp only [*])) ?_) | (refine le_ty (by first | assumption | (simp only [*]; done) | exact AS.le.fresh (by assumption) (by simp only [*])) ?_)))
    | simp -dsimp only [↓bp, bq, br, afin, bsk, cWrites, opsWrites, pieceGh, rsk, ne_eq, if_true, if_false, exists_eq_left', forall_const, forall_eq, Nat.reduceLT, Int.reduceSub, Nat.reduceAdd, Nat.reduceSub, Nat.reduceMul, Nat.reduceLeDiff, Nat.reduceEqDiff, Nat.reduceBEq, Nat.reduceBNe, Int.reduceNeg, Int.reduceAdd, Int.reduceMul, Int.reduceLE, Int.reduceLT, Int.reduceEq, Int.reduceToNat, reduceIte, reduceCtorEq, tf3, tf4, tf5, tf9, tf22, tf24, tf26, tf23, Term.flat_enc, Term.isv_enc, Term.fold_enc, isv_encs, flat_encs, len_encs, isv_lims, flat_lims, h7, hge, hrn, *])
      all_goals first | rfl | (exfalso; simp_all)
set_option maxHeartbeats 4000000 in
theorem texts_law (hg : GlobT G) (a b : Term) (ha : a.bulk ≤ 2000000) (hb : b.bulk ≤ 2000000) : Pure Tryd.prog G 6 [a.enc, b.enc] (.bool true) := by
  have w := awake_pure hg
  have g1 := (great_pure G [a, b] (by simp only [bulks]; omega)).lessArgs (.cons (le_full [a, b]) .nil)
  simp only [List.map_cons, List.map_nil] at g1
  cases hgr : great [a, b]
  · rw [hgr] at g1
    refine texts_at ⟨w, g1, text_pure hg a ha, text_pure hg b hb, right_pure G a (by omega), right_pure G b (by omega), plain_pure G a (by omega), plain_pure G b (by omega), sameT_pure G a b (by omega) (by omega)⟩ (text_ok a) (by
      unfold text
      split
      · rename_i r
        have := said_len a r
        omega
      · simp) (text_ne a) ?_
    intro p1 p2 r1 r2
    have es : sameT a b = decide (order a b = 0) := by unfold sameT; rw [r1, r2]; simp
    have ez : order a b = 0 ↔ a = b := ⟨order_zero a b r1 r2, fun e => by subst e; exact order_self a⟩
    rw [es]
    unfold text
    rw [if_pos r1, if_pos r2, decide_eq_decide, said_inj r1 r2 p1 p2, ez]
  · rw [hgr] at g1
    clear hg
    intro σ
    refine Tri.of_awp mixed Tryd.func6 rfl (by kernel_rfl) (by kernel_rfl) (by simp [Tryd.ntmps6]) Tryd.results6 ?_
    repeat' (first
    | with_reducible refine condW_both (fun _ _ => ?_) (fun _ _ => ?_)
    | with_reducible refine gW_both (fun _ _ => ?_) (fun _ _ => ?_)
    | with_reducible refine condW_split (fun _ => ?_) (fun _ => ?_)
    | with_reducible refine gW_split (fun _ => ?_) (fun _ => ?_)
    | with_reducible refine pickW_split (fun _ => ?_) (fun _ => ?_)
    | (refine newW_intro ?_; intro bx hbx; (try simp only [fresh_box, fresh_tip, fresh_ty] at hbx))
    | (refine newT_plain ?_; intro bx hbx; (try simp only [fresh_box, fresh_tip, fresh_ty] at hbx))
    | refine Pure.use (w) ?_
    | refine Pure.head (w) ?_
    | refine Pure.use (g1) ?_
    | refine Pure.head (g1) ?_
    | refine storeX_w ?_
    | ((with_reducible refine And.intro ?_ ?_); omega)
    | refine bo_buildSlice (d' := ⟨⟩) ?_
    | (refine draw_all (by kernel_rfl) ?_)
    | refine finish_pure ?_ (by repeat' (first | exact AS.le.refl _ | assumption | (refine le_set (by first | assumption | (simp only [*]; done) | exact AS.le.fresh (by assumption) (by simp only [*])) ?_) | (refine le_ty (by first | assumption | (simp only [*]; done) | exact AS.le.fresh (by assumption) (by simp only [*])) ?_)))
    | simp -dsimp only [↓bp, bq, br, afin, bsk, cWrites, opsWrites, pieceGh, rsk, ne_eq, if_true, if_false, exists_eq_left', forall_const, forall_eq, Nat.reduceLT, Int.reduceSub, Nat.reduceAdd, Nat.reduceSub, Nat.reduceMul, Nat.reduceLeDiff, Nat.reduceEqDiff, Nat.reduceBEq, Nat.reduceBNe, Int.reduceNeg, Int.reduceAdd, Int.reduceMul, Int.reduceLE, Int.reduceLT, Int.reduceEq, Int.reduceToNat, reduceIte, reduceCtorEq, tf3, tf4, tf5, tf9, tf22, tf24, tf26, tf23, Term.flat_enc, Term.isv_enc, Term.fold_enc, isv_encs, flat_encs, len_encs, isv_lims, flat_lims, *])
    all_goals rfl
end Go.Proofs.YtjnhalmeddafdaaDoor
