/- Terms of the kit: the same; how great. -/
import Derived.Test.YtjnhalmeddafdaaDoorZC
set_option linter.unusedVariables false
set_option linter.unusedSimpArgs false
set_option maxRecDepth 20000
set_option linter.defProp false
namespace Go.Proofs.YtjnhalmeddafdaaDoor
open Go Go.Av
def tbTermKit := And.intro (And.intro (And.intro (And.intro @tf3 @tf4) (And.intro @tf5 (And.intro @tf44 @tf9))) (And.intro (And.intro @tf23 (And.intro @tf22 @tf24)) (And.intro @tf26 (And.intro @Term.flat_enc @Term.isv_enc)))) (And.intro (And.intro (And.intro @Term.fold_enc (And.intro @isv_encs @flat_encs)) (And.intro @len_encs (And.intro @ix_encs @ix_encs'))) (And.intro (And.intro @isv_lims (And.intro @flat_lims @len_lims)) (And.intro @ix_lims (And.intro @ix_lims' @flat_limA))))
variable (G : Nat → AV)
mutual
/-- the same -/
def same : Term → Term → Bool
  | .mk k g l s n ks ts, u => decide ((k.toNat : Int) = u.knd) && (g == u.neg) && decide (l = u.limbs) && decide (s = u.text) && decide (n = u.num) && sames ks u.items && sames ts u.tail
def sames : List Term → List Term → Bool
  | [], [] => true
  | a :: l, b :: r => same a b && sames l r
  | _, _ => false
end
theorem same_eq (t u : Term) : same t u = (decide (t.knd = u.knd) && (t.neg == u.neg) && decide (t.limbs = u.limbs) && decide (t.text = u.text) && decide (t.num = u.num) && sames t.items u.items && sames t.tail u.tail) := by
  cases t; rw [same]; rfl
theorem sames_iff_of {l : List Term} (h : ∀ t, t ∈ l → ∀ u, same t u = true ↔ t = u) : ∀ r, sames l r = true ↔ l = r := by
  induction l with
  | nil => intro r; cases r <;> simp [sames]
  | cons a l ih =>
    intro r
    cases r with
    | nil => simp [sames]
    | cons b r => simp only [sames, Bool.and_eq_true, h a (by simp) b, ih (fun t ht => h t (by simp [ht])) r, List.cons.injEq]
theorem same_iff (t : Term) : ∀ u, same t u = true ↔ t = u := by
  refine Term.ind (P := fun t => ∀ u, same t u = true ↔ t = u) (fun t h1 h2 u => ?_) t
  rw [same_eq]
  simp only [Bool.and_eq_true, decide_eq_true_eq, beq_iff_eq, sames_iff_of h1, sames_iff_of h2]
  constructor
  · rintro ⟨⟨⟨⟨⟨⟨h, rfl2⟩, h3⟩, h4⟩, h5⟩, h6⟩, h7⟩
    cases t; cases u
    simp only [Term.knd, Term.kind, Term.neg, Term.limbs, Term.text, Term.num, Term.items, Term.tail] at *
    simp only [Term.mk.injEq]
    exact ⟨UInt8.toNat_inj.1 (by omega), rfl2, h3, h4, h5, h6, h7⟩
  · rintro rfl; simp
theorem sames_iff (l r : List Term) : sames l r = true ↔ l = r := sames_iff_of (fun t _ => same_iff t) r
theorem sames_dec (l r : List Term) (h : l ≠ r) : sames l r = false := by
  cases hs : sames l r with
  | false => rfl
  | true => exact absurd ((sames_iff l r).1 hs) h
theorem samess_pure (l r : List Term) (hl : l.length ≤ 1000000000) (hr : r.length ≤ 1000000000) (hf : ∀ x, x ∈ l → ∀ y, y ∈ r → Pure Tryd.prog G 16 [x.enc, y.enc] (.bool (same x y))) : Pure Tryd.prog G 38 [encs l, encs r] (.bool (sames l r)) := by
  intro σ
  refine Tri.of_awp mixed Tryd.func38 rfl (by kernel_rfl) (by kernel_rfl) (by simp [Tryd.ntmps38]) Tryd.results38 ?_
  repeat' (first
    | with_reducible refine condW_both (fun _ _ => ?_) (fun _ _ => ?_)
    | with_reducible refine gW_both (fun _ _ => ?_) (fun _ _ => ?_)
    | with_reducible refine condW_split (fun _ => ?_) (fun _ => ?_)
    | with_reducible refine gW_split (fun _ => ?_) (fun _ => ?_)
    | with_reducible refine pickW_split (fun _ => ?_) (fun _ => ?_)
    | (refine newW_intro ?_; intro bx hbx; (try simp only [fresh_box, fresh_tip, fresh_ty] at hbx))
    | (refine newT_plain ?_; intro bx hbx; (try simp only [fresh_box, fresh_tip, fresh_ty] at hbx))
    | refine storeX_w ?_
    | ((with_reducible refine And.intro ?_ ?_); omega)
    | refine bo_buildSlice (d' := ⟨⟩) ?_
    | (refine draw_all (by kernel_rfl) ?_)
    | refine finish_pure ?_ (by repeat' (first | exact AS.le.refl _ | assumption | (refine le_set (by first | assumption | (simp only [*]; done) | exact AS.le.fresh (by assumption) (by simp only [*])) ?_) | (refine le_ty (by first | assumption | (simp only [*]; done) | exact AS.le.fresh (by assumption) (by simp only [*])) ?_)))
    | simp -dsimp only [↓bp, bq, br, afin, bsk, cWrites, opsWrites, pieceGh, rsk, ne_eq, if_true, if_false, exists_eq_left', forall_const, forall_eq, Nat.reduceLT, Int.reduceSub, Nat.reduceAdd, Nat.reduceSub, Nat.reduceMul, Nat.reduceLeDiff, Nat.reduceEqDiff, Nat.reduceBEq, Nat.reduceBNe, Int.reduceNeg, Int.reduceAdd, Int.reduceMul, Int.reduceLE, Int.reduceLT, Int.reduceEq, Int.reduceToNat, reduceIte, reduceCtorEq, tbTermKit, *])
  rotate_right
  · skip
    refine loop_keep mixed (fun n e => ∃ i : Nat, i ≤ (l).length ∧ n = (l).length - i ∧ e 5 = .int .i64 i ∧ l.take i = r.take i) (l).length
        ⟨0, by omega, by omega, by simp -dsimp only [↓bp, bq, br, afin, bsk, cWrites, opsWrites, pieceGh, rsk, ne_eq, if_true, if_false, exists_eq_left', forall_const, forall_eq, Nat.reduceLT, Int.reduceSub, Nat.reduceAdd, Nat.reduceSub, Nat.reduceMul, Nat.reduceLeDiff, Nat.reduceEqDiff, Nat.reduceBEq, Nat.reduceBNe, Int.reduceNeg, Int.reduceAdd, Int.reduceMul, Int.reduceLE, Int.reduceLT, Int.reduceEq, Int.reduceToNat, reduceIte, reduceCtorEq, tbTermKit]; first | done | rfl, rfl⟩ ?_
    rintro n v ⟨i, hi, rfl, h5, htk⟩
    simp -dsimp only [↓bp, bq, br, afin, bsk, cWrites, opsWrites, pieceGh, rsk, ne_eq, if_true, if_false, exists_eq_left', forall_const, forall_eq, Nat.reduceLT, Int.reduceSub, Nat.reduceAdd, Nat.reduceSub, Nat.reduceMul, Nat.reduceLeDiff, Nat.reduceEqDiff, Nat.reduceBEq, Nat.reduceBNe, Int.reduceNeg, Int.reduceAdd, Int.reduceMul, Int.reduceLE, Int.reduceLT, Int.reduceEq, Int.reduceToNat, reduceIte, reduceCtorEq, tbTermKit] at h5
    simp -dsimp only [↓bp, bq, br, afin, bsk, cWrites, opsWrites, pieceGh, rsk, ne_eq, if_true, if_false, exists_eq_left', forall_const, forall_eq, Nat.reduceLT, Int.reduceSub, Nat.reduceAdd, Nat.reduceSub, Nat.reduceMul, Nat.reduceLeDiff, Nat.reduceEqDiff, Nat.reduceBEq, Nat.reduceBNe, Int.reduceNeg, Int.reduceAdd, Int.reduceMul, Int.reduceLE, Int.reduceLT, Int.reduceEq, Int.reduceToNat, reduceIte, reduceCtorEq, tbTermKit, h5]
    refine condW_dec (fun hlt => ?_) (fun hge => ?_)
    · obtain ⟨x, hx⟩ : ∃ x, l[i]? = some x := ⟨_, List.getElem?_eq_getElem (by omega)⟩
      obtain ⟨y, hy⟩ : ∃ y, r[i]? = some y := ⟨_, List.getElem?_eq_getElem (by omega)⟩
      have hc := hf x (List.mem_of_getElem? hx) y (List.mem_of_getElem? hy)
      clear hi hlt hf
      repeat' (first
    | with_reducible refine condW_both (fun _ _ => ?_) (fun _ _ => ?_)
    | with_reducible refine gW_both (fun _ _ => ?_) (fun _ _ => ?_)
    | with_reducible refine condW_split (fun _ => ?_) (fun _ => ?_)
    | with_reducible refine gW_split (fun _ => ?_) (fun _ => ?_)
    | with_reducible refine pickW_split (fun _ => ?_) (fun _ => ?_)
    | (refine newW_intro ?_; intro bx hbx; (try simp only [fresh_box, fresh_tip, fresh_ty] at hbx))
    | (refine newT_plain ?_; intro bx hbx; (try simp only [fresh_box, fresh_tip, fresh_ty] at hbx))
    | refine Pure.use (hc) ?_
    | refine Pure.head (hc) ?_
    | refine storeX_w ?_
    | ((with_reducible refine And.intro ?_ ?_); omega)
    | refine bo_buildSlice (d' := ⟨⟩) ?_
    | (refine draw_all (by kernel_rfl) ?_)
    | refine finish_pure ?_ (by repeat' (first | exact AS.le.refl _ | assumption | (refine le_set (by first | assumption | (simp only [*]; done) | exact AS.le.fresh (by assumption) (by simp only [*])) ?_) | (refine le_ty (by first | assumption | (simp only [*]; done) | exact AS.le.fresh (by assumption) (by simp only [*])) ?_)))
    | simp -dsimp only [↓bp, bq, br, afin, bsk, cWrites, opsWrites, pieceGh, rsk, ne_eq, if_true, if_false, exists_eq_left', forall_const, forall_eq, Nat.reduceLT, Int.reduceSub, Nat.reduceAdd, Nat.reduceSub, Nat.reduceMul, Nat.reduceLeDiff, Nat.reduceEqDiff, Nat.reduceBEq, Nat.reduceBNe, Int.reduceNeg, Int.reduceAdd, Int.reduceMul, Int.reduceLE, Int.reduceLT, Int.reduceEq, Int.reduceToNat, reduceIte, reduceCtorEq, tbTermKit, *])
      · have hxy : same x y = true := by assumption
        have hxy : x = y := (same_iff x y).1 hxy
        subst hxy
        have hlt := (List.getElem?_eq_some_iff.1 hx).1
        exact ⟨l.length - (i + 1), by omega, i + 1, by omega, rfl, by rw [wrap_nat (by omega) (by omega)]; rfl, take_next htk hx hy⟩
      · have hxy : same x y = false := by assumption
        have : l ≠ r := fun e => by subst e; rw [hx] at hy; simp only [Option.some.injEq] at hy; subst hy; rw [(same_iff x x).2 rfl] at hxy; cases hxy
        rw [sames_dec _ _ this]
    · have : i = l.length := by omega
      subst this
      have hlr : l = r := take_all (by omega) htk
      clear hi hge hf
      repeat' (first
    | with_reducible refine condW_both (fun _ _ => ?_) (fun _ _ => ?_)
    | with_reducible refine gW_both (fun _ _ => ?_) (fun _ _ => ?_)
    | with_reducible refine condW_split (fun _ => ?_) (fun _ => ?_)
    | with_reducible refine gW_split (fun _ => ?_) (fun _ => ?_)
    | with_reducible refine pickW_split (fun _ => ?_) (fun _ => ?_)
    | (refine newW_intro ?_; intro bx hbx; (try simp only [fresh_box, fresh_tip, fresh_ty] at hbx))
    | (refine newT_plain ?_; intro bx hbx; (try simp only [fresh_box, fresh_tip, fresh_ty] at hbx))
    | refine storeX_w ?_
    | ((with_reducible refine And.intro ?_ ?_); omega)
    | refine bo_buildSlice (d' := ⟨⟩) ?_
    | (refine draw_all (by kernel_rfl) ?_)
    | refine finish_pure ?_ (by repeat' (first | exact AS.le.refl _ | assumption | (refine le_set (by first | assumption | (simp only [*]; done) | exact AS.le.fresh (by assumption) (by simp only [*])) ?_) | (refine le_ty (by first | assumption | (simp only [*]; done) | exact AS.le.fresh (by assumption) (by simp only [*])) ?_)))
    | simp -dsimp only [↓bp, bq, br, afin, bsk, cWrites, opsWrites, pieceGh, rsk, ne_eq, if_true, if_false, exists_eq_left', forall_const, forall_eq, Nat.reduceLT, Int.reduceSub, Nat.reduceAdd, Nat.reduceSub, Nat.reduceMul, Nat.reduceLeDiff, Nat.reduceEqDiff, Nat.reduceBEq, Nat.reduceBNe, Int.reduceNeg, Int.reduceAdd, Int.reduceMul, Int.reduceLE, Int.reduceLT, Int.reduceEq, Int.reduceToNat, reduceIte, reduceCtorEq, tbTermKit, *])
      all_goals (subst hlr; rw [(sames_iff l l).2 rfl])
  · have : l ≠ r := fun e => by subst e; simp_all
    rw [sames_dec _ _ this]
theorem same_pure (t : Term) : ∀ u : Term, t.bulk ≤ 1000000000 → u.bulk ≤ 1000000000 → Pure Tryd.prog G 16 [t.enc, u.enc] (.bool (same t u)) := by
  refine Term.ind (P := fun t => ∀ u : Term, t.bulk ≤ 1000000000 → u.bulk ≤ 1000000000 → Pure Tryd.prog G 16 [t.enc, u.enc] (.bool (same t u))) (fun t ih1 ih2 u ht hu => ?_) t
  have h1 := samess_pure G t.items u.items (by have := len_items t; omega) (by have := len_items u; omega) (fun x hx y hy => ih1 x hx y (by have := bulk_item hx; omega) (by have := bulk_item hy; omega))
  have h2 := samess_pure G t.tail u.tail (by have := len_tail t; omega) (by have := len_tail u; omega) (fun x hx y hy => ih2 x hx y (by have := bulk_tail hx; omega) (by have := bulk_tail hy; omega))
  have h3 := samelims_pure G t.limbs u.limbs (by have := len_limbs t; omega) (by have := len_limbs u; omega)
  clear ih1 ih2 ht hu
  intro σ
  refine Tri.of_awp mixed Tryd.func16 rfl (by kernel_rfl) (by kernel_rfl) (by simp [Tryd.ntmps16]) Tryd.results16 ?_
  repeat' (first
    | with_reducible refine condW_both (fun _ _ => ?_) (fun _ _ => ?_)
    | with_reducible refine gW_both (fun _ _ => ?_) (fun _ _ => ?_)
    | with_reducible refine condW_split (fun _ => ?_) (fun _ => ?_)
    | with_reducible refine gW_split (fun _ => ?_) (fun _ => ?_)
    | with_reducible refine pickW_split (fun _ => ?_) (fun _ => ?_)
    | (refine newW_intro ?_; intro bx hbx; (try simp only [fresh_box, fresh_tip, fresh_ty] at hbx))
    | (refine newT_plain ?_; intro bx hbx; (try simp only [fresh_box, fresh_tip, fresh_ty] at hbx))
    | refine Pure.use (h1) ?_
    | refine Pure.head (h1) ?_
    | refine Pure.use (h2) ?_
    | refine Pure.head (h2) ?_
    | refine Pure.use (h3) ?_
    | refine Pure.head (h3) ?_
    | refine storeX_w ?_
    | ((with_reducible refine And.intro ?_ ?_); omega)
    | refine bo_buildSlice (d' := ⟨⟩) ?_
    | (refine draw_all (by kernel_rfl) ?_)
    | refine finish_pure ?_ (by repeat' (first | exact AS.le.refl _ | assumption | (refine le_set (by first | assumption | (simp only [*]; done) | exact AS.le.fresh (by assumption) (by simp only [*])) ?_) | (refine le_ty (by first | assumption | (simp only [*]; done) | exact AS.le.fresh (by assumption) (by simp only [*])) ?_)))
    | simp -dsimp only [↓bp, bq, br, afin, bsk, cWrites, opsWrites, pieceGh, rsk, ne_eq, if_true, if_false, exists_eq_left', forall_const, forall_eq, Nat.reduceLT, Int.reduceSub, Nat.reduceAdd, Nat.reduceSub, Nat.reduceMul, Nat.reduceLeDiff, Nat.reduceEqDiff, Nat.reduceBEq, Nat.reduceBNe, Int.reduceNeg, Int.reduceAdd, Int.reduceMul, Int.reduceLE, Int.reduceLT, Int.reduceEq, Int.reduceToNat, reduceIte, reduceCtorEq, tbTermKit, *])
  all_goals (first | (simp only [same_eq, *, Bool.and_true, Bool.true_and, Bool.and_false, Bool.false_and, Bool.or_true, Bool.true_or, Bool.or_false, Bool.false_or, Bool.not_true, Bool.not_false, if_true, if_false, Bool.and_self, Bool.or_self]; done) | (simp [same_eq, *]; done) | (simp_all [same_eq]; done))
end Go.Proofs.YtjnhalmeddafdaaDoor
