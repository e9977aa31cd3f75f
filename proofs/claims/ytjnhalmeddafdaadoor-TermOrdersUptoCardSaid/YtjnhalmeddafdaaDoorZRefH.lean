/- The reference's size, on abstract values: by kinds. -/
import Derived.Test.YtjnhalmeddafdaaDoorZD
import Derived.Test.YtjnhalmeddafdaaDoorZRefC0
set_option linter.unusedVariables false
set_option linter.unusedSimpArgs false
set_option maxRecDepth 20000
set_option linter.defProp false
namespace Go.Proofs.YtjnhalmeddafdaaDoor
open Go Go.Av
def tbRefH := And.intro (And.intro (And.intro (And.intro @tf3 @tf4) (And.intro @tf5 @tf44)) (And.intro (And.intro @tf9 @tf23) (And.intro @tf22 (And.intro @tf24 @tf26)))) (And.intro (And.intro (And.intro @Term.flat_enc @Term.isv_enc) (And.intro @Term.fold_enc @isv_encs)) (And.intro (And.intro @flat_encs @len_encs) (And.intro @isv_lims (And.intro @flat_lims @len_lims))))
/-- said, but not to be used by the walk -/
def Hid (p : Prop) : Prop := p
variable (G : Nat → AV)
theorem rsz_1 (t : Term) (hb : t.bulk ≤ 1000000000) (hk : t.knd = 1) : Pure Tryd.prog G 60 [t.enc] (.int .i64 (rsize t)) := by
  have hr := rright_pure G t hb
  have hl := len_limbs t
  have e : rsize t = if wr t = true then (1 + t.limbs.length : Int) else -1 := by rw [rsize_eq, if_pos hk]
  have hw1 : IntKind.i64.wrap (1 + (t.limbs.length : Int)) = 1 + t.limbs.length := wrap_nat (by omega) (by omega)
  have k1 := eq_true hk
  clear hk
  rw [e]
  clear e
  generalize wr t = W at *
  intro σ
  cases W
  all_goals
    refine Tri.of_awp mixed Tryd.func60 rfl (by kernel_rfl) (by kernel_rfl) (by simp [Tryd.ntmps60]) Tryd.results60 ?_
    repeat' (first
    | with_reducible refine condW_both (fun _ _ => ?_) (fun _ _ => ?_)
    | with_reducible refine gW_both (fun _ _ => ?_) (fun _ _ => ?_)
    | with_reducible refine condW_split (fun _ => ?_) (fun _ => ?_)
    | with_reducible refine gW_split (fun _ => ?_) (fun _ => ?_)
    | with_reducible refine pickW_split (fun _ => ?_) (fun _ => ?_)
    | (refine newW_intro ?_; intro bx hbx; (try simp only [fresh_box, fresh_tip, fresh_ty] at hbx))
    | (refine newT_plain ?_; intro bx hbx; (try simp only [fresh_box, fresh_tip, fresh_ty] at hbx))
    | refine Pure.use (hr) ?_
    | refine Pure.head (hr) ?_
    | refine storeX_w ?_
    | ((with_reducible refine And.intro ?_ ?_); omega)
    | refine bo_buildSlice (d' := ⟨⟩) ?_
    | (refine draw_all (by kernel_rfl) ?_)
    | refine finish_pure ?_ (by repeat' (first | exact AS.le.refl _ | assumption | (refine le_set (by first | assumption | (simp only [*]; done) | exact AS.le.fresh (by assumption) (by simp only [*])) ?_) | (refine le_ty (by first | assumption | (simp only [*]; done) | exact AS.le.fresh (by assumption) (by simp only [*])) ?_)))
    | simp -dsimp only [↓bp, bq, br, afin, bsk, cWrites, opsWrites, pieceGh, rsk, ne_eq, if_true, if_false, exists_eq_left', forall_const, forall_eq, Nat.reduceLT, Int.reduceSub, Nat.reduceAdd, Nat.reduceSub, Nat.reduceMul, Nat.reduceLeDiff, Nat.reduceEqDiff, Nat.reduceBEq, Nat.reduceBNe, Int.reduceNeg, Int.reduceAdd, Int.reduceMul, Int.reduceLE, Int.reduceLT, Int.reduceEq, Int.reduceToNat, reduceIte, reduceCtorEq, tbRefH, if_true, if_false, *])
  all_goals rfl
set_option maxHeartbeats 4000000 in
theorem rsz_2 (t : Term) (hb : t.bulk ≤ 1000000000) (hk : t.knd = 2) : Pure Tryd.prog G 60 [t.enc] (.int .i64 (rsize t)) := by
  have e : Hid _ := rsize_2 hk
  have k1 := eq_false (show ¬ t.knd = 1 by omega)
  have k7 := eq_false (show ¬ t.knd = 7 by omega)
  have k2 := eq_true hk
  clear hk
  generalize rsize t = r at *
  intro σ
  clear hb
  refine Tri.of_awp mixed Tryd.func60 rfl (by kernel_rfl) (by kernel_rfl) (by simp [Tryd.ntmps60]) Tryd.results60 ?_
  repeat' (first
    | with_reducible refine condW_both (fun _ _ => ?_) (fun _ _ => ?_)
    | with_reducible refine gW_both (fun _ _ => ?_) (fun _ _ => ?_)
    | with_reducible refine condW_split (fun _ => ?_) (fun _ => ?_)
    | with_reducible refine gW_split (fun _ => ?_) (fun _ => ?_)
    | with_reducible refine pickW_split (fun _ => ?_) (fun _ => ?_)
    | (refine newW_intro ?_; intro bx hbx; (try simp only [fresh_box, fresh_tip, fresh_ty] at hbx))
    | (refine newT_plain ?_; intro bx hbx; (try simp only [fresh_box, fresh_tip, fresh_ty] at hbx))
    | refine storeX_w ?_
    | ((with_reducible refine And.intro ?_ ?_); omega)
    | refine bo_buildSlice (d' := ⟨⟩) ?_
    | (refine draw_all (by kernel_rfl) ?_)
    | refine finish_pure ?_ (by repeat' (first | exact AS.le.refl _ | assumption | (refine le_set (by first | assumption | (simp only [*]; done) | exact AS.le.fresh (by assumption) (by simp only [*])) ?_) | (refine le_ty (by first | assumption | (simp only [*]; done) | exact AS.le.fresh (by assumption) (by simp only [*])) ?_)))
    | simp -dsimp only [↓bp, bq, br, afin, bsk, cWrites, opsWrites, pieceGh, rsk, ne_eq, if_true, if_false, exists_eq_left', forall_const, forall_eq, Nat.reduceLT, Int.reduceSub, Nat.reduceAdd, Nat.reduceSub, Nat.reduceMul, Nat.reduceLeDiff, Nat.reduceEqDiff, Nat.reduceBEq, Nat.reduceBNe, Int.reduceNeg, Int.reduceAdd, Int.reduceMul, Int.reduceLE, Int.reduceLT, Int.reduceEq, Int.reduceToNat, reduceIte, reduceCtorEq, tbRefH, *])
  all_goals
    unfold Hid at e
    rw [e]
    split
    · rename_i hc
      obtain ⟨c1, c2, c3, c4, c5, c6⟩ := hc
      first | rfl | (exfalso; first | omega | (simp_all; done))
    · rename_i hc
      first | rfl | (exfalso; apply hc; refine ⟨?_, ?_, ?_, ?_, ?_, ?_⟩ <;> first | assumption | omega | (simp_all; done))
end Go.Proofs.YtjnhalmeddafdaaDoor
