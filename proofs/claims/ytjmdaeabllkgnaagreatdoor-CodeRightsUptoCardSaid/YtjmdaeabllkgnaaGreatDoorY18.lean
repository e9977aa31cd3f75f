/- Right terms, and their size: the function at some kinds. -/
import Derived.Test.YtjmdaeabllkgnaaGreatDoorY13
import Derived.Test.YtjmdaeabllkgnaaGreatDoorY17
import Derived.Test.YtjmdaeabllkgnaaGreatDoorY15
set_option linter.unusedVariables false
set_option linter.unusedSimpArgs false
set_option maxRecDepth 20000
set_option linter.defProp false
namespace Go.Proofs.YtjmdaeabllkgnaaGreatDoor
open Go Go.Av
section
def tbSizeC := And.intro (And.intro (And.intro (And.intro @tf3 @tf4) (And.intro @tf5 (And.intro @tf169 @tf9))) (And.intro (And.intro @tf56 (And.intro @tf55 @tf24)) (And.intro @tf58 (And.intro @Term.flat_enc @Term.isv_enc)))) (And.intro (And.intro (And.intro @Term.fold_enc (And.intro @isv_encs @flat_encs)) (And.intro @len_encs (And.intro @ix_encs @ix_encs'))) (And.intro (And.intro @isv_lims (And.intro @flat_lims @len_lims)) (And.intro @ix_lims (And.intro @ix_lims' @flat_limA))))
variable (G : Nat -> AV)
set_option maxHeartbeats 4000000 in
theorem size_k5 (t : Term) (hb : t.bulk <= 1000000000) (hk : t.knd = 5) (hit : ∀ x, x ∈ t.items -> Pure Tryz.prog G 81 [x.enc] (.int .i64 (size x))) (htt : ∀ x, x ∈ t.tail -> Pure Tryz.prog G 81 [x.enc] (.int .i64 (size x))) :
  Pure Tryz.prog G 81 [t.enc] (.int .i64 (size t)) := by
 have hli := len_items t
 have hlt := len_tail t
 have hll := len_limbs t
 have hwr := wr_pure G t hb
 have hp0 := bare_pure0 G t
 have hp1 := bare_pure1 G t
 have hp2 := bare_pure2 G t
 have hp3 := bare_pure3 G t
 have hp4 := bare_pure4 G t
 have hse := size_eq t
 have hle := fun x (_ : x ∈ t.items) => size_le x
 have hw1 : IntKind.i64.wrap (1 + (t.limbs.length : Int)) = 1 + t.limbs.length := wrap_nat (by omega) (by omega)
 have hkn := t.knd_nn
 intro σ
 refine Tri.of_awp mixed Tryz.func81 rfl (by kernel_rfl) (by kernel_rfl) (by simp [Tryz.ntmps81]) Tryz.results81 ?_
 simp -dsimp only [↓bp, bq, br, seval, tbSizeC]
 refine newW_intro fun b1 h1 => ?_
 simp -dsimp only [↓bp, bq, br, seval, tbSizeC]
 refine newT_plain fun b3 h3 => ?_
 simp only [fresh_box] at h3
 obtain ⟨h3, h31, h13⟩ := h3
 simp -dsimp only [↓bp, bq, br, seval, tbSizeC]
 refine newT_plain fun b5 h5 => ?_
 simp only [fresh_box] at h5
 obtain ⟨⟨h5, h51, h15⟩, h53, h35⟩ := h5
 have e1 : ¬ t.knd = 1 := by omega
 have e2 : ¬ t.knd = 2 := by omega
 have e3 : ¬ t.knd = 3 := by omega
 have e4 : ¬ t.knd = 4 := by omega
 have e5 : t.knd = 5 := hk
 have e6 : ¬ t.knd = 6 := by omega
 have e7 : ¬ t.knd = 7 := by omega
 have k1 := eq_false e1
 have k2 := eq_false e2
 have k3 := eq_false e3
 have k5 := eq_true e5
 have hhd : head t = (1, 0, bare t false true false false && decide (0 <= t.num) && decide (t.num <= 1099511627776)) := by unfold head; rw [if_neg e2, if_pos (.inr e5)]
 clear hk e1 e2 e3 e5
 cases hbr : bare t false true false false
 ·rw [hbr] at hhd hp1
  simp only [Bool.false_and] at hhd
  repeat' (first | refine xs ?_ ?_ <;> intros | (refine wn ?_; intro bx hbx; try simp only [fb] at hbx) | refine wp hp1 ?_ | refine wj ?_ | simp -dsimp only [↓bp, bq, br, seval, tbSizeC, h53, h35, h51, h15, h31, h13, *] | refine wz ?_ | fail)
  refine Tri.mono (adds_tri G t.items 0 (by omega) (by omega) (by omega) hit _ b5 b3 h53 1 false (by simp -dsimp only [↓bp, bq, br, seval, tbSizeC, h53, h35, h51, h15, h31, h13]) (by simp -dsimp only [↓bp, bq, br, seval, tbSizeC, h53, h35, h51, h15, h31, h13]) (by omega) (fun _ => by omega) (by omega)) ?_
  rintro r σ' rfl
  have ha := adds_le t.items hle 0 (by omega) (by omega) (1, false) (by simp only; omega) (fun _ => by simp only; omega) (by simp only; omega)
  simp -dsimp only [↓bp, bq, br, seval, tbSizeC, h53, h35, h51, h15, h31, h13]
  refine Tri.mono (adds_tri G t.tail 0 (by omega) (by omega) (by omega) htt _ b5 b3 h53 (adds t.items 0 (1, false)).1 (adds t.items 0 (1, false)).2 (by simp -dsimp only [↓bp, bq, br, seval, tbSizeC, h53, h35, h51, h15, h31, h13]) (by simp -dsimp only [↓bp, bq, br, seval, tbSizeC, h53, h35, h51, h15, h31, h13]) ha.1 ha.2.1 ha.2.2) ?_
  rintro r σ' rfl
  simp -dsimp only [↓bp, bq, br, seval, tbSizeC, h53, h35, h51, h15, h31, h13]
  cases hfin : (adds t.tail 0 ((adds t.items 0 (1, false)).1, (adds t.items 0 (1, false)).2)).2
  ·simp -dsimp only [↓bp, bq, br, seval, tbSizeC, h53, h35, h51, h15, h31, h13]
   refine finish_pure ?_ (by repeat' (first | exact AS.le.refl _ | assumption | (refine le_set (by assumption) ?_)))
   rw [hse, hhd]
   simp only [k1, hfin, if_false, Bool.true_and, Bool.false_and, Bool.false_eq_true, if_true]
  ·simp -dsimp only [↓bp, bq, br, seval, tbSizeC, h53, h35, h51, h15, h31, h13]
   refine finish_pure ?_ (by repeat' (first | exact AS.le.refl _ | assumption | (refine le_set (by assumption) ?_)))
   rw [hse, hhd]
   simp only [k1, hfin, if_false, Bool.true_and, Bool.false_and, Bool.false_eq_true, if_true]
 ·rw [hbr] at hhd hp1
  by_cases en : 0 <= t.num
  ·have kn := eq_true en
   clear en
   simp only [kn, decide_true, Bool.and_true, Bool.true_and] at hhd
   repeat' (first | refine xs ?_ ?_ <;> intros | (refine wn ?_; intro bx hbx; try simp only [fb] at hbx) | refine wp hp1 ?_ | refine wj ?_ | simp -dsimp only [↓bp, bq, br, seval, tbSizeC, h53, h35, h51, h15, h31, h13, kn, *] | refine wz ?_ | fail)
   refine Tri.mono (adds_tri G t.items 0 (by omega) (by omega) (by omega) hit _ b5 b3 h53 1 (decide (t.num <= 1099511627776)) (by simp -dsimp only [↓bp, bq, br, seval, tbSizeC, h53, h35, h51, h15, h31, h13]) (by simp -dsimp only [↓bp, bq, br, seval, tbSizeC, h53, h35, h51, h15, h31, h13]) (by omega) (fun _ => by omega) (by omega)) ?_
   rintro r σ' rfl
   have ha := adds_le t.items hle 0 (by omega) (by omega) (1, (decide (t.num <= 1099511627776))) (by simp only; omega) (fun _ => by simp only; omega) (by simp only; omega)
   simp -dsimp only [↓bp, bq, br, seval, tbSizeC, h53, h35, h51, h15, h31, h13]
   refine Tri.mono (adds_tri G t.tail 0 (by omega) (by omega) (by omega) htt _ b5 b3 h53 (adds t.items 0 (1, (decide (t.num <= 1099511627776)))).1 (adds t.items 0 (1, (decide (t.num <= 1099511627776)))).2 (by simp -dsimp only [↓bp, bq, br, seval, tbSizeC, h53, h35, h51, h15, h31, h13]) (by simp -dsimp only [↓bp, bq, br, seval, tbSizeC, h53, h35, h51, h15, h31, h13]) ha.1 ha.2.1 ha.2.2) ?_
   rintro r σ' rfl
   simp -dsimp only [↓bp, bq, br, seval, tbSizeC, h53, h35, h51, h15, h31, h13]
   cases hfin : (adds t.tail 0 ((adds t.items 0 (1, (decide (t.num <= 1099511627776)))).1, (adds t.items 0 (1, (decide (t.num <= 1099511627776)))).2)).2
   ·simp -dsimp only [↓bp, bq, br, seval, tbSizeC, h53, h35, h51, h15, h31, h13]
    refine finish_pure ?_ (by repeat' (first | exact AS.le.refl _ | assumption | (refine le_set (by assumption) ?_)))
    rw [hse, hhd]
    simp only [k1, hfin, if_false, Bool.true_and, Bool.false_and, Bool.false_eq_true, if_true]
   ·simp -dsimp only [↓bp, bq, br, seval, tbSizeC, h53, h35, h51, h15, h31, h13]
    refine finish_pure ?_ (by repeat' (first | exact AS.le.refl _ | assumption | (refine le_set (by assumption) ?_)))
    rw [hse, hhd]
    simp only [k1, hfin, if_false, Bool.true_and, Bool.false_and, Bool.false_eq_true, if_true]
  ·have kn := eq_false en
   clear en
   simp only [kn, decide_false, Bool.and_false, Bool.false_and] at hhd
   repeat' (first | refine xs ?_ ?_ <;> intros | (refine wn ?_; intro bx hbx; try simp only [fb] at hbx) | refine wp hp1 ?_ | refine wj ?_ | simp -dsimp only [↓bp, bq, br, seval, tbSizeC, h53, h35, h51, h15, h31, h13, kn, *] | refine wz ?_ | fail)
   refine Tri.mono (adds_tri G t.items 0 (by omega) (by omega) (by omega) hit _ b5 b3 h53 1 false (by simp -dsimp only [↓bp, bq, br, seval, tbSizeC, h53, h35, h51, h15, h31, h13]) (by simp -dsimp only [↓bp, bq, br, seval, tbSizeC, h53, h35, h51, h15, h31, h13]) (by omega) (fun _ => by omega) (by omega)) ?_
   rintro r σ' rfl
   have ha := adds_le t.items hle 0 (by omega) (by omega) (1, false) (by simp only; omega) (fun _ => by simp only; omega) (by simp only; omega)
   simp -dsimp only [↓bp, bq, br, seval, tbSizeC, h53, h35, h51, h15, h31, h13]
   refine Tri.mono (adds_tri G t.tail 0 (by omega) (by omega) (by omega) htt _ b5 b3 h53 (adds t.items 0 (1, false)).1 (adds t.items 0 (1, false)).2 (by simp -dsimp only [↓bp, bq, br, seval, tbSizeC, h53, h35, h51, h15, h31, h13]) (by simp -dsimp only [↓bp, bq, br, seval, tbSizeC, h53, h35, h51, h15, h31, h13]) ha.1 ha.2.1 ha.2.2) ?_
   rintro r σ' rfl
   simp -dsimp only [↓bp, bq, br, seval, tbSizeC, h53, h35, h51, h15, h31, h13]
   cases hfin : (adds t.tail 0 ((adds t.items 0 (1, false)).1, (adds t.items 0 (1, false)).2)).2
   ·simp -dsimp only [↓bp, bq, br, seval, tbSizeC, h53, h35, h51, h15, h31, h13]
    refine finish_pure ?_ (by repeat' (first | exact AS.le.refl _ | assumption | (refine le_set (by assumption) ?_)))
    rw [hse, hhd]
    simp only [k1, hfin, if_false, Bool.true_and, Bool.false_and, Bool.false_eq_true, if_true]
   ·simp -dsimp only [↓bp, bq, br, seval, tbSizeC, h53, h35, h51, h15, h31, h13]
    refine finish_pure ?_ (by repeat' (first | exact AS.le.refl _ | assumption | (refine le_set (by assumption) ?_)))
    rw [hse, hhd]
    simp only [k1, hfin, if_false, Bool.true_and, Bool.false_and, Bool.false_eq_true, if_true]
end
set_option maxRecDepth 20000
section
def tbSizeD := And.intro (And.intro (And.intro (And.intro @tf3 @tf4) (And.intro @tf5 (And.intro @tf169 @tf9))) (And.intro (And.intro @tf56 (And.intro @tf55 @tf24)) (And.intro @tf58 (And.intro @Term.flat_enc @Term.isv_enc)))) (And.intro (And.intro (And.intro @Term.fold_enc (And.intro @isv_encs @flat_encs)) (And.intro @len_encs (And.intro @ix_encs @ix_encs'))) (And.intro (And.intro @isv_lims (And.intro @flat_lims @len_lims)) (And.intro @ix_lims (And.intro @ix_lims' @flat_limA))))
variable (G : Nat -> AV)
set_option maxHeartbeats 4000000 in
theorem size_k4 (t : Term) (hb : t.bulk <= 1000000000) (hk : t.knd = 4) (hit : ∀ x, x ∈ t.items -> Pure Tryz.prog G 81 [x.enc] (.int .i64 (size x))) (htt : ∀ x, x ∈ t.tail -> Pure Tryz.prog G 81 [x.enc] (.int .i64 (size x))) :
  Pure Tryz.prog G 81 [t.enc] (.int .i64 (size t)) := by
 have hli := len_items t
 have hlt := len_tail t
 have hll := len_limbs t
 have hwr := wr_pure G t hb
 have hp0 := bare_pure0 G t
 have hp1 := bare_pure1 G t
 have hp2 := bare_pure2 G t
 have hp3 := bare_pure3 G t
 have hp4 := bare_pure4 G t
 have hse := size_eq t
 have hle := fun x (_ : x ∈ t.items) => size_le x
 have hw1 : IntKind.i64.wrap (1 + (t.limbs.length : Int)) = 1 + t.limbs.length := wrap_nat (by omega) (by omega)
 have hkn := t.knd_nn
 intro σ
 refine Tri.of_awp mixed Tryz.func81 rfl (by kernel_rfl) (by kernel_rfl) (by simp [Tryz.ntmps81]) Tryz.results81 ?_
 simp -dsimp only [↓bp, bq, br, seval, tbSizeD]
 refine newW_intro fun b1 h1 => ?_
 simp -dsimp only [↓bp, bq, br, seval, tbSizeD]
 refine newT_plain fun b3 h3 => ?_
 simp only [fresh_box] at h3
 obtain ⟨h3, h31, h13⟩ := h3
 simp -dsimp only [↓bp, bq, br, seval, tbSizeD]
 refine newT_plain fun b5 h5 => ?_
 simp only [fresh_box] at h5
 obtain ⟨⟨h5, h51, h15⟩, h53, h35⟩ := h5
 have e1 : ¬ t.knd = 1 := by omega
 have e2 : ¬ t.knd = 2 := by omega
 have e3 : ¬ t.knd = 3 := by omega
 have e4 : t.knd = 4 := hk
 have e5 : ¬ t.knd = 5 := by omega
 have e6 : ¬ t.knd = 6 := by omega
 have e7 : ¬ t.knd = 7 := by omega
 have k1 := eq_false e1
 have k2 := eq_false e2
 have k3 := eq_false e3
 have k5 := eq_false e5
 have k4 := eq_true e4
 have hhd : head t = (2, 0, bare t false true true false && decide (0 <= t.num) && decide (t.num <= 16384)) := by unfold head; rw [if_neg e2, if_neg (by simp [e3, e5]), if_pos e4]
 clear hk e1 e2 e3 e5 e4
 cases hbr : bare t false true true false
 ·rw [hbr] at hhd hp2
  simp only [Bool.false_and] at hhd
  repeat' (first | refine xs ?_ ?_ <;> intros | (refine wn ?_; intro bx hbx; try simp only [fb] at hbx) | (refine draw_float2 14 b3 b5 (z := [.int .i64 1]) (z' := [.bool false]) (by kernel_rfl) (by simp -dsimp only [↓bp, bq, br, seval, tbSizeD, h53, h35, h51, h15, h31, h13]) (by simp -dsimp only [↓bp, bq, br, seval, tbSizeD, h53, h35, h51, h15, h31, h13]) ?_) | refine wp hp2 ?_ | refine wj ?_ | simp -dsimp only [↓bp, bq, br, seval, tbSizeD, h53, h35, h51, h15, h31, h13, *] | refine wz ?_ | fail)
  refine Tri.mono (adds_tri G t.items 0 (by omega) (by omega) (by omega) hit _ b5 b3 h53 2 false (by simp -dsimp only [↓bp, bq, br, seval, tbSizeD, h53, h35, h51, h15, h31, h13]) (by simp -dsimp only [↓bp, bq, br, seval, tbSizeD, h53, h35, h51, h15, h31, h13]) (by omega) (fun _ => by omega) (by omega)) ?_
  rintro r σ' rfl
  have ha := adds_le t.items hle 0 (by omega) (by omega) (2, false) (by simp only; omega) (fun _ => by simp only; omega) (by simp only; omega)
  simp -dsimp only [↓bp, bq, br, seval, tbSizeD, h53, h35, h51, h15, h31, h13]
  refine Tri.mono (adds_tri G t.tail 0 (by omega) (by omega) (by omega) htt _ b5 b3 h53 (adds t.items 0 (2, false)).1 (adds t.items 0 (2, false)).2 (by simp -dsimp only [↓bp, bq, br, seval, tbSizeD, h53, h35, h51, h15, h31, h13]) (by simp -dsimp only [↓bp, bq, br, seval, tbSizeD, h53, h35, h51, h15, h31, h13]) ha.1 ha.2.1 ha.2.2) ?_
  rintro r σ' rfl
  simp -dsimp only [↓bp, bq, br, seval, tbSizeD, h53, h35, h51, h15, h31, h13]
  cases hfin : (adds t.tail 0 ((adds t.items 0 (2, false)).1, (adds t.items 0 (2, false)).2)).2
  ·simp -dsimp only [↓bp, bq, br, seval, tbSizeD, h53, h35, h51, h15, h31, h13]
   refine finish_pure ?_ (by repeat' (first | exact AS.le.refl _ | assumption | (refine le_set (by assumption) ?_)))
   rw [hse, hhd]
   simp only [k1, hfin, if_false, Bool.true_and, Bool.false_and, Bool.false_eq_true, if_true]
  ·simp -dsimp only [↓bp, bq, br, seval, tbSizeD, h53, h35, h51, h15, h31, h13]
   refine finish_pure ?_ (by repeat' (first | exact AS.le.refl _ | assumption | (refine le_set (by assumption) ?_)))
   rw [hse, hhd]
   simp only [k1, hfin, if_false, Bool.true_and, Bool.false_and, Bool.false_eq_true, if_true]
 ·rw [hbr] at hhd hp2
  by_cases en : 0 <= t.num
  ·have kn := eq_true en
   clear en
   simp only [kn, decide_true, Bool.and_true, Bool.true_and] at hhd
   repeat' (first | refine xs ?_ ?_ <;> intros | (refine wn ?_; intro bx hbx; try simp only [fb] at hbx) | (refine draw_float2 14 b3 b5 (z := [.int .i64 1]) (z' := [.bool false]) (by kernel_rfl) (by simp -dsimp only [↓bp, bq, br, seval, tbSizeD, h53, h35, h51, h15, h31, h13]) (by simp -dsimp only [↓bp, bq, br, seval, tbSizeD, h53, h35, h51, h15, h31, h13]) ?_) | refine wp hp2 ?_ | refine wj ?_ | simp -dsimp only [↓bp, bq, br, seval, tbSizeD, h53, h35, h51, h15, h31, h13, kn, *] | refine wz ?_ | fail)
   refine Tri.mono (adds_tri G t.items 0 (by omega) (by omega) (by omega) hit _ b5 b3 h53 2 (decide (t.num <= 16384)) (by simp -dsimp only [↓bp, bq, br, seval, tbSizeD, h53, h35, h51, h15, h31, h13]) (by simp -dsimp only [↓bp, bq, br, seval, tbSizeD, h53, h35, h51, h15, h31, h13]) (by omega) (fun _ => by omega) (by omega)) ?_
   rintro r σ' rfl
   have ha := adds_le t.items hle 0 (by omega) (by omega) (2, (decide (t.num <= 16384))) (by simp only; omega) (fun _ => by simp only; omega) (by simp only; omega)
   simp -dsimp only [↓bp, bq, br, seval, tbSizeD, h53, h35, h51, h15, h31, h13]
   refine Tri.mono (adds_tri G t.tail 0 (by omega) (by omega) (by omega) htt _ b5 b3 h53 (adds t.items 0 (2, (decide (t.num <= 16384)))).1 (adds t.items 0 (2, (decide (t.num <= 16384)))).2 (by simp -dsimp only [↓bp, bq, br, seval, tbSizeD, h53, h35, h51, h15, h31, h13]) (by simp -dsimp only [↓bp, bq, br, seval, tbSizeD, h53, h35, h51, h15, h31, h13]) ha.1 ha.2.1 ha.2.2) ?_
   rintro r σ' rfl
   simp -dsimp only [↓bp, bq, br, seval, tbSizeD, h53, h35, h51, h15, h31, h13]
   cases hfin : (adds t.tail 0 ((adds t.items 0 (2, (decide (t.num <= 16384)))).1, (adds t.items 0 (2, (decide (t.num <= 16384)))).2)).2
   ·simp -dsimp only [↓bp, bq, br, seval, tbSizeD, h53, h35, h51, h15, h31, h13]
    refine finish_pure ?_ (by repeat' (first | exact AS.le.refl _ | assumption | (refine le_set (by assumption) ?_)))
    rw [hse, hhd]
    simp only [k1, hfin, if_false, Bool.true_and, Bool.false_and, Bool.false_eq_true, if_true]
   ·simp -dsimp only [↓bp, bq, br, seval, tbSizeD, h53, h35, h51, h15, h31, h13]
    refine finish_pure ?_ (by repeat' (first | exact AS.le.refl _ | assumption | (refine le_set (by assumption) ?_)))
    rw [hse, hhd]
    simp only [k1, hfin, if_false, Bool.true_and, Bool.false_and, Bool.false_eq_true, if_true]
  ·have kn := eq_false en
   clear en
   simp only [kn, decide_false, Bool.and_false, Bool.false_and] at hhd
   repeat' (first | refine xs ?_ ?_ <;> intros | (refine wn ?_; intro bx hbx; try simp only [fb] at hbx) | (refine draw_float2 14 b3 b5 (z := [.int .i64 1]) (z' := [.bool false]) (by kernel_rfl) (by simp -dsimp only [↓bp, bq, br, seval, tbSizeD, h53, h35, h51, h15, h31, h13]) (by simp -dsimp only [↓bp, bq, br, seval, tbSizeD, h53, h35, h51, h15, h31, h13]) ?_) | refine wp hp2 ?_ | refine wj ?_ | simp -dsimp only [↓bp, bq, br, seval, tbSizeD, h53, h35, h51, h15, h31, h13, kn, *] | refine wz ?_ | fail)
   refine Tri.mono (adds_tri G t.items 0 (by omega) (by omega) (by omega) hit _ b5 b3 h53 2 false (by simp -dsimp only [↓bp, bq, br, seval, tbSizeD, h53, h35, h51, h15, h31, h13]) (by simp -dsimp only [↓bp, bq, br, seval, tbSizeD, h53, h35, h51, h15, h31, h13]) (by omega) (fun _ => by omega) (by omega)) ?_
   rintro r σ' rfl
   have ha := adds_le t.items hle 0 (by omega) (by omega) (2, false) (by simp only; omega) (fun _ => by simp only; omega) (by simp only; omega)
   simp -dsimp only [↓bp, bq, br, seval, tbSizeD, h53, h35, h51, h15, h31, h13]
   refine Tri.mono (adds_tri G t.tail 0 (by omega) (by omega) (by omega) htt _ b5 b3 h53 (adds t.items 0 (2, false)).1 (adds t.items 0 (2, false)).2 (by simp -dsimp only [↓bp, bq, br, seval, tbSizeD, h53, h35, h51, h15, h31, h13]) (by simp -dsimp only [↓bp, bq, br, seval, tbSizeD, h53, h35, h51, h15, h31, h13]) ha.1 ha.2.1 ha.2.2) ?_
   rintro r σ' rfl
   simp -dsimp only [↓bp, bq, br, seval, tbSizeD, h53, h35, h51, h15, h31, h13]
   cases hfin : (adds t.tail 0 ((adds t.items 0 (2, false)).1, (adds t.items 0 (2, false)).2)).2
   ·simp -dsimp only [↓bp, bq, br, seval, tbSizeD, h53, h35, h51, h15, h31, h13]
    refine finish_pure ?_ (by repeat' (first | exact AS.le.refl _ | assumption | (refine le_set (by assumption) ?_)))
    rw [hse, hhd]
    simp only [k1, hfin, if_false, Bool.true_and, Bool.false_and, Bool.false_eq_true, if_true]
   ·simp -dsimp only [↓bp, bq, br, seval, tbSizeD, h53, h35, h51, h15, h31, h13]
    refine finish_pure ?_ (by repeat' (first | exact AS.le.refl _ | assumption | (refine le_set (by assumption) ?_)))
    rw [hse, hhd]
    simp only [k1, hfin, if_false, Bool.true_and, Bool.false_and, Bool.false_eq_true, if_true]
end
set_option maxRecDepth 20000
section
def tbSizeE := And.intro (And.intro (And.intro (And.intro @tf3 @tf4) (And.intro @tf5 (And.intro @tf169 @tf9))) (And.intro (And.intro @tf56 (And.intro @tf55 @tf24)) (And.intro @tf58 (And.intro @Term.flat_enc @Term.isv_enc)))) (And.intro (And.intro (And.intro @Term.fold_enc (And.intro @isv_encs @flat_encs)) (And.intro @len_encs (And.intro @ix_encs @ix_encs'))) (And.intro (And.intro @isv_lims (And.intro @flat_lims @len_lims)) (And.intro @ix_lims (And.intro @ix_lims' @flat_limA))))
variable (G : Nat -> AV)
set_option maxHeartbeats 4000000 in
theorem size_k6 (t : Term) (hb : t.bulk <= 1000000000) (hk : t.knd = 6) (hit : ∀ x, x ∈ t.items -> Pure Tryz.prog G 81 [x.enc] (.int .i64 (size x))) (htt : ∀ x, x ∈ t.tail -> Pure Tryz.prog G 81 [x.enc] (.int .i64 (size x))) :
  Pure Tryz.prog G 81 [t.enc] (.int .i64 (size t)) := by
 have hli := len_items t
 have hlt := len_tail t
 have hll := len_limbs t
 have hwr := wr_pure G t hb
 have hp0 := bare_pure0 G t
 have hp1 := bare_pure1 G t
 have hp2 := bare_pure2 G t
 have hp3 := bare_pure3 G t
 have hp4 := bare_pure4 G t
 have hse := size_eq t
 have hle := fun x (_ : x ∈ t.items) => size_le x
 have hw1 : IntKind.i64.wrap (1 + (t.limbs.length : Int)) = 1 + t.limbs.length := wrap_nat (by omega) (by omega)
 have hkn := t.knd_nn
 intro σ
 refine Tri.of_awp mixed Tryz.func81 rfl (by kernel_rfl) (by kernel_rfl) (by simp [Tryz.ntmps81]) Tryz.results81 ?_
 simp -dsimp only [↓bp, bq, br, seval, tbSizeE]
 refine newW_intro fun b1 h1 => ?_
 simp -dsimp only [↓bp, bq, br, seval, tbSizeE]
 refine newT_plain fun b3 h3 => ?_
 simp only [fresh_box] at h3
 obtain ⟨h3, h31, h13⟩ := h3
 simp -dsimp only [↓bp, bq, br, seval, tbSizeE]
 refine newT_plain fun b5 h5 => ?_
 simp only [fresh_box] at h5
 obtain ⟨⟨h5, h51, h15⟩, h53, h35⟩ := h5
 have e1 : ¬ t.knd = 1 := by omega
 have e2 : ¬ t.knd = 2 := by omega
 have e3 : ¬ t.knd = 3 := by omega
 have e4 : ¬ t.knd = 4 := by omega
 have e5 : ¬ t.knd = 5 := by omega
 have e6 : t.knd = 6 := hk
 have e7 : ¬ t.knd = 7 := by omega
 have k1 := eq_false e1
 have k2 := eq_false e2
 have k3 := eq_false e3
 have k5 := eq_false e5
 have k4 := eq_false e4
 have k6 := eq_true e6
 have hhd : head t = (1, 0, bare t false false true false) := by unfold head; rw [if_neg e2, if_neg (by simp [e3, e5]), if_neg e4, if_pos e6]
 clear hk e1 e2 e3 e5 e4 e6
 cases hbr : bare t false false true false
 ·rw [hbr] at hhd hp3
  repeat' (first | refine xs ?_ ?_ <;> intros | (refine wn ?_; intro bx hbx; try simp only [fb] at hbx) | refine wp hp3 ?_ | refine wj ?_ | simp -dsimp only [↓bp, bq, br, seval, tbSizeE, h53, h35, h51, h15, h31, h13, *] | refine wz ?_ | fail)
  refine Tri.mono (adds_tri G t.items 0 (by omega) (by omega) (by omega) hit _ b5 b3 h53 1 false (by simp -dsimp only [↓bp, bq, br, seval, tbSizeE, h53, h35, h51, h15, h31, h13]) (by simp -dsimp only [↓bp, bq, br, seval, tbSizeE, h53, h35, h51, h15, h31, h13]) (by omega) (fun _ => by omega) (by omega)) ?_
  rintro r σ' rfl
  have ha := adds_le t.items hle 0 (by omega) (by omega) (1, false) (by simp only; omega) (fun _ => by simp only; omega) (by simp only; omega)
  simp -dsimp only [↓bp, bq, br, seval, tbSizeE, h53, h35, h51, h15, h31, h13]
  refine Tri.mono (adds_tri G t.tail 0 (by omega) (by omega) (by omega) htt _ b5 b3 h53 (adds t.items 0 (1, false)).1 (adds t.items 0 (1, false)).2 (by simp -dsimp only [↓bp, bq, br, seval, tbSizeE, h53, h35, h51, h15, h31, h13]) (by simp -dsimp only [↓bp, bq, br, seval, tbSizeE, h53, h35, h51, h15, h31, h13]) ha.1 ha.2.1 ha.2.2) ?_
  rintro r σ' rfl
  simp -dsimp only [↓bp, bq, br, seval, tbSizeE, h53, h35, h51, h15, h31, h13]
  cases hfin : (adds t.tail 0 ((adds t.items 0 (1, false)).1, (adds t.items 0 (1, false)).2)).2
  ·simp -dsimp only [↓bp, bq, br, seval, tbSizeE, h53, h35, h51, h15, h31, h13]
   refine finish_pure ?_ (by repeat' (first | exact AS.le.refl _ | assumption | (refine le_set (by assumption) ?_)))
   rw [hse, hhd]
   simp only [k1, hfin, if_false, Bool.true_and, Bool.false_and, Bool.false_eq_true, if_true]
  ·simp -dsimp only [↓bp, bq, br, seval, tbSizeE, h53, h35, h51, h15, h31, h13]
   refine finish_pure ?_ (by repeat' (first | exact AS.le.refl _ | assumption | (refine le_set (by assumption) ?_)))
   rw [hse, hhd]
   simp only [k1, hfin, if_false, Bool.true_and, Bool.false_and, Bool.false_eq_true, if_true]
 ·rw [hbr] at hhd hp3
  repeat' (first | refine xs ?_ ?_ <;> intros | (refine wn ?_; intro bx hbx; try simp only [fb] at hbx) | refine wp hp3 ?_ | refine wj ?_ | simp -dsimp only [↓bp, bq, br, seval, tbSizeE, h53, h35, h51, h15, h31, h13, *] | refine wz ?_ | fail)
  refine Tri.mono (adds_tri G t.items 0 (by omega) (by omega) (by omega) hit _ b5 b3 h53 1 true (by simp -dsimp only [↓bp, bq, br, seval, tbSizeE, h53, h35, h51, h15, h31, h13]) (by simp -dsimp only [↓bp, bq, br, seval, tbSizeE, h53, h35, h51, h15, h31, h13]) (by omega) (fun _ => by omega) (by omega)) ?_
  rintro r σ' rfl
  have ha := adds_le t.items hle 0 (by omega) (by omega) (1, true) (by simp only; omega) (fun _ => by simp only; omega) (by simp only; omega)
  simp -dsimp only [↓bp, bq, br, seval, tbSizeE, h53, h35, h51, h15, h31, h13]
  refine Tri.mono (adds_tri G t.tail 0 (by omega) (by omega) (by omega) htt _ b5 b3 h53 (adds t.items 0 (1, true)).1 (adds t.items 0 (1, true)).2 (by simp -dsimp only [↓bp, bq, br, seval, tbSizeE, h53, h35, h51, h15, h31, h13]) (by simp -dsimp only [↓bp, bq, br, seval, tbSizeE, h53, h35, h51, h15, h31, h13]) ha.1 ha.2.1 ha.2.2) ?_
  rintro r σ' rfl
  simp -dsimp only [↓bp, bq, br, seval, tbSizeE, h53, h35, h51, h15, h31, h13]
  cases hfin : (adds t.tail 0 ((adds t.items 0 (1, true)).1, (adds t.items 0 (1, true)).2)).2
  ·simp -dsimp only [↓bp, bq, br, seval, tbSizeE, h53, h35, h51, h15, h31, h13]
   refine finish_pure ?_ (by repeat' (first | exact AS.le.refl _ | assumption | (refine le_set (by assumption) ?_)))
   rw [hse, hhd]
   simp only [k1, hfin, if_false, Bool.true_and, Bool.false_and, Bool.false_eq_true, if_true]
  ·simp -dsimp only [↓bp, bq, br, seval, tbSizeE, h53, h35, h51, h15, h31, h13]
   refine finish_pure ?_ (by repeat' (first | exact AS.le.refl _ | assumption | (refine le_set (by assumption) ?_)))
   rw [hse, hhd]
   simp only [k1, hfin, if_false, Bool.true_and, Bool.false_and, Bool.false_eq_true, if_true]
set_option maxHeartbeats 4000000 in
theorem size_k0 (t : Term) (hb : t.bulk <= 1000000000) (hk : ¬ (1 <= t.knd /\ t.knd <= 7)) (hit : ∀ x, x ∈ t.items -> Pure Tryz.prog G 81 [x.enc] (.int .i64 (size x))) (htt : ∀ x, x ∈ t.tail -> Pure Tryz.prog G 81 [x.enc] (.int .i64 (size x))) :
  Pure Tryz.prog G 81 [t.enc] (.int .i64 (size t)) := by
 have hli := len_items t
 have hlt := len_tail t
 have hll := len_limbs t
 have hwr := wr_pure G t hb
 have hp0 := bare_pure0 G t
 have hp1 := bare_pure1 G t
 have hp2 := bare_pure2 G t
 have hp3 := bare_pure3 G t
 have hp4 := bare_pure4 G t
 have hse := size_eq t
 have hle := fun x (_ : x ∈ t.items) => size_le x
 have hw1 : IntKind.i64.wrap (1 + (t.limbs.length : Int)) = 1 + t.limbs.length := wrap_nat (by omega) (by omega)
 have hkn := t.knd_nn
 intro σ
 refine Tri.of_awp mixed Tryz.func81 rfl (by kernel_rfl) (by kernel_rfl) (by simp [Tryz.ntmps81]) Tryz.results81 ?_
 simp -dsimp only [↓bp, bq, br, seval, tbSizeE]
 refine newW_intro fun b1 h1 => ?_
 simp -dsimp only [↓bp, bq, br, seval, tbSizeE]
 refine newT_plain fun b3 h3 => ?_
 simp only [fresh_box] at h3
 obtain ⟨h3, h31, h13⟩ := h3
 simp -dsimp only [↓bp, bq, br, seval, tbSizeE]
 refine newT_plain fun b5 h5 => ?_
 simp only [fresh_box] at h5
 obtain ⟨⟨h5, h51, h15⟩, h53, h35⟩ := h5
 have e1 : ¬ t.knd = 1 := by omega
 have e2 : ¬ t.knd = 2 := by omega
 have e3 : ¬ t.knd = 3 := by omega
 have e4 : ¬ t.knd = 4 := by omega
 have e5 : ¬ t.knd = 5 := by omega
 have e6 : ¬ t.knd = 6 := by omega
 have e7 : ¬ t.knd = 7 := by omega
 have k1 := eq_false e1
 have k2 := eq_false e2
 have k3 := eq_false e3
 have k5 := eq_false e5
 have k4 := eq_false e4
 have k6 := eq_false e6
 have k7 := eq_false e7
 have k7 := eq_false e7
 have hhd : head t = (1, 0, false) := by unfold head; rw [if_neg e2, if_neg (by simp [e3, e5]), if_neg e4, if_neg e6, if_neg e7]
 clear hk e1 e2 e3 e5 e4 e6 e7
 repeat' (first | refine xs ?_ ?_ <;> intros | (refine wn ?_; intro bx hbx; try simp only [fb] at hbx) | refine wj ?_ | simp -dsimp only [↓bp, bq, br, seval, tbSizeE, h53, h35, h51, h15, h31, h13, *] | refine wz ?_ | fail)
 refine Tri.mono (adds_tri G t.items 0 (by omega) (by omega) (by omega) hit _ b5 b3 h53 1 false (by simp -dsimp only [↓bp, bq, br, seval, tbSizeE, h53, h35, h51, h15, h31, h13]) (by simp -dsimp only [↓bp, bq, br, seval, tbSizeE, h53, h35, h51, h15, h31, h13]) (by omega) (fun _ => by omega) (by omega)) ?_
 rintro r σ' rfl
 have ha := adds_le t.items hle 0 (by omega) (by omega) (1, false) (by simp only; omega) (fun _ => by simp only; omega) (by simp only; omega)
 simp -dsimp only [↓bp, bq, br, seval, tbSizeE, h53, h35, h51, h15, h31, h13]
 refine Tri.mono (adds_tri G t.tail 0 (by omega) (by omega) (by omega) htt _ b5 b3 h53 (adds t.items 0 (1, false)).1 (adds t.items 0 (1, false)).2 (by simp -dsimp only [↓bp, bq, br, seval, tbSizeE, h53, h35, h51, h15, h31, h13]) (by simp -dsimp only [↓bp, bq, br, seval, tbSizeE, h53, h35, h51, h15, h31, h13]) ha.1 ha.2.1 ha.2.2) ?_
 rintro r σ' rfl
 simp -dsimp only [↓bp, bq, br, seval, tbSizeE, h53, h35, h51, h15, h31, h13]
 cases hfin : (adds t.tail 0 ((adds t.items 0 (1, false)).1, (adds t.items 0 (1, false)).2)).2
 ·simp -dsimp only [↓bp, bq, br, seval, tbSizeE, h53, h35, h51, h15, h31, h13]
  refine finish_pure ?_ (by repeat' (first | exact AS.le.refl _ | assumption | (refine le_set (by assumption) ?_)))
  rw [hse, hhd]
  simp only [k1, hfin, if_false, Bool.true_and, Bool.false_and, Bool.false_eq_true, if_true]
 ·simp -dsimp only [↓bp, bq, br, seval, tbSizeE, h53, h35, h51, h15, h31, h13]
  refine finish_pure ?_ (by repeat' (first | exact AS.le.refl _ | assumption | (refine le_set (by assumption) ?_)))
  rw [hse, hhd]
  simp only [k1, hfin, if_false, Bool.true_and, Bool.false_and, Bool.false_eq_true, if_true]
end
section
variable (G : Nat -> AV)
theorem size_pure (t : Term) : t.bulk <= 1000000000 -> Pure Tryz.prog G 81 [t.enc] (.int .i64 (size t)) := by
 refine Term.ind (P := fun t => t.bulk <= 1000000000 -> Pure Tryz.prog G 81 [t.enc] (.int .i64 (size t))) (fun t ih1 ih2 hb => ?_) t
 have hit : ∀ x, x ∈ t.items -> Pure Tryz.prog G 81 [x.enc] (.int .i64 (size x)) := fun x hx => ih1 x hx (by have := bulk_item hx; omega)
 have htt : ∀ x, x ∈ t.tail -> Pure Tryz.prog G 81 [x.enc] (.int .i64 (size x)) := fun x hx => ih2 x hx (by have := bulk_tail hx; omega)
 by_cases h7 : t.knd = 7
 ·exact size_list G t hb h7 hit htt
 by_cases h1 : t.knd = 1
 ·exact size_k1 G t hb h1 hit htt
 by_cases h2 : t.knd = 2
 ·exact size_k2 G t hb h2 hit htt
 by_cases h3 : t.knd = 3
 ·exact size_k3 G t hb h3 hit htt
 by_cases h4 : t.knd = 4
 ·exact size_k4 G t hb h4 hit htt
 by_cases h5 : t.knd = 5
 ·exact size_k5 G t hb h5 hit htt
 by_cases h6 : t.knd = 6
 ·exact size_k6 G t hb h6 hit htt
 ·exact size_k0 G t hb (by omega) hit htt
end
set_option maxRecDepth 20000
section
variable (G : Nat -> AV)
end
set_option maxRecDepth 20000
section
variable (G : Nat -> AV)
end
set_option maxRecDepth 20000
section
def tbTermApi := And.intro (And.intro (And.intro (And.intro @tf3 (And.intro @tf4 @tf5)) (And.intro @tf169 (And.intro @tf9 @tf56))) (And.intro (And.intro @tf55 (And.intro @tf24 @tf58)) (And.intro @tf90 (And.intro @Term.flat_enc @Term.isv_enc)))) (And.intro (And.intro (And.intro @Term.fold_enc (And.intro @isv_encs @flat_encs)) (And.intro @len_encs (And.intro @ix_encs @ix_encs'))) (And.intro (And.intro @isv_lims (And.intro @flat_lims @len_lims)) (And.intro @ix_lims (And.intro @ix_lims' @flat_limA))))
variable (G : Nat -> AV)
theorem right_pure (t : Term) (hb : t.bulk <= 1000000000) : Pure Tryz.prog G 46 [t.enc] (.bool (right t)) := by
 have h := size_pure G t hb
 unfold right
 intro σ
 refine Tri.of_awp mixed Tryz.func46 rfl (by kernel_rfl) (by kernel_rfl) (by simp [Tryz.ntmps46]) Tryz.results46 ?_
 repeat' (first | refine xs ?_ ?_ <;> intros | (refine wn ?_; intro bx hbx; try simp only [fb] at hbx) | refine wp h ?_ | refine wj ?_ | simp -dsimp only [↓bp, bq, br, seval, tbTermApi, *] | refine wz ?_ | fail)
 all_goals rfl
end
end Go.Proofs.YtjmdaeabllkgnaaGreatDoor
