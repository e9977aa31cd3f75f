/- The reference's integers: right ones, and their order. -/
import Derived.Test.YtjmdaeabllkgnaaGreatDoorY35
import Derived.Test.YtjmdaeabllkgnaaGreatDoorY16
import Derived.Test.YtjmdaeabllkgnaaGreatDoorY20
set_option linter.unusedVariables false
set_option linter.unusedSimpArgs false
set_option maxRecDepth 20000
set_option linter.defProp false
namespace Go.Proofs.YtjmdaeabllkgnaaGreatDoor
open Go Go.Av
section
def tbRefC0 := And.intro (And.intro (And.intro (And.intro @tf3 (And.intro @tf4 @tf5)) (And.intro (And.intro @tf169 @tf171) (And.intro @tf9 @tf56))) (And.intro (And.intro @tf55 (And.intro @tf24 @tf58)) (And.intro (And.intro @tf244 @tf116) (And.intro @Term.flat_enc @Term.isv_enc)))) (And.intro (And.intro (And.intro @Term.fold_enc (And.intro @isv_encs @flat_encs)) (And.intro (And.intro @len_encs @ix_encs) (And.intro @ix_encs' @isv_lims))) (And.intro (And.intro (And.intro @flat_lims @len_lims) (And.intro @ix_lims @ix_lims')) (And.intro (And.intro @flat_limA @isv_bools) (And.intro @flat_bools @len_bools))))
variable (G : Nat -> AV)
set_option maxHeartbeats 4000000 in
theorem rright_pure (t : Term) (hb : t.bulk <= 1000000000) : Pure Tryz.prog G 150 [t.enc] (.bool (wr t)) := by
 have h1 := len_limbs t
 intro σ
 by_cases hl : (t.limbs.length : Int) = 0
 ·have hl1 : ¬ 0 < (t.limbs.length : Int) := by omega
  have hl2 : ¬ (0 : Int) > 0 := by omega
  have e : wr t = (decide (t.knd = 1) && decide (t.text = []) && decide (t.num = 0) && decide ((t.items.length : Int) = 0) && decide ((t.tail.length : Int) = 0) && !t.neg) := by
   have e0 : decide ((t.items.length : Int) + t.tail.length = 0) = (decide ((t.items.length : Int) = 0) && decide ((t.tail.length : Int) = 0)) := by
    rw [Bool.eq_iff_iff]; simp only [Bool.and_eq_true, decide_eq_true_eq]; omega
   unfold wr
   rw [e0, hl]
   simp only [show decide ((0 : Int) <= 32) = true from rfl, show decide ((0 : Int) = 0) = true from rfl, show decide ((0 : Int) < 0) = false from rfl, Bool.and_true, Bool.true_and, Bool.false_and, Bool.or_false, Bool.and_assoc, decide_true]
  rw [e]
  clear h1 hb e
  refine Tri.of_awp mixed Tryz.func150 rfl (by kernel_rfl) (by kernel_rfl) (by simp [Tryz.ntmps150]) Tryz.results150 ?_
  repeat' (first | refine xs ?_ ?_ <;> intros | (refine wn ?_; intro bx hbx; try simp only [fb] at hbx) | refine wj ?_ | simp -dsimp only [↓bp, bq, br, seval, tbRefC0, limA, *] | refine wz ?_ | fail)
  all_goals (try simp_all)
 ·have hl1 : 0 < (t.limbs.length : Int) := by omega
  have hw2 : IntKind.i64.wrap ((t.limbs.length : Int) - 1) = ((t.limbs.length - 1 : Nat) : Int) := by rw [wrap_nat (by omega) (by omega)]; omega
  obtain ⟨x, hx⟩ : ∃ x, t.limbs[t.limbs.length - 1]? = some x := ⟨_, List.getElem?_eq_getElem (by omega)⟩
  have hlo : lastOk t.limbs = decide ((x.toNat : Int) ≠ 0) := by simp [lastOk, hx]
  have e : wr t = (decide (t.knd = 1) && decide (t.text = []) && decide (t.num = 0) && decide ((t.items.length : Int) = 0) && decide ((t.tail.length : Int) = 0) && decide ((t.limbs.length : Int) <= 32) && decide ((x.toNat : Int) ≠ 0)) := by
   unfold wr
   rw [hlo, Bool.eq_iff_iff]
   simp only [Bool.and_eq_true, decide_eq_true_eq, Bool.or_eq_true, hl, hl1, false_and, false_or, true_and]
   constructor
   ·rintro ⟨⟨⟨⟨⟨a, b⟩, c⟩, d⟩, f⟩, g⟩; exact ⟨⟨⟨⟨⟨⟨a, b⟩, c⟩, by omega⟩, by omega⟩, f⟩, g⟩
   ·rintro ⟨⟨⟨⟨⟨⟨a, b⟩, c⟩, d⟩, d2⟩, f⟩, g⟩; exact ⟨⟨⟨⟨⟨a, b⟩, c⟩, by omega⟩, f⟩, g⟩
  rw [e]
  clear h1 hb e hlo
  refine Tri.of_awp mixed Tryz.func150 rfl (by kernel_rfl) (by kernel_rfl) (by simp [Tryz.ntmps150]) Tryz.results150 ?_
  repeat' (first | refine xs ?_ ?_ <;> intros | (refine wn ?_; intro bx hbx; try simp only [fb] at hbx) | refine wj ?_ | simp -dsimp only [↓bp, bq, br, seval, tbRefC0, limA, *] | refine wz ?_ | fail)
  all_goals (try simp_all)
end
set_option maxRecDepth 20000
section
variable (G : Nat -> AV)
end
section
end
end Go.Proofs.YtjmdaeabllkgnaaGreatDoor
