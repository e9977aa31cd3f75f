/- Code: the document's named: walked. -/
import Derived.Test.YtjmdaeabllkgnaaGreatDoorY46
set_option linter.unusedVariables false
set_option linter.unusedSimpArgs false
set_option maxRecDepth 20000
set_option linter.defProp false
namespace Go.Proofs.YtjmdaeabllkgnaaGreatDoor
open Go Go.Av
def tbRCodN := And.intro (And.intro (And.intro (And.intro @tf3 (And.intro @tf4 @tf5)) (And.intro (And.intro @tf9 @tf124) (And.intro @tf37 @tf39))) (And.intro (And.intro (And.intro @tf23 @tf30) (And.intro @tf53 @tf22)) (And.intro (And.intro @tf26 @tf24) (And.intro @isv_rowOf @flat_rowOf)))) (And.intro (And.intro (And.intro (And.intro @len_rowOf @ix_rowOf) (And.intro @isv_encs @flat_encs)) (And.intro (And.intro @len_encs @Ins.flat_enc) (And.intro @Ins.isv_enc @Ins.fold_enc))) (And.intro (And.intro (And.intro @Ent.flat_enc @Ent.isv_enc) (And.intro @Ent.fold_enc @Cod.flat_enc)) (And.intro (And.intro @Cod.isv_enc @Cod.fold_enc) (And.intro @ares_tmpc @ares_cellc))))
variable (G : Nat -> AV)
theorem nm_const1 {es : List Ent} {is : List Ins} {cs : List Term} {i : Ins} {K : Int} (hK : Pure Tryz.prog G 152 [.str i.text, .int .i64 (i.slots.length : Int)] (.int .i64 K)) (ho : i.opI = 1) : Pure Tryz.prog G 91 [.agg [rowOf Ent.enc es, rowOf Ins.enc is, encs cs], i.enc] (.bool (decide (0 <= i.n) && decide (i.n < (cs.length : Int)))) := by
 by_cases h1 : 0 <= i.n
 ·have h1' := eq_true h1
  rw [decide_eq_true h1, Bool.true_and]
  clear h1
  by_cases h2 : i.n < (cs.length : Int)
  ·have h2' := eq_true h2
   rw [decide_eq_true h2]
   clear h2
   intro σ
   refine Tri.of_awp mixed Tryz.func91 rfl (by kernel_rfl) (by kernel_rfl) (by simp [Tryz.ntmps91]) Tryz.results91 ?_
   repeat' (first | refine xs ?_ ?_ <;> intros | (refine wn ?_; intro bx hbx; try simp only [fb] at hbx) | refine wp hK ?_ | refine wj ?_ | simp -dsimp only [↓bp, bq, br, seval, tbRCodN, *] | refine wz ?_ | fail)
   all_goals rfl
  ·have h2' := eq_false h2
   rw [decide_eq_false h2]
   clear h2
   intro σ
   refine Tri.of_awp mixed Tryz.func91 rfl (by kernel_rfl) (by kernel_rfl) (by simp [Tryz.ntmps91]) Tryz.results91 ?_
   repeat' (first | refine xs ?_ ?_ <;> intros | (refine wn ?_; intro bx hbx; try simp only [fb] at hbx) | refine wp hK ?_ | refine wj ?_ | simp -dsimp only [↓bp, bq, br, seval, tbRCodN, *] | refine wz ?_ | fail)
   all_goals rfl
 ·have h1' := eq_false h1
  rw [decide_eq_false h1, Bool.false_and]
  clear h1
  intro σ
  refine Tri.of_awp mixed Tryz.func91 rfl (by kernel_rfl) (by kernel_rfl) (by simp [Tryz.ntmps91]) Tryz.results91 ?_
  repeat' (first | refine xs ?_ ?_ <;> intros | (refine wn ?_; intro bx hbx; try simp only [fb] at hbx) | refine wp hK ?_ | refine wj ?_ | simp -dsimp only [↓bp, bq, br, seval, tbRCodN, *] | refine wz ?_ | fail)
  all_goals rfl
theorem nm_const15 {es : List Ent} {is : List Ins} {cs : List Term} {i : Ins} {K : Int} (hK : Pure Tryz.prog G 152 [.str i.text, .int .i64 (i.slots.length : Int)] (.int .i64 K)) (ho : i.opI = 15) : Pure Tryz.prog G 91 [.agg [rowOf Ent.enc es, rowOf Ins.enc is, encs cs], i.enc] (.bool (decide (0 <= i.n) && decide (i.n < (cs.length : Int)))) := by
 by_cases h1 : 0 <= i.n
 ·have h1' := eq_true h1
  rw [decide_eq_true h1, Bool.true_and]
  clear h1
  by_cases h2 : i.n < (cs.length : Int)
  ·have h2' := eq_true h2
   rw [decide_eq_true h2]
   clear h2
   intro σ
   refine Tri.of_awp mixed Tryz.func91 rfl (by kernel_rfl) (by kernel_rfl) (by simp [Tryz.ntmps91]) Tryz.results91 ?_
   repeat' (first | refine xs ?_ ?_ <;> intros | (refine wn ?_; intro bx hbx; try simp only [fb] at hbx) | refine wp hK ?_ | refine wj ?_ | simp -dsimp only [↓bp, bq, br, seval, tbRCodN, *] | refine wz ?_ | fail)
   all_goals rfl
  ·have h2' := eq_false h2
   rw [decide_eq_false h2]
   clear h2
   intro σ
   refine Tri.of_awp mixed Tryz.func91 rfl (by kernel_rfl) (by kernel_rfl) (by simp [Tryz.ntmps91]) Tryz.results91 ?_
   repeat' (first | refine xs ?_ ?_ <;> intros | (refine wn ?_; intro bx hbx; try simp only [fb] at hbx) | refine wp hK ?_ | refine wj ?_ | simp -dsimp only [↓bp, bq, br, seval, tbRCodN, *] | refine wz ?_ | fail)
   all_goals rfl
 ·have h1' := eq_false h1
  rw [decide_eq_false h1, Bool.false_and]
  clear h1
  intro σ
  refine Tri.of_awp mixed Tryz.func91 rfl (by kernel_rfl) (by kernel_rfl) (by simp [Tryz.ntmps91]) Tryz.results91 ?_
  repeat' (first | refine xs ?_ ?_ <;> intros | (refine wn ?_; intro bx hbx; try simp only [fb] at hbx) | refine wp hK ?_ | refine wj ?_ | simp -dsimp only [↓bp, bq, br, seval, tbRCodN, *] | refine wz ?_ | fail)
  all_goals rfl
theorem nm_fneg5 {es : List Ent} {is : List Ins} {cs : List Term} {i : Ins} {K : Int} (hK : Pure Tryz.prog G 152 [.str i.text, .int .i64 (i.slots.length : Int)] (.int .i64 K)) (ho : i.opI = 5) (h : i.n < 0) : Pure Tryz.prog G 91 [.agg [rowOf Ent.enc es, rowOf Ins.enc is, encs cs], i.enc] (.bool false) := by
 have h' := eq_true h
 clear h
 intro σ
 refine Tri.of_awp mixed Tryz.func91 rfl (by kernel_rfl) (by kernel_rfl) (by simp [Tryz.ntmps91]) Tryz.results91 ?_
 repeat' (first | refine xs ?_ ?_ <;> intros | (refine wn ?_; intro bx hbx; try simp only [fb] at hbx) | refine wp hK ?_ | refine wj ?_ | simp -dsimp only [↓bp, bq, br, seval, tbRCodN, *] | refine wz ?_ | fail)
 all_goals rfl
theorem nm_fbig5 {es : List Ent} {is : List Ins} {cs : List Term} {i : Ins} {K : Int} (hK : Pure Tryz.prog G 152 [.str i.text, .int .i64 (i.slots.length : Int)] (.int .i64 K)) (ho : i.opI = 5) (h : ¬ i.n < 0) (h2 : (es.length : Int) <= i.n) : Pure Tryz.prog G 91 [.agg [rowOf Ent.enc es, rowOf Ins.enc is, encs cs], i.enc] (.bool false) := by
 have h' := eq_false h
 have h2' := eq_true h2
 clear h h2
 intro σ
 refine Tri.of_awp mixed Tryz.func91 rfl (by kernel_rfl) (by kernel_rfl) (by simp [Tryz.ntmps91]) Tryz.results91 ?_
 repeat' (first | refine xs ?_ ?_ <;> intros | (refine wn ?_; intro bx hbx; try simp only [fb] at hbx) | refine wp hK ?_ | refine wj ?_ | simp -dsimp only [↓bp, bq, br, seval, tbRCodN, *] | refine wz ?_ | fail)
 all_goals rfl
theorem nm_fun5 {es : List Ent} {is : List Ins} {cs : List Term} {i : Ins} {K : Int} (hK : Pure Tryz.prog G 152 [.str i.text, .int .i64 (i.slots.length : Int)] (.int .i64 K)) {p : Nat} {e : Ent} (ho : i.opI = 5) (hn : i.n = (p : Int)) (he : es[p]? = some e) : Pure Tryz.prog G 91 [.agg [rowOf Ent.enc es, rowOf Ins.enc is, encs cs], i.enc] (.bool (decide ((i.slots.length : Int) = e.extra))) := by
 have hlt := (List.getElem?_eq_some_iff.1 he).1
 have h1' : ((p : Int) < 0) = False := eq_false (by omega)
 have h2' : ((es.length : Int) <= p) = False := eq_false (by omega)
 by_cases h3 : (i.slots.length : Int) = e.extra
 ·have h3' := eq_true h3
  rw [decide_eq_true h3]
  clear h3
  intro σ
  refine Tri.of_awp mixed Tryz.func91 rfl (by kernel_rfl) (by kernel_rfl) (by simp [Tryz.ntmps91]) Tryz.results91 ?_
  repeat' (first | refine xs ?_ ?_ <;> intros | (refine wn ?_; intro bx hbx; try simp only [fb] at hbx) | refine wp hK ?_ | refine wj ?_ | simp -dsimp only [↓bp, bq, br, seval, tbRCodN, *] | refine wz ?_ | fail)
  all_goals rfl
 ·have h3' := eq_false h3
  rw [decide_eq_false h3]
  clear h3
  intro σ
  refine Tri.of_awp mixed Tryz.func91 rfl (by kernel_rfl) (by kernel_rfl) (by simp [Tryz.ntmps91]) Tryz.results91 ?_
  repeat' (first | refine xs ?_ ?_ <;> intros | (refine wn ?_; intro bx hbx; try simp only [fb] at hbx) | refine wp hK ?_ | refine wj ?_ | simp -dsimp only [↓bp, bq, br, seval, tbRCodN, *] | refine wz ?_ | fail)
  all_goals rfl
theorem nm_fneg6 {es : List Ent} {is : List Ins} {cs : List Term} {i : Ins} {K : Int} (hK : Pure Tryz.prog G 152 [.str i.text, .int .i64 (i.slots.length : Int)] (.int .i64 K)) (ho : i.opI = 6) (h : i.n < 0) : Pure Tryz.prog G 91 [.agg [rowOf Ent.enc es, rowOf Ins.enc is, encs cs], i.enc] (.bool false) := by
 have h' := eq_true h
 clear h
 intro σ
 refine Tri.of_awp mixed Tryz.func91 rfl (by kernel_rfl) (by kernel_rfl) (by simp [Tryz.ntmps91]) Tryz.results91 ?_
 repeat' (first | refine xs ?_ ?_ <;> intros | (refine wn ?_; intro bx hbx; try simp only [fb] at hbx) | refine wp hK ?_ | refine wj ?_ | simp -dsimp only [↓bp, bq, br, seval, tbRCodN, *] | refine wz ?_ | fail)
 all_goals rfl
theorem nm_fbig6 {es : List Ent} {is : List Ins} {cs : List Term} {i : Ins} {K : Int} (hK : Pure Tryz.prog G 152 [.str i.text, .int .i64 (i.slots.length : Int)] (.int .i64 K)) (ho : i.opI = 6) (h : ¬ i.n < 0) (h2 : (es.length : Int) <= i.n) : Pure Tryz.prog G 91 [.agg [rowOf Ent.enc es, rowOf Ins.enc is, encs cs], i.enc] (.bool false) := by
 have h' := eq_false h
 have h2' := eq_true h2
 clear h h2
 intro σ
 refine Tri.of_awp mixed Tryz.func91 rfl (by kernel_rfl) (by kernel_rfl) (by simp [Tryz.ntmps91]) Tryz.results91 ?_
 repeat' (first | refine xs ?_ ?_ <;> intros | (refine wn ?_; intro bx hbx; try simp only [fb] at hbx) | refine wp hK ?_ | refine wj ?_ | simp -dsimp only [↓bp, bq, br, seval, tbRCodN, *] | refine wz ?_ | fail)
 all_goals rfl
theorem nm_fun6 {es : List Ent} {is : List Ins} {cs : List Term} {i : Ins} {K : Int} (hK : Pure Tryz.prog G 152 [.str i.text, .int .i64 (i.slots.length : Int)] (.int .i64 K)) {p : Nat} {e : Ent} (ho : i.opI = 6) (hn : i.n = (p : Int)) (he : es[p]? = some e) : Pure Tryz.prog G 91 [.agg [rowOf Ent.enc es, rowOf Ins.enc is, encs cs], i.enc] (.bool (decide (e.extra = 0) && decide ((i.slots.length : Int) = e.arity))) := by
 have hlt := (List.getElem?_eq_some_iff.1 he).1
 have h1' : ((p : Int) < 0) = False := eq_false (by omega)
 have h2' : ((es.length : Int) <= p) = False := eq_false (by omega)
 by_cases h3 : e.extra = 0
 ·have h3' := eq_true h3
  rw [decide_eq_true h3, Bool.true_and]
  clear h3
  by_cases h4 : (i.slots.length : Int) = e.arity
  ·have h4' := eq_true h4
   rw [decide_eq_true h4]
   clear h4
   intro σ
   refine Tri.of_awp mixed Tryz.func91 rfl (by kernel_rfl) (by kernel_rfl) (by simp [Tryz.ntmps91]) Tryz.results91 ?_
   repeat' (first | refine xs ?_ ?_ <;> intros | (refine wn ?_; intro bx hbx; try simp only [fb] at hbx) | refine wp hK ?_ | refine wj ?_ | simp -dsimp only [↓bp, bq, br, seval, tbRCodN, *] | refine wz ?_ | fail)
   all_goals rfl
  ·have h4' := eq_false h4
   rw [decide_eq_false h4]
   clear h4
   intro σ
   refine Tri.of_awp mixed Tryz.func91 rfl (by kernel_rfl) (by kernel_rfl) (by simp [Tryz.ntmps91]) Tryz.results91 ?_
   repeat' (first | refine xs ?_ ?_ <;> intros | (refine wn ?_; intro bx hbx; try simp only [fb] at hbx) | refine wp hK ?_ | refine wj ?_ | simp -dsimp only [↓bp, bq, br, seval, tbRCodN, *] | refine wz ?_ | fail)
   all_goals rfl
 ·have h3' := eq_false h3
  rw [decide_eq_false h3, Bool.false_and]
  clear h3
  intro σ
  refine Tri.of_awp mixed Tryz.func91 rfl (by kernel_rfl) (by kernel_rfl) (by simp [Tryz.ntmps91]) Tryz.results91 ?_
  repeat' (first | refine xs ?_ ?_ <;> intros | (refine wn ?_; intro bx hbx; try simp only [fb] at hbx) | refine wp hK ?_ | refine wj ?_ | simp -dsimp only [↓bp, bq, br, seval, tbRCodN, *] | refine wz ?_ | fail)
  all_goals rfl
theorem nm_fneg7 {es : List Ent} {is : List Ins} {cs : List Term} {i : Ins} {K : Int} (hK : Pure Tryz.prog G 152 [.str i.text, .int .i64 (i.slots.length : Int)] (.int .i64 K)) (ho : i.opI = 7) (h : i.n < 0) : Pure Tryz.prog G 91 [.agg [rowOf Ent.enc es, rowOf Ins.enc is, encs cs], i.enc] (.bool false) := by
 have h' := eq_true h
 clear h
 intro σ
 refine Tri.of_awp mixed Tryz.func91 rfl (by kernel_rfl) (by kernel_rfl) (by simp [Tryz.ntmps91]) Tryz.results91 ?_
 repeat' (first | refine xs ?_ ?_ <;> intros | (refine wn ?_; intro bx hbx; try simp only [fb] at hbx) | refine wp hK ?_ | refine wj ?_ | simp -dsimp only [↓bp, bq, br, seval, tbRCodN, *] | refine wz ?_ | fail)
 all_goals rfl
theorem nm_fbig7 {es : List Ent} {is : List Ins} {cs : List Term} {i : Ins} {K : Int} (hK : Pure Tryz.prog G 152 [.str i.text, .int .i64 (i.slots.length : Int)] (.int .i64 K)) (ho : i.opI = 7) (h : ¬ i.n < 0) (h2 : (es.length : Int) <= i.n) : Pure Tryz.prog G 91 [.agg [rowOf Ent.enc es, rowOf Ins.enc is, encs cs], i.enc] (.bool false) := by
 have h' := eq_false h
 have h2' := eq_true h2
 clear h h2
 intro σ
 refine Tri.of_awp mixed Tryz.func91 rfl (by kernel_rfl) (by kernel_rfl) (by simp [Tryz.ntmps91]) Tryz.results91 ?_
 repeat' (first | refine xs ?_ ?_ <;> intros | (refine wn ?_; intro bx hbx; try simp only [fb] at hbx) | refine wp hK ?_ | refine wj ?_ | simp -dsimp only [↓bp, bq, br, seval, tbRCodN, *] | refine wz ?_ | fail)
 all_goals rfl
theorem nm_fun7 {es : List Ent} {is : List Ins} {cs : List Term} {i : Ins} {K : Int} (hK : Pure Tryz.prog G 152 [.str i.text, .int .i64 (i.slots.length : Int)] (.int .i64 K)) {p : Nat} {e : Ent} (ho : i.opI = 7) (hn : i.n = (p : Int)) (he : es[p]? = some e) : Pure Tryz.prog G 91 [.agg [rowOf Ent.enc es, rowOf Ins.enc is, encs cs], i.enc] (.bool (decide (e.extra = 0) && decide ((i.slots.length : Int) = e.arity))) := by
 have hlt := (List.getElem?_eq_some_iff.1 he).1
 have h1' : ((p : Int) < 0) = False := eq_false (by omega)
 have h2' : ((es.length : Int) <= p) = False := eq_false (by omega)
 by_cases h3 : e.extra = 0
 ·have h3' := eq_true h3
  rw [decide_eq_true h3, Bool.true_and]
  clear h3
  by_cases h4 : (i.slots.length : Int) = e.arity
  ·have h4' := eq_true h4
   rw [decide_eq_true h4]
   clear h4
   intro σ
   refine Tri.of_awp mixed Tryz.func91 rfl (by kernel_rfl) (by kernel_rfl) (by simp [Tryz.ntmps91]) Tryz.results91 ?_
   repeat' (first | refine xs ?_ ?_ <;> intros | (refine wn ?_; intro bx hbx; try simp only [fb] at hbx) | refine wp hK ?_ | refine wj ?_ | simp -dsimp only [↓bp, bq, br, seval, tbRCodN, *] | refine wz ?_ | fail)
   all_goals rfl
  ·have h4' := eq_false h4
   rw [decide_eq_false h4]
   clear h4
   intro σ
   refine Tri.of_awp mixed Tryz.func91 rfl (by kernel_rfl) (by kernel_rfl) (by simp [Tryz.ntmps91]) Tryz.results91 ?_
   repeat' (first | refine xs ?_ ?_ <;> intros | (refine wn ?_; intro bx hbx; try simp only [fb] at hbx) | refine wp hK ?_ | refine wj ?_ | simp -dsimp only [↓bp, bq, br, seval, tbRCodN, *] | refine wz ?_ | fail)
   all_goals rfl
 ·have h3' := eq_false h3
  rw [decide_eq_false h3, Bool.false_and]
  clear h3
  intro σ
  refine Tri.of_awp mixed Tryz.func91 rfl (by kernel_rfl) (by kernel_rfl) (by simp [Tryz.ntmps91]) Tryz.results91 ?_
  repeat' (first | refine xs ?_ ?_ <;> intros | (refine wn ?_; intro bx hbx; try simp only [fb] at hbx) | refine wp hK ?_ | refine wj ?_ | simp -dsimp only [↓bp, bq, br, seval, tbRCodN, *] | refine wz ?_ | fail)
  all_goals rfl
theorem nm_bif {es : List Ent} {is : List Ins} {cs : List Term} {i : Ins} {K : Int} (hK : Pure Tryz.prog G 152 [.str i.text, .int .i64 (i.slots.length : Int)] (.int .i64 K)) (ho : i.opI = 10) : Pure Tryz.prog G 91 [.agg [rowOf Ent.enc es, rowOf Ins.enc is, encs cs], i.enc] (.bool (decide (¬ K = 0))) := by
 by_cases h : K = 0
 ·have h' := eq_true h
  rw [decide_eq_false (by simpa using h)]
  clear h
  intro σ
  refine Tri.of_awp mixed Tryz.func91 rfl (by kernel_rfl) (by kernel_rfl) (by simp [Tryz.ntmps91]) Tryz.results91 ?_
  repeat' (first | refine xs ?_ ?_ <;> intros | (refine wn ?_; intro bx hbx; try simp only [fb] at hbx) | refine wp hK ?_ | refine wj ?_ | simp -dsimp only [↓bp, bq, br, seval, tbRCodN, *] | refine wz ?_ | fail)
  all_goals rfl
 ·have h' := eq_false h
  rw [decide_eq_true h]
  clear h
  intro σ
  refine Tri.of_awp mixed Tryz.func91 rfl (by kernel_rfl) (by kernel_rfl) (by simp [Tryz.ntmps91]) Tryz.results91 ?_
  repeat' (first | refine xs ?_ ?_ <;> intros | (refine wn ?_; intro bx hbx; try simp only [fb] at hbx) | refine wp hK ?_ | refine wj ?_ | simp -dsimp only [↓bp, bq, br, seval, tbRCodN, *] | refine wz ?_ | fail)
  all_goals rfl
theorem nm_guard {es : List Ent} {is : List Ins} {cs : List Term} {i : Ins} {K : Int} (hK : Pure Tryz.prog G 152 [.str i.text, .int .i64 (i.slots.length : Int)] (.int .i64 K)) (ho : i.opI = 20) : Pure Tryz.prog G 91 [.agg [rowOf Ent.enc es, rowOf Ins.enc is, encs cs], i.enc] (.bool (decide (K = 2) || decide (i.text = [123, 125]) || (decide (i.text = [124]) && decide ((i.slots.length : Int) = 2)))) := by
 by_cases h1 : K = 2
 ·have h1' := eq_true h1
  rw [decide_eq_true h1, Bool.true_or, Bool.true_or]
  clear h1
  intro σ
  refine Tri.of_awp mixed Tryz.func91 rfl (by kernel_rfl) (by kernel_rfl) (by simp [Tryz.ntmps91]) Tryz.results91 ?_
  repeat' (first | refine xs ?_ ?_ <;> intros | (refine wn ?_; intro bx hbx; try simp only [fb] at hbx) | refine wp hK ?_ | refine wj ?_ | simp -dsimp only [↓bp, bq, br, seval, tbRCodN, *] | refine wz ?_ | fail)
  all_goals rfl
 have h1' := eq_false h1
 rw [decide_eq_false h1, Bool.false_or]
 clear h1
 by_cases h2 : i.text = [123, 125]
 ·have h2' := eq_true h2
  rw [decide_eq_true h2, Bool.true_or]
  clear h2
  intro σ
  refine Tri.of_awp mixed Tryz.func91 rfl (by kernel_rfl) (by kernel_rfl) (by simp [Tryz.ntmps91]) Tryz.results91 ?_
  repeat' (first | refine xs ?_ ?_ <;> intros | (refine wn ?_; intro bx hbx; try simp only [fb] at hbx) | refine wp hK ?_ | refine wj ?_ | simp -dsimp only [↓bp, bq, br, seval, tbRCodN, *] | refine wz ?_ | fail)
  all_goals rfl
 have h2' := eq_false h2
 rw [decide_eq_false h2, Bool.false_or]
 clear h2
 by_cases h3 : i.text = [124]
 ·have h3' := eq_true h3
  rw [decide_eq_true h3, Bool.true_and]
  clear h3
  by_cases h4 : (i.slots.length : Int) = 2
  ·have h4' := eq_true h4
   rw [decide_eq_true h4]
   clear h4
   intro σ
   refine Tri.of_awp mixed Tryz.func91 rfl (by kernel_rfl) (by kernel_rfl) (by simp [Tryz.ntmps91]) Tryz.results91 ?_
   repeat' (first | refine xs ?_ ?_ <;> intros | (refine wn ?_; intro bx hbx; try simp only [fb] at hbx) | refine wp hK ?_ | refine wj ?_ | simp -dsimp only [↓bp, bq, br, seval, tbRCodN, *] | refine wz ?_ | fail)
   all_goals rfl
  ·have h4' := eq_false h4
   rw [decide_eq_false h4]
   clear h4
   intro σ
   refine Tri.of_awp mixed Tryz.func91 rfl (by kernel_rfl) (by kernel_rfl) (by simp [Tryz.ntmps91]) Tryz.results91 ?_
   repeat' (first | refine xs ?_ ?_ <;> intros | (refine wn ?_; intro bx hbx; try simp only [fb] at hbx) | refine wp hK ?_ | refine wj ?_ | simp -dsimp only [↓bp, bq, br, seval, tbRCodN, *] | refine wz ?_ | fail)
   all_goals rfl
 ·have h3' := eq_false h3
  rw [decide_eq_false h3, Bool.false_and]
  clear h3
  intro σ
  refine Tri.of_awp mixed Tryz.func91 rfl (by kernel_rfl) (by kernel_rfl) (by simp [Tryz.ntmps91]) Tryz.results91 ?_
  repeat' (first | refine xs ?_ ?_ <;> intros | (refine wn ?_; intro bx hbx; try simp only [fb] at hbx) | refine wp hK ?_ | refine wj ?_ | simp -dsimp only [↓bp, bq, br, seval, tbRCodN, *] | refine wz ?_ | fail)
  all_goals rfl
theorem nm_num13 {es : List Ent} {is : List Ins} {cs : List Term} {i : Ins} {K : Int} (hK : Pure Tryz.prog G 152 [.str i.text, .int .i64 (i.slots.length : Int)] (.int .i64 K)) (ho : i.opI = 13) : Pure Tryz.prog G 91 [.agg [rowOf Ent.enc es, rowOf Ins.enc is, encs cs], i.enc] (.bool (decide (0 <= i.n) && decide (i.n <= 4096))) := by
 by_cases h1 : 0 <= i.n
 ·have h1' := eq_true h1
  rw [decide_eq_true h1, Bool.true_and]
  clear h1
  by_cases h2 : i.n <= 4096
  ·have h2' := eq_true h2
   rw [decide_eq_true h2]
   clear h2
   intro σ
   refine Tri.of_awp mixed Tryz.func91 rfl (by kernel_rfl) (by kernel_rfl) (by simp [Tryz.ntmps91]) Tryz.results91 ?_
   repeat' (first | refine xs ?_ ?_ <;> intros | (refine wn ?_; intro bx hbx; try simp only [fb] at hbx) | refine wp hK ?_ | refine wj ?_ | simp -dsimp only [↓bp, bq, br, seval, tbRCodN, *] | refine wz ?_ | fail)
   all_goals rfl
  ·have h2' := eq_false h2
   rw [decide_eq_false h2]
   clear h2
   intro σ
   refine Tri.of_awp mixed Tryz.func91 rfl (by kernel_rfl) (by kernel_rfl) (by simp [Tryz.ntmps91]) Tryz.results91 ?_
   repeat' (first | refine xs ?_ ?_ <;> intros | (refine wn ?_; intro bx hbx; try simp only [fb] at hbx) | refine wp hK ?_ | refine wj ?_ | simp -dsimp only [↓bp, bq, br, seval, tbRCodN, *] | refine wz ?_ | fail)
   all_goals rfl
 ·have h1' := eq_false h1
  rw [decide_eq_false h1, Bool.false_and]
  clear h1
  intro σ
  refine Tri.of_awp mixed Tryz.func91 rfl (by kernel_rfl) (by kernel_rfl) (by simp [Tryz.ntmps91]) Tryz.results91 ?_
  repeat' (first | refine xs ?_ ?_ <;> intros | (refine wn ?_; intro bx hbx; try simp only [fb] at hbx) | refine wp hK ?_ | refine wj ?_ | simp -dsimp only [↓bp, bq, br, seval, tbRCodN, *] | refine wz ?_ | fail)
  all_goals rfl
theorem nm_num17 {es : List Ent} {is : List Ins} {cs : List Term} {i : Ins} {K : Int} (hK : Pure Tryz.prog G 152 [.str i.text, .int .i64 (i.slots.length : Int)] (.int .i64 K)) (ho : i.opI = 17) : Pure Tryz.prog G 91 [.agg [rowOf Ent.enc es, rowOf Ins.enc is, encs cs], i.enc] (.bool (decide (0 <= i.n) && decide (i.n < 4096))) := by
 by_cases h1 : 0 <= i.n
 ·have h1' := eq_true h1
  rw [decide_eq_true h1, Bool.true_and]
  clear h1
  by_cases h2 : i.n < 4096
  ·have h2' := eq_true h2
   rw [decide_eq_true h2]
   clear h2
   intro σ
   refine Tri.of_awp mixed Tryz.func91 rfl (by kernel_rfl) (by kernel_rfl) (by simp [Tryz.ntmps91]) Tryz.results91 ?_
   repeat' (first | refine xs ?_ ?_ <;> intros | (refine wn ?_; intro bx hbx; try simp only [fb] at hbx) | refine wp hK ?_ | refine wj ?_ | simp -dsimp only [↓bp, bq, br, seval, tbRCodN, *] | refine wz ?_ | fail)
   all_goals rfl
  ·have h2' := eq_false h2
   rw [decide_eq_false h2]
   clear h2
   intro σ
   refine Tri.of_awp mixed Tryz.func91 rfl (by kernel_rfl) (by kernel_rfl) (by simp [Tryz.ntmps91]) Tryz.results91 ?_
   repeat' (first | refine xs ?_ ?_ <;> intros | (refine wn ?_; intro bx hbx; try simp only [fb] at hbx) | refine wp hK ?_ | refine wj ?_ | simp -dsimp only [↓bp, bq, br, seval, tbRCodN, *] | refine wz ?_ | fail)
   all_goals rfl
 ·have h1' := eq_false h1
  rw [decide_eq_false h1, Bool.false_and]
  clear h1
  intro σ
  refine Tri.of_awp mixed Tryz.func91 rfl (by kernel_rfl) (by kernel_rfl) (by simp [Tryz.ntmps91]) Tryz.results91 ?_
  repeat' (first | refine xs ?_ ?_ <;> intros | (refine wn ?_; intro bx hbx; try simp only [fb] at hbx) | refine wp hK ?_ | refine wj ?_ | simp -dsimp only [↓bp, bq, br, seval, tbRCodN, *] | refine wz ?_ | fail)
  all_goals rfl
theorem nm_num21 {es : List Ent} {is : List Ins} {cs : List Term} {i : Ins} {K : Int} (hK : Pure Tryz.prog G 152 [.str i.text, .int .i64 (i.slots.length : Int)] (.int .i64 K)) (ho : i.opI = 21) : Pure Tryz.prog G 91 [.agg [rowOf Ent.enc es, rowOf Ins.enc is, encs cs], i.enc] (.bool (decide (i.n = 0) || decide (i.n = 1))) := by
 by_cases h1 : i.n = 0
 ·have h1' := eq_true h1
  rw [decide_eq_true h1, Bool.true_or]
  clear h1
  intro σ
  refine Tri.of_awp mixed Tryz.func91 rfl (by kernel_rfl) (by kernel_rfl) (by simp [Tryz.ntmps91]) Tryz.results91 ?_
  repeat' (first | refine xs ?_ ?_ <;> intros | (refine wn ?_; intro bx hbx; try simp only [fb] at hbx) | refine wp hK ?_ | refine wj ?_ | simp -dsimp only [↓bp, bq, br, seval, tbRCodN, *] | refine wz ?_ | fail)
  all_goals rfl
 ·have h1' := eq_false h1
  rw [decide_eq_false h1, Bool.false_or]
  clear h1
  by_cases h2 : i.n = 1
  ·have h2' := eq_true h2
   rw [decide_eq_true h2]
   clear h2
   intro σ
   refine Tri.of_awp mixed Tryz.func91 rfl (by kernel_rfl) (by kernel_rfl) (by simp [Tryz.ntmps91]) Tryz.results91 ?_
   repeat' (first | refine xs ?_ ?_ <;> intros | (refine wn ?_; intro bx hbx; try simp only [fb] at hbx) | refine wp hK ?_ | refine wj ?_ | simp -dsimp only [↓bp, bq, br, seval, tbRCodN, *] | refine wz ?_ | fail)
   all_goals rfl
  ·have h2' := eq_false h2
   rw [decide_eq_false h2]
   clear h2
   intro σ
   refine Tri.of_awp mixed Tryz.func91 rfl (by kernel_rfl) (by kernel_rfl) (by simp [Tryz.ntmps91]) Tryz.results91 ?_
   repeat' (first | refine xs ?_ ?_ <;> intros | (refine wn ?_; intro bx hbx; try simp only [fb] at hbx) | refine wp hK ?_ | refine wj ?_ | simp -dsimp only [↓bp, bq, br, seval, tbRCodN, *] | refine wz ?_ | fail)
   all_goals rfl
theorem nm_else {es : List Ent} {is : List Ins} {cs : List Term} {i : Ins} {K : Int} (hK : Pure Tryz.prog G 152 [.str i.text, .int .i64 (i.slots.length : Int)] (.int .i64 K)) (o1 : (i.opI = 1) = False) (o15 : (i.opI = 15) = False) (o5 : (i.opI = 5) = False) (o6 : (i.opI = 6) = False) (o7 : (i.opI = 7) = False) (o10 : (i.opI = 10) = False) (o20 : (i.opI = 20) = False) (o13 : (i.opI = 13) = False) (o17 : (i.opI = 17) = False) (o21 : (i.opI = 21) = False) : Pure Tryz.prog G 91 [.agg [rowOf Ent.enc es, rowOf Ins.enc is, encs cs], i.enc] (.bool true) := by
 intro σ
 refine Tri.of_awp mixed Tryz.func91 rfl (by kernel_rfl) (by kernel_rfl) (by simp [Tryz.ntmps91]) Tryz.results91 ?_
 repeat' (first | refine xs ?_ ?_ <;> intros | (refine wn ?_; intro bx hbx; try simp only [fb] at hbx) | refine wp hK ?_ | refine wj ?_ | simp -dsimp only [↓bp, bq, br, seval, tbRCodN, *] | refine wz ?_ | fail)
 all_goals rfl
theorem rnamed_pure (c : Cod) (i : Ins) (hi : i.bulk <= 1000000000) : Pure Tryz.prog G 91 [c.enc, i.enc] (.bool (rNamed c i)) := by
 obtain ⟨es, is, cs⟩ := c
 have hK := kindR_pure G i.text (i.slots.length : Int)
 rw [kindR_eq] at hK
 have hop : ∀ k : UInt8, i.op = k -> i.opI = (k.toNat : Int) := fun k h => by unfold Ins.opI; rw [h]
 have hno : ∀ k : UInt8, i.op ≠ k -> (i.opI = (k.toNat : Int)) = False := fun k h => eq_false fun e => h (UInt8.toNat_inj.1 (by unfold Ins.opI at e; omega))
 show Pure Tryz.prog G 91 [.agg [rowOf Ent.enc es, rowOf Ins.enc is, encs cs], i.enc] _
 unfold rNamed
 by_cases k1 : i.op = 1 \/ i.op = 15
 ·rw [if_pos k1]
  rcases k1 with k | k
  ·exact nm_const1 G hK (hop _ k)
  ·exact nm_const15 G hK (hop _ k)
 rw [if_neg k1]
 by_cases k2 : i.op = 5 \/ i.op = 6 \/ i.op = 7
 ·rw [if_pos k2]
  unfold funOK
  by_cases h1 : i.n < 0
  ·rw [if_neg (by omega)]
   rcases k2 with k | k | k
   ·exact nm_fneg5 G hK (hop _ k) h1
   ·exact nm_fneg6 G hK (hop _ k) h1
   ·exact nm_fneg7 G hK (hop _ k) h1
  rw [if_pos (by omega)]
  obtain ⟨p, hp⟩ := Int.eq_ofNat_of_zero_le (a := i.n) (by omega)
  rw [hp, Int.toNat_natCast]
  by_cases h2 : (es.length : Int) <= i.n
  ·have e : (⟨es, is, cs⟩ : Cod).entries[p]? = none := List.getElem?_eq_none (by show es.length <= p; omega)
   rw [e]
   rcases k2 with k | k | k
   ·exact nm_fbig5 G hK (hop _ k) h1 h2
   ·exact nm_fbig6 G hK (hop _ k) h1 h2
   ·exact nm_fbig7 G hK (hop _ k) h1 h2
  ·obtain ⟨e, he⟩ : ∃ e, es[p]? = some e := ⟨_, List.getElem?_eq_getElem (by omega)⟩
   have he' : (⟨es, is, cs⟩ : Cod).entries[p]? = some e := he
   rw [he']
   simp only
   rcases k2 with k | k | k
   ·rw [if_pos k]; exact nm_fun5 G hK (hop _ k) hp he
   ·rw [if_neg (by rw [k]; decide)]; exact nm_fun6 G hK (hop _ k) hp he
   ·rw [if_neg (by rw [k]; decide)]; exact nm_fun7 G hK (hop _ k) hp he
 rw [if_neg k2]
 by_cases k3 : i.op = 10 \/ i.op = 20
 ·rw [if_pos k3]
  unfold textOK
  rcases k3 with k | k
  ·rw [if_pos k]
   have := nm_bif G hK (hop _ k) (es := es) (is := is) (cs := cs)
   have e : decide (¬ ((lintKind i.text i.slots.length : Nat) : Int) = 0) = decide (lintKind i.text i.slots.length ≠ 0) := by
    rw [decide_eq_decide]; omega
   rwa [e] at this
  ·rw [if_neg (by rw [k]; decide)]
   have := nm_guard G hK (hop _ k) (es := es) (is := is) (cs := cs)
   have e : decide (((lintKind i.text i.slots.length : Nat) : Int) = 2) = decide (lintKind i.text i.slots.length = 2) := by
    rw [decide_eq_decide]; omega
   have e2 : decide ((i.slots.length : Int) = 2) = decide (i.slots.length = 2) := by
    rw [decide_eq_decide]; omega
   rwa [e, e2] at this
 rw [if_neg k3]
 by_cases k4 : i.op = 13 \/ i.op = 17 \/ i.op = 21
 ·rw [if_pos k4]
  unfold numOK
  rcases k4 with k | k | k
  ·rw [if_pos k]; exact nm_num13 G hK (hop _ k)
  ·rw [if_neg (by rw [k]; decide), if_pos k]; exact nm_num17 G hK (hop _ k)
  ·rw [if_neg (by rw [k]; decide), if_neg (by rw [k]; decide)]; exact nm_num21 G hK (hop _ k)
 rw [if_neg k4]
 simp only [not_or] at k1 k2 k3 k4
 exact nm_else G hK (hno _ k1.1) (hno _ k1.2) (hno _ k2.1) (hno _ k2.2.1) (hno _ k2.2.2) (hno _ k3.1) (hno _ k3.2) (hno _ k4.1) (hno _ k4.2.1) (hno _ k4.2.2)
end Go.Proofs.YtjmdaeabllkgnaaGreatDoor
