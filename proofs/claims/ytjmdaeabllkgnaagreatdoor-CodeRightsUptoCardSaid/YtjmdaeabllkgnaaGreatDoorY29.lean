/- slices.IndexFunc and slices.ContainsFunc, of a function that says something of each. -/
import Derived.Test.YtjmdaeabllkgnaaGreatDoorY19
import Derived.Test.YtjmdaeabllkgnaaGreatDoorY23
set_option linter.unusedVariables false
set_option linter.unusedSimpArgs false
set_option maxRecDepth 20000
set_option linter.defProp false
namespace Go.Proofs.YtjmdaeabllkgnaaGreatDoor
open Go Go.Av
def tbConG := And.intro (And.intro (And.intro (And.intro @tf3 (And.intro @tf4 @tf5)) (And.intro (And.intro @tf9 @tf30) (And.intro @tf39 @tf23))) (And.intro (And.intro @tf58 (And.intro @tf24 @tf37)) (And.intro (And.intro @tf55 @tf56) (And.intro @tf169 @isv_rowOf)))) (And.intro (And.intro (And.intro @flat_rowOf (And.intro @len_rowOf @ix_rowOf)) (And.intro (And.intro @Term.flat_enc @Term.isv_enc) (And.intro @Term.fold_enc @Ins.flat_enc))) (And.intro (And.intro (And.intro @Ins.isv_enc @Ins.fold_enc) (And.intro @isv_encs @flat_encs)) (And.intro (And.intro @len_encs @ix_encs) (And.intro @isv_lims @flat_lims))))
variable (G : Nat -> AV)
variable {α : Type}
set_option maxHeartbeats 1000000 in
theorem indexN_purec {f : FuncId} {caps : List AV} {σ0 : AS} (p : Ins -> Bool) (l : List Ins) (hl : l.length <= 1099511627776) (hf : ∀ x, x ∈ l -> PureC Tryz.prog G f ([Ins.enc x] ++ caps) σ0 (.bool (p x))) :
  PureC Tryz.prog G 82 [rowOf (Ins.enc) l, .fn f caps] σ0 (.int .i64 (ixG p l)) := by
 intro σ hσ
 refine Tri.of_awp mixed Tryz.func82 rfl (by kernel_rfl) (by kernel_rfl) (by simp [Tryz.ntmps82]) Tryz.results82 ?_
 simp -dsimp only [↓bp, bq, br, seval, tbConG]
 refine loop_intro (fun n e σ' => ∃ i : Nat, i <= l.length /\ n = l.length - i /\ e 8 = .int .i64 i /\ σ' = σ /\ ∀ x, x ∈ l.take i -> p x = false) l.length
  ⟨0, by omega, by omega, by first | (simp -dsimp only [↓bp, bq, br, seval, tbConG]; done) | (simp -dsimp only [↓bp, bq, br, seval, tbConG]; try rfl), rfl, by simp⟩ ?_
 rintro n v σ' ⟨i, hi, rfl, h8, rfl, hno⟩
 simp -dsimp only [↓bp, bq, br, seval, tbConG] at h8
 by_cases hlt : (i : Int) < l.length
 ·obtain ⟨k, hk⟩ : ∃ k, l[i]? = some k := ⟨_, List.getElem?_eq_getElem (by omega)⟩
  have hp := hf k (List.mem_of_getElem? hk)
  have hlt' := eq_true hlt
  have hwi : IntKind.i64.wrap ((i : Int) + 1) = ((i + 1 : Nat) : Int) := by rw [wrap_nat (by omega) (by omega)]; rfl
  clear hf hi hlt
  cases hpk : p k with
  | true =>
   rw [hpk] at hp
   have hix := ixG_some hk hpk hno
   clear hno
   repeat' (first | refine xs ?_ ?_ <;> intros | (refine wn ?_; intro bx hbx; try simp only [fb] at hbx) | refine PureC.use (hp) (by repeat' first | exact lr _ | assumption | refine ls ?_ ?_ | refine lt ?_ ?_ | simp only [*]; done | simp only [fb, *, not_false_eq_true, and_self]; done | exact lf ‹_› (by simp only [*])) ?_ | refine wj ?_ | simp -dsimp only [↓bp, bq, br, seval, tbConG, *] | refine wz ?_ | fail)
   all_goals rw [hix]
  | false =>
   rw [hpk] at hp
   repeat' (first | refine xs ?_ ?_ <;> intros | (refine wn ?_; intro bx hbx; try simp only [fb] at hbx) | refine PureC.use (hp) (by repeat' first | exact lr _ | assumption | refine ls ?_ ?_ | refine lt ?_ ?_ | simp only [*]; done | simp only [fb, *, not_false_eq_true, and_self]; done | exact lf ‹_› (by simp only [*])) ?_ | refine wj ?_ | simp -dsimp only [↓bp, bq, br, seval, tbConG, *] | refine wz ?_ | fail)
   all_goals (have hlt := (List.getElem?_eq_some_iff.1 hk).1)
   all_goals refine ⟨l.length - (i + 1), by omega, i + 1, by omega, rfl, rfl, fun x hx => ?_⟩
   all_goals (rw [take_succ_get _ _ _ hk, List.mem_append, List.mem_singleton] at hx; rcases hx with hx | rfl)
   all_goals first | exact hno _ hx | exact hpk
 ·have : i = l.length := by omega
  subst this
  have hix := ixG_none (p := p) (l := l) fun x hx => hno x (by rw [List.take_length]; exact hx)
  have hlt' := eq_false hlt
  clear hno hf hi hlt
  repeat' (first | refine xs ?_ ?_ <;> intros | (refine wn ?_; intro bx hbx; try simp only [fb] at hbx) | refine wj ?_ | simp -dsimp only [↓bp, bq, br, seval, tbConG, *] | refine wz ?_ | fail)
  all_goals rw [hix]
theorem containsN_purec {f : FuncId} {caps : List AV} {σ0 : AS} (p : Ins -> Bool) (l : List Ins) (hl : l.length <= 1099511627776) (hf : ∀ x, x ∈ l -> PureC Tryz.prog G f ([Ins.enc x] ++ caps) σ0 (.bool (p x))) :
  PureC Tryz.prog G 47 [rowOf (Ins.enc) l, .fn f caps] σ0 (.bool (l.any p)) := by
 intro σ hσ
 refine Tri.of_awp mixed Tryz.func47 rfl (by kernel_rfl) (by kernel_rfl) (by simp [Tryz.ntmps47]) Tryz.results47 ?_
 repeat' (first | refine xs ?_ ?_ <;> intros | (refine wn ?_; intro bx hbx; try simp only [fb] at hbx) | refine PureC.use (indexN_purec G p l hl hf) (by repeat' first | exact lr _ | assumption | refine ls ?_ ?_ | refine lt ?_ ?_ | simp only [*]; done | simp only [fb, *, not_false_eq_true, and_self]; done | exact lf ‹_› (by simp only [*])) ?_ | refine wj ?_ | simp -dsimp only [↓bp, bq, br, seval, tbConG, *] | refine wz ?_ | fail)
 all_goals rw [ixG_any]
set_option maxHeartbeats 1000000 in
theorem indexT_purec {f : FuncId} {caps : List AV} {σ0 : AS} (p : Term -> Bool) (l : List Term) (hl : l.length <= 1099511627776) (hf : ∀ x, x ∈ l -> PureC Tryz.prog G f ([Term.enc x] ++ caps) σ0 (.bool (p x))) :
  PureC Tryz.prog G 80 [rowOf (Term.enc) l, .fn f caps] σ0 (.int .i64 (ixG p l)) := by
 intro σ hσ
 refine Tri.of_awp mixed Tryz.func80 rfl (by kernel_rfl) (by kernel_rfl) (by simp [Tryz.ntmps80]) Tryz.results80 ?_
 simp -dsimp only [↓bp, bq, br, seval, tbConG]
 refine loop_intro (fun n e σ' => ∃ i : Nat, i <= l.length /\ n = l.length - i /\ e 8 = .int .i64 i /\ σ' = σ /\ ∀ x, x ∈ l.take i -> p x = false) l.length
  ⟨0, by omega, by omega, by first | (simp -dsimp only [↓bp, bq, br, seval, tbConG]; done) | (simp -dsimp only [↓bp, bq, br, seval, tbConG]; try rfl), rfl, by simp⟩ ?_
 rintro n v σ' ⟨i, hi, rfl, h8, rfl, hno⟩
 simp -dsimp only [↓bp, bq, br, seval, tbConG] at h8
 by_cases hlt : (i : Int) < l.length
 ·obtain ⟨k, hk⟩ : ∃ k, l[i]? = some k := ⟨_, List.getElem?_eq_getElem (by omega)⟩
  have hp := hf k (List.mem_of_getElem? hk)
  have hlt' := eq_true hlt
  have hwi : IntKind.i64.wrap ((i : Int) + 1) = ((i + 1 : Nat) : Int) := by rw [wrap_nat (by omega) (by omega)]; rfl
  clear hf hi hlt
  cases hpk : p k with
  | true =>
   rw [hpk] at hp
   have hix := ixG_some hk hpk hno
   clear hno
   repeat' (first | refine xs ?_ ?_ <;> intros | (refine wn ?_; intro bx hbx; try simp only [fb] at hbx) | refine PureC.use (hp) (by repeat' first | exact lr _ | assumption | refine ls ?_ ?_ | refine lt ?_ ?_ | simp only [*]; done | simp only [fb, *, not_false_eq_true, and_self]; done | exact lf ‹_› (by simp only [*])) ?_ | refine wj ?_ | simp -dsimp only [↓bp, bq, br, seval, tbConG, *] | refine wz ?_ | fail)
   all_goals rw [hix]
  | false =>
   rw [hpk] at hp
   repeat' (first | refine xs ?_ ?_ <;> intros | (refine wn ?_; intro bx hbx; try simp only [fb] at hbx) | refine PureC.use (hp) (by repeat' first | exact lr _ | assumption | refine ls ?_ ?_ | refine lt ?_ ?_ | simp only [*]; done | simp only [fb, *, not_false_eq_true, and_self]; done | exact lf ‹_› (by simp only [*])) ?_ | refine wj ?_ | simp -dsimp only [↓bp, bq, br, seval, tbConG, *] | refine wz ?_ | fail)
   all_goals (have hlt := (List.getElem?_eq_some_iff.1 hk).1)
   all_goals refine ⟨l.length - (i + 1), by omega, i + 1, by omega, rfl, rfl, fun x hx => ?_⟩
   all_goals (rw [take_succ_get _ _ _ hk, List.mem_append, List.mem_singleton] at hx; rcases hx with hx | rfl)
   all_goals first | exact hno _ hx | exact hpk
 ·have : i = l.length := by omega
  subst this
  have hix := ixG_none (p := p) (l := l) fun x hx => hno x (by rw [List.take_length]; exact hx)
  have hlt' := eq_false hlt
  clear hno hf hi hlt
  repeat' (first | refine xs ?_ ?_ <;> intros | (refine wn ?_; intro bx hbx; try simp only [fb] at hbx) | refine wj ?_ | simp -dsimp only [↓bp, bq, br, seval, tbConG, *] | refine wz ?_ | fail)
  all_goals rw [hix]
theorem containsT_purec {f : FuncId} {caps : List AV} {σ0 : AS} (p : Term -> Bool) (l : List Term) (hl : l.length <= 1099511627776) (hf : ∀ x, x ∈ l -> PureC Tryz.prog G f ([Term.enc x] ++ caps) σ0 (.bool (p x))) :
  PureC Tryz.prog G 44 [rowOf (Term.enc) l, .fn f caps] σ0 (.bool (l.any p)) := by
 intro σ hσ
 refine Tri.of_awp mixed Tryz.func44 rfl (by kernel_rfl) (by kernel_rfl) (by simp [Tryz.ntmps44]) Tryz.results44 ?_
 repeat' (first | refine xs ?_ ?_ <;> intros | (refine wn ?_; intro bx hbx; try simp only [fb] at hbx) | refine PureC.use (indexT_purec G p l hl hf) (by repeat' first | exact lr _ | assumption | refine ls ?_ ?_ | refine lt ?_ ?_ | simp only [*]; done | simp only [fb, *, not_false_eq_true, and_self]; done | exact lf ‹_› (by simp only [*])) ?_ | refine wj ?_ | simp -dsimp only [↓bp, bq, br, seval, tbConG, *] | refine wz ?_ | fail)
 all_goals rw [ixG_any]
end Go.Proofs.YtjmdaeabllkgnaaGreatDoor
