/- Comparing: the order of terms, and what is told of it. -/
import Derived.Test.YtdhbdhopnpmboaaGreatDoorZ10
import Derived.Test.YtdhbdhopnpmboaaGreatDoorZ08
import Derived.Test.YtdhbdhopnpmboaaGreatDoorZ09
set_option linter.unusedVariables false
set_option linter.unusedSimpArgs false
set_option maxRecDepth 20000
set_option linter.defProp false
namespace Go.Proofs.YtdhbdhopnpmboaaGreatDoor
open Go Go.Av
section
def tbCmp3 := And.intro (And.intro (And.intro (And.intro @tf3 (And.intro @tf4 @tf5)) (And.intro @tf47 (And.intro @tf9 @tf23))) (And.intro (And.intro @tf22 (And.intro @tf24 @tf26)) (And.intro @tf147 (And.intro @Term.flat_enc @Term.isv_enc)))) (And.intro (And.intro (And.intro @Term.fold_enc (And.intro @isv_encs @flat_encs)) (And.intro @len_encs (And.intro @ix_encs @ix_encs'))) (And.intro (And.intro @isv_lims (And.intro @flat_lims @len_lims)) (And.intro (And.intro @ix_lims @ix_lims') (And.intro @flat_limA @s_gtr))))
variable (G : Nat -> AV)
theorem tail_pure (t : Term) : Pure Tryz.prog G 61 [t.enc] (tailOf t).enc := by
 refine Pure.of_le fun σ => ?_
 cases ht : t.tail with
 | nil =>
  have e : tailOf t = listT [] [] := by unfold tailOf; rw [ht]
  rw [e]
  have hl : t.tail.length = 0 := by rw [ht]; rfl
  have hlz : (t.tail.length : Int) = 0 := by omega
  clear ht e hl
  refine Tri.of_awp mixed Tryz.func61 rfl (by kernel_rfl) (by kernel_rfl) (by simp [Tryz.ntmps61]) Tryz.results61 ?_
  repeat' (first | refine xs ?_ ?_ <;> intros | (refine wn ?_; intro bx hbx; try simp only [fb] at hbx) | refine wj ?_ | simp -dsimp only [↓bp, bq, br, seval, tbCmp3, *] | refine wz ?_ | fail)
  refine loop_intro (fun n e σ' => n = 0 /\ e 8 = .int .i64 0 /\ σ.le σ' /\ ∃ z, σ'.box bx = some z /\ z.length = 7) 0 ⟨rfl, by simp -dsimp only [↓bp, bq, br, seval, tbCmp3], by repeat' first | exact lr _ | assumption | refine ls ?_ ?_ | refine lt ?_ ?_ | simp only [*]; done | simp only [fb, *, not_false_eq_true, and_self]; done | exact lf ‹_› (by simp only [*]), ⟨_, by simp -dsimp only [↓bp, bq, br, seval, tbCmp3]; try rfl, rfl⟩⟩ ?_
  rintro n v σ' ⟨rfl, h8, hle, z, hz, hz7⟩
  simp -dsimp only [↓bp, bq, br, seval, tbCmp3] at h8
  repeat' (first | refine xs ?_ ?_ <;> intros | (refine wn ?_; intro bx hbx; try simp only [fb] at hbx) | refine wj ?_ | simp -dsimp only [↓bp, bq, br, seval, tbCmp3, *] | refine wz ?_ | fail)
  exact finish_le (enc_nil 7 false [] 0) (by repeat' first | exact lr _ | assumption | refine ls ?_ ?_ | refine lt ?_ ?_ | simp only [*]; done | simp only [fb, *, not_false_eq_true, and_self]; done | exact lf ‹_› (by simp only [*]))
 | cons x l =>
  have e : tailOf t = x := by unfold tailOf; rw [ht]
  rw [e]
  have hx : t.tail[0]? = some x := by rw [ht]; rfl
  have hlz : (0 : Int) < t.tail.length := by rw [ht]; simp
  clear ht e
  refine Tri.of_awp mixed Tryz.func61 rfl (by kernel_rfl) (by kernel_rfl) (by simp [Tryz.ntmps61]) Tryz.results61 ?_
  repeat' (first | refine xs ?_ ?_ <;> intros | (refine wn ?_; intro bx hbx; try simp only [fb] at hbx) | refine wj ?_ | simp -dsimp only [↓bp, bq, br, seval, tbCmp3, *] | refine wz ?_ | fail)
  refine loop_intro (fun n e σ' => n = 0 /\ e 8 = .int .i64 0 /\ σ.le σ' /\ ∃ z, σ'.box bx = some z /\ z.length = 7) 0 ⟨rfl, by simp -dsimp only [↓bp, bq, br, seval, tbCmp3], by repeat' first | exact lr _ | assumption | refine ls ?_ ?_ | refine lt ?_ ?_ | simp only [*]; done | simp only [fb, *, not_false_eq_true, and_self]; done | exact lf ‹_› (by simp only [*]), ⟨_, by simp -dsimp only [↓bp, bq, br, seval, tbCmp3]; try rfl, rfl⟩⟩ ?_
  rintro n v σ' ⟨rfl, h8, hle, z, hz, hz7⟩
  simp -dsimp only [↓bp, bq, br, seval, tbCmp3] at h8
  repeat' (first | refine xs ?_ ?_ <;> intros | ((first | refine xh ?_ | refine xi ?_); intro bx hbx; (try simp only [fb] at hbx); try (have nn := fresh_ne (c := bx) hz (by simp only [hbx]))) | refine wj ?_ | simp -dsimp only [↓bp, bq, br, seval, tbCmp3, *] | refine wz ?_ | fail)
  exact finish_le (Le.refl _) (by repeat' first | exact lr _ | assumption | refine ls ?_ ?_ | refine lt ?_ ?_ | simp only [*]; done | simp only [fb, *, not_false_eq_true, and_self]; done | exact lf ‹_› (by simp only [*]))
theorem kinds_pure (a b : Term) (h : a.knd ≠ b.knd) : Pure Tryz.prog G 69 [a.enc, b.enc] (.int .i64 (cmpI a.knd b.knd)) := by
 have hp := cmpK_pure G a.knd b.knd
 intro σ
 refine Tri.of_awp mixed Tryz.func69 rfl (by kernel_rfl) (by kernel_rfl) (by simp [Tryz.ntmps69]) Tryz.results69 ?_
 repeat' (first | refine xs ?_ ?_ <;> intros | (refine wn ?_; intro bx hbx; try simp only [fb] at hbx) | refine wp hp ?_ | refine wj ?_ | simp -dsimp only [↓bp, bq, br, seval, tbCmp3, *] | refine wz ?_ | fail)
 all_goals rfl
set_option maxHeartbeats 1000000 in
theorem order_pure (a : Term) : ∀ b : Term, a.bulk <= 1000000000 -> b.bulk <= 1000000000 -> right a = true -> right b = true -> Pure Tryz.prog G 69 [a.enc, b.enc] (.int .i64 (order a b)) := by
 refine Term.ind (P := fun a => ∀ b : Term, a.bulk <= 1000000000 -> b.bulk <= 1000000000 -> right a = true -> right b = true -> Pure Tryz.prog G 69 [a.enc, b.enc] (.int .i64 (order a b))) (fun a ih1 ih2 b ha hb ra rb => ?_) a
 have A := right_spec ra
 have B := right_spec rb
 by_cases hk : a.knd = b.knd
 rotate_left
 ·rw [order_kind hk]; exact kinds_pure G a b hk
 have hitems : ∀ x, x ∈ a.items -> ∀ y, y ∈ b.items -> Pure Tryz.prog G 69 [x.enc, y.enc] (.int .i64 (order x y)) := fun x hx y hy =>
  ih1 x hx y (by have := bulk_item hx; omega) (by have := bulk_item hy; omega) (A.items x hx) (B.items y hy)
 have hn := cmpI_pure G a.items.length b.items.length
 have hl1 := len_tail a
 have hl2 := len_tail b
 by_cases h1 : a.knd = 1
 ·have hw := wcompare_pure G a b (A.int h1) (B.int (by omega))
  rw [order_eq, if_neg (show ¬ a.knd ≠ b.knd by simp [hk]), if_pos h1]
  have hke := eq_true hk
  have h1' := eq_true (show b.knd = 1 by omega)
  have h1a := eq_true h1
  clear hk h1 A B ih1 ih2 hitems
  intro σ
  refine Tri.of_awp mixed Tryz.func69 rfl (by kernel_rfl) (by kernel_rfl) (by simp [Tryz.ntmps69]) Tryz.results69 ?_
  repeat' (first | refine xs ?_ ?_ <;> intros | (refine wn ?_; intro bx hbx; try simp only [fb] at hbx) | refine wp hn ?_ | refine wp hw ?_ | refine wj ?_ | simp -dsimp only [↓bp, bq, br, seval, tbCmp3, *] | refine wz ?_ | fail)
  all_goals rfl
 by_cases h7 : a.knd = 7
 ·have hrec : (a.tail.length : Int) + b.tail.length > 0 -> Pure Tryz.prog G 69 [(tailOf a).enc, (tailOf b).enc] (.int .i64 (tl a.tail b.tail)) := by
   intro h0
   obtain ⟨c1, c2, c3⟩ := A.list h7
   obtain ⟨d1, d2, d3⟩ := B.list (by omega)
   cases ea : a.tail with
   | nil => cases eb : b.tail with
    | nil => rw [ea, eb] at h0; simp at h0
    | cons y r =>
     have e1 : tailOf a = listT [] [] := by unfold tailOf; rw [ea]
     have e2 : tailOf b = y := by unfold tailOf; rw [eb]
     rw [e1, e2, tl]
     exact kinds_pure G (listT [] []) y (fun h => d3 y (by rw [eb]; simp) h.symm)
   | cons x l => cases eb : b.tail with
    | nil =>
     have e1 : tailOf a = x := by unfold tailOf; rw [ea]
     have e2 : tailOf b = listT [] [] := by unfold tailOf; rw [eb]
     rw [e1, e2, tl]
     exact kinds_pure G x (listT [] []) (c3 x (by rw [ea]; simp))
    | cons y r =>
     have e1 : tailOf a = x := by unfold tailOf; rw [ea]
     have e2 : tailOf b = y := by unfold tailOf; rw [eb]
     rw [e1, e2, tl]
     have hx : x ∈ a.tail := by rw [ea]; simp
     have hy : y ∈ b.tail := by rw [eb]; simp
     exact ih2 x hx y (by have := bulk_tail hx; omega) (by have := bulk_tail hy; omega) (A.tail x hx) (B.tail y hy)
  have hz : (a.tail.length : Int) + b.tail.length = 0 -> tl a.tail b.tail = 0 := fun h => by
   rw [List.eq_nil_of_length_eq_zero (show a.tail.length = 0 by omega), List.eq_nil_of_length_eq_zero (show b.tail.length = 0 by omega), tl]
  rw [order_eq, if_neg (show ¬ a.knd ≠ b.knd by simp [hk]), if_neg h1, if_pos h7]
  have ta := tail_pure G a
  have tb := tail_pure G b
  have ho := or2_pure G (rows a.items b.items) (cmpI a.items.length b.items.length)
  have hws : IntKind.i64.wrap ((a.tail.length : Int) + b.tail.length) = a.tail.length + b.tail.length := wrap_nat (by omega) (by omega)
  generalize tl a.tail b.tail = tt at *
  obtain ⟨c, hc⟩ : ∃ c, c = lex (rows a.items b.items) (cmpI a.items.length b.items.length) := ⟨_, rfl⟩
  rw [<- hc] at ho ⊢
  have hke := eq_true hk
  have h1a := eq_false h1
  have h1' := eq_false (show ¬ b.knd = 1 by omega)
  have h7a := eq_true h7
  have h7' := eq_true (show b.knd = 7 by omega)
  have hrow := row_pure G a b ha hb hitems
  have hs0 : 0 <= (a.tail.length : Int) + b.tail.length := by omega
  clear hk h1 h7 A B ih1 ih2 hitems ra rb hl1 hl2 hc
  intro σ
  by_cases c0 : c = 0
  ·subst c0
   by_cases s0 : 0 < (a.tail.length : Int) + b.tail.length
   ·replace hrec := hrec s0
    rw [show lex 0 tt = tt by simp [lex]]
    clear hz hs0
    refine Tri.of_awp mixed Tryz.func69 rfl (by kernel_rfl) (by kernel_rfl) (by simp [Tryz.ntmps69]) Tryz.results69 ?_
    repeat' (first | refine xs ?_ ?_ <;> intros | (refine wn ?_; intro bx hbx; try simp only [fb] at hbx) | refine wp hn ?_ | refine wp ho ?_ | refine wp ta ?_ | refine wp tb ?_ | refine wp hrec ?_ | ((refine Tri.mono (hrow _ _ _ (by rw [Term.flat_enc]; simp -dsimp only [↓bp, bq, br, seval, tbCmp3, hbx]) (by rw [Term.flat_enc]; simp -dsimp only [↓bp, bq, br, seval, tbCmp3, hbx])) ?_; rintro r s ⟨rfl, rfl⟩)) | refine wj ?_ | simp -dsimp only [↓bp, bq, br, seval, tbCmp3, *] | refine wz ?_ | fail)
    all_goals first | rfl | skip
   ·replace hz := hz (by omega)
    subst hz
    clear hrec hs0
    rw [show lex 0 0 = 0 by simp [lex]]
    refine Tri.of_awp mixed Tryz.func69 rfl (by kernel_rfl) (by kernel_rfl) (by simp [Tryz.ntmps69]) Tryz.results69 ?_
    repeat' (first | refine xs ?_ ?_ <;> intros | (refine wn ?_; intro bx hbx; try simp only [fb] at hbx) | refine wp hn ?_ | refine wp ho ?_ | refine wp ta ?_ | refine wp tb ?_ | ((refine Tri.mono (hrow _ _ _ (by rw [Term.flat_enc]; simp -dsimp only [↓bp, bq, br, seval, tbCmp3, hbx]) (by rw [Term.flat_enc]; simp -dsimp only [↓bp, bq, br, seval, tbCmp3, hbx])) ?_; rintro r s ⟨rfl, rfl⟩)) | refine wj ?_ | simp -dsimp only [↓bp, bq, br, seval, tbCmp3, *] | refine wz ?_ | fail)
    all_goals first | rfl | skip
  ·have hl : lex c tt = c := by simp [lex, c0]
   rw [hl]
   have c0' := eq_false c0
   clear c0 hl hz hrec hs0
   refine Tri.of_awp mixed Tryz.func69 rfl (by kernel_rfl) (by kernel_rfl) (by simp [Tryz.ntmps69]) Tryz.results69 ?_
   repeat' (first | refine xs ?_ ?_ <;> intros | (refine wn ?_; intro bx hbx; try simp only [fb] at hbx) | refine wp hn ?_ | refine wp ho ?_ | refine wp ta ?_ | refine wp tb ?_ | ((refine Tri.mono (hrow _ _ _ (by rw [Term.flat_enc]; simp -dsimp only [↓bp, bq, br, seval, tbCmp3, hbx]) (by rw [Term.flat_enc]; simp -dsimp only [↓bp, bq, br, seval, tbCmp3, hbx])) ?_; rintro r s ⟨rfl, rfl⟩)) | refine wj ?_ | simp -dsimp only [↓bp, bq, br, seval, tbCmp3, *] | refine wz ?_ | fail)
   all_goals first | rfl | skip
 ·rw [order_eq, if_neg (show ¬ a.knd ≠ b.knd by simp [hk]), if_neg h1, if_neg h7]
  have hs := cmpS_pure G a.text b.text
  have hm := cmpI_pure G a.num b.num
  have ho := or3_pure G (cmpS a.text b.text) (cmpI a.num b.num) (cmpI a.items.length b.items.length)
  have hrow := row_pure G a b ha hb hitems
  obtain ⟨c, hc⟩ : ∃ c, c = lex (cmpS a.text b.text) (lex (cmpI a.num b.num) (cmpI a.items.length b.items.length)) := ⟨_, rfl⟩
  rw [<- hc] at ho ⊢
  have hke := eq_true hk
  have h1a := eq_false h1
  have h1' := eq_false (show ¬ b.knd = 1 by omega)
  have h7a := eq_false h7
  have h7' := eq_false (show ¬ b.knd = 7 by omega)
  clear hk h1 h7 A B ih1 ih2 hitems ra rb hl1 hl2 hc
  intro σ
  by_cases c0 : c = 0
  ·subst c0
   rw [show ∀ x, lex 0 x = x by simp [lex]]
   refine Tri.of_awp mixed Tryz.func69 rfl (by kernel_rfl) (by kernel_rfl) (by simp [Tryz.ntmps69]) Tryz.results69 ?_
   repeat' (first | refine xs ?_ ?_ <;> intros | (refine wn ?_; intro bx hbx; try simp only [fb] at hbx) | refine wp hn ?_ | refine wp hs ?_ | refine wp hm ?_ | refine wp ho ?_ | ((refine Tri.mono (hrow _ _ _ (by rw [Term.flat_enc]; simp -dsimp only [↓bp, bq, br, seval, tbCmp3, hbx]) (by rw [Term.flat_enc]; simp -dsimp only [↓bp, bq, br, seval, tbCmp3, hbx])) ?_; rintro r s ⟨rfl, rfl⟩)) | refine wj ?_ | simp -dsimp only [↓bp, bq, br, seval, tbCmp3, *] | refine wz ?_ | fail)
   all_goals first | rfl | skip
  ·rw [show ∀ x, lex c x = c by simp [lex, c0]]
   have c0' := eq_false c0
   clear c0
   refine Tri.of_awp mixed Tryz.func69 rfl (by kernel_rfl) (by kernel_rfl) (by simp [Tryz.ntmps69]) Tryz.results69 ?_
   repeat' (first | refine xs ?_ ?_ <;> intros | (refine wn ?_; intro bx hbx; try simp only [fb] at hbx) | refine wp hn ?_ | refine wp hs ?_ | refine wp hm ?_ | refine wp ho ?_ | ((refine Tri.mono (hrow _ _ _ (by rw [Term.flat_enc]; simp -dsimp only [↓bp, bq, br, seval, tbCmp3, hbx]) (by rw [Term.flat_enc]; simp -dsimp only [↓bp, bq, br, seval, tbCmp3, hbx])) ?_; rintro r s ⟨rfl, rfl⟩)) | refine wj ?_ | simp -dsimp only [↓bp, bq, br, seval, tbCmp3, *] | refine wz ?_ | fail)
   all_goals first | rfl | skip
end
set_option maxRecDepth 20000
section
def tbCopy := And.intro (And.intro (And.intro (And.intro @tf3 (And.intro @tf4 @tf5)) (And.intro @tf47 (And.intro @tf9 @tf23))) (And.intro (And.intro @tf22 (And.intro @tf24 @tf26)) (And.intro @tf36 (And.intro @Term.flat_enc @Term.isv_enc)))) (And.intro (And.intro (And.intro @Term.fold_enc (And.intro @isv_encs @flat_encs)) (And.intro @len_encs (And.intro @ix_encs @ix_encs'))) (And.intro (And.intro @isv_lims (And.intro @flat_lims @len_lims)) (And.intro @ix_lims (And.intro @ix_lims' @flat_limA))))
variable (G : Nat -> AV)
theorem grow_tri (n : Nat) (hn : n <= 1000000000) (σ : AS) : Tri Tryz.prog G 124 [.nil, .int .i64 n] σ fun r σ' => WBuf 7 26 σ σ' r [] /\ (r = .nil -> n = 0) := by
 have h0 : ¬ (n : Int) < 0 := by omega
 have hw0 : IntKind.i64.wrap 0 = 0 := by decide
 have hw : IntKind.i64.wrap ((n : Int) - 0) = n := wrap_nat (by omega) (by omega)
 have hw' : IntKind.i64.wrap (n : Int) = n := wrap_nat (by omega) (by omega)
 by_cases hp : 0 < n
 ·have hp' : (0 : Int) < n := by omega
  have hz0 : (0 <= n) = True := eq_true (Nat.zero_le _)
  clear hp
  refine Tri.of_awp mixed Tryz.func124 rfl (by kernel_rfl) (by kernel_rfl) (by simp [Tryz.ntmps124]) Tryz.results124 ?_
  repeat' (first | refine xs ?_ ?_ <;> intros | (refine wn ?_; intro bx hbx; try simp only [fb] at hbx) | refine wj ?_ | simp -dsimp only [↓bp, bq, br, seval, tbCopy, *] | refine wz ?_ | fail)
  refine .inr (.inr (.inl ?_))
  unfold aappendZ
  rw [tfN, tf3.2.1]
  refine ⟨hp', by omega, fun b hb => ?_⟩
  repeat' (first | refine xs ?_ ?_ <;> intros | (refine wn ?_; intro bx hbx; try simp only [fb] at hbx) | refine wj ?_ | simp -dsimp only [↓bp, bq, br, seval, tbCopy, *] | refine wz ?_ | fail)
  exact finishW_some _ (AS.le.refl _) ⟨.row b [] (le_set hb (AS.le.refl _)) hb.1 hb.2.1 (by simp [AS.setBox]) (fun a ha => by cases ha), fun h => by cases h⟩
 ·have hz : n = 0 := by omega
  subst hz
  rw [show ((0 : Nat) : Int) = 0 from rfl]
  clear hp hn h0 hw hw'
  have hw : IntKind.i64.wrap (0 - 0) = 0 := by decide
  refine Tri.of_awp mixed Tryz.func124 rfl (by kernel_rfl) (by kernel_rfl) (by simp [Tryz.ntmps124]) Tryz.results124 ?_
  repeat' (first | refine xs ?_ ?_ <;> intros | (refine wn ?_; intro bx hbx; try simp only [fb] at hbx) | refine wj ?_ | simp -dsimp only [↓bp, bq, br, seval, tbCopy, *] | refine wz ?_ | fail)
  exact finishW_some _ (AS.le.refl _) ⟨.nil (AS.le.refl _), fun _ => rfl⟩
def encss (ls : List (List Term)) : AV := .sl .none (ls.map encs) []
theorem len_encss {P : Program} {t : TypeId} (l : List (List Term)) : ablt P .len #[t] [encss l] = if (el P t).isSome then some (.int .i64 l.length) else none := by
 simp [encss, l_sl]
theorem ix_encss {P : Program} {t : TypeId} {k : IntKind} (l : List (List Term)) (i : Nat) : aindexA P t (encss l) (.int k (i : Int)) = ixk ((el P t).bind (tk P)) ((l[i]?).map encs) := by
 simp [encss, aindexA_sl]
theorem flatten_take_succ {α : Type} (ls : List (List α)) (i : Nat) (l : List α) (h : ls[i]? = some l) : (ls.take (i + 1)).flatten = (ls.take i).flatten ++ l := by
 rw [take_succ_get _ _ _ h, List.flatten_append]; simp
theorem flatten_take_le {α : Type} : ∀ (ls : List (List α)) (i : Nat), (ls.take i).flatten.length <= ls.flatten.length
 | [], i => by simp
 | l :: ls, 0 => by simp
 | l :: ls, i + 1 => by have := flatten_take_le ls i; simp only [List.take_succ_cons, List.flatten_cons, List.length_append]; omega
theorem concat_pure (ls : List (List Term)) (hl : ls.length <= 1000000) (hb : ls.flatten.length <= 1000000000) : Pure Tryz.prog G 82 [encss ls] (encs ls.flatten) := by
 refine Pure.of_le fun σ => Tri.wbuf ?_ (n := 7) (E := 26) (xs := ls.flatten.map Term.enc)
 refine Tri.of_awp mixed Tryz.func82 rfl (by kernel_rfl) (by kernel_rfl) (by simp [Tryz.ntmps82]) Tryz.results82 ?_
 repeat' (first | refine xs ?_ ?_ <;> intros | (refine wn ?_; intro bx hbx; try simp only [fb] at hbx) | refine wj ?_ | simp -dsimp only [↓bp, bq, br, seval, tbCopy, len_encss, ix_encss, *] | refine wz ?_ | fail)
 refine loop_keep mixed (fun n e => ∃ i : Nat, i <= (ls).length /\ n = (ls).length - i /\ e 11 = .int .i64 i /\ e 3 = .int .i64 ((ls.take i).flatten.length : Nat)) (ls).length
   ⟨0, by omega, by omega, by simp -dsimp only [↓bp, bq, br, seval, tbCopy]; first | done | rfl, by first | (simp -dsimp only [↓bp, bq, br, seval, tbCopy]; done) | (simp -dsimp only [↓bp, bq, br, seval, tbCopy]; try rfl)⟩ ?_
 rintro n v ⟨i, hi, rfl, h11, h3⟩
 simp -dsimp only [↓bp, bq, br, seval, tbCopy] at h11 h3
 simp -dsimp only [↓bp, bq, br, seval, tbCopy, h11, h3]
 refine condW_dec (fun hlt => ?_) (fun hge => ?_)
 ·obtain ⟨l, hx⟩ : ∃ l, ls[i]? = some l := ⟨_, List.getElem?_eq_getElem (by omega)⟩
  have hsz := flatten_take_succ ls i l hx
  have hle := flatten_take_le ls (i + 1)
  rw [hsz, List.length_append] at hle
  have hw : IntKind.i64.wrap (((ls.take i).flatten.length : Nat) + (l.length : Int)) = ((ls.take i).flatten.length : Nat) + (l.length : Int) := wrap_nat (by omega) (by omega)
  have hn : ¬ (((ls.take i).flatten.length : Nat) + (l.length : Int)) < 0 := by omega
  clear hi hlt
  repeat' (first | refine xs ?_ ?_ <;> intros | (refine wn ?_; intro bx hbx; try simp only [fb] at hbx) | refine wj ?_ | simp -dsimp only [↓bp, bq, br, seval, tbCopy, len_encss, ix_encss, *] | refine wz ?_ | fail)
  all_goals (have hlt := (List.getElem?_eq_some_iff.1 hx).1)
  all_goals exact ⟨ls.length - (i + 1), by omega, i + 1, by omega, rfl, by rw [wrap_nat (by omega) (by omega)]; rfl, by rw [hsz, List.length_append]; simp⟩
 ·have : i = ls.length := by omega
  subst this
  rw [List.take_length] at h3
  clear hi hge
  repeat' (first | refine xs ?_ ?_ <;> intros | (refine wn ?_; intro bx hbx; try simp only [fb] at hbx) | ((refine Tri.mono (grow_tri G _ hb _) ?_; rintro r s ⟨hB, hr0⟩)) | refine wj ?_ | simp -dsimp only [↓bp, bq, br, seval, tbCopy, len_encss, ix_encss, *] | refine wz ?_ | fail)
  refine loop_intro (fun n e σ' => ∃ i : Nat, i <= (ls).length /\ n = (ls).length - i /\ e 27 = .int .i64 i /\ ∃ v, e 6 = v /\ WBuf 7 26 σ σ' v ((ls.take i).flatten.map Term.enc) /\ (v = .nil -> ls.flatten.length = 0)) (ls).length
    ⟨0, by omega, by omega, by simp -dsimp only [↓bp, bq, br, seval, tbCopy]; first | done | rfl, ⟨r, by first | (simp -dsimp only [↓bp, bq, br, seval, tbCopy]; done) | (simp -dsimp only [↓bp, bq, br, seval, tbCopy]; try rfl), by simpa using hB, hr0⟩⟩ ?_
  rintro n v σ' ⟨i, hi, rfl, h27, ⟨v6, h6, hB6, hr6⟩⟩
  simp -dsimp only [↓bp, bq, br, seval, tbCopy] at h27 h6
  simp -dsimp only [↓bp, bq, br, seval, tbCopy, h27, h6]
  refine condW_dec (fun hlt => ?_) (fun hge => ?_)
  ·obtain ⟨l, hx⟩ : ∃ l, ls[i]? = some l := ⟨_, List.getElem?_eq_getElem (by omega)⟩
   have hsz := flatten_take_succ ls i l hx
   have hle := flatten_take_le ls (i + 1)
   rw [hsz, List.length_append] at hle
   clear hi hlt hB
   repeat' (first | refine xs ?_ ?_ <;> intros | (refine wn ?_; intro bx hbx; try simp only [fb] at hbx) | (refine app_wbuf (ys := l.map Term.enc) hB6 tfN (asrc_sl tfE) (fun a ha => by obtain ⟨x, _, rfl⟩ := List.mem_map.1 ha; exact ⟨by rw [x.flat_enc]; rfl, x.isv_enc⟩) (fun e => by rw [List.map_eq_nil_iff]; have := hr6 e; exact List.eq_nil_of_length_eq_zero (by omega)) (by simp only [List.length_map]; omega) (fun v7 σ7 hB7 hn7 => ?_)) | refine wj ?_ | simp -dsimp only [↓bp, bq, br, seval, tbCopy, len_encss, ix_encss, *] | refine wz ?_ | fail)
   all_goals (have hlt := (List.getElem?_eq_some_iff.1 hx).1)
   all_goals exact ⟨ls.length - (i + 1), by omega, i + 1, by omega, rfl, by rw [wrap_nat (by omega) (by omega)]; rfl, by rw [hsz, List.map_append]; exact hB7, fun e => hr6 (hn7 e)⟩
  ·have : i = ls.length := by omega
   subst this
   rw [List.take_length] at hB6
   clear hi hge hB
   repeat' (first | refine xs ?_ ?_ <;> intros | (refine wn ?_; intro bx hbx; try simp only [fb] at hbx) | refine wj ?_ | simp -dsimp only [↓bp, bq, br, seval, tbCopy, len_encss, ix_encss, *] | refine wz ?_ | fail)
   exact finishW_some _ (AS.le.refl _) hB6
theorem copies_pure (ls : List (List Term)) (hl : ls.length <= 1000000) (hb : ls.flatten.length <= 1000000000) (hf : ∀ x, x ∈ ls.flatten -> Pure Tryz.prog G 12 [x.enc] x.enc) : Pure Tryz.prog G 50 [encss ls] (encs ls.flatten) := by
 have hc := concat_pure G ls hl hb
 generalize ls.flatten = l at *
 refine Pure.of_le fun σ => ?_
 refine Tri.of_awp mixed Tryz.func50 rfl (by kernel_rfl) (by kernel_rfl) (by simp [Tryz.ntmps50]) Tryz.results50 ?_
 repeat' (first | refine xs ?_ ?_ <;> intros | (refine wn ?_; intro bx hbx; try simp only [fb] at hbx) | refine wp hc ?_ | refine wj ?_ | simp -dsimp only [↓bp, bq, br, seval, tbCopy, len_encss, ix_encss, *] | refine wz ?_ | fail)
 refine loop_intro (fun n e σ' => ∃ i : Nat, i <= (l).length /\ n = (l).length - i /\ e 9 = .int .i64 i /\ ∃ v, e 3 = v /\ Buf 7 σ σ' v ((l.take i).map Term.enc)) (l).length
   ⟨0, by omega, by omega, by simp -dsimp only [↓bp, bq, br, seval, tbCopy]; first | done | rfl, ⟨.nil, by first | (simp -dsimp only [↓bp, bq, br, seval, tbCopy]; done) | (simp -dsimp only [↓bp, bq, br, seval, tbCopy]; try rfl), .nil (AS.le.refl σ)⟩⟩ ?_
 rintro n v σ' ⟨i, hi, rfl, h9, ⟨v3, h3, hB⟩⟩
 simp -dsimp only [↓bp, bq, br, seval, tbCopy] at h9 h3
 simp -dsimp only [↓bp, bq, br, seval, tbCopy, h9, h3]
 refine condW_dec (fun hlt => ?_) (fun hge => ?_)
 ·obtain ⟨k, hk⟩ : ∃ k, l[i]? = some k := ⟨_, List.getElem?_eq_getElem (by omega)⟩
  have hp := hf k (List.mem_of_getElem? hk)
  have hil : i < l.length := (List.getElem?_eq_some_iff.1 hk).1
  have hlen : (l.take i).length = i := by rw [List.length_take]; omega
  clear hi hlt hf hc
  repeat' (first | refine xs ?_ ?_ <;> intros | (refine wn ?_; intro bx hbx; try simp only [fb] at hbx) | refine wp hp ?_ | (refine build_one tfN (Term.isv_enc k) (by rw [k.flat_enc]; rfl) (by omega) ?_) | (refine app_buf (ys := [k.enc]) (hB.newBox (by first | assumption | (simp only [*]; done)) _) tfN (asrc_sl tfE) (fun a ha => by simp at ha; subst ha; rw [k.flat_enc]; rfl) (by simp; omega) (fun v3 σ3 hB4 hx4 => ?_)) | refine wj ?_ | simp -dsimp only [↓bp, bq, br, seval, tbCopy, *] | refine wz ?_ | fail)
  all_goals exact ⟨l.length - (i + 1), by omega, i + 1, by omega, rfl, by rw [wrap_nat (by omega) (by omega)]; rfl, by rw [take_succ_get _ _ _ hk, List.map_append]; exact hB4⟩
 ·have : i = l.length := by omega
  subst this
  rw [List.take_length] at hB
  clear hi hge hf hc
  repeat' (first | refine xs ?_ ?_ <;> intros | (refine wn ?_; intro bx hbx; try simp only [fb] at hbx) | refine wj ?_ | simp -dsimp only [↓bp, bq, br, seval, tbCopy, *] | refine wz ?_ | fail)
  exact finish_le hB.told hB.le
theorem copies1_pure (l : List Term) (hb : l.length <= 1000000000) (hf : ∀ x, x ∈ l -> Pure Tryz.prog G 12 [x.enc] x.enc) : Pure Tryz.prog G 50 [.sl .full [encs l] []] (encs l) := by
 have h := (copies_pure G [l] (by simp) (by simpa using hb) (by simpa using hf)).lessArgs (args := [.sl .full [encs l] []]) (.cons Le.gh .nil)
 simpa using h
theorem copy_pure (t : Term) : t.bulk <= 1000000000 -> Pure Tryz.prog G 12 [t.enc] t.enc := by
 refine Term.ind (P := fun t => t.bulk <= 1000000000 -> Pure Tryz.prog G 12 [t.enc] t.enc) (fun t ih1 ih2 hb => ?_) t
 have h1 := copies1_pure G t.items (by have := len_items t; omega) (fun x hx => ih1 x hx (by have := bulk_item hx; omega))
 have h2 := copies1_pure G t.tail (by have := len_tail t; omega) (fun x hx => ih2 x hx (by have := bulk_tail hx; omega))
 have h3 : Pure Tryz.prog G 49 [lims t.limbs] (lims t.limbs) := Pure.of_le (clone_tri G t.limbs (by have := len_limbs t; omega))
 clear ih1 ih2 hb
 intro σ
 refine Tri.of_awp mixed Tryz.func12 rfl (by kernel_rfl) (by kernel_rfl) (by simp [Tryz.ntmps12]) Tryz.results12 ?_
 repeat' (first | refine xs ?_ ?_ <;> intros | (refine wn ?_; intro bx hbx; try simp only [fb] at hbx) | refine wp h1 ?_ | refine wp h2 ?_ | refine wp h3 ?_ | refine wj ?_ | simp -dsimp only [↓bp, bq, br, seval, tbCopy, *] | refine wz ?_ | fail)
 all_goals skip
end
set_option maxRecDepth 20000
section
def tbTermApi := And.intro (And.intro (And.intro (And.intro @tf3 (And.intro @tf4 @tf5)) (And.intro @tf47 (And.intro @tf9 @tf23))) (And.intro (And.intro @tf22 (And.intro @tf24 @tf26)) (And.intro @tf36 (And.intro @Term.flat_enc @Term.isv_enc)))) (And.intro (And.intro (And.intro @Term.fold_enc (And.intro @isv_encs @flat_encs)) (And.intro @len_encs (And.intro @ix_encs @ix_encs'))) (And.intro (And.intro @isv_lims (And.intro @flat_lims @len_lims)) (And.intro @ix_lims (And.intro @ix_lims' @flat_limA))))
variable (G : Nat -> AV)
theorem right_pure (t : Term) (hb : t.bulk <= 1000000000) : Pure Tryz.prog G 9 [t.enc] (.bool (right t)) := by
 have h := size_pure G t hb
 unfold right
 intro σ
 refine Tri.of_awp mixed Tryz.func9 rfl (by kernel_rfl) (by kernel_rfl) (by simp [Tryz.ntmps9]) Tryz.results9 ?_
 repeat' (first | refine xs ?_ ?_ <;> intros | (refine wn ?_; intro bx hbx; try simp only [fb] at hbx) | refine wp h ?_ | refine wj ?_ | simp -dsimp only [↓bp, bq, br, seval, tbTermApi, *] | refine wz ?_ | fail)
 all_goals rfl
theorem termsize_pure (t : Term) (hb : t.bulk <= 1000000000) : Pure Tryz.prog G 10 [t.enc] (.int .i64 (size t)) := by
 have h := size_pure G t hb
 intro σ
 refine Tri.of_awp mixed Tryz.func10 rfl (by kernel_rfl) (by kernel_rfl) (by simp [Tryz.ntmps10]) Tryz.results10 ?_
 repeat' (first | refine xs ?_ ?_ <;> intros | (refine wn ?_; intro bx hbx; try simp only [fb] at hbx) | refine wp h ?_ | refine wj ?_ | simp -dsimp only [↓bp, bq, br, seval, tbTermApi, *] | refine wz ?_ | fail)
 all_goals rfl
theorem compare_pure (a b : Term) (ha : a.bulk <= 1000000000) (hb : b.bulk <= 1000000000) : Pure Tryz.prog G 36 [a.enc, b.enc] (.int .i64 (compare a b)) := by
 have ra := right_pure G a ha
 have rb := right_pure G b hb
 have ho := order_pure G a b ha hb
 unfold compare
 intro σ
 cases ea : right a with
 | false =>
  rw [ea] at ra
  rw [if_neg (by simp)]
  clear ho
  refine Tri.of_awp mixed Tryz.func36 rfl (by kernel_rfl) (by kernel_rfl) (by simp [Tryz.ntmps36]) Tryz.results36 ?_
  repeat' (first | refine xs ?_ ?_ <;> intros | (refine wn ?_; intro bx hbx; try simp only [fb] at hbx) | refine wp ra ?_ | refine wp rb ?_ | refine wj ?_ | simp -dsimp only [↓bp, bq, br, seval, tbTermApi, *] | refine wz ?_ | fail)
  all_goals rfl
 | true => cases eb : right b with
  | false =>
   rw [ea] at ra
   rw [eb] at rb
   rw [if_neg (by simp)]
   clear ho
   refine Tri.of_awp mixed Tryz.func36 rfl (by kernel_rfl) (by kernel_rfl) (by simp [Tryz.ntmps36]) Tryz.results36 ?_
   repeat' (first | refine xs ?_ ?_ <;> intros | (refine wn ?_; intro bx hbx; try simp only [fb] at hbx) | refine wp ra ?_ | refine wp rb ?_ | refine wj ?_ | simp -dsimp only [↓bp, bq, br, seval, tbTermApi, *] | refine wz ?_ | fail)
   all_goals rfl
  | true =>
   rw [ea] at ra
   rw [eb] at rb
   rw [if_pos ⟨rfl, rfl⟩]
   have ho := ho ea eb
   refine Tri.of_awp mixed Tryz.func36 rfl (by kernel_rfl) (by kernel_rfl) (by simp [Tryz.ntmps36]) Tryz.results36 ?_
   repeat' (first | refine xs ?_ ?_ <;> intros | (refine wn ?_; intro bx hbx; try simp only [fb] at hbx) | refine wp ra ?_ | refine wp rb ?_ | refine wp ho ?_ | refine wj ?_ | simp -dsimp only [↓bp, bq, br, seval, tbTermApi, *] | refine wz ?_ | fail)
   all_goals rfl
theorem sameT_pure (a b : Term) (ha : a.bulk <= 1000000000) (hb : b.bulk <= 1000000000) : Pure Tryz.prog G 29 [a.enc, b.enc] (.bool (sameT a b)) := by
 have ra := right_pure G a ha
 have rb := right_pure G b hb
 have ho := order_pure G a b ha hb
 unfold sameT
 intro σ
 cases ea : right a with
 | false =>
  rw [ea] at ra
  rw [Bool.false_and, Bool.false_and]
  clear ho
  refine Tri.of_awp mixed Tryz.func29 rfl (by kernel_rfl) (by kernel_rfl) (by simp [Tryz.ntmps29]) Tryz.results29 ?_
  repeat' (first | refine xs ?_ ?_ <;> intros | (refine wn ?_; intro bx hbx; try simp only [fb] at hbx) | refine wp ra ?_ | refine wp rb ?_ | refine wj ?_ | simp -dsimp only [↓bp, bq, br, seval, tbTermApi, *] | refine wz ?_ | fail)
  all_goals rfl
 | true => cases eb : right b with
  | false =>
   rw [ea] at ra
   rw [eb] at rb
   rw [Bool.true_and, Bool.false_and]
   clear ho
   refine Tri.of_awp mixed Tryz.func29 rfl (by kernel_rfl) (by kernel_rfl) (by simp [Tryz.ntmps29]) Tryz.results29 ?_
   repeat' (first | refine xs ?_ ?_ <;> intros | (refine wn ?_; intro bx hbx; try simp only [fb] at hbx) | refine wp ra ?_ | refine wp rb ?_ | refine wj ?_ | simp -dsimp only [↓bp, bq, br, seval, tbTermApi, *] | refine wz ?_ | fail)
   all_goals rfl
  | true =>
   rw [ea] at ra
   rw [eb] at rb
   rw [Bool.true_and, Bool.true_and]
   have ho := ho ea eb
   refine Tri.of_awp mixed Tryz.func29 rfl (by kernel_rfl) (by kernel_rfl) (by simp [Tryz.ntmps29]) Tryz.results29 ?_
   repeat' (first | refine xs ?_ ?_ <;> intros | (refine wn ?_; intro bx hbx; try simp only [fb] at hbx) | refine wp ra ?_ | refine wp rb ?_ | refine wp ho ?_ | refine wj ?_ | simp -dsimp only [↓bp, bq, br, seval, tbTermApi, *] | refine wz ?_ | fail)
   all_goals rfl
theorem leE_of_full (l : List Term) : LeE (.sl .full (l.map Term.enc) []) (encs l) := LeE.of Le.gh rfl rfl rfl
theorem copies_one (h : Term) (hb : h.bulk <= 1000000000) : Pure Tryz.prog G 50 [.sl .full [.sl .full [h.enc] []] []] (.sl .none [h.enc] []) := by
 have k := (copies_pure G [[h]] (by simp) (by simp) (fun x hx => by simp at hx; subst hx; exact copy_pure G x hb)).lessArgs (args := [.sl .full [.sl .full [h.enc] []] []]) (.cons (Le.sl (.cons (leE_of_full [h]) .nil)) .nil)
 simpa [encs] using k
theorem copies_head (h : Term) (l : List Term) (hh : h.bulk <= 1000000000) (hb : bulks l < 1000000000) : Pure Tryz.prog G 50 [.sl .full [.sl .full [h.enc] [], encs l] []] (encs (h :: l)) := by
 have hl := len_le_bulks l
 have k := (copies_pure G [[h], l] (by simp) (by simp; omega) (fun x hx => by
  simp at hx
  rcases hx with rfl | hx
  ·exact copy_pure G _ hh
  ·exact copy_pure G x (by have := bulk_mem hx; omega))).lessArgs (args := [.sl .full [.sl .full [h.enc] [], encs l] []]) (.cons (Le.sl (.cons (leE_of_full [h]) (.cons (LeE.of (Le.refl _) rfl rfl rfl) .nil))) .nil)
 simpa using k
theorem copies_row (l : List Term) (hb : bulks l < 1000000000) : Pure Tryz.prog G 50 [.sl .full [encs l] []] (encs l) :=
 copies1_pure G l (by have := len_le_bulks l; omega) fun x hx => copy_pure G x (by have := bulk_mem hx; omega)
theorem cons0_bulk (h t : Term) : (cons0 h t).bulk <= h.bulk + t.bulk + 1 := by
 have := t.bulk_eq
 unfold cons0
 split <;> simp only [listT, Term.bulk, bulks, List.length_nil] <;> omega
theorem listT_le (l r : List Term) : Le (.agg [.int .u8 7, .bool false, .nil, .str [], .int .i64 0, encs l, encs r]) (listT l r).enc := by
 rw [<- Term.fold_enc (listT l r)]
 refine Le.agg ?_ (fun d hd => ones (listT l r) d (by rw [Term.flat_enc]; exact hd))
 exact .cons (Le.refl _) (.cons (Le.refl _) (.cons Le.nil (.cons (Le.refl _) (.cons (Le.refl _) (.cons (Le.refl _) (.cons (Le.refl _) .nil))))))
end
set_option maxRecDepth 20000
section
def tbTText := And.intro (And.intro (And.intro (And.intro @tf3 @tf4) (And.intro @tf5 (And.intro @tf9 @tf45))) (And.intro (And.intro @tf22 (And.intro @tf24 @tf26)) (And.intro @tf23 (And.intro @tf56 @tf54)))) (And.intro (And.intro (And.intro @tf34 (And.intro @tf62 @Term.flat_enc)) (And.intro @Term.isv_enc (And.intro @Term.fold_enc @isv_encs))) (And.intro (And.intro @flat_encs (And.intro @len_encs @ix_encs)) (And.intro @ix_encs' (And.intro @isv_lims @flat_lims))))
variable {G : Nat -> AV}
structure GlobT (G : Nat -> AV) : Prop extends Glob G where
 pow : G 2 = .tab powV
structure Fns (σ0 : AS) (b p q : Nat) : Prop where
 put : σ0.box p = some [.fn 43 [.ptr b 0, .ptr q 0]]
 row : σ0.box q = some [.fn 40 [.ptr b 0, .ptr p 0]]
theorem Fns.up {σ0 σ1 : AS} {b p q : Nat} (h : Fns σ0 b p q) (hl : σ0.le σ1) : Fns σ1 b p q := ⟨hl.box _ _ h.put, hl.box _ _ h.row⟩
def Puts (G : Nat -> AV) (t : Term) : Prop := ∀ (σ0 σ : AS) (b p q : Nat) (xs : List UInt8), Fns σ0 b p q -> Bl σ0 σ b xs -> xs.length + (said t).length <= 900000000 ->
 Tri Tryz.prog G 43 [t.enc, .ptr b 0, .ptr q 0] σ fun r σ' => Bl σ0 σ' b (xs ++ said t)
theorem saidN_take : ∀ (l : List Term) (i : Nat) (x : Term), l[i]? = some x -> saidN (l.take (i + 1)) = saidN (l.take i) ++ (44 :: said x)
 | [], i, x, h => by simp at h
 | y :: l, 0, x, h => by simp at h; subst h; simp [saidN]
 | y :: l, i + 1, x, h => by
  have := saidN_take l i x (by simpa using h)
  simp only [List.take_succ_cons, saidN, this]
  simp
theorem saidI_take (l : List Term) (i : Nat) (x : Term) (h : l[i]? = some x) : saidI (l.take (i + 1)) = saidI (l.take i) ++ (if i = 0 then said x else 44 :: said x) := by
 cases l with
 | nil => simp at h
 | cons y l =>
  cases i with
  | zero => simp at h; subst h; simp [saidI, saidN]
  | succ i =>
   have := saidN_take l i x (by simpa using h)
   simp only [List.take_succ_cons, saidI, this]
   simp
theorem saidT_take : ∀ (l : List Term) (i : Nat) (x : Term), l[i]? = some x -> saidT (l.take (i + 1)) = saidT (l.take i) ++ (124 :: said x)
 | [], i, x, h => by simp at h
 | y :: l, 0, x, h => by simp at h; subst h; simp [saidT]
 | y :: l, i + 1, x, h => by
  have := saidT_take l i x (by simpa using h)
  simp only [List.take_succ_cons, saidT, this]
  simp
theorem saidN_le : ∀ (l : List Term) (i : Nat), (saidN (l.take i)).length <= (saidN l).length
 | [], i => by simp
 | x :: l, 0 => by simp [saidN]
 | x :: l, i + 1 => by have := saidN_le l i; simp only [List.take_succ_cons, saidN, List.length_cons, List.length_append]; omega
theorem saidI_le (l : List Term) (i : Nat) : (saidI (l.take i)).length <= (saidI l).length := by
 cases l with
 | nil => simp
 | cons x l => cases i with
  | zero => simp [saidI]
  | succ i => have := saidN_le l i; simp only [List.take_succ_cons, saidI, List.length_append]; omega
theorem saidT_le : ∀ (l : List Term) (i : Nat), (saidT (l.take i)).length <= (saidT l).length
 | [], i => by simp
 | x :: l, 0 => by simp [saidT]
 | x :: l, i + 1 => by have := saidT_le l i; simp only [List.take_succ_cons, saidT, List.length_cons, List.length_append]; omega
set_option maxHeartbeats 1000000 in
theorem row_tri (t : Term) (hb : t.bulk <= 1000000000) (hi : ∀ x, x ∈ t.items -> Puts G x) (ht : ∀ x, x ∈ t.tail -> Puts G x) (fr to : List UInt8) (σ0 σ : AS) (b p q : Nat) (xs : List UInt8) (hF : Fns σ0 b p q) (hB : Bl σ0 σ b xs)
  (hlen : xs.length + fr.length + (saidI t.items).length + (saidT t.tail).length + to.length <= 900000000) :
  Tri Tryz.prog G 40 [t.enc, .str fr, .str to, .ptr b 0, .ptr p 0] σ fun r σ' => Bl σ0 σ' b (xs ++ fr ++ saidI t.items ++ saidT t.tail ++ to) := by
 have hli := len_items t
 have hlt := len_tail t
 refine Tri.of_awp mixed Tryz.func40 rfl (by kernel_rfl) (by kernel_rfl) (by simp [Tryz.ntmps40]) Tryz.results40 ?_
 simp -dsimp only [↓bp, bq, br, seval, tbTText]
 refine newW_intro fun b5 h5 => ?_
 obtain ⟨σ1, hs1⟩ : ∃ σ1, σ1 = σ0.setBox b5 [.int .u8 t.knd, .bool t.neg, lims t.limbs, .str t.text, .int .i64 t.num, encs t.items, encs t.tail] := ⟨_, rfl⟩
 have hB1 := hB.newBox h5 [.int .u8 t.knd, .bool t.neg, lims t.limbs, .str t.text, .int .i64 t.num, encs t.items, encs t.tail]
 rw [<- hs1] at hB1
 have hle1 : σ0.le σ1 := by rw [hs1]; exact (AS.le.refl σ0).setBox (hB.le.fresh h5).1 _
 have hF1 := hF.up hle1
 have hb5 : σ1.box b5 = some [.int .u8 t.knd, .bool t.neg, lims t.limbs, .str t.text, .int .i64 t.num, encs t.items, encs t.tail] := by rw [hs1]; simp [AS.setBox]
 clear hs1
 generalize σ.setBox b5 _ = s0 at *
 repeat' (first | refine xs ?_ ?_ <;> intros | (refine wn ?_; intro bx hbx; try simp only [fb] at hbx) | ((refine Tri.mono (writeString_tri _ hB1 fr (by omega)) ?_; rintro r s1 hB2; have k5 := hB2.le.box b5 _ hb5)) | refine wj ?_ | simp -dsimp only [↓bp, bq, br, seval, tbTText, *] | refine wz ?_ | fail)
 refine loop_intro (fun n e σ' => ∃ i : Nat, i <= t.items.length /\ n = t.items.length - i /\ e 17 = .int .i64 i /\ Bl σ1 σ' b (xs ++ fr ++ saidI (t.items.take i))) t.items.length ⟨0, by omega, by omega, by first | (simp -dsimp only [↓bp, bq, br, seval, tbTText]; done) | (simp -dsimp only [↓bp, bq, br, seval, tbTText]; try rfl), by simpa [saidI] using hB2⟩ ?_
 rintro n v σ' ⟨i, hile, rfl, h17, hBi⟩
 simp -dsimp only [↓bp, bq, br, seval, tbTText] at h17
 by_cases hlt : (i : Int) < t.items.length
 ·obtain ⟨x, hx⟩ : ∃ x, t.items[i]? = some x := ⟨_, List.getElem?_eq_getElem (by omega)⟩
  have hxm : x ∈ t.items := List.mem_of_getElem? hx
  have htk := saidI_take t.items i x hx
  have hl2 := saidI_le t.items (i + 1)
  have hPx := hi x hxm
  have hilt : i < t.items.length := by omega
  have hw : IntKind.i64.wrap ((i : Int) + 1) = ((i + 1 : Nat) : Int) := by rw [wrap_nat (by omega) (by omega)]; rfl
  have hnext : ∀ s2 : AS, Bl σ1 s2 b (xs ++ fr ++ saidI (t.items.take (i + 1))) -> ∃ m, m < t.items.length - i /\ ∃ i_1, i_1 <= t.items.length /\ m = t.items.length - i_1 /\ AV.int .i64 ((i + 1 : Nat) : Int) = .int .i64 i_1 /\ Bl σ1 s2 b (xs ++ fr ++ saidI (t.items.take i_1)) := fun s2 h2 =>
   ⟨t.items.length - (i + 1), by omega, i + 1, by omega, rfl, rfl, h2⟩
  clear hi ht hB hB1 hB2 h5 k5
  simp -dsimp only [↓bp, bq, br, seval, tbTText, h17, hlt, hx]
  refine newT_plain fun b9 h9 => ?_
  have hB9 := hBi.newBox h9 [.int .u8 x.knd, .bool x.neg, lims x.limbs, .str x.text, .int .i64 x.num, encs x.items, encs x.tail]
  have hle2 : σ1.le (σ1.setBox b9 [.int .u8 x.knd, .bool x.neg, lims x.limbs, .str x.text, .int .i64 x.num, encs x.items, encs x.tail]) := (AS.le.refl σ1).setBox (hBi.le.fresh h9).1 _
  have hb9 : (σ1.setBox b9 [.int .u8 x.knd, .bool x.neg, lims x.limbs, .str x.text, .int .i64 x.num, encs x.items, encs x.tail]).box b9 = some [.int .u8 x.knd, .bool x.neg, lims x.limbs, .str x.text, .int .i64 x.num, encs x.items, encs x.tail] := by simp [AS.setBox]
  have hF2 := hF1.up hle2
  generalize σ1.setBox b9 _ = σ2 at *
  simp -dsimp only [↓bp, bq, br, seval, tbTText, h17, hlt, hx]
  generalize σ'.setBox b9 _ = s2 at *
  have h9b : s2.box b9 = some [.int .u8 x.knd, .bool x.neg, lims x.limbs, .str x.text, .int .i64 x.num, encs x.items, encs x.tail] := hB9.le.box _ _ hb9
  have h9p : s2.box p = some [.fn 43 [.ptr b 0, .ptr q 0]] := hB9.le.box _ _ hF2.put
  rw [htk] at hnext hl2
  by_cases i0 : i = 0
  ·rw [if_pos i0] at hnext hl2
   have i0' := eq_false (show ¬ (0 : Int) < i by omega)
   rw [List.length_append] at hl2
   clear i0 hlt hBi
   simp -dsimp only [↓bp, bq, br, seval, tbTText, i0']
   repeat' (first | refine xs ?_ ?_ <;> intros | (refine wn ?_; intro bx hbx; try simp only [fb] at hbx) | ((refine Tri.mono (hPx σ2 s2 b p q _ hF2 hB9 (by simp only [List.length_append]; omega)) ?_; rintro r s3 hB3)) | refine wj ?_ | simp -dsimp only [↓bp, bq, br, seval, tbTText, *] | refine wz ?_ | fail)
   try rw [hw]
   exact hnext _ (by have := hB3.weaken hle2; simpa using this)
  ·rw [if_neg i0] at hnext hl2
   have i0' := eq_true (show (0 : Int) < i by omega)
   rw [List.length_append, List.length_cons] at hl2
   clear i0 hlt hBi
   simp -dsimp only [↓bp, bq, br, seval, tbTText, i0']
   repeat' (first | refine xs ?_ ?_ <;> intros | (refine wn ?_; intro bx hbx; try simp only [fb] at hbx) | ((refine Tri.mono (wb hB9 (by simp only [List.length_append]; omega) 44 44 rfl) ?_; rintro r s3 hB3; have h9b := hB3.le.box _ _ hb9; have h9p := hB3.le.box _ _ hF2.put; clear hB9)) | ((refine Tri.mono (hPx σ2 _ b p q _ hF2 hB3 (by simp only [List.length_append, List.length_cons, List.length_nil]; omega)) ?_; rintro r s4 hB4)) | refine wj ?_ | simp -dsimp only [↓bp, bq, br, seval, tbTText, *] | refine wz ?_ | fail)
   try rw [hw]
   exact hnext _ (by have := hB4.weaken hle2; simpa using this)
 ·have : i = t.items.length := by omega
  subst this
  rw [List.take_length] at hBi
  clear hlt hile hB hB1 hB2 k5 h5
  have k5 := hBi.le.box b5 _ hb5
  have hirr := eq_false (Int.lt_irrefl (t.items.length : Int))
  simp -dsimp only [↓bp, bq, br, seval, tbTText, h17, hirr]
  repeat' (first | refine xs ?_ ?_ <;> intros | (refine wn ?_; intro bx hbx; try simp only [fb] at hbx) | refine wj ?_ | simp -dsimp only [↓bp, bq, br, seval, tbTText, *] | refine wz ?_ | fail)
  have hIx : (saidI t.items).length <= 900000000 := by omega
  refine loop_intro (fun n e σ' => ∃ i : Nat, i <= t.tail.length /\ n = t.tail.length - i /\ e 32 = .int .i64 i /\ Bl σ1 σ' b (xs ++ fr ++ saidI t.items ++ saidT (t.tail.take i))) t.tail.length ⟨0, by omega, by omega, by first | (simp -dsimp only [↓bp, bq, br, seval, tbTText]; done) | (simp -dsimp only [↓bp, bq, br, seval, tbTText]; try rfl), by simpa [saidT] using hBi⟩ ?_
  clear hBi k5 h17
  rintro n v2 σ3 ⟨i, hile, rfl, h32, hBi⟩
  simp -dsimp only [↓bp, bq, br, seval, tbTText] at h32
  by_cases hlt : (i : Int) < t.tail.length
  ·obtain ⟨x, hx⟩ : ∃ x, t.tail[i]? = some x := ⟨_, List.getElem?_eq_getElem (by omega)⟩
   have hxm : x ∈ t.tail := List.mem_of_getElem? hx
   have htk := saidT_take t.tail i x hx
   have hl2 := saidT_le t.tail (i + 1)
   have hPx := ht x hxm
   have hilt : i < t.tail.length := by omega
   have hw : IntKind.i64.wrap ((i : Int) + 1) = ((i + 1 : Nat) : Int) := by rw [wrap_nat (by omega) (by omega)]; rfl
   have hnext : ∀ s2 : AS, Bl σ1 s2 b (xs ++ fr ++ saidI t.items ++ saidT (t.tail.take (i + 1))) -> ∃ m, m < t.tail.length - i /\ ∃ i_1, i_1 <= t.tail.length /\ m = t.tail.length - i_1 /\ AV.int .i64 ((i + 1 : Nat) : Int) = .int .i64 i_1 /\ Bl σ1 s2 b (xs ++ fr ++ saidI t.items ++ saidT (t.tail.take i_1)) := fun s2 h2 =>
    ⟨t.tail.length - (i + 1), by omega, i + 1, by omega, rfl, rfl, h2⟩
   clear hi ht
   simp -dsimp only [↓bp, bq, br, seval, tbTText, h32, hlt, hx]
   refine newT_plain fun b9 h9 => ?_
   have hB9 := hBi.newBox h9 [.int .u8 x.knd, .bool x.neg, lims x.limbs, .str x.text, .int .i64 x.num, encs x.items, encs x.tail]
   have hle2 : σ1.le (σ1.setBox b9 [.int .u8 x.knd, .bool x.neg, lims x.limbs, .str x.text, .int .i64 x.num, encs x.items, encs x.tail]) := (AS.le.refl σ1).setBox (hBi.le.fresh h9).1 _
   have hb9 : (σ1.setBox b9 [.int .u8 x.knd, .bool x.neg, lims x.limbs, .str x.text, .int .i64 x.num, encs x.items, encs x.tail]).box b9 = some [.int .u8 x.knd, .bool x.neg, lims x.limbs, .str x.text, .int .i64 x.num, encs x.items, encs x.tail] := by simp [AS.setBox]
   have hF2 := hF1.up hle2
   generalize σ1.setBox b9 _ = σ2 at *
   simp -dsimp only [↓bp, bq, br, seval, tbTText, h32, hlt, hx]
   generalize σ3.setBox b9 _ = s2 at *
   have h9b : s2.box b9 = some [.int .u8 x.knd, .bool x.neg, lims x.limbs, .str x.text, .int .i64 x.num, encs x.items, encs x.tail] := hB9.le.box _ _ hb9
   have h9p : s2.box p = some [.fn 43 [.ptr b 0, .ptr q 0]] := hB9.le.box _ _ hF2.put
   rw [htk] at hnext hl2
   rw [List.length_append, List.length_cons] at hl2
   clear hlt hBi
   repeat' (first | refine xs ?_ ?_ <;> intros | (refine wn ?_; intro bx hbx; try simp only [fb] at hbx) | ((refine Tri.mono (wb hB9 (by simp only [List.length_append]; omega) 124 124 rfl) ?_; rintro r s3 hB3; have h9b := hB3.le.box _ _ hb9; have h9p := hB3.le.box _ _ hF2.put; clear hB9)) | ((refine Tri.mono (hPx σ2 _ b p q _ hF2 hB3 (by simp only [List.length_append, List.length_cons, List.length_nil]; omega)) ?_; rintro r s4 hB4)) | refine wj ?_ | simp -dsimp only [↓bp, bq, br, seval, tbTText, *] | refine wz ?_ | fail)
   try rw [hw]
   exact hnext _ (by have := hB4.weaken hle2; simpa using this)
  ·have : i = t.tail.length := by omega
   subst this
   rw [List.take_length] at hBi
   clear hlt hile hi ht
   have hirr2 := eq_false (Int.lt_irrefl (t.tail.length : Int))
   simp -dsimp only [↓bp, bq, br, seval, tbTText, h32, hirr2]
   repeat' (first | refine xs ?_ ?_ <;> intros | (refine wn ?_; intro bx hbx; try simp only [fb] at hbx) | ((refine Tri.mono (writeString_tri _ hBi to (by simp only [List.length_append]; omega)) ?_; rintro r s3 hB3)) | refine wj ?_ | simp -dsimp only [↓bp, bq, br, seval, tbTText, *] | refine wz ?_ | fail)
   exact finishW_some _ (AS.le.refl _) (hB3.weaken hle1)
end
set_option maxRecDepth 20000
section
def tbTText2 := And.intro (And.intro (And.intro (And.intro @tf3 @tf4) (And.intro @tf5 (And.intro @tf9 @tf45))) (And.intro (And.intro @tf22 (And.intro @tf24 @tf26)) (And.intro @tf23 (And.intro @tf56 @tf54)))) (And.intro (And.intro (And.intro @tf34 (And.intro @tf62 @Term.flat_enc)) (And.intro @Term.isv_enc (And.intro @Term.fold_enc @isv_encs))) (And.intro (And.intro @flat_encs (And.intro @len_encs @ix_encs)) (And.intro @ix_encs' (And.intro @isv_lims @flat_lims))))
variable {G : Nat -> AV}
theorem right_num {t : Term} (h : right t = true) (hk : t.knd = 3 \/ t.knd = 4 \/ t.knd = 5) : 0 <= t.num /\ t.num <= 1099511627776 := by
 simp only [right, decide_eq_true_eq] at h
 rw [size_eq, if_neg (by omega)] at h
 split at h
 ·rename_i hf
  obtain ⟨f1, _⟩ := adds_true _ _ hf
  obtain ⟨f3, _⟩ := adds_true _ _ f1
  simp only at f3
  unfold head at f3
  rw [if_neg (by omega)] at f3
  by_cases e3 : t.knd = 3 \/ t.knd = 5
  ·rw [if_pos e3] at f3
   simp only [Bool.and_eq_true, decide_eq_true_eq] at f3
   omega
  ·rw [if_neg e3, if_pos (by omega)] at f3
   simp only [Bool.and_eq_true, decide_eq_true_eq] at f3
   omega
 ·omega
set_option maxHeartbeats 2000000 in
theorem put_tri (hg : GlobT G) (t : Term) : t.bulk <= 100000000 -> right t = true -> Puts G t := by
 refine Term.ind (P := fun t => t.bulk <= 100000000 -> right t = true -> Puts G t) (fun t ih1 ih2 hb hr => ?_) t
 have A := right_spec hr
 have hi : ∀ x, x ∈ t.items -> Puts G x := fun x hx => ih1 x hx (by have := bulk_item hx; omega) (A.items x hx)
 have ht : ∀ x, x ∈ t.tail -> Puts G x := fun x hx => ih2 x hx (by have := bulk_tail hx; omega) (A.tail x hx)
 clear ih1 ih2
 intro σ0 σ b p q xs hF hB hlen
 have hse := said_eq t
 have htx := len_text t
 refine Tri.of_awp mixed Tryz.func43 rfl (by kernel_rfl) (by kernel_rfl) (by simp [Tryz.ntmps43]) Tryz.results43 ?_
 simp -dsimp only [↓bp, bq, br, seval, tbTText2]
 refine newW_intro fun b3 h3 => ?_
 obtain ⟨σ1, hs1⟩ : ∃ σ1, σ1 = σ0.setBox b3 [.int .u8 t.knd, .bool t.neg, lims t.limbs, .str t.text, .int .i64 t.num, encs t.items, encs t.tail] := ⟨_, rfl⟩
 have hB1 := hB.newBox h3 [.int .u8 t.knd, .bool t.neg, lims t.limbs, .str t.text, .int .i64 t.num, encs t.items, encs t.tail]
 rw [<- hs1] at hB1
 have hle1 : σ0.le σ1 := by rw [hs1]; exact (AS.le.refl σ0).setBox (hB.le.fresh h3).1 _
 have hF1 := hF.up hle1
 have hb3 : σ1.box b3 = some [.int .u8 t.knd, .bool t.neg, lims t.limbs, .str t.text, .int .i64 t.num, encs t.items, encs t.tail] := by rw [hs1]; simp [AS.setBox]
 clear hs1 hB h3
 generalize σ.setBox b3 _ = s0 at *
 have k3 := hB1.le.box b3 _ hb3
 have kq := hB1.le.box q _ hF1.row
 by_cases e1 : t.knd = 1
 ·have hw := wtext_pure G t (by omega)
  rw [A.int e1, if_pos rfl] at hw
  rw [if_pos e1] at hse
  rw [hse] at hlen ⊢
  have k1 := eq_true e1
  clear e1 A hi ht hr
  repeat' (first | refine xs ?_ ?_ <;> intros | (refine wn ?_; intro bx hbx; try simp only [fb] at hbx) | refine wp hw ?_ | ((refine Tri.mono (writeString_tri _ hB1 _ (by omega)) ?_; rintro r s1 hB2)) | refine wj ?_ | simp -dsimp only [↓bp, bq, br, seval, tbTText2, *] | refine wz ?_ | fail)
  exact finishW_some _ (AS.le.refl _) (hB2.weaken hle1)
 have k1 := eq_false e1
 rw [if_neg e1] at hse
 by_cases e2 : t.knd = 2
 ·have hpl := plainA_pure hg.toGlob t.text (by omega)
  have hqu := quoted_pure (G := G) t.text (by omega)
  rw [if_pos e2] at hse
  rw [hse] at hlen ⊢
  have k2 := eq_true e2
  unfold atomT at hlen ⊢
  clear e1 e2 A hi ht hr hse
  cases hp : plainA t.text with
  | true =>
   rw [hp] at hpl hlen
   simp only [if_true] at hlen ⊢
   repeat' (first | refine xs ?_ ?_ <;> intros | (refine wn ?_; intro bx hbx; try simp only [fb] at hbx) | refine wp hpl ?_ | ((refine Tri.mono (writeString_tri _ hB1 _ (by omega)) ?_; rintro r s1 hB2)) | refine wj ?_ | simp -dsimp only [↓bp, bq, br, seval, tbTText2, *] | refine wz ?_ | fail)
   exact finishW_some _ (AS.le.refl _) (hB2.weaken hle1)
  | false =>
   rw [hp] at hpl hlen
   simp only [Bool.false_eq_true, if_false] at hlen ⊢
   repeat' (first | refine xs ?_ ?_ <;> intros | (refine wn ?_; intro bx hbx; try simp only [fb] at hbx) | refine wp hpl ?_ | refine wp hqu ?_ | ((refine Tri.mono (writeString_tri _ hB1 _ (by omega)) ?_; rintro r s1 hB2)) | refine wj ?_ | simp -dsimp only [↓bp, bq, br, seval, tbTText2, *] | refine wz ?_ | fail)
   exact finishW_some _ (AS.le.refl _) (hB2.weaken hle1)
 have k2 := eq_false e2
 rw [if_neg e2] at hse
 by_cases e3 : t.knd = 3
 ·have hn := right_num hr (by omega)
  have hit := itoa_pure hg.pow t.num (by omega) (by omega)
  rw [if_pos e3] at hse
  rw [hse] at hlen ⊢
  have kk := eq_true e3
  have hl2 := hlen
  simp only [List.length_append, List.length_cons, List.length_nil] at hl2
  clear A hi ht hr hse hn e1 e2 htx
  generalize itoa t.num = it at *
  repeat' (first | refine xs ?_ ?_ <;> intros | (refine wn ?_; intro bx hbx; try simp only [fb] at hbx) | refine wp hit ?_ | refine wj ?_ | simp -dsimp only [↓bp, bq, br, seval, tbTText2, *] | refine wz ?_ | fail)
  refine And.intro (by unfold maxLen; omega) (And.intro (by unfold maxLen; omega) ?_)
  refine Tri.mono (writeString_tri _ hB1 (35 :: 82 :: 101 :: 102 :: 60 :: (it ++ [62])) (by simp only [List.length_append, List.length_cons, List.length_nil]; omega)) ?_
  rintro r s1 hB2
  repeat' (first | refine xs ?_ ?_ <;> intros | (refine wn ?_; intro bx hbx; try simp only [fb] at hbx) | refine wj ?_ | simp -dsimp only [↓bp, bq, br, seval, tbTText2, *] | refine wz ?_ | fail)
  exact finishW_some _ (AS.le.refl _) (by have := hB2.weaken hle1; simpa using this)
 have k3' := eq_false e3
 rw [if_neg e3] at hse
 by_cases e4 : t.knd = 4
 ·have hn := right_num hr (by omega)
  have hit := itoa_pure hg.pow t.num (by omega) (by omega)
  rw [if_pos e4] at hse
  rw [hse] at hlen ⊢
  have kk := eq_true e4
  have hl2 := hlen
  simp only [List.length_append, List.length_cons, List.length_nil] at hl2
  clear A hi ht hr hse hn e1 e2 htx
  generalize itoa t.num = it at *
  repeat' (first | refine xs ?_ ?_ <;> intros | (refine wn ?_; intro bx hbx; try simp only [fb] at hbx) | refine wp hit ?_ | refine wj ?_ | simp -dsimp only [↓bp, bq, br, seval, tbTText2, *] | refine wz ?_ | fail)
  refine And.intro (by unfold maxLen; omega) (And.intro (by unfold maxLen; omega) ?_)
  refine Tri.mono (writeString_tri _ hB1 (35 :: 70 :: 117 :: 110 :: 60 :: (it ++ [62])) (by simp only [List.length_append, List.length_cons, List.length_nil]; omega)) ?_
  rintro r s1 hB2
  repeat' (first | refine xs ?_ ?_ <;> intros | (refine wn ?_; intro bx hbx; try simp only [fb] at hbx) | refine wj ?_ | simp -dsimp only [↓bp, bq, br, seval, tbTText2, *] | refine wz ?_ | fail)
  exact finishW_some _ (AS.le.refl _) (by have := hB2.weaken hle1; simpa using this)
 have k4' := eq_false e4
 rw [if_neg e4] at hse
 by_cases e5 : t.knd = 5
 ·have hn := right_num hr (by omega)
  have hit := itoa_pure hg.pow t.num (by omega) (by omega)
  rw [if_pos e5] at hse
  rw [hse] at hlen ⊢
  have kk := eq_true e5
  have hl2 := hlen
  simp only [List.length_append, List.length_cons, List.length_nil] at hl2
  clear A hi ht hr hse hn e1 e2 htx
  generalize itoa t.num = it at *
  repeat' (first | refine xs ?_ ?_ <;> intros | (refine wn ?_; intro bx hbx; try simp only [fb] at hbx) | refine wp hit ?_ | refine wj ?_ | simp -dsimp only [↓bp, bq, br, seval, tbTText2, *] | refine wz ?_ | fail)
  refine And.intro (by unfold maxLen; omega) (And.intro (by unfold maxLen; omega) ?_)
  refine Tri.mono (writeString_tri _ hB1 (60 :: (it ++ [62])) (by simp only [List.length_append, List.length_cons, List.length_nil]; omega)) ?_
  rintro r s1 hB2
  repeat' (first | refine xs ?_ ?_ <;> intros | (refine wn ?_; intro bx hbx; try simp only [fb] at hbx) | refine wj ?_ | simp -dsimp only [↓bp, bq, br, seval, tbTText2, *] | refine wz ?_ | fail)
  exact finishW_some _ (AS.le.refl _) (by have := hB2.weaken hle1; simpa using this)
 have k5' := eq_false e5
 rw [if_neg e5] at hse
 by_cases e6 : t.knd = 6
 ·have k6 := eq_true e6
  rw [if_pos e6] at hse
  clear e6
  have hl2 := hlen
  rw [hse] at hl2
  simp only [List.length_append, List.length_cons, List.length_nil] at hl2
  have hrow := fun s1 (hBs : Bl σ1 s1 b xs) => row_tri t (by omega) hi ht [123] [125] σ1 s1 b p q xs hF1 hBs (by simp only [List.length_cons, List.length_nil]; omega)
  rw [hse]
  clear A hi ht hr hse e1 e2 e3 e4 e5 htx hlen
  repeat' (first | refine xs ?_ ?_ <;> intros | (refine wn ?_; intro bx hbx; try simp only [fb] at hbx) | ((refine Tri.mono (hrow _ hB1) ?_; rintro r s1 hB2)) | refine wj ?_ | simp -dsimp only [↓bp, bq, br, seval, tbTText2, *] | refine wz ?_ | fail)
  exact finishW_some _ (AS.le.refl _) (by have := hB2.weaken hle1; simpa using this)
 ·have k6 := eq_false e6
  rw [if_neg e6] at hse
  clear e6
  have hl2 := hlen
  rw [hse] at hl2
  simp only [List.length_append, List.length_cons, List.length_nil] at hl2
  have hrow := fun s1 (hBs : Bl σ1 s1 b xs) => row_tri t (by omega) hi ht [91] [93] σ1 s1 b p q xs hF1 hBs (by simp only [List.length_cons, List.length_nil]; omega)
  rw [hse]
  clear A hi ht hr hse e1 e2 e3 e4 e5 htx hlen
  repeat' (first | refine xs ?_ ?_ <;> intros | (refine wn ?_; intro bx hbx; try simp only [fb] at hbx) | ((refine Tri.mono (hrow _ hB1) ?_; rintro r s1 hB2)) | refine wj ?_ | simp -dsimp only [↓bp, bq, br, seval, tbTText2, *] | refine wz ?_ | fail)
  exact finishW_some _ (AS.le.refl _) (by have := hB2.weaken hle1; simpa using this)
end
set_option maxRecDepth 20000
section
def tbTText3 := And.intro (And.intro (And.intro (And.intro @tf3 @tf4) (And.intro @tf5 (And.intro @tf9 @tf45))) (And.intro (And.intro @tf22 (And.intro @tf24 @tf26)) (And.intro @tf23 (And.intro @tf56 @tf54)))) (And.intro (And.intro (And.intro @tf34 (And.intro @tf62 @Term.flat_enc)) (And.intro @Term.isv_enc (And.intro @Term.fold_enc @isv_encs))) (And.intro (And.intro @flat_encs (And.intro @len_encs @ix_encs)) (And.intro @ix_encs' (And.intro @isv_lims @flat_lims))))
variable {G : Nat -> AV}
theorem saidN_len : ∀ (l : List Term), (∀ x, x ∈ l -> (said x).length + 1 <= 400 * x.bulk) -> (saidN l).length <= 400 * bulks l
 | [], _ => by simp [saidN, bulks]
 | x :: l, h => by
  have h1 := h x (by simp)
  have h2 := saidN_len l fun y hy => h y (by simp [hy])
  simp only [saidN, List.length_cons, List.length_append, bulks]; omega
theorem saidI_len (l : List Term) (h : ∀ x, x ∈ l -> (said x).length + 1 <= 400 * x.bulk) : (saidI l).length <= 400 * bulks l := by
 cases l with
 | nil => simp [saidI, bulks]
 | cons x l =>
  have h1 := h x (by simp)
  have h2 := saidN_len l fun y hy => h y (by simp [hy])
  simp only [saidI, List.length_append, bulks]; omega
theorem saidT_len : ∀ (l : List Term), (∀ x, x ∈ l -> (said x).length + 1 <= 400 * x.bulk) -> (saidT l).length <= 400 * bulks l
 | [], _ => by simp [saidT, bulks]
 | x :: l, h => by
  have h1 := h x (by simp)
  have h2 := saidT_len l fun y hy => h y (by simp [hy])
  simp only [saidT, List.length_cons, List.length_append, bulks]; omega
theorem decT_len {k n : Nat} (hk : 0 < k) (h : n < 10 ^ k) : (decT n).length <= k := by
 unfold decT
 split
 ·simp; omega
 ·rw [List.length_reverse]; exact digs_len k n h
theorem itoa_len {n : Int} (h0 : 0 <= n) (h1 : n <= 1099511627776) : (itoa n).length <= 20 := by
 unfold itoa
 rw [if_neg (by omega)]
 have := decT_len (k := 20) (n := n.natAbs) (by omega) (by have : (10 : Nat) ^ 20 = 100000000000000000000 := by decide
                                                           omega)
 simpa using this
theorem said_len (t : Term) : right t = true -> (said t).length + 1 <= 400 * t.bulk := by
 refine Term.ind (P := fun t => right t = true -> (said t).length + 1 <= 400 * t.bulk) (fun t ih1 ih2 hr => ?_) t
 have A := right_spec hr
 have h1 := saidI_len t.items fun x hx => ih1 x hx (A.items x hx)
 have h2 := saidT_len t.tail fun x hx => ih2 x hx (A.tail x hx)
 have hb := t.bulk_eq
 rw [said_eq]
 by_cases e1 : t.knd = 1
 ·rw [if_pos e1]
  obtain ⟨_, _, h32⟩ := wr_int (A.int e1)
  have hd := dig_bound h32
  unfold wsaid decT
  simp only [List.length_append]
  split <;> split <;> simp only [List.length_cons, List.length_nil, List.length_reverse] <;> omega
 rw [if_neg e1]
 by_cases e2 : t.knd = 2
 ·rw [if_pos e2]
  have hq := quoCs_len t.text
  unfold atomT
  split
  ·omega
  ·simp only [quoted, List.length_cons, List.length_append, List.length_nil]; omega
 rw [if_neg e2]
 by_cases e3 : t.knd = 3
 ·rw [if_pos e3]
  obtain ⟨n0, n1⟩ := right_num hr (.inl e3)
  have := itoa_len n0 n1
  simp only [List.length_append, List.length_cons, List.length_nil]; omega
 rw [if_neg e3]
 by_cases e4 : t.knd = 4
 ·rw [if_pos e4]
  obtain ⟨n0, n1⟩ := right_num hr (.inr (.inl e4))
  have := itoa_len n0 n1
  simp only [List.length_append, List.length_cons, List.length_nil]; omega
 rw [if_neg e4]
 by_cases e5 : t.knd = 5
 ·rw [if_pos e5]
  obtain ⟨n0, n1⟩ := right_num hr (.inr (.inr e5))
  have := itoa_len n0 n1
  simp only [List.length_append, List.length_cons, List.length_nil]; omega
 rw [if_neg e5]
 split <;> simp only [List.length_append, List.length_cons, List.length_nil] <;> omega
set_option maxHeartbeats 1000000 in
theorem text_pure (hg : GlobT G) (t : Term) (hb : t.bulk <= 2000000) : Pure Tryz.prog G 11 [t.enc] (.str (text t)) := by
 have hr := right_pure G t (by omega)
 unfold text
 cases er : right t with
 | false =>
  rw [er] at hr
  intro σ
  refine Tri.of_awp mixed Tryz.func11 rfl (by kernel_rfl) (by kernel_rfl) (by simp [Tryz.ntmps11]) Tryz.results11 ?_
  repeat' (first | refine xs ?_ ?_ <;> intros | (refine wn ?_; intro bx hbx; try simp only [fb] at hbx) | refine wp hr ?_ | refine wj ?_ | simp -dsimp only [↓bp, bq, br, seval, tbTText3, *] | refine wz ?_ | fail)
  all_goals rfl
 | true =>
  rw [er] at hr
  rw [if_pos rfl]
  have hl := said_len t er
  have hput := put_tri hg t (by omega) er
  clear hg
  refine fun σ => ?_
  refine Tri.of_awp mixed Tryz.func11 rfl (by kernel_rfl) (by kernel_rfl) (by simp [Tryz.ntmps11]) Tryz.results11 ?_
  simp -dsimp only [↓bp, bq, br, seval, tbTText3]
  refine newW_intro fun b1 h1 => ?_
  simp -dsimp only [↓bp, bq, br, seval, tbTText3]
  refine Pure.use hr ?_
  simp -dsimp only [↓bp, bq, br, seval, tbTText3]
  refine newT_ty fun b3 h3 => ?_
  obtain ⟨σa, hσa⟩ : ∃ σa, σa = σ.setBox b1 [.int .u8 t.knd, .bool t.neg, lims t.limbs, .str t.text, .int .i64 t.num, encs t.items, encs t.tail] := ⟨_, rfl⟩
  have hla : σ.le σa := by rw [hσa]; exact (AS.le.refl σ).setBox h1.1 _
  have ha1 : σa.box b1 = some [.int .u8 t.knd, .bool t.neg, lims t.limbs, .str t.text, .int .i64 t.num, encs t.items, encs t.tail] := by rw [hσa]; simp [AS.setBox]
  rw [<- hσa] at h3
  have hB0 : Bl σa ((σa.setBox b3 [.nilptr, .nil]).setTy b3 (.t 56, 2)) b3 [] := Bld.start (AS.le.refl σa) h3
  rw [<- hσa]
  simp only [List.length_cons, List.length_nil, Nat.zero_add, Nat.reduceAdd]
  generalize (σa.setBox b3 [.nilptr, .nil]).setTy b3 (.t 56, 2) = S at *
  simp -dsimp only [↓bp, bq, br, seval, tbTText3]
  refine newT_plain fun b4 h4 => ?_
  simp -dsimp only [↓bp, bq, br, seval, tbTText3]
  refine newT_plain fun b5 h5 => ?_
  rw [fresh_setBox] at h5
  have n54 : ¬ b5 = b4 := h5.2
  have n45 : ¬ b4 = b5 := fun e => n54 e.symm
  have hS1 : S.box b1 = some [.int .u8 t.knd, .bool t.neg, lims t.limbs, .str t.text, .int .i64 t.num, encs t.items, encs t.tail] := hB0.le.box _ _ ha1
  have n14 := (fresh_ne hS1 h4).1
  have n15 := (fresh_ne hS1 h5.1).1
  have hB1 := hB0.newBox h4 [.fn 43 [.ptr b3 0, .ptr b5 0]]
  have hB2 := hB1.newBox (c := b5) (fresh_setBox.2 ⟨h5.1, n54⟩) [.fn 40 [.ptr b3 0, .ptr b4 0]]
  have hlb : σ.le ((σa.setBox b4 [.fn 43 [.ptr b3 0, .ptr b5 0]]).setBox b5 [.fn 40 [.ptr b3 0, .ptr b4 0]]) := by
   have f4 := hB0.le.fresh h4
   have f5 := hB0.le.fresh h5.1
   exact hla.trans (((AS.le.refl σa).setBox f4.1 _).setBox f5.1 _)
  have hF : Fns ((σa.setBox b4 [.fn 43 [.ptr b3 0, .ptr b5 0]]).setBox b5 [.fn 40 [.ptr b3 0, .ptr b4 0]]) b3 b4 b5 := ⟨by simp [AS.setBox, n45], by simp [AS.setBox]⟩
  have hst : ((S.setBox b4 [.nilfn]).setBox b5 [.fn 40 [.ptr b3 0, .ptr b4 0]]).setBox b4 [.fn 43 [.ptr b3 0, .ptr b5 0]] = (S.setBox b4 [.fn 43 [.ptr b3 0, .ptr b5 0]]).setBox b5 [.fn 40 [.ptr b3 0, .ptr b4 0]] := by
   rw [AS.setBox_comm n54, set_set]
  generalize (σa.setBox b4 [.fn 43 [.ptr b3 0, .ptr b5 0]]).setBox b5 [.fn 40 [.ptr b3 0, .ptr b4 0]] = σb at *
  clear hB1 hB0 h3 h1 hσa hla ha1 h4 h5
  simp -dsimp only [↓bp, bq, br, seval, tbTText3, n54, n45, n14, n15, hS1]
  rw [hst]
  refine Tri.mono (hput σb _ b3 b4 b5 [] hF hB2 (by simp; omega)) ?_
  rintro r s2 hB3
  repeat' (first | refine xs ?_ ?_ <;> intros | (refine wn ?_; intro bx hbx; try simp only [fb] at hbx) | ((refine Tri.mono (string_tri _ hB3 (by simp; omega)) ?_; rintro r s3 ⟨rfl, rfl⟩)) | refine wj ?_ | simp -dsimp only [↓bp, bq, br, seval, tbTText3, *] | refine wz ?_ | fail)
  all_goals skip
end
set_option maxRecDepth 20000
section
def tbTermApi2 := And.intro (And.intro (And.intro (And.intro @tf3 (And.intro @tf4 @tf5)) (And.intro @tf47 (And.intro @tf9 @tf23))) (And.intro (And.intro @tf22 (And.intro @tf24 @tf26)) (And.intro @tf36 (And.intro @Term.flat_enc @Term.isv_enc)))) (And.intro (And.intro (And.intro @Term.fold_enc (And.intro @isv_encs @flat_encs)) (And.intro @len_encs (And.intro @ix_encs @ix_encs'))) (And.intro (And.intro @isv_lims (And.intro @flat_lims @len_lims)) (And.intro @ix_lims (And.intro @ix_lims' @flat_limA))))
variable (G : Nat -> AV)
theorem right_raw (l r : List Term) (hb : bulks l + bulks r < 900000000) : Pure Tryz.prog G 9 [.agg [.int .u8 7, .bool false, .nil, .str [], .int .i64 0, encs l, encs r]] (.bool (right (listT l r))) :=
 (right_pure G (listT l r) (by simp [listT, Term.bulk]; omega)).lessArgs (.cons (listT_le l r) .nil)
set_option maxHeartbeats 1000000 in
theorem cons_pure (h t : Term) (hh : h.bulk <= 300000000) (ht : t.bulk <= 300000000) : Pure Tryz.prog G 20 [h.enc, t.enc] (cons h t).enc := by
 have rh := right_pure G h (by omega)
 have rt := right_pure G t (by omega)
 have c1 := copies_one G h (by omega)
 have c2 := copies_one G t (by omega)
 have hbt := t.bulk_eq
 refine Pure.of_le fun σ => ?_
 cases eh : right h with
 | false =>
  rw [cons_bad (by simp [eh])]
  rw [eh] at rh
  refine Tri.of_awp mixed Tryz.func20 rfl (by kernel_rfl) (by kernel_rfl) (by simp [Tryz.ntmps20]) Tryz.results20 ?_
  repeat' (first | refine xs ?_ ?_ <;> intros | (refine wn ?_; intro bx hbx; try simp only [fb] at hbx) | refine wp rh ?_ | refine wp rt ?_ | refine wj ?_ | simp -dsimp only [↓bp, bq, br, seval, tbTermApi2, *] | refine wz ?_ | fail)
  exact finish_le (enc_nil 0 false [] 0) (by repeat' first | exact lr _ | assumption | refine ls ?_ ?_ | refine lt ?_ ?_ | simp only [*]; done | simp only [fb, *, not_false_eq_true, and_self]; done | exact lf ‹_› (by simp only [*]))
 | true => cases et : right t with
  | false =>
   rw [cons_bad (by simp [et])]
   rw [eh] at rh
   rw [et] at rt
   refine Tri.of_awp mixed Tryz.func20 rfl (by kernel_rfl) (by kernel_rfl) (by simp [Tryz.ntmps20]) Tryz.results20 ?_
   repeat' (first | refine xs ?_ ?_ <;> intros | (refine wn ?_; intro bx hbx; try simp only [fb] at hbx) | refine wp rh ?_ | refine wp rt ?_ | refine wj ?_ | simp -dsimp only [↓bp, bq, br, seval, tbTermApi2, *] | refine wz ?_ | fail)
   exact finish_le (enc_nil 0 false [] 0) (by repeat' first | exact lr _ | assumption | refine ls ?_ ?_ | refine lt ?_ ?_ | simp only [*]; done | simp only [fb, *, not_false_eq_true, and_self]; done | exact lf ‹_› (by simp only [*]))
  | true =>
   rw [eh] at rh
   rw [et] at rt
   by_cases h7 : t.knd = 7
   ·have hc0 : cons0 h t = listT (h :: t.items) t.tail := by unfold cons0; rw [if_pos h7]
    have c3 := copies_head G h t.items (by omega) (by omega)
    have c4 := copies_row G t.tail (by omega)
    have r1 := right_raw G (h :: t.items) t.tail (by simp only [bulks]; omega)
    rw [<- hc0] at r1
    have k7 := eq_true h7
    clear h7
    cases er : right (cons0 h t) with
    | false =>
     have e : cons h t = zeroT := by unfold cons; rw [if_neg (by simp [er])]
     rw [e]
     rw [er] at r1
     refine Tri.of_awp mixed Tryz.func20 rfl (by kernel_rfl) (by kernel_rfl) (by simp [Tryz.ntmps20]) Tryz.results20 ?_
     repeat' (first | refine xs ?_ ?_ <;> intros | (refine wn ?_; intro bx hbx; try simp only [fb] at hbx) | refine wp rh ?_ | refine wp rt ?_ | refine wp c1 ?_ | refine wp c2 ?_ | refine wp c3 ?_ | refine wp c4 ?_ | refine wp r1 ?_ | refine wj ?_ | simp -dsimp only [↓bp, bq, br, seval, tbTermApi2, *] | refine wz ?_ | fail)
     exact finish_le (enc_nil 0 false [] 0) (by repeat' first | exact lr _ | assumption | refine ls ?_ ?_ | refine lt ?_ ?_ | simp only [*]; done | simp only [fb, *, not_false_eq_true, and_self]; done | exact lf ‹_› (by simp only [*]))
    | true =>
     have e : cons h t = listT (h :: t.items) t.tail := by unfold cons; rw [if_pos ⟨eh, et, er⟩, hc0]
     rw [e]
     rw [er] at r1
     refine Tri.of_awp mixed Tryz.func20 rfl (by kernel_rfl) (by kernel_rfl) (by simp [Tryz.ntmps20]) Tryz.results20 ?_
     repeat' (first | refine xs ?_ ?_ <;> intros | (refine wn ?_; intro bx hbx; try simp only [fb] at hbx) | refine wp rh ?_ | refine wp rt ?_ | refine wp c1 ?_ | refine wp c2 ?_ | refine wp c3 ?_ | refine wp c4 ?_ | refine wp r1 ?_ | refine wj ?_ | simp -dsimp only [↓bp, bq, br, seval, tbTermApi2, *] | refine wz ?_ | fail)
     exact finish_le (listT_le _ _) (by repeat' first | exact lr _ | assumption | refine ls ?_ ?_ | refine lt ?_ ?_ | simp only [*]; done | simp only [fb, *, not_false_eq_true, and_self]; done | exact lf ‹_› (by simp only [*]))
   ·have hc0 : cons0 h t = listT [h] [t] := by unfold cons0; rw [if_neg h7]
    have r1 := right_raw G [h] [t] (by simp only [bulks]; omega)
    rw [<- hc0] at r1
    simp only [encs, List.map_cons, List.map_nil] at r1
    have k7 := eq_false h7
    clear h7
    cases er : right (cons0 h t) with
    | false =>
     have e : cons h t = zeroT := by unfold cons; rw [if_neg (by simp [er])]
     rw [e]
     rw [er] at r1
     refine Tri.of_awp mixed Tryz.func20 rfl (by kernel_rfl) (by kernel_rfl) (by simp [Tryz.ntmps20]) Tryz.results20 ?_
     repeat' (first | refine xs ?_ ?_ <;> intros | (refine wn ?_; intro bx hbx; try simp only [fb] at hbx) | refine wp rh ?_ | refine wp rt ?_ | refine wp c1 ?_ | refine wp c2 ?_ | refine wp r1 ?_ | refine wj ?_ | simp -dsimp only [↓bp, bq, br, seval, tbTermApi2, *] | refine wz ?_ | fail)
     exact finish_le (enc_nil 0 false [] 0) (by repeat' first | exact lr _ | assumption | refine ls ?_ ?_ | refine lt ?_ ?_ | simp only [*]; done | simp only [fb, *, not_false_eq_true, and_self]; done | exact lf ‹_› (by simp only [*]))
    | true =>
     have e : cons h t = listT [h] [t] := by unfold cons; rw [if_pos ⟨eh, et, er⟩, hc0]
     rw [e]
     rw [er] at r1
     refine Tri.of_awp mixed Tryz.func20 rfl (by kernel_rfl) (by kernel_rfl) (by simp [Tryz.ntmps20]) Tryz.results20 ?_
     repeat' (first | refine xs ?_ ?_ <;> intros | (refine wn ?_; intro bx hbx; try simp only [fb] at hbx) | refine wp rh ?_ | refine wp rt ?_ | refine wp c1 ?_ | refine wp c2 ?_ | refine wp r1 ?_ | refine wj ?_ | simp -dsimp only [↓bp, bq, br, seval, tbTermApi2, *] | refine wz ?_ | fail)
     exact finish_le (listT_le [h] [t]) (by repeat' first | exact lr _ | assumption | refine ls ?_ ?_ | refine lt ?_ ?_ | simp only [*]; done | simp only [fb, *, not_false_eq_true, and_self]; done | exact lf ‹_› (by simp only [*]))
end
end Go.Proofs.YtdhbdhopnpmboaaGreatDoor
