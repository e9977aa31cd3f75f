/- Comparing: amounts, integers; rows of terms; the order of terms. -/
import Derived.Test.YtdhbdhopnpmboaaGreatDoorZ09
import Derived.Test.YtdhbdhopnpmboaaGreatDoorZ07
set_option linter.unusedVariables false
set_option linter.unusedSimpArgs false
set_option maxRecDepth 20000
set_option linter.defProp false
namespace Go.Proofs.YtdhbdhopnpmboaaGreatDoor
open Go Go.Av
section
def tbCmp2 := And.intro (And.intro (And.intro (And.intro @tf3 (And.intro @tf4 @tf5)) (And.intro @tf47 (And.intro @tf9 @tf23))) (And.intro (And.intro @tf22 (And.intro @tf24 @tf26)) (And.intro @tf147 (And.intro @Term.flat_enc @Term.isv_enc)))) (And.intro (And.intro (And.intro @Term.fold_enc (And.intro @isv_encs @flat_encs)) (And.intro @len_encs (And.intro @ix_encs @ix_encs'))) (And.intro (And.intro @isv_lims (And.intro @flat_lims @len_lims)) (And.intro (And.intro @ix_lims @ix_lims') (And.intro @flat_limA @s_gtr))))
variable (G : Nat -> AV)
def amt (a b : List UInt32) : Int := if (a.length : Int) ≠ b.length then (a.length : Int) - b.length else cmpL a.reverse b.reverse
theorem amounts_pure (a b : List UInt32) (ha : a.length <= 1000000000) (hb : b.length <= 1000000000) : Pure Tryz.prog G 161 [lims a, lims b] (.int .i64 (amt a b)) := by
 have hw : IntKind.i64.wrap ((a.length : Int) - b.length) = a.length - b.length := wrap_nat (by omega) (by omega)
 have hw2 : IntKind.i64.wrap ((a.length : Int) - 1) = a.length - 1 := wrap_nat (by omega) (by omega)
 have hw2b : IntKind.i64.wrap ((b.length : Int) - 1) = b.length - 1 := wrap_nat (by omega) (by omega)
 intro σ
 by_cases hne : (a.length : Int) = b.length
 ·have hamt : amt a b = cmpL a.reverse b.reverse := by unfold amt; rw [if_neg (by simpa using hne)]
  rw [hamt]
  refine Tri.of_awp mixed Tryz.func161 rfl (by kernel_rfl) (by kernel_rfl) (by simp [Tryz.ntmps161]) Tryz.results161 ?_
  repeat' (first | refine xs ?_ ?_ <;> intros | (refine wn ?_; intro bx hbx; try simp only [fb] at hbx) | refine wj ?_ | simp -dsimp only [↓bp, bq, br, seval, tbCmp2, *] | refine wz ?_ | fail)
  refine loop_keep mixed (fun k e => k <= a.length /\ e 5 = .int .i64 ((k : Int) - 1) /\ cmpL (a.take k).reverse (b.take k).reverse = cmpL a.reverse b.reverse) a.length
   ⟨by omega, by first | (simp -dsimp only [↓bp, bq, br, seval, tbCmp2, hw2, hw2b, hne]; done) | (simp -dsimp only [↓bp, bq, br, seval, tbCmp2, hw2, hw2b, hne]; try rfl), by rw [List.take_length, show a.length = b.length by omega, List.take_length]⟩ ?_
  rintro k v ⟨hk, h5, hc⟩
  simp -dsimp only [↓bp, bq, br, seval, tbCmp2] at h5
  cases k with
  | zero =>
   simp at h5
   simp only [List.take_zero, List.reverse_nil, cmpL] at hc
   rw [<- hc]
   clear hk hc
   repeat' (first | refine xs ?_ ?_ <;> intros | (refine wn ?_; intro bx hbx; try simp only [fb] at hbx) | refine wj ?_ | simp -dsimp only [↓bp, bq, br, seval, tbCmp2, *] | refine wz ?_ | fail)
   all_goals rfl
  | succ k =>
   have e5 : ((k + 1 : Nat) : Int) - 1 = k := by omega
   rw [e5] at h5
   obtain ⟨x, hx⟩ : ∃ x, a[k]? = some x := ⟨_, List.getElem?_eq_getElem (by omega)⟩
   obtain ⟨y, hy⟩ : ∃ y, b[k]? = some y := ⟨_, List.getElem?_eq_getElem (by omega)⟩
   rw [take_succ_get _ _ _ hx, take_succ_get _ _ _ hy, List.reverse_append, List.reverse_append] at hc
   simp only [List.reverse_cons, List.reverse_nil, List.nil_append, List.cons_append, cmpL] at hc
   have h0 : (0 : Int) <= k := by omega
   have hwk : IntKind.i64.wrap ((k : Int) - 1) = k - 1 := wrap_nat (by omega) (by omega)
   by_cases c1 : (x.toNat : Int) < y.toNat
   ·have : cmpL a.reverse b.reverse = -1 := by rw [<- hc]; simp [lex, cmpI, c1]
    rw [this]
    clear hc hk
    repeat' (first | refine xs ?_ ?_ <;> intros | (refine wn ?_; intro bx hbx; try simp only [fb] at hbx) | refine wj ?_ | simp -dsimp only [↓bp, bq, br, seval, tbCmp2, limA, *] | refine wz ?_ | fail)
    all_goals rfl
   ·by_cases c2 : (y.toNat : Int) < x.toNat
    ·have : cmpL a.reverse b.reverse = 1 := by rw [<- hc]; simp [lex, cmpI, c1, c2]
     rw [this]
     clear hc hk
     repeat' (first | refine xs ?_ ?_ <;> intros | (refine wn ?_; intro bx hbx; try simp only [fb] at hbx) | refine wj ?_ | simp -dsimp only [↓bp, bq, br, seval, tbCmp2, limA, *] | refine wz ?_ | fail)
     all_goals rfl
    ·have hc2 : cmpL (a.take k).reverse (b.take k).reverse = cmpL a.reverse b.reverse := by rw [<- hc]; simp [lex, cmpI, c1, c2]
     clear hc hk
     have hkk : k <= a.length := by have := (List.getElem?_eq_some_iff.1 hx).1; omega
     repeat' (first | refine xs ?_ ?_ <;> intros | (refine wn ?_; intro bx hbx; try simp only [fb] at hbx) | refine wj ?_ | simp -dsimp only [↓bp, bq, br, seval, tbCmp2, limA, *] | refine wz ?_ | fail)
     all_goals exact ⟨k, by omega, by omega, rfl, hc2⟩
 ·have hamt : amt a b = (a.length : Int) - b.length := by unfold amt; rw [if_pos (by simpa using hne)]
  rw [hamt]
  have hne' := eq_false hne
  clear hne
  refine Tri.of_awp mixed Tryz.func161 rfl (by kernel_rfl) (by kernel_rfl) (by simp [Tryz.ntmps161]) Tryz.results161 ?_
  repeat' (first | refine xs ?_ ?_ <;> intros | (refine wn ?_; intro bx hbx; try simp only [fb] at hbx) | refine wj ?_ | simp -dsimp only [↓bp, bq, br, seval, tbCmp2, *] | refine wz ?_ | fail)
  all_goals rfl
theorem sign_pure (t : Term) : Pure Tryz.prog G 160 [t.enc] (.int .i64 (sgn t)) := by
 intro σ
 refine Tri.of_awp mixed Tryz.func160 rfl (by kernel_rfl) (by kernel_rfl) (by simp [Tryz.ntmps160]) Tryz.results160 ?_
 repeat' (first | refine xs ?_ ?_ <;> intros | (refine wn ?_; intro bx hbx; try simp only [fb] at hbx) | refine wj ?_ | simp -dsimp only [↓bp, bq, br, seval, tbCmp2, *] | refine wz ?_ | fail)
 all_goals simp_all [sgn]
theorem amt_cmp (a b : List UInt32) : (amt a b < 0 ↔ cmpA a b = -1) /\ (amt a b = 0 ↔ cmpA a b = 0) /\ (0 < amt a b ↔ cmpA a b = 1) := by
 have hr := cmpL_R a.reverse b.reverse
 unfold amt cmpA lex cmpI
 unfold R3 at hr
 by_cases h1 : (a.length : Int) < b.length
 ·simp [h1]; omega
 ·by_cases h2 : (b.length : Int) < a.length
  ·have h3 : ¬ (a.length : Int) = b.length := by omega
   simp [h1, h2]; omega
  ·have h3 : (a.length : Int) = b.length := by omega
   simp [h3]
   omega
theorem wcompare_pure (a b : Term) (ha : wr a = true) (hb : wr b = true) : Pure Tryz.prog G 117 [a.enc, b.enc] (.int .i64 (cmpW a b)) := by
 have bulk32 : ∀ t : Term, wr t = true -> t.bulk <= 1000000000 /\ t.limbs.length <= 32 := fun t h => by
  obtain ⟨_, h2, _, h4, h5, h6, _⟩ := wr_spec h
  have := t.bulk_eq
  rw [h2, h4, h5] at this
  simp [bulks] at this
  omega
 have pa := wr_pure G a (bulk32 a ha).1
 have pb := wr_pure G b (bulk32 b hb).1
 have sa := sign_pure G a
 have sb := sign_pure G b
 have am := amounts_pure G a.limbs b.limbs (by have := bulk32 a ha; omega) (by have := bulk32 b hb; omega)
 rw [ha] at pa
 rw [hb] at pb
 have hc := amt_cmp a.limbs b.limbs
 have hR := cmpA_R a.limbs b.limbs
 generalize amt a.limbs b.limbs = m at am hc
 unfold cmpW
 intro σ
 by_cases hs : sgn a = sgn b
 ·rw [if_neg (by simpa using hs)]
  rw [<- hs] at sb
  obtain ⟨q, hq⟩ : ∃ q, q = sgn a := ⟨_, rfl⟩
  have ho := sgn_or a
  rw [<- hq] at sa sb ho ⊢
  generalize cmpA a.limbs b.limbs = c at hc hR ⊢
  clear ha hb hs hq
  refine Tri.of_awp mixed Tryz.func117 rfl (by kernel_rfl) (by kernel_rfl) (by simp [Tryz.ntmps117]) Tryz.results117 ?_
  repeat' (first | refine xs ?_ ?_ <;> intros | (refine wn ?_; intro bx hbx; try simp only [fb] at hbx) | refine wp pa ?_ | refine wp pb ?_ | refine wp sa ?_ | refine wp sb ?_ | refine wp am ?_ | refine wj ?_ | simp -dsimp only [↓bp, bq, br, seval, tbCmp2, *] | refine wz ?_ | fail)
  have e : (if -1 > (if 1 < m then 1 else m) then -1 else if 1 < m then 1 else m) = c := by
   unfold R3 at hR
   by_cases h1 : 1 < m
   ·simp only [h1, if_true]; rw [if_neg (by omega)]; omega
   ·simp only [h1, if_false]; split <;> omega
  rw [e]
  unfold R3 at hR
  rcases hR with rfl | rfl | rfl <;> rcases ho with rfl | rfl <;> rfl
 ·rw [if_pos (by simpa using hs)]
  have hs' := eq_false hs
  generalize sgn a = p at *
  generalize sgn b = q at *
  clear hs ha hb
  refine Tri.of_awp mixed Tryz.func117 rfl (by kernel_rfl) (by kernel_rfl) (by simp [Tryz.ntmps117]) Tryz.results117 ?_
  repeat' (first | refine xs ?_ ?_ <;> intros | (refine wn ?_; intro bx hbx; try simp only [fb] at hbx) | refine wp pa ?_ | refine wp pb ?_ | refine wp sa ?_ | refine wp sb ?_ | refine wp am ?_ | refine wj ?_ | simp -dsimp only [↓bp, bq, br, seval, tbCmp2, *] | refine wz ?_ | fail)
  all_goals rfl
theorem cmpf_pure (l r : List Term) (hl : l.length <= 1000000000) (hr : r.length <= 1000000000) (hf : ∀ x, x ∈ l -> ∀ y, y ∈ r -> Pure Tryz.prog G 69 [x.enc, y.enc] (.int .i64 (order x y))) :
  Pure Tryz.prog G 116 [encs l, encs r, .fn 69 []] (.int .i64 (rl l r)) := by
 intro σ
 refine Tri.of_awp mixed Tryz.func116 rfl (by kernel_rfl) (by kernel_rfl) (by simp [Tryz.ntmps116]) Tryz.results116 ?_
 simp -dsimp only [↓bp, bq, br, seval, tbCmp2]
 refine loop_intro (fun n e σ' => ∃ i : Nat, i <= (l).length /\ n = (l).length - i /\ e 13 = .int .i64 i /\ σ.le σ' /\ rl (l.drop i) (r.drop i) = rl l r) (l).length
   ⟨0, by omega, by omega, by simp -dsimp only [↓bp, bq, br, seval, tbCmp2]; first | done | rfl, AS.le.refl σ, rfl⟩ ?_
 rintro n v σ' ⟨i, hi, rfl, h13, ⟨hle, hrl⟩⟩
 simp -dsimp only [↓bp, bq, br, seval, tbCmp2] at h13
 simp -dsimp only [↓bp, bq, br, seval, tbCmp2, h13]
 refine condW_dec (fun hlt => ?_) (fun hge => ?_)
 ·obtain ⟨x, hx⟩ : ∃ x, l[i]? = some x := ⟨_, List.getElem?_eq_getElem (by omega)⟩
  have hxm : x ∈ l := List.mem_of_getElem? hx
  have hdx := drop_get _ _ _ hx
  rw [hdx] at hrl
  clear hi hlt
  by_cases hir : i < r.length
  ·obtain ⟨y, hy⟩ : ∃ y, r[i]? = some y := ⟨_, List.getElem?_eq_getElem (by omega)⟩
   have hym : y ∈ r := List.mem_of_getElem? hy
   have hdy := drop_get _ _ _ hy
   rw [hdy] at hrl
   simp only [rl] at hrl
   have hp := hf x hxm y hym
   have hge : ¬ (r.length : Int) <= i := by omega
   clear hir hdx hdy hf
   by_cases h0 : order x y = 0
   ·rw [h0] at hp hrl
    repeat' (first | refine xs ?_ ?_ <;> intros | (refine wn ?_; intro bx hbx; try simp only [fb] at hbx) | refine wp hp ?_ | refine wj ?_ | simp -dsimp only [↓bp, bq, br, seval, tbCmp2, *] | refine wz ?_ | fail)
    all_goals (have hlt := (List.getElem?_eq_some_iff.1 hx).1)
    all_goals exact ⟨l.length - (i + 1), by omega, i + 1, by omega, rfl, by rw [wrap_nat (by omega) (by omega)]; rfl, by repeat' first | exact lr _ | assumption | refine ls ?_ ?_ | refine lt ?_ ?_ | simp only [*]; done | simp only [fb, *, not_false_eq_true, and_self]; done | exact lf ‹_› (by simp only [*]), by simpa [lex] using hrl⟩
   ·have h0' := eq_false h0
    have e : rl l r = order x y := by rw [<- hrl]; simp [lex, h0]
    rw [e]
    clear h0 hrl e
    generalize order x y = c at *
    repeat' (first | refine xs ?_ ?_ <;> intros | (refine wn ?_; intro bx hbx; try simp only [fb] at hbx) | refine wp hp ?_ | refine wj ?_ | simp -dsimp only [↓bp, bq, br, seval, tbCmp2, *] | refine wz ?_ | fail)
    all_goals first | rfl | skip
  ·have hdr : r.drop i = [] := List.drop_eq_nil_of_le (by omega)
   rw [hdr] at hrl
   simp only [rl] at hrl
   have hge : (r.length : Int) <= i := by omega
   rw [<- hrl]
   clear hir hdr hf hrl hdx
   repeat' (first | refine xs ?_ ?_ <;> intros | (refine wn ?_; intro bx hbx; try simp only [fb] at hbx) | refine wj ?_ | simp -dsimp only [↓bp, bq, br, seval, tbCmp2, *] | refine wz ?_ | fail)
   all_goals first | rfl | skip
 ·have : i = l.length := by omega
  subst this
  rw [List.drop_length] at hrl
  clear hi hge hf
  by_cases hlr : (l.length : Int) < r.length
  ·obtain ⟨y, s, hs⟩ : ∃ y s, r.drop l.length = y :: s := by
    cases h : r.drop l.length with
    | nil => have := congrArg List.length h; simp at this; omega
    | cons y s => exact ⟨y, s, rfl⟩
   rw [hs] at hrl
   simp only [rl] at hrl
   rw [<- hrl]
   clear hrl hs
   repeat' (first | refine xs ?_ ?_ <;> intros | (refine wn ?_; intro bx hbx; try simp only [fb] at hbx) | refine wj ?_ | simp -dsimp only [↓bp, bq, br, seval, tbCmp2, *] | refine wz ?_ | fail)
   all_goals first | rfl | skip
  ·have hs : r.drop l.length = [] := List.drop_eq_nil_of_le (by omega)
   rw [hs] at hrl
   simp only [rl] at hrl
   rw [<- hrl]
   clear hrl hs
   repeat' (first | refine xs ?_ ?_ <;> intros | (refine wn ?_; intro bx hbx; try simp only [fb] at hbx) | refine wj ?_ | simp -dsimp only [↓bp, bq, br, seval, tbCmp2, *] | refine wz ?_ | fail)
   all_goals first | rfl | skip
theorem takes_rl : ∀ (l r : List Term), rl (l.take (min l.length r.length)) (r.take (min l.length r.length)) = rows l r
 | [], r => by simp [rl, rows]
 | _ :: _, [] => by simp [rl, rows]
 | a :: l, b :: r => by
  have e : min (a :: l).length (b :: r).length = min l.length r.length + 1 := by simp only [List.length_cons]; omega
  rw [e, List.take_succ_cons, List.take_succ_cons, rl, rows, takes_rl l r]
theorem row_pure (a b : Term) (ha : a.bulk <= 1000000000) (hb : b.bulk <= 1000000000) (hf : ∀ x, x ∈ a.items -> ∀ y, y ∈ b.items -> Pure Tryz.prog G 69 [x.enc, y.enc] (.int .i64 (order x y))) (σ : AS) (p q : Nat) (hp : σ.box p = some (flat a.enc)) (hq : σ.box q = some (flat b.enc)) :
  Tri Tryz.prog G 115 [.ptr p 0, .ptr q 0] σ fun r σ' => r = .int .i64 (rows a.items b.items) /\ σ' = σ := by
 have h1 := len_items a
 have h2 := len_items b
 obtain ⟨k, hk⟩ : ∃ k, k = min a.items.length b.items.length := ⟨_, rfl⟩
 have hkk : (if (b.items.length : Int) < a.items.length then (b.items.length : Int) else a.items.length) = (k : Int) := by split <;> omega
 have hkk2 : (if (a.items.length : Int) < b.items.length then (a.items.length : Int) else b.items.length) = (k : Int) := by split <;> omega
 have hc := cmpf_pure G (a.items.take k) (b.items.take k) (by rw [List.length_take]; omega) (by rw [List.length_take]; omega) (fun x hx y hy => hf x (List.mem_of_mem_take hx) y (List.mem_of_mem_take hy))
 rw [hk, takes_rl, <- hk] at hc
 have hka : k <= a.items.length := by omega
 have hkb : k <= b.items.length := by omega
 rw [Term.flat_enc] at hp hq
 clear hf h1 h2 hk
 refine Tri.of_awp mixed Tryz.func115 rfl (by kernel_rfl) (by kernel_rfl) (by simp [Tryz.ntmps115]) Tryz.results115 ?_
 repeat' (first | refine xs ?_ ?_ <;> intros | (refine wn ?_; intro bx hbx; try simp only [fb] at hbx) | refine wp hc ?_ | refine wj ?_ | simp -dsimp only [↓bp, bq, br, seval, tbCmp2, sl_encs, hkk, hkk2, *] | refine wz ?_ | fail)
 all_goals skip
end
set_option maxRecDepth 20000
section
def tbSize4 := And.intro (And.intro (And.intro (And.intro @tf3 @tf4) (And.intro @tf5 (And.intro @tf47 @tf9))) (And.intro (And.intro @tf23 (And.intro @tf22 @tf24)) (And.intro @tf26 (And.intro @Term.flat_enc @Term.isv_enc)))) (And.intro (And.intro (And.intro @Term.fold_enc (And.intro @isv_encs @flat_encs)) (And.intro @len_encs (And.intro @ix_encs @ix_encs'))) (And.intro (And.intro @isv_lims (And.intro @flat_lims @len_lims)) (And.intro @ix_lims (And.intro @ix_lims' @flat_limA))))
variable (G : Nat -> AV)
set_option maxHeartbeats 4000000 in
theorem size_list (t : Term) (hb : t.bulk <= 1000000000) (e7 : t.knd = 7) (hit : ∀ x, x ∈ t.items -> Pure Tryz.prog G 39 [x.enc] (.int .i64 (size x))) (htt : ∀ x, x ∈ t.tail -> Pure Tryz.prog G 39 [x.enc] (.int .i64 (size x))) :
  Pure Tryz.prog G 39 [t.enc] (.int .i64 (size t)) := by
 have hli := len_items t
 have hlt := len_tail t
 have hll := len_limbs t
 have hp4 := bare_pure4 G t
 have hse := size_eq t
 have hle := fun x (_ : x ∈ t.items) => size_le x
 have hw1 : IntKind.i64.wrap (1 + (t.limbs.length : Int)) = 1 + t.limbs.length := wrap_nat (by omega) (by omega)
 have hkn := t.knd_nn
 intro σ
 refine Tri.of_awp mixed Tryz.func39 rfl (by kernel_rfl) (by kernel_rfl) (by simp [Tryz.ntmps39]) Tryz.results39 ?_
 simp -dsimp only [↓bp, bq, br, seval, tbSize4]
 refine newW_intro fun b1 h1 => ?_
 simp -dsimp only [↓bp, bq, br, seval, tbSize4]
 refine newT_plain fun b3 h3 => ?_
 simp only [fresh_box] at h3
 obtain ⟨h3, h31, h13⟩ := h3
 simp -dsimp only [↓bp, bq, br, seval, tbSize4]
 refine newT_plain fun b5 h5 => ?_
 simp only [fresh_box] at h5
 obtain ⟨⟨h5, h51, h15⟩, h53, h35⟩ := h5
 have k1 := eq_false (show ¬ t.knd = 1 by omega)
 have k2 := eq_false (show ¬ t.knd = 2 by omega)
 have k3 := eq_false (show ¬ t.knd = 3 by omega)
 have k4 := eq_false (show ¬ t.knd = 4 by omega)
 have k5 := eq_false (show ¬ t.knd = 5 by omega)
 have k6 := eq_false (show ¬ t.knd = 6 by omega)
 have k7 := eq_true e7
 obtain ⟨f0, hf0⟩ : ∃ f0, f0 = (bare t false false true true && decide ((t.tail.length : Int) <= if (t.items.length : Int) < 1 then (t.items.length : Int) else 1)) := ⟨_, rfl⟩
 have hhd : head t = (1, 1, f0 && t.tail.all fun x => decide (x.knd ≠ 7)) := by unfold head; rw [if_neg (by omega), if_neg (by omega), if_neg (by omega), if_neg (by omega), if_pos e7, hf0]
 clear e7
 cases hbr : bare t false false true true
 ·rw [hbr] at hp4 hf0
  simp only [Bool.false_and] at hf0
  repeat' (first | refine xs ?_ ?_ <;> intros | (refine wn ?_; intro bx hbx; try simp only [fb] at hbx) | refine wp hp4 ?_ | refine wj ?_ | simp -dsimp only [↓bp, bq, br, seval, tbSize4, h53, h35, h51, h15, h31, h13, *] | refine wz ?_ | fail)
  refine loop_intro (fun n e σ' => ∃ i : Nat, i <= t.tail.length /\ n = t.tail.length - i /\ e 80 = .int .i64 i /\ σ.le σ' /\ σ'.box b1 = some [.int .u8 t.knd, .bool t.neg, lims t.limbs, .str t.text, .int .i64 t.num, encs t.items, encs t.tail] /\
    σ'.box b3 = some [.int .i64 1] /\ σ'.box b5 = some [.bool (f0 && (t.tail.take i).all fun x => decide (x.knd ≠ 7))]) t.tail.length ⟨0, by omega, by omega, by simp -dsimp only [↓bp, bq, br, seval, tbSize4]; try rfl, by repeat' (first | exact AS.le.refl _ | assumption | (refine le_set (by assumption) ?_)), by simp -dsimp only [↓bp, bq, br, seval, tbSize4, h53, h35, h51, h15, h31, h13], by simp -dsimp only [↓bp, bq, br, seval, tbSize4, h53, h35, h51, h15, h31, h13], by simp [AS.setBox, h53, h35, h51, h15, h31, h13, hf0]⟩ ?_
  rintro n v σ' ⟨i, hi, rfl, h80, hle', hB1, hB3, hB5⟩
  simp -dsimp only [↓bp, bq, br, seval, tbSize4] at h80
  simp -dsimp only [↓bp, bq, br, seval, tbSize4, h80]
  refine condW_dec (fun hlt2 => ?_) (fun hge2 => ?_)
  ·obtain ⟨x, hx⟩ : ∃ x, t.tail[i]? = some x := ⟨_, List.getElem?_eq_getElem (by omega)⟩
   have hsn : (f0 && (t.tail.take (i + 1)).all (fun x => decide (x.knd ≠ 7))) = ((f0 && (t.tail.take i).all fun x => decide (x.knd ≠ 7)) && decide (x.knd ≠ 7)) := by rw [take_succ_get _ _ _ hx, List.all_append]; simp [Bool.and_assoc]
   obtain ⟨g, hg⟩ : ∃ g, g = (f0 && (t.tail.take i).all fun x => decide (x.knd ≠ 7)) := ⟨_, rfl⟩
   rw [<- hg] at hB5 hsn
   simp -dsimp only [↓bp, bq, br, seval, tbSize4, h80, hx]
   refine newT_plain fun b7 h7 => ?_
   have n1 : ¬ b1 = b7 := fun e => by rw [<- e] at h7; rw [h7.1] at hB1; cases hB1
   have n3 : ¬ b3 = b7 := fun e => by rw [<- e] at h7; rw [h7.1] at hB3; cases hB3
   have n5 : ¬ b5 = b7 := fun e => by rw [<- e] at h7; rw [h7.1] at hB5; cases hB5
   have m5 : ¬ b7 = b5 := fun e => n5 e.symm
   cases g with
   | false =>
    simp -dsimp only [↓bp, bq, br, seval, tbSize4, h80, hx, hB1, hB3, hB5, n1, n3, n5, m5, h53, h35, h51, h15, h31, h13]
    refine ⟨t.tail.length - (i + 1), by omega, i + 1, by omega, rfl, by rw [wrap_nat (by omega) (by omega)]; rfl, by repeat' (first | assumption | (refine le_set (by first | assumption | exact hle'.fresh h7) ?_)), ?_⟩
    rw [hsn]
    first | rfl | simp
   | true =>
    simp -dsimp only [↓bp, bq, br, seval, tbSize4, h80, hx, hB1, hB3, hB5, n1, n3, n5, m5, h53, h35, h51, h15, h31, h13]
    refine ⟨t.tail.length - (i + 1), by omega, i + 1, by omega, rfl, by rw [wrap_nat (by omega) (by omega)]; rfl, by repeat' (first | assumption | (refine le_set (by first | assumption | exact hle'.fresh h7) ?_)), ?_⟩
    rw [hsn]
    first | rfl | simp
  ·have : i = t.tail.length := by omega
   subst this
   rw [List.take_length] at hB5
   simp -dsimp only [↓bp, bq, br, seval, tbSize4, h80, hB1, hB3, hB5, h53, h35, h51, h15, h31, h13]
   refine Tri.mono (adds_tri G t.items 1 (by omega) (by omega) (by omega) hit _ b5 b3 h53 1 (f0 && t.tail.all fun x => decide (x.knd ≠ 7)) (by simp -dsimp only [↓bp, bq, br, seval, tbSize4, h53, h35, h51, h15, h31, h13, hB1, hB3, hB5]) (by simp -dsimp only [↓bp, bq, br, seval, tbSize4, h53, h35, h51, h15, h31, h13, hB1, hB3, hB5]) (by omega) (fun _ => by omega) (by omega)) ?_
   rintro r σ' rfl
   have ha := adds_le t.items hle 1 (by omega) (by omega) (1, (f0 && t.tail.all fun x => decide (x.knd ≠ 7))) (by simp only; omega) (fun _ => by simp only; omega) (by simp only; omega)
   simp -dsimp only [↓bp, bq, br, seval, tbSize4, h53, h35, h51, h15, h31, h13, hB1, hB3, hB5]
   refine Tri.mono (adds_tri G t.tail 0 (by omega) (by omega) (by omega) htt _ b5 b3 h53 (adds t.items 1 (1, (f0 && t.tail.all fun x => decide (x.knd ≠ 7)))).1 (adds t.items 1 (1, (f0 && t.tail.all fun x => decide (x.knd ≠ 7)))).2 (by simp -dsimp only [↓bp, bq, br, seval, tbSize4, h53, h35, h51, h15, h31, h13, hB1, hB3, hB5]) (by simp -dsimp only [↓bp, bq, br, seval, tbSize4, h53, h35, h51, h15, h31, h13, hB1, hB3, hB5]) ha.1 ha.2.1 ha.2.2) ?_
   rintro r σ' rfl
   simp -dsimp only [↓bp, bq, br, seval, tbSize4, h53, h35, h51, h15, h31, h13, hB1, hB3, hB5]
   cases hfin : (adds t.tail 0 ((adds t.items 1 (1, (f0 && t.tail.all fun x => decide (x.knd ≠ 7)))).1, (adds t.items 1 (1, (f0 && t.tail.all fun x => decide (x.knd ≠ 7)))).2)).2
   ·simp -dsimp only [↓bp, bq, br, seval, tbSize4, h53, h35, h51, h15, h31, h13, hB1, hB3, hB5]
    refine finish_pure ?_ (by repeat' (first | exact AS.le.refl _ | assumption | (refine le_set (by assumption) ?_)))
    rw [hse, hhd]
    simp only [k1, hfin, if_false, Bool.true_and, Bool.false_and, Bool.false_eq_true, if_true]
   ·simp -dsimp only [↓bp, bq, br, seval, tbSize4, h53, h35, h51, h15, h31, h13, hB1, hB3, hB5]
    refine finish_pure ?_ (by repeat' (first | exact AS.le.refl _ | assumption | (refine le_set (by assumption) ?_)))
    rw [hse, hhd]
    simp only [k1, hfin, if_false, Bool.true_and, Bool.false_and, Bool.false_eq_true, if_true]
 ·rw [hbr] at hp4 hf0
  simp only [Bool.true_and] at hf0
  repeat' (first | refine xs ?_ ?_ <;> intros | (refine wn ?_; intro bx hbx; try simp only [fb] at hbx) | refine wp hp4 ?_ | refine wj ?_ | simp -dsimp only [↓bp, bq, br, seval, tbSize4, h53, h35, h51, h15, h31, h13, *] | refine wz ?_ | fail)
  refine loop_intro (fun n e σ' => ∃ i : Nat, i <= t.tail.length /\ n = t.tail.length - i /\ e 80 = .int .i64 i /\ σ.le σ' /\ σ'.box b1 = some [.int .u8 t.knd, .bool t.neg, lims t.limbs, .str t.text, .int .i64 t.num, encs t.items, encs t.tail] /\
    σ'.box b3 = some [.int .i64 1] /\ σ'.box b5 = some [.bool (f0 && (t.tail.take i).all fun x => decide (x.knd ≠ 7))]) t.tail.length ⟨0, by omega, by omega, by simp -dsimp only [↓bp, bq, br, seval, tbSize4]; try rfl, by repeat' (first | exact AS.le.refl _ | assumption | (refine le_set (by assumption) ?_)), by simp -dsimp only [↓bp, bq, br, seval, tbSize4, h53, h35, h51, h15, h31, h13], by simp -dsimp only [↓bp, bq, br, seval, tbSize4, h53, h35, h51, h15, h31, h13], by simp [AS.setBox, h53, h35, h51, h15, h31, h13, hf0]⟩ ?_
  rintro n v σ' ⟨i, hi, rfl, h80, hle', hB1, hB3, hB5⟩
  simp -dsimp only [↓bp, bq, br, seval, tbSize4] at h80
  simp -dsimp only [↓bp, bq, br, seval, tbSize4, h80]
  refine condW_dec (fun hlt2 => ?_) (fun hge2 => ?_)
  ·obtain ⟨x, hx⟩ : ∃ x, t.tail[i]? = some x := ⟨_, List.getElem?_eq_getElem (by omega)⟩
   have hsn : (f0 && (t.tail.take (i + 1)).all (fun x => decide (x.knd ≠ 7))) = ((f0 && (t.tail.take i).all fun x => decide (x.knd ≠ 7)) && decide (x.knd ≠ 7)) := by rw [take_succ_get _ _ _ hx, List.all_append]; simp [Bool.and_assoc]
   obtain ⟨g, hg⟩ : ∃ g, g = (f0 && (t.tail.take i).all fun x => decide (x.knd ≠ 7)) := ⟨_, rfl⟩
   rw [<- hg] at hB5 hsn
   simp -dsimp only [↓bp, bq, br, seval, tbSize4, h80, hx]
   refine newT_plain fun b7 h7 => ?_
   have n1 : ¬ b1 = b7 := fun e => by rw [<- e] at h7; rw [h7.1] at hB1; cases hB1
   have n3 : ¬ b3 = b7 := fun e => by rw [<- e] at h7; rw [h7.1] at hB3; cases hB3
   have n5 : ¬ b5 = b7 := fun e => by rw [<- e] at h7; rw [h7.1] at hB5; cases hB5
   have m5 : ¬ b7 = b5 := fun e => n5 e.symm
   cases g with
   | false =>
    simp -dsimp only [↓bp, bq, br, seval, tbSize4, h80, hx, hB1, hB3, hB5, n1, n3, n5, m5, h53, h35, h51, h15, h31, h13]
    refine ⟨t.tail.length - (i + 1), by omega, i + 1, by omega, rfl, by rw [wrap_nat (by omega) (by omega)]; rfl, by repeat' (first | assumption | (refine le_set (by first | assumption | exact hle'.fresh h7) ?_)), ?_⟩
    rw [hsn]
    first | rfl | simp
   | true =>
    simp -dsimp only [↓bp, bq, br, seval, tbSize4, h80, hx, hB1, hB3, hB5, n1, n3, n5, m5, h53, h35, h51, h15, h31, h13]
    refine ⟨t.tail.length - (i + 1), by omega, i + 1, by omega, rfl, by rw [wrap_nat (by omega) (by omega)]; rfl, by repeat' (first | assumption | (refine le_set (by first | assumption | exact hle'.fresh h7) ?_)), ?_⟩
    rw [hsn]
    first | rfl | simp
  ·have : i = t.tail.length := by omega
   subst this
   rw [List.take_length] at hB5
   simp -dsimp only [↓bp, bq, br, seval, tbSize4, h80, hB1, hB3, hB5, h53, h35, h51, h15, h31, h13]
   refine Tri.mono (adds_tri G t.items 1 (by omega) (by omega) (by omega) hit _ b5 b3 h53 1 (f0 && t.tail.all fun x => decide (x.knd ≠ 7)) (by simp -dsimp only [↓bp, bq, br, seval, tbSize4, h53, h35, h51, h15, h31, h13, hB1, hB3, hB5]) (by simp -dsimp only [↓bp, bq, br, seval, tbSize4, h53, h35, h51, h15, h31, h13, hB1, hB3, hB5]) (by omega) (fun _ => by omega) (by omega)) ?_
   rintro r σ' rfl
   have ha := adds_le t.items hle 1 (by omega) (by omega) (1, (f0 && t.tail.all fun x => decide (x.knd ≠ 7))) (by simp only; omega) (fun _ => by simp only; omega) (by simp only; omega)
   simp -dsimp only [↓bp, bq, br, seval, tbSize4, h53, h35, h51, h15, h31, h13, hB1, hB3, hB5]
   refine Tri.mono (adds_tri G t.tail 0 (by omega) (by omega) (by omega) htt _ b5 b3 h53 (adds t.items 1 (1, (f0 && t.tail.all fun x => decide (x.knd ≠ 7)))).1 (adds t.items 1 (1, (f0 && t.tail.all fun x => decide (x.knd ≠ 7)))).2 (by simp -dsimp only [↓bp, bq, br, seval, tbSize4, h53, h35, h51, h15, h31, h13, hB1, hB3, hB5]) (by simp -dsimp only [↓bp, bq, br, seval, tbSize4, h53, h35, h51, h15, h31, h13, hB1, hB3, hB5]) ha.1 ha.2.1 ha.2.2) ?_
   rintro r σ' rfl
   simp -dsimp only [↓bp, bq, br, seval, tbSize4, h53, h35, h51, h15, h31, h13, hB1, hB3, hB5]
   cases hfin : (adds t.tail 0 ((adds t.items 1 (1, (f0 && t.tail.all fun x => decide (x.knd ≠ 7)))).1, (adds t.items 1 (1, (f0 && t.tail.all fun x => decide (x.knd ≠ 7)))).2)).2
   ·simp -dsimp only [↓bp, bq, br, seval, tbSize4, h53, h35, h51, h15, h31, h13, hB1, hB3, hB5]
    refine finish_pure ?_ (by repeat' (first | exact AS.le.refl _ | assumption | (refine le_set (by assumption) ?_)))
    rw [hse, hhd]
    simp only [k1, hfin, if_false, Bool.true_and, Bool.false_and, Bool.false_eq_true, if_true]
   ·simp -dsimp only [↓bp, bq, br, seval, tbSize4, h53, h35, h51, h15, h31, h13, hB1, hB3, hB5]
    refine finish_pure ?_ (by repeat' (first | exact AS.le.refl _ | assumption | (refine le_set (by assumption) ?_)))
    rw [hse, hhd]
    simp only [k1, hfin, if_false, Bool.true_and, Bool.false_and, Bool.false_eq_true, if_true]
end
set_option maxRecDepth 20000
section
def tbSizeA := And.intro (And.intro (And.intro (And.intro @tf3 @tf4) (And.intro @tf5 (And.intro @tf47 @tf9))) (And.intro (And.intro @tf23 (And.intro @tf22 @tf24)) (And.intro @tf26 (And.intro @Term.flat_enc @Term.isv_enc)))) (And.intro (And.intro (And.intro @Term.fold_enc (And.intro @isv_encs @flat_encs)) (And.intro @len_encs (And.intro @ix_encs @ix_encs'))) (And.intro (And.intro @isv_lims (And.intro @flat_lims @len_lims)) (And.intro @ix_lims (And.intro @ix_lims' @flat_limA))))
variable (G : Nat -> AV)
set_option maxHeartbeats 4000000 in
theorem size_k1 (t : Term) (hb : t.bulk <= 1000000000) (hk : t.knd = 1) (hit : ∀ x, x ∈ t.items -> Pure Tryz.prog G 39 [x.enc] (.int .i64 (size x))) (htt : ∀ x, x ∈ t.tail -> Pure Tryz.prog G 39 [x.enc] (.int .i64 (size x))) :
  Pure Tryz.prog G 39 [t.enc] (.int .i64 (size t)) := by
 have hli := len_items t
 have hlt := len_tail t
 have hll := len_limbs t
 have hwr := wr_pure G t hb
 have hp0 := bare_pure0 G t
 have hp1 := bare_pure1 G t
 have hp2 := bare_pure2 G t
 have hp3 := bare_pure3 G t
 have hp4 := bare_pure4 G t
 have hse := size_eq t
 have hle := fun x (_ : x ∈ t.items) => size_le x
 have hw1 : IntKind.i64.wrap (1 + (t.limbs.length : Int)) = 1 + t.limbs.length := wrap_nat (by omega) (by omega)
 have hkn := t.knd_nn
 intro σ
 refine Tri.of_awp mixed Tryz.func39 rfl (by kernel_rfl) (by kernel_rfl) (by simp [Tryz.ntmps39]) Tryz.results39 ?_
 simp -dsimp only [↓bp, bq, br, seval, tbSizeA]
 refine newW_intro fun b1 h1 => ?_
 simp -dsimp only [↓bp, bq, br, seval, tbSizeA]
 refine newT_plain fun b3 h3 => ?_
 simp only [fresh_box] at h3
 obtain ⟨h3, h31, h13⟩ := h3
 simp -dsimp only [↓bp, bq, br, seval, tbSizeA]
 refine newT_plain fun b5 h5 => ?_
 simp only [fresh_box] at h5
 obtain ⟨⟨h5, h51, h15⟩, h53, h35⟩ := h5
 have e1 : t.knd = 1 := hk
 have e2 : ¬ t.knd = 2 := by omega
 have e3 : ¬ t.knd = 3 := by omega
 have e4 : ¬ t.knd = 4 := by omega
 have e5 : ¬ t.knd = 5 := by omega
 have e6 : ¬ t.knd = 6 := by omega
 have e7 : ¬ t.knd = 7 := by omega
 have k1 := eq_true e1
 clear hk e1
 repeat' (first | refine xs ?_ ?_ <;> intros | (refine wn ?_; intro bx hbx; try simp only [fb] at hbx) | refine wp hwr ?_ | refine wj ?_ | simp -dsimp only [↓bp, bq, br, seval, tbSizeA, h53, h35, h51, h15, h31, h13, k1, *] | refine wz ?_ | fail)
 all_goals simp_all
set_option maxHeartbeats 4000000 in
theorem size_k2 (t : Term) (hb : t.bulk <= 1000000000) (hk : t.knd = 2) (hit : ∀ x, x ∈ t.items -> Pure Tryz.prog G 39 [x.enc] (.int .i64 (size x))) (htt : ∀ x, x ∈ t.tail -> Pure Tryz.prog G 39 [x.enc] (.int .i64 (size x))) :
  Pure Tryz.prog G 39 [t.enc] (.int .i64 (size t)) := by
 have hli := len_items t
 have hlt := len_tail t
 have hll := len_limbs t
 have hwr := wr_pure G t hb
 have hp0 := bare_pure0 G t
 have hp1 := bare_pure1 G t
 have hp2 := bare_pure2 G t
 have hp3 := bare_pure3 G t
 have hp4 := bare_pure4 G t
 have hse := size_eq t
 have hle := fun x (_ : x ∈ t.items) => size_le x
 have hw1 : IntKind.i64.wrap (1 + (t.limbs.length : Int)) = 1 + t.limbs.length := wrap_nat (by omega) (by omega)
 have hkn := t.knd_nn
 intro σ
 refine Tri.of_awp mixed Tryz.func39 rfl (by kernel_rfl) (by kernel_rfl) (by simp [Tryz.ntmps39]) Tryz.results39 ?_
 simp -dsimp only [↓bp, bq, br, seval, tbSizeA]
 refine newW_intro fun b1 h1 => ?_
 simp -dsimp only [↓bp, bq, br, seval, tbSizeA]
 refine newT_plain fun b3 h3 => ?_
 simp only [fresh_box] at h3
 obtain ⟨h3, h31, h13⟩ := h3
 simp -dsimp only [↓bp, bq, br, seval, tbSizeA]
 refine newT_plain fun b5 h5 => ?_
 simp only [fresh_box] at h5
 obtain ⟨⟨h5, h51, h15⟩, h53, h35⟩ := h5
 have e1 : ¬ t.knd = 1 := by omega
 have e2 : t.knd = 2 := hk
 have e3 : ¬ t.knd = 3 := by omega
 have e4 : ¬ t.knd = 4 := by omega
 have e5 : ¬ t.knd = 5 := by omega
 have e6 : ¬ t.knd = 6 := by omega
 have e7 : ¬ t.knd = 7 := by omega
 have k1 := eq_false e1
 have k2 := eq_true e2
 have hhd : head t = (1, 0, bare t true false false false && decide ((t.text.length : Int) <= 40)) := by unfold head; rw [if_pos e2]
 clear hk e1 e2
 simp -dsimp only [↓bp, bq, br, seval, tbSizeA, h53, h35, h51, h15, h31, h13, k1, k2]
 refine Pure.use hp0 ?_
 simp -dsimp only [↓bp, bq, br, seval, tbSizeA, h53, h35, h51, h15, h31, h13, k1, k2]
 cases hbr : bare t true false false false
 ·rw [hbr] at hhd
  simp -dsimp only [↓bp, bq, br, seval, tbSizeA, h53, h35, h51, h15, h31, h13, k1, k2]
  refine Tri.mono (adds_tri G t.items 0 (by omega) (by omega) (by omega) hit _ b5 b3 h53 1 false (by simp -dsimp only [↓bp, bq, br, seval, tbSizeA, h53, h35, h51, h15, h31, h13]) (by simp -dsimp only [↓bp, bq, br, seval, tbSizeA, h53, h35, h51, h15, h31, h13]) (by omega) (fun _ => by omega) (by omega)) ?_
  rintro r σ' rfl
  have ha := adds_le t.items hle 0 (by omega) (by omega) (1, false) (by simp only; omega) (fun _ => by simp only; omega) (by simp only; omega)
  simp -dsimp only [↓bp, bq, br, seval, tbSizeA, h53, h35, h51, h15, h31, h13]
  refine Tri.mono (adds_tri G t.tail 0 (by omega) (by omega) (by omega) htt _ b5 b3 h53 (adds t.items 0 (1, false)).1 (adds t.items 0 (1, false)).2 (by simp -dsimp only [↓bp, bq, br, seval, tbSizeA, h53, h35, h51, h15, h31, h13]) (by simp -dsimp only [↓bp, bq, br, seval, tbSizeA, h53, h35, h51, h15, h31, h13]) ha.1 ha.2.1 ha.2.2) ?_
  rintro r σ' rfl
  simp -dsimp only [↓bp, bq, br, seval, tbSizeA, h53, h35, h51, h15, h31, h13]
  cases hfin : (adds t.tail 0 ((adds t.items 0 (1, false)).1, (adds t.items 0 (1, false)).2)).2
  ·simp -dsimp only [↓bp, bq, br, seval, tbSizeA, h53, h35, h51, h15, h31, h13]
   refine finish_pure ?_ (by repeat' (first | exact AS.le.refl _ | assumption | (refine le_set (by assumption) ?_)))
   rw [hse, hhd]
   simp only [k1, hfin, if_false, Bool.true_and, Bool.false_and, Bool.false_eq_true, if_true]
  ·simp -dsimp only [↓bp, bq, br, seval, tbSizeA, h53, h35, h51, h15, h31, h13]
   refine finish_pure ?_ (by repeat' (first | exact AS.le.refl _ | assumption | (refine le_set (by assumption) ?_)))
   rw [hse, hhd]
   simp only [k1, hfin, if_false, Bool.true_and, Bool.false_and, Bool.false_eq_true, if_true]
 ·rw [hbr] at hhd
  simp -dsimp only [↓bp, bq, br, seval, tbSizeA, h53, h35, h51, h15, h31, h13, k1, k2]
  refine Tri.mono (adds_tri G t.items 0 (by omega) (by omega) (by omega) hit _ b5 b3 h53 1 (decide ((t.text.length : Int) <= 40)) (by simp -dsimp only [↓bp, bq, br, seval, tbSizeA, h53, h35, h51, h15, h31, h13]) (by simp -dsimp only [↓bp, bq, br, seval, tbSizeA, h53, h35, h51, h15, h31, h13]) (by omega) (fun _ => by omega) (by omega)) ?_
  rintro r σ' rfl
  have ha := adds_le t.items hle 0 (by omega) (by omega) (1, (decide ((t.text.length : Int) <= 40))) (by simp only; omega) (fun _ => by simp only; omega) (by simp only; omega)
  simp -dsimp only [↓bp, bq, br, seval, tbSizeA, h53, h35, h51, h15, h31, h13]
  refine Tri.mono (adds_tri G t.tail 0 (by omega) (by omega) (by omega) htt _ b5 b3 h53 (adds t.items 0 (1, (decide ((t.text.length : Int) <= 40)))).1 (adds t.items 0 (1, (decide ((t.text.length : Int) <= 40)))).2 (by simp -dsimp only [↓bp, bq, br, seval, tbSizeA, h53, h35, h51, h15, h31, h13]) (by simp -dsimp only [↓bp, bq, br, seval, tbSizeA, h53, h35, h51, h15, h31, h13]) ha.1 ha.2.1 ha.2.2) ?_
  rintro r σ' rfl
  simp -dsimp only [↓bp, bq, br, seval, tbSizeA, h53, h35, h51, h15, h31, h13]
  cases hfin : (adds t.tail 0 ((adds t.items 0 (1, (decide ((t.text.length : Int) <= 40)))).1, (adds t.items 0 (1, (decide ((t.text.length : Int) <= 40)))).2)).2
  ·simp -dsimp only [↓bp, bq, br, seval, tbSizeA, h53, h35, h51, h15, h31, h13]
   refine finish_pure ?_ (by repeat' (first | exact AS.le.refl _ | assumption | (refine le_set (by assumption) ?_)))
   rw [hse, hhd]
   simp only [k1, hfin, if_false, Bool.true_and, Bool.false_and, Bool.false_eq_true, if_true]
  ·simp -dsimp only [↓bp, bq, br, seval, tbSizeA, h53, h35, h51, h15, h31, h13]
   refine finish_pure ?_ (by repeat' (first | exact AS.le.refl _ | assumption | (refine le_set (by assumption) ?_)))
   rw [hse, hhd]
   simp only [k1, hfin, if_false, Bool.true_and, Bool.false_and, Bool.false_eq_true, if_true]
end
set_option maxRecDepth 20000
section
def tbSizeB := And.intro (And.intro (And.intro (And.intro @tf3 @tf4) (And.intro @tf5 (And.intro @tf47 @tf9))) (And.intro (And.intro @tf23 (And.intro @tf22 @tf24)) (And.intro @tf26 (And.intro @Term.flat_enc @Term.isv_enc)))) (And.intro (And.intro (And.intro @Term.fold_enc (And.intro @isv_encs @flat_encs)) (And.intro @len_encs (And.intro @ix_encs @ix_encs'))) (And.intro (And.intro @isv_lims (And.intro @flat_lims @len_lims)) (And.intro @ix_lims (And.intro @ix_lims' @flat_limA))))
variable (G : Nat -> AV)
set_option maxHeartbeats 4000000 in
theorem size_k3 (t : Term) (hb : t.bulk <= 1000000000) (hk : t.knd = 3) (hit : ∀ x, x ∈ t.items -> Pure Tryz.prog G 39 [x.enc] (.int .i64 (size x))) (htt : ∀ x, x ∈ t.tail -> Pure Tryz.prog G 39 [x.enc] (.int .i64 (size x))) :
  Pure Tryz.prog G 39 [t.enc] (.int .i64 (size t)) := by
 have hli := len_items t
 have hlt := len_tail t
 have hll := len_limbs t
 have hwr := wr_pure G t hb
 have hp0 := bare_pure0 G t
 have hp1 := bare_pure1 G t
 have hp2 := bare_pure2 G t
 have hp3 := bare_pure3 G t
 have hp4 := bare_pure4 G t
 have hse := size_eq t
 have hle := fun x (_ : x ∈ t.items) => size_le x
 have hw1 : IntKind.i64.wrap (1 + (t.limbs.length : Int)) = 1 + t.limbs.length := wrap_nat (by omega) (by omega)
 have hkn := t.knd_nn
 intro σ
 refine Tri.of_awp mixed Tryz.func39 rfl (by kernel_rfl) (by kernel_rfl) (by simp [Tryz.ntmps39]) Tryz.results39 ?_
 simp -dsimp only [↓bp, bq, br, seval, tbSizeB]
 refine newW_intro fun b1 h1 => ?_
 simp -dsimp only [↓bp, bq, br, seval, tbSizeB]
 refine newT_plain fun b3 h3 => ?_
 simp only [fresh_box] at h3
 obtain ⟨h3, h31, h13⟩ := h3
 simp -dsimp only [↓bp, bq, br, seval, tbSizeB]
 refine newT_plain fun b5 h5 => ?_
 simp only [fresh_box] at h5
 obtain ⟨⟨h5, h51, h15⟩, h53, h35⟩ := h5
 have e1 : ¬ t.knd = 1 := by omega
 have e2 : ¬ t.knd = 2 := by omega
 have e3 : t.knd = 3 := hk
 have e4 : ¬ t.knd = 4 := by omega
 have e5 : ¬ t.knd = 5 := by omega
 have e6 : ¬ t.knd = 6 := by omega
 have e7 : ¬ t.knd = 7 := by omega
 have k1 := eq_false e1
 have k2 := eq_false e2
 have k3 := eq_true e3
 have hhd : head t = (1, 0, bare t false true false false && decide (0 <= t.num) && decide (t.num <= 1099511627776)) := by unfold head; rw [if_neg e2, if_pos (.inl e3)]
 clear hk e1 e2 e3
 cases hbr : bare t false true false false
 ·rw [hbr] at hhd hp1
  simp only [Bool.false_and] at hhd
  repeat' (first | refine xs ?_ ?_ <;> intros | (refine wn ?_; intro bx hbx; try simp only [fb] at hbx) | refine wp hp1 ?_ | refine wj ?_ | simp -dsimp only [↓bp, bq, br, seval, tbSizeB, h53, h35, h51, h15, h31, h13, *] | refine wz ?_ | fail)
  refine Tri.mono (adds_tri G t.items 0 (by omega) (by omega) (by omega) hit _ b5 b3 h53 1 false (by simp -dsimp only [↓bp, bq, br, seval, tbSizeB, h53, h35, h51, h15, h31, h13]) (by simp -dsimp only [↓bp, bq, br, seval, tbSizeB, h53, h35, h51, h15, h31, h13]) (by omega) (fun _ => by omega) (by omega)) ?_
  rintro r σ' rfl
  have ha := adds_le t.items hle 0 (by omega) (by omega) (1, false) (by simp only; omega) (fun _ => by simp only; omega) (by simp only; omega)
  simp -dsimp only [↓bp, bq, br, seval, tbSizeB, h53, h35, h51, h15, h31, h13]
  refine Tri.mono (adds_tri G t.tail 0 (by omega) (by omega) (by omega) htt _ b5 b3 h53 (adds t.items 0 (1, false)).1 (adds t.items 0 (1, false)).2 (by simp -dsimp only [↓bp, bq, br, seval, tbSizeB, h53, h35, h51, h15, h31, h13]) (by simp -dsimp only [↓bp, bq, br, seval, tbSizeB, h53, h35, h51, h15, h31, h13]) ha.1 ha.2.1 ha.2.2) ?_
  rintro r σ' rfl
  simp -dsimp only [↓bp, bq, br, seval, tbSizeB, h53, h35, h51, h15, h31, h13]
  cases hfin : (adds t.tail 0 ((adds t.items 0 (1, false)).1, (adds t.items 0 (1, false)).2)).2
  ·simp -dsimp only [↓bp, bq, br, seval, tbSizeB, h53, h35, h51, h15, h31, h13]
   refine finish_pure ?_ (by repeat' (first | exact AS.le.refl _ | assumption | (refine le_set (by assumption) ?_)))
   rw [hse, hhd]
   simp only [k1, hfin, if_false, Bool.true_and, Bool.false_and, Bool.false_eq_true, if_true]
  ·simp -dsimp only [↓bp, bq, br, seval, tbSizeB, h53, h35, h51, h15, h31, h13]
   refine finish_pure ?_ (by repeat' (first | exact AS.le.refl _ | assumption | (refine le_set (by assumption) ?_)))
   rw [hse, hhd]
   simp only [k1, hfin, if_false, Bool.true_and, Bool.false_and, Bool.false_eq_true, if_true]
 ·rw [hbr] at hhd hp1
  by_cases en : 0 <= t.num
  ·have kn := eq_true en
   clear en
   simp only [kn, decide_true, Bool.and_true, Bool.true_and] at hhd
   repeat' (first | refine xs ?_ ?_ <;> intros | (refine wn ?_; intro bx hbx; try simp only [fb] at hbx) | refine wp hp1 ?_ | refine wj ?_ | simp -dsimp only [↓bp, bq, br, seval, tbSizeB, h53, h35, h51, h15, h31, h13, kn, *] | refine wz ?_ | fail)
   refine Tri.mono (adds_tri G t.items 0 (by omega) (by omega) (by omega) hit _ b5 b3 h53 1 (decide (t.num <= 1099511627776)) (by simp -dsimp only [↓bp, bq, br, seval, tbSizeB, h53, h35, h51, h15, h31, h13]) (by simp -dsimp only [↓bp, bq, br, seval, tbSizeB, h53, h35, h51, h15, h31, h13]) (by omega) (fun _ => by omega) (by omega)) ?_
   rintro r σ' rfl
   have ha := adds_le t.items hle 0 (by omega) (by omega) (1, (decide (t.num <= 1099511627776))) (by simp only; omega) (fun _ => by simp only; omega) (by simp only; omega)
   simp -dsimp only [↓bp, bq, br, seval, tbSizeB, h53, h35, h51, h15, h31, h13]
   refine Tri.mono (adds_tri G t.tail 0 (by omega) (by omega) (by omega) htt _ b5 b3 h53 (adds t.items 0 (1, (decide (t.num <= 1099511627776)))).1 (adds t.items 0 (1, (decide (t.num <= 1099511627776)))).2 (by simp -dsimp only [↓bp, bq, br, seval, tbSizeB, h53, h35, h51, h15, h31, h13]) (by simp -dsimp only [↓bp, bq, br, seval, tbSizeB, h53, h35, h51, h15, h31, h13]) ha.1 ha.2.1 ha.2.2) ?_
   rintro r σ' rfl
   simp -dsimp only [↓bp, bq, br, seval, tbSizeB, h53, h35, h51, h15, h31, h13]
   cases hfin : (adds t.tail 0 ((adds t.items 0 (1, (decide (t.num <= 1099511627776)))).1, (adds t.items 0 (1, (decide (t.num <= 1099511627776)))).2)).2
   ·simp -dsimp only [↓bp, bq, br, seval, tbSizeB, h53, h35, h51, h15, h31, h13]
    refine finish_pure ?_ (by repeat' (first | exact AS.le.refl _ | assumption | (refine le_set (by assumption) ?_)))
    rw [hse, hhd]
    simp only [k1, hfin, if_false, Bool.true_and, Bool.false_and, Bool.false_eq_true, if_true]
   ·simp -dsimp only [↓bp, bq, br, seval, tbSizeB, h53, h35, h51, h15, h31, h13]
    refine finish_pure ?_ (by repeat' (first | exact AS.le.refl _ | assumption | (refine le_set (by assumption) ?_)))
    rw [hse, hhd]
    simp only [k1, hfin, if_false, Bool.true_and, Bool.false_and, Bool.false_eq_true, if_true]
  ·have kn := eq_false en
   clear en
   simp only [kn, decide_false, Bool.and_false, Bool.false_and] at hhd
   repeat' (first | refine xs ?_ ?_ <;> intros | (refine wn ?_; intro bx hbx; try simp only [fb] at hbx) | refine wp hp1 ?_ | refine wj ?_ | simp -dsimp only [↓bp, bq, br, seval, tbSizeB, h53, h35, h51, h15, h31, h13, kn, *] | refine wz ?_ | fail)
   refine Tri.mono (adds_tri G t.items 0 (by omega) (by omega) (by omega) hit _ b5 b3 h53 1 false (by simp -dsimp only [↓bp, bq, br, seval, tbSizeB, h53, h35, h51, h15, h31, h13]) (by simp -dsimp only [↓bp, bq, br, seval, tbSizeB, h53, h35, h51, h15, h31, h13]) (by omega) (fun _ => by omega) (by omega)) ?_
   rintro r σ' rfl
   have ha := adds_le t.items hle 0 (by omega) (by omega) (1, false) (by simp only; omega) (fun _ => by simp only; omega) (by simp only; omega)
   simp -dsimp only [↓bp, bq, br, seval, tbSizeB, h53, h35, h51, h15, h31, h13]
   refine Tri.mono (adds_tri G t.tail 0 (by omega) (by omega) (by omega) htt _ b5 b3 h53 (adds t.items 0 (1, false)).1 (adds t.items 0 (1, false)).2 (by simp -dsimp only [↓bp, bq, br, seval, tbSizeB, h53, h35, h51, h15, h31, h13]) (by simp -dsimp only [↓bp, bq, br, seval, tbSizeB, h53, h35, h51, h15, h31, h13]) ha.1 ha.2.1 ha.2.2) ?_
   rintro r σ' rfl
   simp -dsimp only [↓bp, bq, br, seval, tbSizeB, h53, h35, h51, h15, h31, h13]
   cases hfin : (adds t.tail 0 ((adds t.items 0 (1, false)).1, (adds t.items 0 (1, false)).2)).2
   ·simp -dsimp only [↓bp, bq, br, seval, tbSizeB, h53, h35, h51, h15, h31, h13]
    refine finish_pure ?_ (by repeat' (first | exact AS.le.refl _ | assumption | (refine le_set (by assumption) ?_)))
    rw [hse, hhd]
    simp only [k1, hfin, if_false, Bool.true_and, Bool.false_and, Bool.false_eq_true, if_true]
   ·simp -dsimp only [↓bp, bq, br, seval, tbSizeB, h53, h35, h51, h15, h31, h13]
    refine finish_pure ?_ (by repeat' (first | exact AS.le.refl _ | assumption | (refine le_set (by assumption) ?_)))
    rw [hse, hhd]
    simp only [k1, hfin, if_false, Bool.true_and, Bool.false_and, Bool.false_eq_true, if_true]
end
set_option maxRecDepth 20000
section
def tbSizeC := And.intro (And.intro (And.intro (And.intro @tf3 @tf4) (And.intro @tf5 (And.intro @tf47 @tf9))) (And.intro (And.intro @tf23 (And.intro @tf22 @tf24)) (And.intro @tf26 (And.intro @Term.flat_enc @Term.isv_enc)))) (And.intro (And.intro (And.intro @Term.fold_enc (And.intro @isv_encs @flat_encs)) (And.intro @len_encs (And.intro @ix_encs @ix_encs'))) (And.intro (And.intro @isv_lims (And.intro @flat_lims @len_lims)) (And.intro @ix_lims (And.intro @ix_lims' @flat_limA))))
variable (G : Nat -> AV)
set_option maxHeartbeats 4000000 in
theorem size_k5 (t : Term) (hb : t.bulk <= 1000000000) (hk : t.knd = 5) (hit : ∀ x, x ∈ t.items -> Pure Tryz.prog G 39 [x.enc] (.int .i64 (size x))) (htt : ∀ x, x ∈ t.tail -> Pure Tryz.prog G 39 [x.enc] (.int .i64 (size x))) :
  Pure Tryz.prog G 39 [t.enc] (.int .i64 (size t)) := by
 have hli := len_items t
 have hlt := len_tail t
 have hll := len_limbs t
 have hwr := wr_pure G t hb
 have hp0 := bare_pure0 G t
 have hp1 := bare_pure1 G t
 have hp2 := bare_pure2 G t
 have hp3 := bare_pure3 G t
 have hp4 := bare_pure4 G t
 have hse := size_eq t
 have hle := fun x (_ : x ∈ t.items) => size_le x
 have hw1 : IntKind.i64.wrap (1 + (t.limbs.length : Int)) = 1 + t.limbs.length := wrap_nat (by omega) (by omega)
 have hkn := t.knd_nn
 intro σ
 refine Tri.of_awp mixed Tryz.func39 rfl (by kernel_rfl) (by kernel_rfl) (by simp [Tryz.ntmps39]) Tryz.results39 ?_
 simp -dsimp only [↓bp, bq, br, seval, tbSizeC]
 refine newW_intro fun b1 h1 => ?_
 simp -dsimp only [↓bp, bq, br, seval, tbSizeC]
 refine newT_plain fun b3 h3 => ?_
 simp only [fresh_box] at h3
 obtain ⟨h3, h31, h13⟩ := h3
 simp -dsimp only [↓bp, bq, br, seval, tbSizeC]
 refine newT_plain fun b5 h5 => ?_
 simp only [fresh_box] at h5
 obtain ⟨⟨h5, h51, h15⟩, h53, h35⟩ := h5
 have e1 : ¬ t.knd = 1 := by omega
 have e2 : ¬ t.knd = 2 := by omega
 have e3 : ¬ t.knd = 3 := by omega
 have e4 : ¬ t.knd = 4 := by omega
 have e5 : t.knd = 5 := hk
 have e6 : ¬ t.knd = 6 := by omega
 have e7 : ¬ t.knd = 7 := by omega
 have k1 := eq_false e1
 have k2 := eq_false e2
 have k3 := eq_false e3
 have k5 := eq_true e5
 have hhd : head t = (1, 0, bare t false true false false && decide (0 <= t.num) && decide (t.num <= 1099511627776)) := by unfold head; rw [if_neg e2, if_pos (.inr e5)]
 clear hk e1 e2 e3 e5
 cases hbr : bare t false true false false
 ·rw [hbr] at hhd hp1
  simp only [Bool.false_and] at hhd
  repeat' (first | refine xs ?_ ?_ <;> intros | (refine wn ?_; intro bx hbx; try simp only [fb] at hbx) | refine wp hp1 ?_ | refine wj ?_ | simp -dsimp only [↓bp, bq, br, seval, tbSizeC, h53, h35, h51, h15, h31, h13, *] | refine wz ?_ | fail)
  refine Tri.mono (adds_tri G t.items 0 (by omega) (by omega) (by omega) hit _ b5 b3 h53 1 false (by simp -dsimp only [↓bp, bq, br, seval, tbSizeC, h53, h35, h51, h15, h31, h13]) (by simp -dsimp only [↓bp, bq, br, seval, tbSizeC, h53, h35, h51, h15, h31, h13]) (by omega) (fun _ => by omega) (by omega)) ?_
  rintro r σ' rfl
  have ha := adds_le t.items hle 0 (by omega) (by omega) (1, false) (by simp only; omega) (fun _ => by simp only; omega) (by simp only; omega)
  simp -dsimp only [↓bp, bq, br, seval, tbSizeC, h53, h35, h51, h15, h31, h13]
  refine Tri.mono (adds_tri G t.tail 0 (by omega) (by omega) (by omega) htt _ b5 b3 h53 (adds t.items 0 (1, false)).1 (adds t.items 0 (1, false)).2 (by simp -dsimp only [↓bp, bq, br, seval, tbSizeC, h53, h35, h51, h15, h31, h13]) (by simp -dsimp only [↓bp, bq, br, seval, tbSizeC, h53, h35, h51, h15, h31, h13]) ha.1 ha.2.1 ha.2.2) ?_
  rintro r σ' rfl
  simp -dsimp only [↓bp, bq, br, seval, tbSizeC, h53, h35, h51, h15, h31, h13]
  cases hfin : (adds t.tail 0 ((adds t.items 0 (1, false)).1, (adds t.items 0 (1, false)).2)).2
  ·simp -dsimp only [↓bp, bq, br, seval, tbSizeC, h53, h35, h51, h15, h31, h13]
   refine finish_pure ?_ (by repeat' (first | exact AS.le.refl _ | assumption | (refine le_set (by assumption) ?_)))
   rw [hse, hhd]
   simp only [k1, hfin, if_false, Bool.true_and, Bool.false_and, Bool.false_eq_true, if_true]
  ·simp -dsimp only [↓bp, bq, br, seval, tbSizeC, h53, h35, h51, h15, h31, h13]
   refine finish_pure ?_ (by repeat' (first | exact AS.le.refl _ | assumption | (refine le_set (by assumption) ?_)))
   rw [hse, hhd]
   simp only [k1, hfin, if_false, Bool.true_and, Bool.false_and, Bool.false_eq_true, if_true]
 ·rw [hbr] at hhd hp1
  by_cases en : 0 <= t.num
  ·have kn := eq_true en
   clear en
   simp only [kn, decide_true, Bool.and_true, Bool.true_and] at hhd
   repeat' (first | refine xs ?_ ?_ <;> intros | (refine wn ?_; intro bx hbx; try simp only [fb] at hbx) | refine wp hp1 ?_ | refine wj ?_ | simp -dsimp only [↓bp, bq, br, seval, tbSizeC, h53, h35, h51, h15, h31, h13, kn, *] | refine wz ?_ | fail)
   refine Tri.mono (adds_tri G t.items 0 (by omega) (by omega) (by omega) hit _ b5 b3 h53 1 (decide (t.num <= 1099511627776)) (by simp -dsimp only [↓bp, bq, br, seval, tbSizeC, h53, h35, h51, h15, h31, h13]) (by simp -dsimp only [↓bp, bq, br, seval, tbSizeC, h53, h35, h51, h15, h31, h13]) (by omega) (fun _ => by omega) (by omega)) ?_
   rintro r σ' rfl
   have ha := adds_le t.items hle 0 (by omega) (by omega) (1, (decide (t.num <= 1099511627776))) (by simp only; omega) (fun _ => by simp only; omega) (by simp only; omega)
   simp -dsimp only [↓bp, bq, br, seval, tbSizeC, h53, h35, h51, h15, h31, h13]
   refine Tri.mono (adds_tri G t.tail 0 (by omega) (by omega) (by omega) htt _ b5 b3 h53 (adds t.items 0 (1, (decide (t.num <= 1099511627776)))).1 (adds t.items 0 (1, (decide (t.num <= 1099511627776)))).2 (by simp -dsimp only [↓bp, bq, br, seval, tbSizeC, h53, h35, h51, h15, h31, h13]) (by simp -dsimp only [↓bp, bq, br, seval, tbSizeC, h53, h35, h51, h15, h31, h13]) ha.1 ha.2.1 ha.2.2) ?_
   rintro r σ' rfl
   simp -dsimp only [↓bp, bq, br, seval, tbSizeC, h53, h35, h51, h15, h31, h13]
   cases hfin : (adds t.tail 0 ((adds t.items 0 (1, (decide (t.num <= 1099511627776)))).1, (adds t.items 0 (1, (decide (t.num <= 1099511627776)))).2)).2
   ·simp -dsimp only [↓bp, bq, br, seval, tbSizeC, h53, h35, h51, h15, h31, h13]
    refine finish_pure ?_ (by repeat' (first | exact AS.le.refl _ | assumption | (refine le_set (by assumption) ?_)))
    rw [hse, hhd]
    simp only [k1, hfin, if_false, Bool.true_and, Bool.false_and, Bool.false_eq_true, if_true]
   ·simp -dsimp only [↓bp, bq, br, seval, tbSizeC, h53, h35, h51, h15, h31, h13]
    refine finish_pure ?_ (by repeat' (first | exact AS.le.refl _ | assumption | (refine le_set (by assumption) ?_)))
    rw [hse, hhd]
    simp only [k1, hfin, if_false, Bool.true_and, Bool.false_and, Bool.false_eq_true, if_true]
  ·have kn := eq_false en
   clear en
   simp only [kn, decide_false, Bool.and_false, Bool.false_and] at hhd
   repeat' (first | refine xs ?_ ?_ <;> intros | (refine wn ?_; intro bx hbx; try simp only [fb] at hbx) | refine wp hp1 ?_ | refine wj ?_ | simp -dsimp only [↓bp, bq, br, seval, tbSizeC, h53, h35, h51, h15, h31, h13, kn, *] | refine wz ?_ | fail)
   refine Tri.mono (adds_tri G t.items 0 (by omega) (by omega) (by omega) hit _ b5 b3 h53 1 false (by simp -dsimp only [↓bp, bq, br, seval, tbSizeC, h53, h35, h51, h15, h31, h13]) (by simp -dsimp only [↓bp, bq, br, seval, tbSizeC, h53, h35, h51, h15, h31, h13]) (by omega) (fun _ => by omega) (by omega)) ?_
   rintro r σ' rfl
   have ha := adds_le t.items hle 0 (by omega) (by omega) (1, false) (by simp only; omega) (fun _ => by simp only; omega) (by simp only; omega)
   simp -dsimp only [↓bp, bq, br, seval, tbSizeC, h53, h35, h51, h15, h31, h13]
   refine Tri.mono (adds_tri G t.tail 0 (by omega) (by omega) (by omega) htt _ b5 b3 h53 (adds t.items 0 (1, false)).1 (adds t.items 0 (1, false)).2 (by simp -dsimp only [↓bp, bq, br, seval, tbSizeC, h53, h35, h51, h15, h31, h13]) (by simp -dsimp only [↓bp, bq, br, seval, tbSizeC, h53, h35, h51, h15, h31, h13]) ha.1 ha.2.1 ha.2.2) ?_
   rintro r σ' rfl
   simp -dsimp only [↓bp, bq, br, seval, tbSizeC, h53, h35, h51, h15, h31, h13]
   cases hfin : (adds t.tail 0 ((adds t.items 0 (1, false)).1, (adds t.items 0 (1, false)).2)).2
   ·simp -dsimp only [↓bp, bq, br, seval, tbSizeC, h53, h35, h51, h15, h31, h13]
    refine finish_pure ?_ (by repeat' (first | exact AS.le.refl _ | assumption | (refine le_set (by assumption) ?_)))
    rw [hse, hhd]
    simp only [k1, hfin, if_false, Bool.true_and, Bool.false_and, Bool.false_eq_true, if_true]
   ·simp -dsimp only [↓bp, bq, br, seval, tbSizeC, h53, h35, h51, h15, h31, h13]
    refine finish_pure ?_ (by repeat' (first | exact AS.le.refl _ | assumption | (refine le_set (by assumption) ?_)))
    rw [hse, hhd]
    simp only [k1, hfin, if_false, Bool.true_and, Bool.false_and, Bool.false_eq_true, if_true]
end
set_option maxRecDepth 20000
section
def tbSizeD := And.intro (And.intro (And.intro (And.intro @tf3 @tf4) (And.intro @tf5 (And.intro @tf47 @tf9))) (And.intro (And.intro @tf23 (And.intro @tf22 @tf24)) (And.intro @tf26 (And.intro @Term.flat_enc @Term.isv_enc)))) (And.intro (And.intro (And.intro @Term.fold_enc (And.intro @isv_encs @flat_encs)) (And.intro @len_encs (And.intro @ix_encs @ix_encs'))) (And.intro (And.intro @isv_lims (And.intro @flat_lims @len_lims)) (And.intro @ix_lims (And.intro @ix_lims' @flat_limA))))
variable (G : Nat -> AV)
set_option maxHeartbeats 4000000 in
theorem size_k4 (t : Term) (hb : t.bulk <= 1000000000) (hk : t.knd = 4) (hit : ∀ x, x ∈ t.items -> Pure Tryz.prog G 39 [x.enc] (.int .i64 (size x))) (htt : ∀ x, x ∈ t.tail -> Pure Tryz.prog G 39 [x.enc] (.int .i64 (size x))) :
  Pure Tryz.prog G 39 [t.enc] (.int .i64 (size t)) := by
 have hli := len_items t
 have hlt := len_tail t
 have hll := len_limbs t
 have hwr := wr_pure G t hb
 have hp0 := bare_pure0 G t
 have hp1 := bare_pure1 G t
 have hp2 := bare_pure2 G t
 have hp3 := bare_pure3 G t
 have hp4 := bare_pure4 G t
 have hse := size_eq t
 have hle := fun x (_ : x ∈ t.items) => size_le x
 have hw1 : IntKind.i64.wrap (1 + (t.limbs.length : Int)) = 1 + t.limbs.length := wrap_nat (by omega) (by omega)
 have hkn := t.knd_nn
 intro σ
 refine Tri.of_awp mixed Tryz.func39 rfl (by kernel_rfl) (by kernel_rfl) (by simp [Tryz.ntmps39]) Tryz.results39 ?_
 simp -dsimp only [↓bp, bq, br, seval, tbSizeD]
 refine newW_intro fun b1 h1 => ?_
 simp -dsimp only [↓bp, bq, br, seval, tbSizeD]
 refine newT_plain fun b3 h3 => ?_
 simp only [fresh_box] at h3
 obtain ⟨h3, h31, h13⟩ := h3
 simp -dsimp only [↓bp, bq, br, seval, tbSizeD]
 refine newT_plain fun b5 h5 => ?_
 simp only [fresh_box] at h5
 obtain ⟨⟨h5, h51, h15⟩, h53, h35⟩ := h5
 have e1 : ¬ t.knd = 1 := by omega
 have e2 : ¬ t.knd = 2 := by omega
 have e3 : ¬ t.knd = 3 := by omega
 have e4 : t.knd = 4 := hk
 have e5 : ¬ t.knd = 5 := by omega
 have e6 : ¬ t.knd = 6 := by omega
 have e7 : ¬ t.knd = 7 := by omega
 have k1 := eq_false e1
 have k2 := eq_false e2
 have k3 := eq_false e3
 have k5 := eq_false e5
 have k4 := eq_true e4
 have hhd : head t = (2, 0, bare t false true true false && decide (0 <= t.num) && decide (t.num <= 16384)) := by unfold head; rw [if_neg e2, if_neg (by simp [e3, e5]), if_pos e4]
 clear hk e1 e2 e3 e5 e4
 cases hbr : bare t false true true false
 ·rw [hbr] at hhd hp2
  simp only [Bool.false_and] at hhd
  repeat' (first | refine xs ?_ ?_ <;> intros | (refine wn ?_; intro bx hbx; try simp only [fb] at hbx) | (refine draw_float2 14 b3 b5 (z := [.int .i64 1]) (z' := [.bool false]) (by kernel_rfl) (by simp -dsimp only [↓bp, bq, br, seval, tbSizeD, h53, h35, h51, h15, h31, h13]) (by simp -dsimp only [↓bp, bq, br, seval, tbSizeD, h53, h35, h51, h15, h31, h13]) ?_) | refine wp hp2 ?_ | refine wj ?_ | simp -dsimp only [↓bp, bq, br, seval, tbSizeD, h53, h35, h51, h15, h31, h13, *] | refine wz ?_ | fail)
  refine Tri.mono (adds_tri G t.items 0 (by omega) (by omega) (by omega) hit _ b5 b3 h53 2 false (by simp -dsimp only [↓bp, bq, br, seval, tbSizeD, h53, h35, h51, h15, h31, h13]) (by simp -dsimp only [↓bp, bq, br, seval, tbSizeD, h53, h35, h51, h15, h31, h13]) (by omega) (fun _ => by omega) (by omega)) ?_
  rintro r σ' rfl
  have ha := adds_le t.items hle 0 (by omega) (by omega) (2, false) (by simp only; omega) (fun _ => by simp only; omega) (by simp only; omega)
  simp -dsimp only [↓bp, bq, br, seval, tbSizeD, h53, h35, h51, h15, h31, h13]
  refine Tri.mono (adds_tri G t.tail 0 (by omega) (by omega) (by omega) htt _ b5 b3 h53 (adds t.items 0 (2, false)).1 (adds t.items 0 (2, false)).2 (by simp -dsimp only [↓bp, bq, br, seval, tbSizeD, h53, h35, h51, h15, h31, h13]) (by simp -dsimp only [↓bp, bq, br, seval, tbSizeD, h53, h35, h51, h15, h31, h13]) ha.1 ha.2.1 ha.2.2) ?_
  rintro r σ' rfl
  simp -dsimp only [↓bp, bq, br, seval, tbSizeD, h53, h35, h51, h15, h31, h13]
  cases hfin : (adds t.tail 0 ((adds t.items 0 (2, false)).1, (adds t.items 0 (2, false)).2)).2
  ·simp -dsimp only [↓bp, bq, br, seval, tbSizeD, h53, h35, h51, h15, h31, h13]
   refine finish_pure ?_ (by repeat' (first | exact AS.le.refl _ | assumption | (refine le_set (by assumption) ?_)))
   rw [hse, hhd]
   simp only [k1, hfin, if_false, Bool.true_and, Bool.false_and, Bool.false_eq_true, if_true]
  ·simp -dsimp only [↓bp, bq, br, seval, tbSizeD, h53, h35, h51, h15, h31, h13]
   refine finish_pure ?_ (by repeat' (first | exact AS.le.refl _ | assumption | (refine le_set (by assumption) ?_)))
   rw [hse, hhd]
   simp only [k1, hfin, if_false, Bool.true_and, Bool.false_and, Bool.false_eq_true, if_true]
 ·rw [hbr] at hhd hp2
  by_cases en : 0 <= t.num
  ·have kn := eq_true en
   clear en
   simp only [kn, decide_true, Bool.and_true, Bool.true_and] at hhd
   repeat' (first | refine xs ?_ ?_ <;> intros | (refine wn ?_; intro bx hbx; try simp only [fb] at hbx) | (refine draw_float2 14 b3 b5 (z := [.int .i64 1]) (z' := [.bool false]) (by kernel_rfl) (by simp -dsimp only [↓bp, bq, br, seval, tbSizeD, h53, h35, h51, h15, h31, h13]) (by simp -dsimp only [↓bp, bq, br, seval, tbSizeD, h53, h35, h51, h15, h31, h13]) ?_) | refine wp hp2 ?_ | refine wj ?_ | simp -dsimp only [↓bp, bq, br, seval, tbSizeD, h53, h35, h51, h15, h31, h13, kn, *] | refine wz ?_ | fail)
   refine Tri.mono (adds_tri G t.items 0 (by omega) (by omega) (by omega) hit _ b5 b3 h53 2 (decide (t.num <= 16384)) (by simp -dsimp only [↓bp, bq, br, seval, tbSizeD, h53, h35, h51, h15, h31, h13]) (by simp -dsimp only [↓bp, bq, br, seval, tbSizeD, h53, h35, h51, h15, h31, h13]) (by omega) (fun _ => by omega) (by omega)) ?_
   rintro r σ' rfl
   have ha := adds_le t.items hle 0 (by omega) (by omega) (2, (decide (t.num <= 16384))) (by simp only; omega) (fun _ => by simp only; omega) (by simp only; omega)
   simp -dsimp only [↓bp, bq, br, seval, tbSizeD, h53, h35, h51, h15, h31, h13]
   refine Tri.mono (adds_tri G t.tail 0 (by omega) (by omega) (by omega) htt _ b5 b3 h53 (adds t.items 0 (2, (decide (t.num <= 16384)))).1 (adds t.items 0 (2, (decide (t.num <= 16384)))).2 (by simp -dsimp only [↓bp, bq, br, seval, tbSizeD, h53, h35, h51, h15, h31, h13]) (by simp -dsimp only [↓bp, bq, br, seval, tbSizeD, h53, h35, h51, h15, h31, h13]) ha.1 ha.2.1 ha.2.2) ?_
   rintro r σ' rfl
   simp -dsimp only [↓bp, bq, br, seval, tbSizeD, h53, h35, h51, h15, h31, h13]
   cases hfin : (adds t.tail 0 ((adds t.items 0 (2, (decide (t.num <= 16384)))).1, (adds t.items 0 (2, (decide (t.num <= 16384)))).2)).2
   ·simp -dsimp only [↓bp, bq, br, seval, tbSizeD, h53, h35, h51, h15, h31, h13]
    refine finish_pure ?_ (by repeat' (first | exact AS.le.refl _ | assumption | (refine le_set (by assumption) ?_)))
    rw [hse, hhd]
    simp only [k1, hfin, if_false, Bool.true_and, Bool.false_and, Bool.false_eq_true, if_true]
   ·simp -dsimp only [↓bp, bq, br, seval, tbSizeD, h53, h35, h51, h15, h31, h13]
    refine finish_pure ?_ (by repeat' (first | exact AS.le.refl _ | assumption | (refine le_set (by assumption) ?_)))
    rw [hse, hhd]
    simp only [k1, hfin, if_false, Bool.true_and, Bool.false_and, Bool.false_eq_true, if_true]
  ·have kn := eq_false en
   clear en
   simp only [kn, decide_false, Bool.and_false, Bool.false_and] at hhd
   repeat' (first | refine xs ?_ ?_ <;> intros | (refine wn ?_; intro bx hbx; try simp only [fb] at hbx) | (refine draw_float2 14 b3 b5 (z := [.int .i64 1]) (z' := [.bool false]) (by kernel_rfl) (by simp -dsimp only [↓bp, bq, br, seval, tbSizeD, h53, h35, h51, h15, h31, h13]) (by simp -dsimp only [↓bp, bq, br, seval, tbSizeD, h53, h35, h51, h15, h31, h13]) ?_) | refine wp hp2 ?_ | refine wj ?_ | simp -dsimp only [↓bp, bq, br, seval, tbSizeD, h53, h35, h51, h15, h31, h13, kn, *] | refine wz ?_ | fail)
   refine Tri.mono (adds_tri G t.items 0 (by omega) (by omega) (by omega) hit _ b5 b3 h53 2 false (by simp -dsimp only [↓bp, bq, br, seval, tbSizeD, h53, h35, h51, h15, h31, h13]) (by simp -dsimp only [↓bp, bq, br, seval, tbSizeD, h53, h35, h51, h15, h31, h13]) (by omega) (fun _ => by omega) (by omega)) ?_
   rintro r σ' rfl
   have ha := adds_le t.items hle 0 (by omega) (by omega) (2, false) (by simp only; omega) (fun _ => by simp only; omega) (by simp only; omega)
   simp -dsimp only [↓bp, bq, br, seval, tbSizeD, h53, h35, h51, h15, h31, h13]
   refine Tri.mono (adds_tri G t.tail 0 (by omega) (by omega) (by omega) htt _ b5 b3 h53 (adds t.items 0 (2, false)).1 (adds t.items 0 (2, false)).2 (by simp -dsimp only [↓bp, bq, br, seval, tbSizeD, h53, h35, h51, h15, h31, h13]) (by simp -dsimp only [↓bp, bq, br, seval, tbSizeD, h53, h35, h51, h15, h31, h13]) ha.1 ha.2.1 ha.2.2) ?_
   rintro r σ' rfl
   simp -dsimp only [↓bp, bq, br, seval, tbSizeD, h53, h35, h51, h15, h31, h13]
   cases hfin : (adds t.tail 0 ((adds t.items 0 (2, false)).1, (adds t.items 0 (2, false)).2)).2
   ·simp -dsimp only [↓bp, bq, br, seval, tbSizeD, h53, h35, h51, h15, h31, h13]
    refine finish_pure ?_ (by repeat' (first | exact AS.le.refl _ | assumption | (refine le_set (by assumption) ?_)))
    rw [hse, hhd]
    simp only [k1, hfin, if_false, Bool.true_and, Bool.false_and, Bool.false_eq_true, if_true]
   ·simp -dsimp only [↓bp, bq, br, seval, tbSizeD, h53, h35, h51, h15, h31, h13]
    refine finish_pure ?_ (by repeat' (first | exact AS.le.refl _ | assumption | (refine le_set (by assumption) ?_)))
    rw [hse, hhd]
    simp only [k1, hfin, if_false, Bool.true_and, Bool.false_and, Bool.false_eq_true, if_true]
end
set_option maxRecDepth 20000
section
def tbSizeE := And.intro (And.intro (And.intro (And.intro @tf3 @tf4) (And.intro @tf5 (And.intro @tf47 @tf9))) (And.intro (And.intro @tf23 (And.intro @tf22 @tf24)) (And.intro @tf26 (And.intro @Term.flat_enc @Term.isv_enc)))) (And.intro (And.intro (And.intro @Term.fold_enc (And.intro @isv_encs @flat_encs)) (And.intro @len_encs (And.intro @ix_encs @ix_encs'))) (And.intro (And.intro @isv_lims (And.intro @flat_lims @len_lims)) (And.intro @ix_lims (And.intro @ix_lims' @flat_limA))))
variable (G : Nat -> AV)
set_option maxHeartbeats 4000000 in
theorem size_k6 (t : Term) (hb : t.bulk <= 1000000000) (hk : t.knd = 6) (hit : ∀ x, x ∈ t.items -> Pure Tryz.prog G 39 [x.enc] (.int .i64 (size x))) (htt : ∀ x, x ∈ t.tail -> Pure Tryz.prog G 39 [x.enc] (.int .i64 (size x))) :
  Pure Tryz.prog G 39 [t.enc] (.int .i64 (size t)) := by
 have hli := len_items t
 have hlt := len_tail t
 have hll := len_limbs t
 have hwr := wr_pure G t hb
 have hp0 := bare_pure0 G t
 have hp1 := bare_pure1 G t
 have hp2 := bare_pure2 G t
 have hp3 := bare_pure3 G t
 have hp4 := bare_pure4 G t
 have hse := size_eq t
 have hle := fun x (_ : x ∈ t.items) => size_le x
 have hw1 : IntKind.i64.wrap (1 + (t.limbs.length : Int)) = 1 + t.limbs.length := wrap_nat (by omega) (by omega)
 have hkn := t.knd_nn
 intro σ
 refine Tri.of_awp mixed Tryz.func39 rfl (by kernel_rfl) (by kernel_rfl) (by simp [Tryz.ntmps39]) Tryz.results39 ?_
 simp -dsimp only [↓bp, bq, br, seval, tbSizeE]
 refine newW_intro fun b1 h1 => ?_
 simp -dsimp only [↓bp, bq, br, seval, tbSizeE]
 refine newT_plain fun b3 h3 => ?_
 simp only [fresh_box] at h3
 obtain ⟨h3, h31, h13⟩ := h3
 simp -dsimp only [↓bp, bq, br, seval, tbSizeE]
 refine newT_plain fun b5 h5 => ?_
 simp only [fresh_box] at h5
 obtain ⟨⟨h5, h51, h15⟩, h53, h35⟩ := h5
 have e1 : ¬ t.knd = 1 := by omega
 have e2 : ¬ t.knd = 2 := by omega
 have e3 : ¬ t.knd = 3 := by omega
 have e4 : ¬ t.knd = 4 := by omega
 have e5 : ¬ t.knd = 5 := by omega
 have e6 : t.knd = 6 := hk
 have e7 : ¬ t.knd = 7 := by omega
 have k1 := eq_false e1
 have k2 := eq_false e2
 have k3 := eq_false e3
 have k5 := eq_false e5
 have k4 := eq_false e4
 have k6 := eq_true e6
 have hhd : head t = (1, 0, bare t false false true false) := by unfold head; rw [if_neg e2, if_neg (by simp [e3, e5]), if_neg e4, if_pos e6]
 clear hk e1 e2 e3 e5 e4 e6
 cases hbr : bare t false false true false
 ·rw [hbr] at hhd hp3
  repeat' (first | refine xs ?_ ?_ <;> intros | (refine wn ?_; intro bx hbx; try simp only [fb] at hbx) | refine wp hp3 ?_ | refine wj ?_ | simp -dsimp only [↓bp, bq, br, seval, tbSizeE, h53, h35, h51, h15, h31, h13, *] | refine wz ?_ | fail)
  refine Tri.mono (adds_tri G t.items 0 (by omega) (by omega) (by omega) hit _ b5 b3 h53 1 false (by simp -dsimp only [↓bp, bq, br, seval, tbSizeE, h53, h35, h51, h15, h31, h13]) (by simp -dsimp only [↓bp, bq, br, seval, tbSizeE, h53, h35, h51, h15, h31, h13]) (by omega) (fun _ => by omega) (by omega)) ?_
  rintro r σ' rfl
  have ha := adds_le t.items hle 0 (by omega) (by omega) (1, false) (by simp only; omega) (fun _ => by simp only; omega) (by simp only; omega)
  simp -dsimp only [↓bp, bq, br, seval, tbSizeE, h53, h35, h51, h15, h31, h13]
  refine Tri.mono (adds_tri G t.tail 0 (by omega) (by omega) (by omega) htt _ b5 b3 h53 (adds t.items 0 (1, false)).1 (adds t.items 0 (1, false)).2 (by simp -dsimp only [↓bp, bq, br, seval, tbSizeE, h53, h35, h51, h15, h31, h13]) (by simp -dsimp only [↓bp, bq, br, seval, tbSizeE, h53, h35, h51, h15, h31, h13]) ha.1 ha.2.1 ha.2.2) ?_
  rintro r σ' rfl
  simp -dsimp only [↓bp, bq, br, seval, tbSizeE, h53, h35, h51, h15, h31, h13]
  cases hfin : (adds t.tail 0 ((adds t.items 0 (1, false)).1, (adds t.items 0 (1, false)).2)).2
  ·simp -dsimp only [↓bp, bq, br, seval, tbSizeE, h53, h35, h51, h15, h31, h13]
   refine finish_pure ?_ (by repeat' (first | exact AS.le.refl _ | assumption | (refine le_set (by assumption) ?_)))
   rw [hse, hhd]
   simp only [k1, hfin, if_false, Bool.true_and, Bool.false_and, Bool.false_eq_true, if_true]
  ·simp -dsimp only [↓bp, bq, br, seval, tbSizeE, h53, h35, h51, h15, h31, h13]
   refine finish_pure ?_ (by repeat' (first | exact AS.le.refl _ | assumption | (refine le_set (by assumption) ?_)))
   rw [hse, hhd]
   simp only [k1, hfin, if_false, Bool.true_and, Bool.false_and, Bool.false_eq_true, if_true]
 ·rw [hbr] at hhd hp3
  repeat' (first | refine xs ?_ ?_ <;> intros | (refine wn ?_; intro bx hbx; try simp only [fb] at hbx) | refine wp hp3 ?_ | refine wj ?_ | simp -dsimp only [↓bp, bq, br, seval, tbSizeE, h53, h35, h51, h15, h31, h13, *] | refine wz ?_ | fail)
  refine Tri.mono (adds_tri G t.items 0 (by omega) (by omega) (by omega) hit _ b5 b3 h53 1 true (by simp -dsimp only [↓bp, bq, br, seval, tbSizeE, h53, h35, h51, h15, h31, h13]) (by simp -dsimp only [↓bp, bq, br, seval, tbSizeE, h53, h35, h51, h15, h31, h13]) (by omega) (fun _ => by omega) (by omega)) ?_
  rintro r σ' rfl
  have ha := adds_le t.items hle 0 (by omega) (by omega) (1, true) (by simp only; omega) (fun _ => by simp only; omega) (by simp only; omega)
  simp -dsimp only [↓bp, bq, br, seval, tbSizeE, h53, h35, h51, h15, h31, h13]
  refine Tri.mono (adds_tri G t.tail 0 (by omega) (by omega) (by omega) htt _ b5 b3 h53 (adds t.items 0 (1, true)).1 (adds t.items 0 (1, true)).2 (by simp -dsimp only [↓bp, bq, br, seval, tbSizeE, h53, h35, h51, h15, h31, h13]) (by simp -dsimp only [↓bp, bq, br, seval, tbSizeE, h53, h35, h51, h15, h31, h13]) ha.1 ha.2.1 ha.2.2) ?_
  rintro r σ' rfl
  simp -dsimp only [↓bp, bq, br, seval, tbSizeE, h53, h35, h51, h15, h31, h13]
  cases hfin : (adds t.tail 0 ((adds t.items 0 (1, true)).1, (adds t.items 0 (1, true)).2)).2
  ·simp -dsimp only [↓bp, bq, br, seval, tbSizeE, h53, h35, h51, h15, h31, h13]
   refine finish_pure ?_ (by repeat' (first | exact AS.le.refl _ | assumption | (refine le_set (by assumption) ?_)))
   rw [hse, hhd]
   simp only [k1, hfin, if_false, Bool.true_and, Bool.false_and, Bool.false_eq_true, if_true]
  ·simp -dsimp only [↓bp, bq, br, seval, tbSizeE, h53, h35, h51, h15, h31, h13]
   refine finish_pure ?_ (by repeat' (first | exact AS.le.refl _ | assumption | (refine le_set (by assumption) ?_)))
   rw [hse, hhd]
   simp only [k1, hfin, if_false, Bool.true_and, Bool.false_and, Bool.false_eq_true, if_true]
set_option maxHeartbeats 4000000 in
theorem size_k0 (t : Term) (hb : t.bulk <= 1000000000) (hk : ¬ (1 <= t.knd /\ t.knd <= 7)) (hit : ∀ x, x ∈ t.items -> Pure Tryz.prog G 39 [x.enc] (.int .i64 (size x))) (htt : ∀ x, x ∈ t.tail -> Pure Tryz.prog G 39 [x.enc] (.int .i64 (size x))) :
  Pure Tryz.prog G 39 [t.enc] (.int .i64 (size t)) := by
 have hli := len_items t
 have hlt := len_tail t
 have hll := len_limbs t
 have hwr := wr_pure G t hb
 have hp0 := bare_pure0 G t
 have hp1 := bare_pure1 G t
 have hp2 := bare_pure2 G t
 have hp3 := bare_pure3 G t
 have hp4 := bare_pure4 G t
 have hse := size_eq t
 have hle := fun x (_ : x ∈ t.items) => size_le x
 have hw1 : IntKind.i64.wrap (1 + (t.limbs.length : Int)) = 1 + t.limbs.length := wrap_nat (by omega) (by omega)
 have hkn := t.knd_nn
 intro σ
 refine Tri.of_awp mixed Tryz.func39 rfl (by kernel_rfl) (by kernel_rfl) (by simp [Tryz.ntmps39]) Tryz.results39 ?_
 simp -dsimp only [↓bp, bq, br, seval, tbSizeE]
 refine newW_intro fun b1 h1 => ?_
 simp -dsimp only [↓bp, bq, br, seval, tbSizeE]
 refine newT_plain fun b3 h3 => ?_
 simp only [fresh_box] at h3
 obtain ⟨h3, h31, h13⟩ := h3
 simp -dsimp only [↓bp, bq, br, seval, tbSizeE]
 refine newT_plain fun b5 h5 => ?_
 simp only [fresh_box] at h5
 obtain ⟨⟨h5, h51, h15⟩, h53, h35⟩ := h5
 have e1 : ¬ t.knd = 1 := by omega
 have e2 : ¬ t.knd = 2 := by omega
 have e3 : ¬ t.knd = 3 := by omega
 have e4 : ¬ t.knd = 4 := by omega
 have e5 : ¬ t.knd = 5 := by omega
 have e6 : ¬ t.knd = 6 := by omega
 have e7 : ¬ t.knd = 7 := by omega
 have k1 := eq_false e1
 have k2 := eq_false e2
 have k3 := eq_false e3
 have k5 := eq_false e5
 have k4 := eq_false e4
 have k6 := eq_false e6
 have k7 := eq_false e7
 have k7 := eq_false e7
 have hhd : head t = (1, 0, false) := by unfold head; rw [if_neg e2, if_neg (by simp [e3, e5]), if_neg e4, if_neg e6, if_neg e7]
 clear hk e1 e2 e3 e5 e4 e6 e7
 repeat' (first | refine xs ?_ ?_ <;> intros | (refine wn ?_; intro bx hbx; try simp only [fb] at hbx) | refine wj ?_ | simp -dsimp only [↓bp, bq, br, seval, tbSizeE, h53, h35, h51, h15, h31, h13, *] | refine wz ?_ | fail)
 refine Tri.mono (adds_tri G t.items 0 (by omega) (by omega) (by omega) hit _ b5 b3 h53 1 false (by simp -dsimp only [↓bp, bq, br, seval, tbSizeE, h53, h35, h51, h15, h31, h13]) (by simp -dsimp only [↓bp, bq, br, seval, tbSizeE, h53, h35, h51, h15, h31, h13]) (by omega) (fun _ => by omega) (by omega)) ?_
 rintro r σ' rfl
 have ha := adds_le t.items hle 0 (by omega) (by omega) (1, false) (by simp only; omega) (fun _ => by simp only; omega) (by simp only; omega)
 simp -dsimp only [↓bp, bq, br, seval, tbSizeE, h53, h35, h51, h15, h31, h13]
 refine Tri.mono (adds_tri G t.tail 0 (by omega) (by omega) (by omega) htt _ b5 b3 h53 (adds t.items 0 (1, false)).1 (adds t.items 0 (1, false)).2 (by simp -dsimp only [↓bp, bq, br, seval, tbSizeE, h53, h35, h51, h15, h31, h13]) (by simp -dsimp only [↓bp, bq, br, seval, tbSizeE, h53, h35, h51, h15, h31, h13]) ha.1 ha.2.1 ha.2.2) ?_
 rintro r σ' rfl
 simp -dsimp only [↓bp, bq, br, seval, tbSizeE, h53, h35, h51, h15, h31, h13]
 cases hfin : (adds t.tail 0 ((adds t.items 0 (1, false)).1, (adds t.items 0 (1, false)).2)).2
 ·simp -dsimp only [↓bp, bq, br, seval, tbSizeE, h53, h35, h51, h15, h31, h13]
  refine finish_pure ?_ (by repeat' (first | exact AS.le.refl _ | assumption | (refine le_set (by assumption) ?_)))
  rw [hse, hhd]
  simp only [k1, hfin, if_false, Bool.true_and, Bool.false_and, Bool.false_eq_true, if_true]
 ·simp -dsimp only [↓bp, bq, br, seval, tbSizeE, h53, h35, h51, h15, h31, h13]
  refine finish_pure ?_ (by repeat' (first | exact AS.le.refl _ | assumption | (refine le_set (by assumption) ?_)))
  rw [hse, hhd]
  simp only [k1, hfin, if_false, Bool.true_and, Bool.false_and, Bool.false_eq_true, if_true]
end
section
variable (G : Nat -> AV)
theorem size_pure (t : Term) : t.bulk <= 1000000000 -> Pure Tryz.prog G 39 [t.enc] (.int .i64 (size t)) := by
 refine Term.ind (P := fun t => t.bulk <= 1000000000 -> Pure Tryz.prog G 39 [t.enc] (.int .i64 (size t))) (fun t ih1 ih2 hb => ?_) t
 have hit : ∀ x, x ∈ t.items -> Pure Tryz.prog G 39 [x.enc] (.int .i64 (size x)) := fun x hx => ih1 x hx (by have := bulk_item hx; omega)
 have htt : ∀ x, x ∈ t.tail -> Pure Tryz.prog G 39 [x.enc] (.int .i64 (size x)) := fun x hx => ih2 x hx (by have := bulk_tail hx; omega)
 by_cases h7 : t.knd = 7
 ·exact size_list G t hb h7 hit htt
 by_cases h1 : t.knd = 1
 ·exact size_k1 G t hb h1 hit htt
 by_cases h2 : t.knd = 2
 ·exact size_k2 G t hb h2 hit htt
 by_cases h3 : t.knd = 3
 ·exact size_k3 G t hb h3 hit htt
 by_cases h4 : t.knd = 4
 ·exact size_k4 G t hb h4 hit htt
 by_cases h5 : t.knd = 5
 ·exact size_k5 G t hb h5 hit htt
 by_cases h6 : t.knd = 6
 ·exact size_k6 G t hb h6 hit htt
 ·exact size_k0 G t hb (by omega) hit htt
end
end Go.Proofs.YtdhbdhopnpmboaaGreatDoor
