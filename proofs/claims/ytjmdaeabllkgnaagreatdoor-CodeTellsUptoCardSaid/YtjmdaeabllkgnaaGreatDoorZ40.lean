/- The reference's text of a term. -/
import Derived.Test.YtjmdaeabllkgnaaGreatDoorZ38
import Derived.Test.YtjmdaeabllkgnaaGreatDoorZ39
import Derived.Test.YtjmdaeabllkgnaaGreatDoorZ19
set_option linter.unusedVariables false
set_option linter.unusedSimpArgs false
set_option maxRecDepth 20000
set_option linter.defProp false
namespace Go.Proofs.YtjmdaeabllkgnaaGreatDoor
open Go Go.Av
def tbRefY := And.intro (And.intro (And.intro (And.intro @tf3 @tf4) (And.intro @tf5 (And.intro @tf169 @tf9))) (And.intro (And.intro @tf56 @tf55) (And.intro @tf24 (And.intro @tf58 @Term.flat_enc)))) (And.intro (And.intro (And.intro @Term.isv_enc @Term.fold_enc) (And.intro @isv_encs (And.intro @flat_encs @len_encs))) (And.intro (And.intro @ix_encs @ix_encs') (And.intro @isv_lims (And.intro @flat_lims @len_lims))))
variable (G : Nat → AV)
theorem max_is : maxLen = 9223372036854775807 := rfl
theorem rsaid_1 (t : Term) (hk : t.knd = 1) (hp : Pure Tryz.prog G 128 [t.enc] (.str (wsaid t))) : Pure Tryz.prog G 130 [t.enc] (.str (said t)) := by
 have k1 : (t.knd = 1) = True := by first | exact eq_true hk | exact eq_false (by omega)
 have k2 : (t.knd = 2) = False := by first | exact eq_true hk | exact eq_false (by omega)
 have k3 : (t.knd = 3) = False := by first | exact eq_true hk | exact eq_false (by omega)
 have k4 : (t.knd = 4) = False := by first | exact eq_true hk | exact eq_false (by omega)
 have k5 : (t.knd = 5) = False := by first | exact eq_true hk | exact eq_false (by omega)
 have hs : said t = _ := said_eq t
 simp only [k1, k2, k3, k4, k5, if_true, if_false] at hs
 rw [hs]
 clear hs hk
 intro σ
 have hmx := max_is
 refine Tri.of_awp mixed Tryz.func130 rfl (by kernel_rfl) (by kernel_rfl) (by simp [Tryz.ntmps130]) Tryz.results130 ?_
 repeat' (first | refine xs ?_ ?_ <;> intros | (refine wn ?_; intro bx hbx; try simp only [fb] at hbx) | refine wp hp ?_ | refine wj ?_ | simp -dsimp only [↓bp, bq, br, seval, tbRefY, *] | refine wz ?_ | fail)
 all_goals rfl
theorem rsaid_2 (t : Term) (hk : t.knd = 2) (hp : Pure Tryz.prog G 184 [.str t.text] (.str (atomT t.text))) : Pure Tryz.prog G 130 [t.enc] (.str (said t)) := by
 have k1 : (t.knd = 1) = False := by first | exact eq_true hk | exact eq_false (by omega)
 have k2 : (t.knd = 2) = True := by first | exact eq_true hk | exact eq_false (by omega)
 have k3 : (t.knd = 3) = False := by first | exact eq_true hk | exact eq_false (by omega)
 have k4 : (t.knd = 4) = False := by first | exact eq_true hk | exact eq_false (by omega)
 have k5 : (t.knd = 5) = False := by first | exact eq_true hk | exact eq_false (by omega)
 have hs : said t = _ := said_eq t
 simp only [k1, k2, k3, k4, k5, if_true, if_false] at hs
 rw [hs]
 clear hs hk
 intro σ
 have hmx := max_is
 refine Tri.of_awp mixed Tryz.func130 rfl (by kernel_rfl) (by kernel_rfl) (by simp [Tryz.ntmps130]) Tryz.results130 ?_
 repeat' (first | refine xs ?_ ?_ <;> intros | (refine wn ?_; intro bx hbx; try simp only [fb] at hbx) | refine wp hp ?_ | refine wj ?_ | simp -dsimp only [↓bp, bq, br, seval, tbRefY, *] | refine wz ?_ | fail)
 all_goals rfl
theorem rsaid_3 (t : Term) (hk : t.knd = 3) (hl : (itoa t.num).length ≤ 31) (hp : Pure Tryz.prog G 185 [.int .i64 t.num] (.str (itoa t.num))) : Pure Tryz.prog G 130 [t.enc] (.str (said t)) := by
 have k1 : (t.knd = 1) = False := by first | exact eq_true hk | exact eq_false (by omega)
 have k2 : (t.knd = 2) = False := by first | exact eq_true hk | exact eq_false (by omega)
 have k3 : (t.knd = 3) = True := by first | exact eq_true hk | exact eq_false (by omega)
 have k4 : (t.knd = 4) = False := by first | exact eq_true hk | exact eq_false (by omega)
 have k5 : (t.knd = 5) = False := by first | exact eq_true hk | exact eq_false (by omega)
 have hs : said t = _ := said_eq t
 simp only [k1, k2, k3, k4, k5, if_true, if_false] at hs
 rw [hs]
 clear hs hk
 intro σ
 have hmx := max_is
 refine Tri.of_awp mixed Tryz.func130 rfl (by kernel_rfl) (by kernel_rfl) (by simp [Tryz.ntmps130]) Tryz.results130 ?_
 repeat' (first | refine xs ?_ ?_ <;> intros | (refine wn ?_; intro bx hbx; try simp only [fb] at hbx) | refine wp hp ?_ | refine wj ?_ | simp -dsimp only [↓bp, bq, br, seval, tbRefY, List.length_append, *] | refine wz ?_ | fail)
 all_goals rfl
theorem rsaid_4 (t : Term) (hk : t.knd = 4) (hl : (itoa t.num).length ≤ 31) (hp : Pure Tryz.prog G 185 [.int .i64 t.num] (.str (itoa t.num))) : Pure Tryz.prog G 130 [t.enc] (.str (said t)) := by
 have k1 : (t.knd = 1) = False := by first | exact eq_true hk | exact eq_false (by omega)
 have k2 : (t.knd = 2) = False := by first | exact eq_true hk | exact eq_false (by omega)
 have k3 : (t.knd = 3) = False := by first | exact eq_true hk | exact eq_false (by omega)
 have k4 : (t.knd = 4) = True := by first | exact eq_true hk | exact eq_false (by omega)
 have k5 : (t.knd = 5) = False := by first | exact eq_true hk | exact eq_false (by omega)
 have hs : said t = _ := said_eq t
 simp only [k1, k2, k3, k4, k5, if_true, if_false] at hs
 rw [hs]
 clear hs hk
 intro σ
 have hmx := max_is
 refine Tri.of_awp mixed Tryz.func130 rfl (by kernel_rfl) (by kernel_rfl) (by simp [Tryz.ntmps130]) Tryz.results130 ?_
 repeat' (first | refine xs ?_ ?_ <;> intros | (refine wn ?_; intro bx hbx; try simp only [fb] at hbx) | refine wp hp ?_ | refine wj ?_ | simp -dsimp only [↓bp, bq, br, seval, tbRefY, List.length_append, *] | refine wz ?_ | fail)
 all_goals rfl
theorem rsaid_5 (t : Term) (hk : t.knd = 5) (hl : (itoa t.num).length ≤ 31) (hp : Pure Tryz.prog G 185 [.int .i64 t.num] (.str (itoa t.num))) : Pure Tryz.prog G 130 [t.enc] (.str (said t)) := by
 have k1 : (t.knd = 1) = False := by first | exact eq_true hk | exact eq_false (by omega)
 have k2 : (t.knd = 2) = False := by first | exact eq_true hk | exact eq_false (by omega)
 have k3 : (t.knd = 3) = False := by first | exact eq_true hk | exact eq_false (by omega)
 have k4 : (t.knd = 4) = False := by first | exact eq_true hk | exact eq_false (by omega)
 have k5 : (t.knd = 5) = True := by first | exact eq_true hk | exact eq_false (by omega)
 have hs : said t = _ := said_eq t
 simp only [k1, k2, k3, k4, k5, if_true, if_false] at hs
 rw [hs]
 clear hs hk
 intro σ
 have hmx := max_is
 refine Tri.of_awp mixed Tryz.func130 rfl (by kernel_rfl) (by kernel_rfl) (by simp [Tryz.ntmps130]) Tryz.results130 ?_
 repeat' (first | refine xs ?_ ?_ <;> intros | (refine wn ?_; intro bx hbx; try simp only [fb] at hbx) | refine wp hp ?_ | refine wj ?_ | simp -dsimp only [↓bp, bq, br, seval, tbRefY, List.length_append, *] | refine wz ?_ | fail)
 all_goals rfl
set_option maxHeartbeats 2000000 in
theorem rsaid_67 (t : Term) (hk : t.knd = 6 ∨ t.knd = 7) (hb : t.bulk ≤ 2000000) (htl : t.tail.length ≤ 1) (hlen : (saidI t.items).length + (saidT t.tail).length ≤ 1000000000)
  (hi : ∀ x, x ∈ t.items → Pure Tryz.prog G 130 [x.enc] (.str (said x))) (ht : ∀ x, x ∈ t.tail → Pure Tryz.prog G 130 [x.enc] (.str (said x))) : Pure Tryz.prog G 130 [t.enc] (.str (said t)) := by
 have k1 : (t.knd = 1) = False := eq_false (by omega)
 have k2 : (t.knd = 2) = False := eq_false (by omega)
 have k3 : (t.knd = 3) = False := eq_false (by omega)
 have k4 : (t.knd = 4) = False := eq_false (by omega)
 have k5 : (t.knd = 5) = False := eq_false (by omega)
 have hil := len_items t
 have hLI := saidI_le t.items
 refine Pure.of_le fun σ => ?_
 have hmx := max_is
 refine Tri.of_awp mixed Tryz.func130 rfl (by kernel_rfl) (by kernel_rfl) (by simp [Tryz.ntmps130]) Tryz.results130 ?_
 simp -dsimp only [↓bp, bq, br, seval, tbRefY]
 refine newW_intro fun b1 h1 => ?_
 obtain ⟨S, hS⟩ : ∃ S, S = σ.setBox b1 [.int .u8 t.knd, .bool t.neg, lims t.limbs, .str t.text, .int .i64 t.num, encs t.items, encs t.tail] := ⟨_, rfl⟩
 have hSb : S.box b1 = some [.int .u8 t.knd, .bool t.neg, lims t.limbs, .str t.text, .int .i64 t.num, encs t.items, encs t.tail] := by rw [hS]; simp [AS.setBox]
 have hle : σ.le S := by rw [hS]; exact (AS.le.refl σ).setBox h1.1 _
 rw [← hS]
 clear hS
 simp -dsimp only [↓bp, bq, br, seval, tbRefY, hSb, k1, k2, k3, k4, k5]
 refine loop_keep mixed (fun n e => ∃ i : Nat, i ≤ t.items.length ∧ n = t.items.length - i ∧ e 4 = .int .i64 i ∧ e 3 = .str (saidI (t.items.take i))) t.items.length
  ⟨0, by omega, by omega, by first | (simp -dsimp only [↓bp, bq, br, seval, tbRefY]; done) | (simp -dsimp only [↓bp, bq, br, seval, tbRefY]; try rfl), by rw [List.take_zero, saidI]; first | (simp -dsimp only [↓bp, bq, br, seval, tbRefY]; done) | (simp -dsimp only [↓bp, bq, br, seval, tbRefY]; try rfl)⟩ ?_
 rintro n e ⟨i, hin, rfl, h4, h3⟩
 simp -dsimp only [↓bp, bq, br, seval, tbRefY] at h4 h3
 by_cases hlt : (i : Int) < t.items.length
 ·obtain ⟨x, hx⟩ : ∃ x, t.items[i]? = some x := ⟨_, List.getElem?_eq_getElem (by omega)⟩
  have hp := hi x (List.mem_of_getElem? hx)
  have hwi : IntKind.i64.wrap ((i : Int) + 1) = ((i + 1 : Nat) : Int) := by rw [wrap_nat (by omega) (by omega)]; rfl
  have hst := saidI_take t.items i x hx
  have hl1 := hLI (i + 1)
  have hlt' := eq_true hlt
  rw [hst, List.length_append] at hl1
  have hm : t.items.length - (i + 1) < t.items.length - i := by omega
  have hi1 : i + 1 ≤ t.items.length := by omega
  by_cases e0 : i = 0
  ·subst e0
   have z : saidI (t.items.take 0) = [] := by rw [List.take_zero, saidI]
   rw [if_pos rfl, z, List.nil_append] at hst
   rw [if_pos rfl] at hl1
   rw [z] at h3
   have c0 : ((0 : Int) < ((0 : Nat) : Int)) = False := eq_false (by omega)
   replace hlt' : ((0 : Int) < (t.items.length : Int)) = True := hlt'
   have hw1 : IntKind.i64.wrap 1 = 1 := by decide
   clear hi ht hk hLI hlt z
   repeat' (first | refine xs ?_ ?_ <;> intros | (refine wn ?_; intro bx hbx; try simp only [fb] at hbx) | refine wp hp ?_ | refine wj ?_ | simp -dsimp only [↓bp, bq, br, seval, tbRefY, List.length_append, *] | refine wz ?_ | fail)
   all_goals exact ⟨t.items.length - (0 + 1), hm, 0 + 1, hi1, rfl, rfl, by rw [hst]⟩
  ·rw [if_neg e0] at hst hl1
   simp only [List.length_cons] at hl1
   have c0 : ((0 : Int) < (i : Int)) = True := eq_true (by omega)
   generalize saidI (t.items.take i) = s at *
   clear hi ht hk hLI hlt e0
   repeat' (first | refine xs ?_ ?_ <;> intros | (refine wn ?_; intro bx hbx; try simp only [fb] at hbx) | refine wp hp ?_ | refine wj ?_ | simp -dsimp only [↓bp, bq, br, seval, tbRefY, List.length_append, *] | refine wz ?_ | fail)
   all_goals exact ⟨t.items.length - (i + 1), hm, i + 1, hi1, rfl, rfl, by rw [hst]; simp⟩
 ·have : i = t.items.length := by omega
  subst this
  rw [List.take_length] at h3
  have hlt' := eq_false (Int.lt_irrefl (t.items.length : Int))
  clear hi hlt hin hLI hil
  have hs6 : t.knd = 6 → said t = [123] ++ (saidI t.items ++ saidT t.tail) ++ [125] := fun k => by
   rw [said_eq]; simp [k]
  have hs7 : t.knd = 7 → said t = [91] ++ (saidI t.items ++ saidT t.tail) ++ [93] := fun k => by
   rw [said_eq]; simp [k]
  generalize saidI t.items = s at *
  rcases htt : t.tail with _ | ⟨x, r⟩
  ·have hT : saidT t.tail = [] := by rw [htt, saidT]
   have ht0 : ((0 : Int) < (t.tail.length : Int)) = False := eq_false (by rw [htt]; simp)
   rw [hT] at hlen
   replace hT : s ++ saidT t.tail = s := by rw [hT, List.append_nil]
   clear ht htl htt hb
   rcases hk with k6 | k7
   ·have k6' := eq_true k6
    rw [hs6 k6]
    rw [hT]
    clear hs6 hs7 k6 hT
    repeat' (first | refine xs ?_ ?_ <;> intros | (refine wn ?_; intro bx hbx; try simp only [fb] at hbx) | refine wj ?_ | simp -dsimp only [↓bp, bq, br, seval, tbRefY, List.length_append, *] | refine wz ?_ | fail)
    all_goals first | exact finish_le (Le.refl _) hle | exact finish_le (by simp only [List.append_assoc, List.cons_append, List.nil_append]; exact Le.refl _) hle
   ·have k6' : (t.knd = 6) = False := eq_false (by omega)
    rw [hs7 k7]
    rw [hT]
    clear hs6 hs7 k7 hT
    repeat' (first | refine xs ?_ ?_ <;> intros | (refine wn ?_; intro bx hbx; try simp only [fb] at hbx) | refine wj ?_ | simp -dsimp only [↓bp, bq, br, seval, tbRefY, List.length_append, *] | refine wz ?_ | fail)
    all_goals first | exact finish_le (Le.refl _) hle | exact finish_le (by simp only [List.append_assoc, List.cons_append, List.nil_append]; exact Le.refl _) hle
  ·have hr : r = [] := by rw [htt] at htl; simp only [List.length_cons] at htl; exact List.eq_nil_of_length_eq_zero (by omega)
   subst hr
   have hx : t.tail[0]? = some x := by rw [htt]; rfl
   have hp := ht x (by rw [htt]; simp)
   have hT : saidT t.tail = 124 :: said x := by rw [htt, saidT, saidT, List.append_nil]
   have ht0 : ((0 : Int) < (t.tail.length : Int)) = True := eq_true (by rw [htt]; simp)
   rw [hT] at hlen
   simp only [List.length_cons] at hlen
   replace hT : s ++ saidT t.tail = s ++ [124] ++ said x := by rw [hT]; simp
   have hl3 : (s ++ [124] ++ said x).length ≤ 1000000001 := by simp only [List.length_append, List.length_cons, List.length_nil]; omega
   clear ht htl htt hb hl3
   rcases hk with k6 | k7
   ·have k6' := eq_true k6
    rw [hs6 k6]
    rw [hT]
    clear hs6 hs7 k6 hT
    repeat' (first | refine xs ?_ ?_ <;> intros | (refine wn ?_; intro bx hbx; try simp only [fb] at hbx) | refine wp hp ?_ | refine wj ?_ | simp -dsimp only [↓bp, bq, br, seval, tbRefY, List.length_append, *] | refine wz ?_ | fail)
    all_goals first | exact finish_le (Le.refl _) hle | exact finish_le (by simp only [List.append_assoc, List.cons_append, List.nil_append]; exact Le.refl _) hle
   ·have k6' : (t.knd = 6) = False := eq_false (by omega)
    rw [hs7 k7]
    rw [hT]
    clear hs6 hs7 k7 hT
    repeat' (first | refine xs ?_ ?_ <;> intros | (refine wn ?_; intro bx hbx; try simp only [fb] at hbx) | refine wp hp ?_ | refine wj ?_ | simp -dsimp only [↓bp, bq, br, seval, tbRefY, List.length_append, *] | refine wz ?_ | fail)
    all_goals first | exact finish_le (Le.refl _) hle | exact finish_le (by simp only [List.append_assoc, List.cons_append, List.nil_append]; exact Le.refl _) hle
theorem rsaid_pure (t : Term) : t.bulk ≤ 2000000 → right t = true → Pure Tryz.prog G 130 [t.enc] (.str (said t)) := by
 refine Term.ind (P := fun t => t.bulk ≤ 2000000 → right t = true → Pure Tryz.prog G 130 [t.enc] (.str (said t))) (fun t ih1 ih2 hb hr => ?_) t
 have A := right_spec hr
 have h1 : ∀ x, x ∈ t.items → (said x).length + 1 ≤ 400 * x.bulk := fun x hx => said_len x (A.items x hx)
 have h2 : ∀ x, x ∈ t.tail → (said x).length + 1 ≤ 400 * x.bulk := fun x hx => said_len x (A.tail x hx)
 have hL := saidI_len t.items h1
 have hT := saidT_len t.tail h2
 have hbe := t.bulk_eq
 have hi : ∀ x, x ∈ t.items → Pure Tryz.prog G 130 [x.enc] (.str (said x)) := fun x hx => ih1 x hx (by have := bulk_item hx; omega) (A.items x hx)
 have ht : ∀ x, x ∈ t.tail → Pure Tryz.prog G 130 [x.enc] (.str (said x)) := fun x hx => ih2 x hx (by have := bulk_tail hx; omega) (A.tail x hx)
 have hk := A.kind
 have hnum : t.knd = 3 ∨ t.knd = 4 ∨ t.knd = 5 → (itoa t.num).length ≤ 31 ∧ Pure Tryz.prog G 185 [.int .i64 t.num] (.str (itoa t.num)) := fun h => by
  obtain ⟨n0, n1⟩ := right_num hr h
  exact ⟨Nat.le_trans (itoa_len n0 n1) (by omega), rnum_pure G t.num (by omega) (by omega)⟩
 rcases (show t.knd = 1 ∨ t.knd = 2 ∨ t.knd = 3 ∨ t.knd = 4 ∨ t.knd = 5 ∨ t.knd = 6 ∨ t.knd = 7 by omega) with h | h | h | h | h | h | h
 ·obtain ⟨_, w2, _, w4, w5, w6, _⟩ := wr_spec (A.int h)
  have hw := rwtext_pure G t (by rw [hbe, w2, w4, w5]; simp only [List.length_nil, bulks]; omega)
  rw [A.int h, if_pos rfl] at hw
  exact rsaid_1 G t h hw
 ·exact rsaid_2 G t h (ratom_pure G t.text (by omega))
 ·exact rsaid_3 G t h (hnum (.inl h)).1 (hnum (.inl h)).2
 ·exact rsaid_4 G t h (hnum (.inr (.inl h))).1 (hnum (.inr (.inl h))).2
 ·exact rsaid_5 G t h (hnum (.inr (.inr h))).1 (hnum (.inr (.inr h))).2
 ·have htl : t.tail.length ≤ 1 := by rw [(A.rest (by omega)).2.2.2.1 (by omega)]; simp
  exact rsaid_67 G t (.inl h) (by omega) htl (by omega) hi ht
 ·exact rsaid_67 G t (.inr h) (by omega) (A.list h).1 (by omega) hi ht
theorem rtermtext_pure (t : Term) (hb : t.bulk ≤ 2000000) : Pure Tryz.prog G 68 [t.enc] (.str (text t)) := by
 have hr := rrightT_pure G t (rsz_pure G t (by omega))
 unfold text
 cases e : right t with
 | false =>
  rw [e] at hr
  intro σ
  refine Tri.of_awp mixed Tryz.func68 rfl (by kernel_rfl) (by kernel_rfl) (by simp [Tryz.ntmps68]) Tryz.results68 ?_
  repeat' (first | refine xs ?_ ?_ <;> intros | (refine wn ?_; intro bx hbx; try simp only [fb] at hbx) | refine wp hr ?_ | refine wj ?_ | simp -dsimp only [↓bp, bq, br, seval, tbRefY, *] | refine wz ?_ | fail)
  all_goals rfl
 | true =>
  rw [e] at hr
  have hs := rsaid_pure G t hb e
  clear hb
  intro σ
  refine Tri.of_awp mixed Tryz.func68 rfl (by kernel_rfl) (by kernel_rfl) (by simp [Tryz.ntmps68]) Tryz.results68 ?_
  repeat' (first | refine xs ?_ ?_ <;> intros | (refine wn ?_; intro bx hbx; try simp only [fb] at hbx) | refine wp hr ?_ | refine wp hs ?_ | refine wj ?_ | simp -dsimp only [↓bp, bq, br, seval, tbRefY, *] | refine wz ?_ | fail)
  all_goals rfl
end Go.Proofs.YtjmdaeabllkgnaaGreatDoor
