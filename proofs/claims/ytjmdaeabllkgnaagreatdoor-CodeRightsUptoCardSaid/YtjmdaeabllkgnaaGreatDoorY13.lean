/- How great a term is, up to a bound; whether some are too great. -/
import Derived.Test.YtjmdaeabllkgnaaGreatDoorY12
set_option linter.unusedVariables false
set_option linter.unusedSimpArgs false
set_option maxRecDepth 20000
set_option linter.defProp false
namespace Go.Proofs.YtjmdaeabllkgnaaGreatDoor
open Go Go.Av
section
def tbGreat2 := And.intro (And.intro (And.intro (And.intro @tf3 @tf4) (And.intro @tf5 (And.intro @tf169 @tf9))) (And.intro (And.intro @tf56 (And.intro @tf55 @tf24)) (And.intro @tf58 (And.intro @Term.flat_enc @Term.isv_enc)))) (And.intro (And.intro (And.intro @Term.fold_enc (And.intro @isv_encs @flat_encs)) (And.intro @len_encs (And.intro @ix_encs @ix_encs'))) (And.intro (And.intro @isv_lims (And.intro @flat_lims @len_lims)) (And.intro @ix_lims (And.intro @ix_lims' @flat_limA))))
mutual
def termsOf : Term -> Int -> Int
 | .mk _ _ l s _ ks ts, m => termsLoop ts (termsLoop ks (1 + l.length + (s.length / 8 : Nat)) m) m
def termsLoop : List Term -> Int -> Int -> Int
 | [], n, _ => n
 | k :: ks, n, m => if n <= m then termsLoop ks (n + termsOf k (m - n)) m else n
end
theorem termsOf_eq (t : Term) (m : Int) : termsOf t m = termsLoop t.tail (termsLoop t.items (1 + t.limbs.length + (t.text.length / 8 : Nat)) m) m := by cases t; rw [termsOf]; rfl
theorem termsLoop_le (l : List Term) (ih : ∀ k, k ∈ l -> ∀ m, 0 < termsOf k m /\ termsOf k m <= k.bulk) : ∀ n m, n <= termsLoop l n m /\ termsLoop l n m <= n + bulks l := by
 induction l with
 | nil => intro n m; simp [termsLoop, bulks]
 | cons x l ih2 =>
  intro n m
  have h1 := ih x (by simp) (m - n)
  have h2 := ih2 (fun k hk => ih k (by simp [hk])) (n + termsOf x (m - n)) m
  simp only [termsLoop, bulks]
  split <;> omega
theorem termsOf_le (t : Term) : ∀ m, 0 < termsOf t m /\ termsOf t m <= t.bulk := by
 refine Term.ind (P := fun t => ∀ m, 0 < termsOf t m /\ termsOf t m <= t.bulk) (fun t ih1 ih2 m => ?_) t
 have h1 := termsLoop_le t.items ih1 (1 + t.limbs.length + (t.text.length / 8 : Nat)) m
 have h2 := termsLoop_le t.tail ih2 (termsLoop t.items (1 + t.limbs.length + (t.text.length / 8 : Nat)) m) m
 rw [termsOf_eq, Term.bulk_eq]
 omega
theorem bulks_take (l : List Term) (i : Nat) : bulks (l.take i) <= bulks l := by
 have := bulks_append (l.take i) (l.drop i)
 rw [List.take_append_drop] at this
 omega
variable (G : Nat -> AV)
theorem termsOf_pure (t : Term) : ∀ m : Int, 0 <= m -> m <= 1000000 -> t.bulk <= 1000000000 -> Pure Tryz.prog G 35 [t.enc, .int .i64 m] (.int .i64 (termsOf t m)) := by
 refine Term.ind (P := fun t => ∀ m : Int, 0 <= m -> m <= 1000000 -> t.bulk <= 1000000000 -> Pure Tryz.prog G 35 [t.enc, .int .i64 m] (.int .i64 (termsOf t m))) (fun t ih1 ih2 m hm0 hm1 hbulk => ?_) t
 intro σ
 have hbe := t.bulk_eq
 have hl1 := len_le_bulks t.items
 have hl2 := len_le_bulks t.tail
 have hde := termsOf_eq t m
 obtain ⟨n0, hn0⟩ : ∃ n0 : Int, n0 = 1 + t.limbs.length + (t.text.length / 8 : Nat) := ⟨_, rfl⟩
 rw [<- hn0] at hde
 have hq : IntKind.i64.wrap (IntKind.i64.wrap (1 + (t.limbs.length : Int)) + IntKind.i64.wrap ((t.text.length : Int).tdiv 8)) = n0 := by
  have : ((t.text.length : Int).tdiv 8) = ((t.text.length / 8 : Nat) : Int) := by
   rw [Int.tdiv_eq_ediv_of_nonneg (by omega)]; omega
  have hi : IntKind.i64.wrap ((t.text.length / 8 : Nat) : Int) = (t.text.length / 8 : Nat) := wrap_nat (by omega) (by omega)
  rw [this, hi, wrap_nat (x := 1 + (t.limbs.length : Int)) (by omega) (by omega), wrap_nat (by omega) (by omega), hn0]
 have hn1 : n0 <= 1 + t.limbs.length + t.text.length := by omega
 have hn2 : 0 < n0 := by omega
 clear hn0
 have e1 := termsLoop_le t.items (fun k _ => termsOf_le k) n0 m
 refine Tri.of_awp mixed Tryz.func35 rfl (by kernel_rfl) (by kernel_rfl) (by simp [Tryz.ntmps35]) Tryz.results35 ?_
 simp -dsimp only [↓bp, bq, br, seval, tbGreat2]
 intro b hb
 simp -dsimp only [↓bp, bq, br, seval, tbGreat2, hq]
 refine loop_intro (fun n e σ' => ∃ (i : Nat) (z : Int), i <= t.items.length /\ n = t.items.length - i /\ e 6 = .int .i64 i /\ e 5 = .int .i64 z /\ 0 < z /\ z <= n0 + bulks (t.items.take i) /\ termsLoop (t.items.drop i) z m = termsLoop t.items n0 m /\
   σ' = σ.setBox b [.int .u8 t.knd, .bool t.neg, lims t.limbs, .str t.text, .int .i64 t.num, encs t.items, encs t.tail]) t.items.length
  ⟨0, n0, by omega, by omega, by simp -dsimp only [↓bp, bq, br, seval, tbGreat2]; try rfl, by simp -dsimp only [↓bp, bq, br, seval, tbGreat2, hq], by omega, by simp [bulks], by rw [List.drop_zero], rfl⟩ ?_
 rintro n v σ' ⟨i, z, hi, rfl, h6, h5, hz0, hz1, hz, rfl⟩
 have hbt := bulks_take t.items i
 simp -dsimp only [↓bp, bq, br, seval, tbGreat2] at h6 h5
 simp -dsimp only [↓bp, bq, br, seval, tbGreat2, h6, h5]
 refine gW_dec (fun hlt => ?_) (fun hge => ?_)
 ·obtain ⟨k, hk⟩ : ∃ k, t.items[i]? = some k := ⟨_, List.getElem?_eq_getElem (by omega)⟩
  have hkm : k ∈ t.items := List.mem_of_getElem? hk
  have hkb := bulk_mem hkm
  have hko := termsOf_le k (m - z)
  have hdr := drop_get _ _ _ hk
  simp -dsimp only [↓bp, bq, br, seval, tbGreat2, h6, h5, hk, hlt]
  refine condW_dec (fun hle => ?_) (fun hnle => ?_)
  ·have hw : IntKind.i64.wrap (m - z) = m - z := wrap_nat (by omega) (by omega)
   simp -dsimp only [↓bp, bq, br, seval, tbGreat2, h6, h5, hk, hlt, hle, hw]
   refine Pure.use (ih1 k hkm (m - z) (by omega) (by omega) (by omega)) ?_
   simp -dsimp only [↓bp, bq, br, seval, tbGreat2, h6, h5, hk, hlt, hle, hw]
   refine ⟨t.items.length - (i + 1), by omega, i + 1, z + termsOf k (m - z), by omega, rfl, ?_, ?_, by omega, ?_, ?_⟩
   ·rw [wrap_nat (by omega) (by omega)]; rfl
   ·rw [wrap_nat (by omega) (by omega)]
   ·rw [take_succ_get _ _ _ hk, bulks_append]
    simp only [bulks]
    omega
   ·rw [<- hz, hdr, termsLoop, if_pos hle]
  ·have hz' : termsLoop t.items n0 m = z := by rw [<- hz, hdr, termsLoop, if_neg hnle]
   simp -dsimp only [↓bp, bq, br, seval, tbGreat2, h6, h5, hk, hlt, hnle]
   have hz3 : z <= n0 + bulks t.items := by omega
   have hz4 := termsLoop_le t.tail (fun k _ => termsOf_le k) z m
   rw [hz'] at hde
   refine loop_intro (fun n e σ' => ∃ (i : Nat) (y : Int), i <= t.tail.length /\ n = t.tail.length - i /\ e 7 = .int .i64 i /\ e 5 = .int .i64 y /\ 0 < y /\ y <= z + bulks (t.tail.take i) /\ termsLoop (t.tail.drop i) y m = termsLoop t.tail z m /\
     σ' = σ.setBox b [.int .u8 t.knd, .bool t.neg, lims t.limbs, .str t.text, .int .i64 t.num, encs t.items, encs t.tail]) t.tail.length
    ⟨0, z, by omega, by omega, by simp -dsimp only [↓bp, bq, br, seval, tbGreat2]; try rfl, by simp -dsimp only [↓bp, bq, br, seval, tbGreat2, h5], by omega, by simp [bulks], by rw [List.drop_zero], rfl⟩ ?_
   rintro n2 v2 σ' ⟨j, y, hj, rfl, h7, h5', hy0, hy1, hy, rfl⟩
   have hbt2 := bulks_take t.tail j
   simp -dsimp only [↓bp, bq, br, seval, tbGreat2] at h7 h5'
   simp -dsimp only [↓bp, bq, br, seval, tbGreat2, h7, h5']
   refine gW_dec (fun hlt2 => ?_) (fun hge2 => ?_)
   ·obtain ⟨k, hk⟩ : ∃ k, t.tail[j]? = some k := ⟨_, List.getElem?_eq_getElem (by omega)⟩
    have hkm : k ∈ t.tail := List.mem_of_getElem? hk
    have hkb := bulk_mem hkm
    have hko := termsOf_le k (m - y)
    have hdr := drop_get _ _ _ hk
    simp -dsimp only [↓bp, bq, br, seval, tbGreat2, h7, h5', hk, hlt2]
    refine condW_dec (fun hle => ?_) (fun hnle => ?_)
    ·have hw : IntKind.i64.wrap (m - y) = m - y := wrap_nat (by omega) (by omega)
     simp -dsimp only [↓bp, bq, br, seval, tbGreat2, h7, h5', hk, hlt2, hle, hw]
     refine Pure.use (ih2 k hkm (m - y) (by omega) (by omega) (by omega)) ?_
     simp -dsimp only [↓bp, bq, br, seval, tbGreat2, h7, h5', hk, hlt2, hle, hw]
     refine ⟨t.tail.length - (j + 1), by omega, j + 1, y + termsOf k (m - y), by omega, rfl, ?_, ?_, by omega, ?_, ?_⟩
     ·rw [wrap_nat (by omega) (by omega)]; rfl
     ·rw [wrap_nat (by omega) (by omega)]
     ·rw [take_succ_get _ _ _ hk, bulks_append]
      simp only [bulks]
      omega
     ·rw [<- hy, hdr, termsLoop, if_pos hle]
    ·simp -dsimp only [↓bp, bq, br, seval, tbGreat2, h7, h5', hk, hlt2, hnle]
     refine finish_pure ?_ (le_set hb (AS.le.refl σ))
     rw [hde, <- hy, hdr, termsLoop, if_neg hnle]
   ·have : j = t.tail.length := by omega
    subst this
    simp -dsimp only [↓bp, bq, br, seval, tbGreat2, h7, h5', hge2]
    refine finish_pure ?_ (le_set hb (AS.le.refl σ))
    rw [hde, <- hy, List.drop_length, termsLoop]
 ·have : i = t.items.length := by omega
  subst this
  have hz' : termsLoop t.items n0 m = z := by rw [<- hz, List.drop_length, termsLoop]
  simp -dsimp only [↓bp, bq, br, seval, tbGreat2, h6, h5, hge]
  have hz3 : z <= n0 + bulks t.items := by omega
  have hz4 := termsLoop_le t.tail (fun k _ => termsOf_le k) z m
  rw [hz'] at hde
  refine loop_intro (fun n e σ' => ∃ (i : Nat) (y : Int), i <= t.tail.length /\ n = t.tail.length - i /\ e 7 = .int .i64 i /\ e 5 = .int .i64 y /\ 0 < y /\ y <= z + bulks (t.tail.take i) /\ termsLoop (t.tail.drop i) y m = termsLoop t.tail z m /\
    σ' = σ.setBox b [.int .u8 t.knd, .bool t.neg, lims t.limbs, .str t.text, .int .i64 t.num, encs t.items, encs t.tail]) t.tail.length
   ⟨0, z, by omega, by omega, by simp -dsimp only [↓bp, bq, br, seval, tbGreat2]; try rfl, by simp -dsimp only [↓bp, bq, br, seval, tbGreat2, h5], by omega, by simp [bulks], by rw [List.drop_zero], rfl⟩ ?_
  rintro n2 v2 σ' ⟨j, y, hj, rfl, h7, h5', hy0, hy1, hy, rfl⟩
  have hbt2 := bulks_take t.tail j
  simp -dsimp only [↓bp, bq, br, seval, tbGreat2] at h7 h5'
  simp -dsimp only [↓bp, bq, br, seval, tbGreat2, h7, h5']
  refine gW_dec (fun hlt2 => ?_) (fun hge2 => ?_)
  ·obtain ⟨k, hk⟩ : ∃ k, t.tail[j]? = some k := ⟨_, List.getElem?_eq_getElem (by omega)⟩
   have hkm : k ∈ t.tail := List.mem_of_getElem? hk
   have hkb := bulk_mem hkm
   have hko := termsOf_le k (m - y)
   have hdr := drop_get _ _ _ hk
   simp -dsimp only [↓bp, bq, br, seval, tbGreat2, h7, h5', hk, hlt2]
   refine condW_dec (fun hle => ?_) (fun hnle => ?_)
   ·have hw : IntKind.i64.wrap (m - y) = m - y := wrap_nat (by omega) (by omega)
    simp -dsimp only [↓bp, bq, br, seval, tbGreat2, h7, h5', hk, hlt2, hle, hw]
    refine Pure.use (ih2 k hkm (m - y) (by omega) (by omega) (by omega)) ?_
    simp -dsimp only [↓bp, bq, br, seval, tbGreat2, h7, h5', hk, hlt2, hle, hw]
    refine ⟨t.tail.length - (j + 1), by omega, j + 1, y + termsOf k (m - y), by omega, rfl, ?_, ?_, by omega, ?_, ?_⟩
    ·rw [wrap_nat (by omega) (by omega)]; rfl
    ·rw [wrap_nat (by omega) (by omega)]
    ·rw [take_succ_get _ _ _ hk, bulks_append]
     simp only [bulks]
     omega
    ·rw [<- hy, hdr, termsLoop, if_pos hle]
   ·simp -dsimp only [↓bp, bq, br, seval, tbGreat2, h7, h5', hk, hlt2, hnle]
    refine finish_pure ?_ (le_set hb (AS.le.refl σ))
    rw [hde, <- hy, hdr, termsLoop, if_neg hnle]
  ·have : j = t.tail.length := by omega
   subst this
   simp -dsimp only [↓bp, bq, br, seval, tbGreat2, h7, h5', hge2]
   refine finish_pure ?_ (le_set hb (AS.le.refl σ))
   rw [hde, <- hy, List.drop_length, termsLoop]
end
set_option maxRecDepth 20000
section
def tbSize := And.intro (And.intro (And.intro (And.intro @tf3 @tf4) (And.intro @tf5 (And.intro @tf169 @tf9))) (And.intro (And.intro @tf56 (And.intro @tf55 @tf24)) (And.intro @tf58 (And.intro @Term.flat_enc @Term.isv_enc)))) (And.intro (And.intro (And.intro @Term.fold_enc (And.intro @isv_encs @flat_encs)) (And.intro @len_encs (And.intro @ix_encs @ix_encs'))) (And.intro (And.intro @isv_lims (And.intro @flat_lims @len_lims)) (And.intro @ix_lims (And.intro @ix_lims' @flat_limA))))
variable (G : Nat -> AV)
def lastOk (l : List UInt32) : Bool := match l[l.length - 1]? with | some x => decide ((x.toNat : Int) ≠ 0) | none => false
def wr (t : Term) : Bool :=
 decide (t.knd = 1) && decide (t.text = []) && decide (t.num = 0) && decide ((t.items.length : Int) + t.tail.length = 0) && decide ((t.limbs.length : Int) <= 32) && (decide ((t.limbs.length : Int) = 0) && !t.neg || decide (0 < (t.limbs.length : Int)) && lastOk t.limbs)
set_option maxHeartbeats 2000000 in
theorem wr_pure (t : Term) (hb : t.bulk <= 1000000000) : Pure Tryz.prog G 145 [t.enc] (.bool (wr t)) := by
 have h1 := len_limbs t
 have h2 := len_items t
 have h3 := len_tail t
 have hw1 : IntKind.i64.wrap ((t.items.length : Int) + t.tail.length) = t.items.length + t.tail.length := wrap_nat (by omega) (by omega)
 intro σ
 by_cases hl : 0 < (t.limbs.length : Int)
 ·have hw2 : IntKind.i64.wrap ((t.limbs.length : Int) - 1) = ((t.limbs.length - 1 : Nat) : Int) := by rw [wrap_nat (by omega) (by omega)]; omega
  obtain ⟨x, hx⟩ : ∃ x, t.limbs[t.limbs.length - 1]? = some x := ⟨_, List.getElem?_eq_getElem (by omega)⟩
  have hlo : lastOk t.limbs = decide ((x.toNat : Int) ≠ 0) := by simp [lastOk, hx]
  have hl0 : ¬ (t.limbs.length : Int) = 0 := by omega
  clear h1 h2 h3 hb
  refine Tri.of_awp mixed Tryz.func145 rfl (by kernel_rfl) (by kernel_rfl) (by simp [Tryz.ntmps145]) Tryz.results145 ?_
  repeat' (first | refine xs ?_ ?_ <;> intros | (refine wn ?_; intro bx hbx; try simp only [fb] at hbx) | refine wj ?_ | simp -dsimp only [↓bp, bq, br, seval, tbSize, limA, *] | refine wz ?_ | fail)
  all_goals (first | (simp only [wr, *, Bool.and_true, Bool.true_and, Bool.and_false, Bool.false_and, Bool.or_true, Bool.true_or, Bool.or_false, Bool.false_or, Bool.not_true, Bool.not_false, if_true, if_false, Bool.and_self, Bool.or_self]; done) | (simp [wr, *]; done) | (simp_all [wr]; done))
 ·have hl0 : (t.limbs.length : Int) = 0 := by omega
  clear h1 h2 h3 hb
  refine Tri.of_awp mixed Tryz.func145 rfl (by kernel_rfl) (by kernel_rfl) (by simp [Tryz.ntmps145]) Tryz.results145 ?_
  repeat' (first | refine xs ?_ ?_ <;> intros | (refine wn ?_; intro bx hbx; try simp only [fb] at hbx) | refine wj ?_ | simp -dsimp only [↓bp, bq, br, seval, tbSize, limA, *] | refine wz ?_ | fail)
  all_goals (first | (simp only [wr, *, Bool.and_true, Bool.true_and, Bool.and_false, Bool.false_and, Bool.or_true, Bool.true_or, Bool.or_false, Bool.false_or, Bool.not_true, Bool.not_false, if_true, if_false, Bool.and_self, Bool.or_self]; done) | (simp [wr, *]; done) | (simp_all [wr]; done))
def bare (t : Term) (text num items tail : Bool) : Bool :=
 !t.neg && decide ((t.limbs.length : Int) = 0) && (text || decide (t.text = [])) && (num || decide (t.num = 0)) && (items || decide ((t.items.length : Int) = 0)) && (tail || decide ((t.tail.length : Int) = 0))
set_option maxHeartbeats 2000000 in
theorem bare_pure0 (t : Term) : Pure Tryz.prog G 146 [t.enc, .bool true, .bool false, .bool false, .bool false] (.bool (bare t true false false false)) := by
 intro σ
 refine Tri.of_awp mixed Tryz.func146 rfl (by kernel_rfl) (by kernel_rfl) (by simp [Tryz.ntmps146]) Tryz.results146 ?_
 repeat' (first | refine xs ?_ ?_ <;> intros | (refine wn ?_; intro bx hbx; try simp only [fb] at hbx) | refine wj ?_ | simp -dsimp only [↓bp, bq, br, seval, tbSize, *] | refine wz ?_ | fail)
 all_goals (first | (simp only [bare, *, Bool.and_true, Bool.true_and, Bool.and_false, Bool.false_and, Bool.or_true, Bool.true_or, Bool.or_false, Bool.false_or, Bool.not_true, Bool.not_false, if_true, if_false, Bool.and_self, Bool.or_self]; done) | (simp [bare, *]; done) | (simp_all [bare]; done))
set_option maxHeartbeats 2000000 in
theorem bare_pure1 (t : Term) : Pure Tryz.prog G 146 [t.enc, .bool false, .bool true, .bool false, .bool false] (.bool (bare t false true false false)) := by
 intro σ
 refine Tri.of_awp mixed Tryz.func146 rfl (by kernel_rfl) (by kernel_rfl) (by simp [Tryz.ntmps146]) Tryz.results146 ?_
 repeat' (first | refine xs ?_ ?_ <;> intros | (refine wn ?_; intro bx hbx; try simp only [fb] at hbx) | refine wj ?_ | simp -dsimp only [↓bp, bq, br, seval, tbSize, *] | refine wz ?_ | fail)
 all_goals (first | (simp only [bare, *, Bool.and_true, Bool.true_and, Bool.and_false, Bool.false_and, Bool.or_true, Bool.true_or, Bool.or_false, Bool.false_or, Bool.not_true, Bool.not_false, if_true, if_false, Bool.and_self, Bool.or_self]; done) | (simp [bare, *]; done) | (simp_all [bare]; done))
set_option maxHeartbeats 2000000 in
theorem bare_pure2 (t : Term) : Pure Tryz.prog G 146 [t.enc, .bool false, .bool true, .bool true, .bool false] (.bool (bare t false true true false)) := by
 intro σ
 refine Tri.of_awp mixed Tryz.func146 rfl (by kernel_rfl) (by kernel_rfl) (by simp [Tryz.ntmps146]) Tryz.results146 ?_
 repeat' (first | refine xs ?_ ?_ <;> intros | (refine wn ?_; intro bx hbx; try simp only [fb] at hbx) | refine wj ?_ | simp -dsimp only [↓bp, bq, br, seval, tbSize, *] | refine wz ?_ | fail)
 all_goals (first | (simp only [bare, *, Bool.and_true, Bool.true_and, Bool.and_false, Bool.false_and, Bool.or_true, Bool.true_or, Bool.or_false, Bool.false_or, Bool.not_true, Bool.not_false, if_true, if_false, Bool.and_self, Bool.or_self]; done) | (simp [bare, *]; done) | (simp_all [bare]; done))
set_option maxHeartbeats 2000000 in
theorem bare_pure3 (t : Term) : Pure Tryz.prog G 146 [t.enc, .bool false, .bool false, .bool true, .bool false] (.bool (bare t false false true false)) := by
 intro σ
 refine Tri.of_awp mixed Tryz.func146 rfl (by kernel_rfl) (by kernel_rfl) (by simp [Tryz.ntmps146]) Tryz.results146 ?_
 repeat' (first | refine xs ?_ ?_ <;> intros | (refine wn ?_; intro bx hbx; try simp only [fb] at hbx) | refine wj ?_ | simp -dsimp only [↓bp, bq, br, seval, tbSize, *] | refine wz ?_ | fail)
 all_goals (first | (simp only [bare, *, Bool.and_true, Bool.true_and, Bool.and_false, Bool.false_and, Bool.or_true, Bool.true_or, Bool.or_false, Bool.false_or, Bool.not_true, Bool.not_false, if_true, if_false, Bool.and_self, Bool.or_self]; done) | (simp [bare, *]; done) | (simp_all [bare]; done))
set_option maxHeartbeats 2000000 in
theorem bare_pure4 (t : Term) : Pure Tryz.prog G 146 [t.enc, .bool false, .bool false, .bool true, .bool true] (.bool (bare t false false true true)) := by
 intro σ
 refine Tri.of_awp mixed Tryz.func146 rfl (by kernel_rfl) (by kernel_rfl) (by simp [Tryz.ntmps146]) Tryz.results146 ?_
 repeat' (first | refine xs ?_ ?_ <;> intros | (refine wn ?_; intro bx hbx; try simp only [fb] at hbx) | refine wj ?_ | simp -dsimp only [↓bp, bq, br, seval, tbSize, *] | refine wz ?_ | fail)
 all_goals (first | (simp only [bare, *, Bool.and_true, Bool.true_and, Bool.and_false, Bool.false_and, Bool.or_true, Bool.true_or, Bool.or_false, Bool.false_or, Bool.not_true, Bool.not_false, if_true, if_false, Bool.and_self, Bool.or_self]; done) | (simp [bare, *]; done) | (simp_all [bare]; done))
end
set_option maxRecDepth 20000
section
def tbSize2 := And.intro (And.intro (And.intro (And.intro @tf3 @tf4) (And.intro @tf5 (And.intro @tf169 @tf9))) (And.intro (And.intro @tf56 (And.intro @tf55 @tf24)) (And.intro @tf58 (And.intro @Term.flat_enc @Term.isv_enc)))) (And.intro (And.intro (And.intro @Term.fold_enc (And.intro @isv_encs @flat_encs)) (And.intro @len_encs (And.intro @ix_encs @ix_encs'))) (And.intro (And.intro @isv_lims (And.intro @flat_lims @len_lims)) (And.intro @ix_lims (And.intro @ix_lims' @flat_limA))))
variable (G : Nat -> AV)
def head (t : Term) : Int × Int × Bool :=
 if t.knd = 2 then (1, 0, bare t true false false false && decide ((t.text.length : Int) <= 40))
 else if t.knd = 3 \/ t.knd = 5 then (1, 0, bare t false true false false && decide (0 <= t.num) && decide (t.num <= 1099511627776))
 else if t.knd = 4 then (2, 0, bare t false true true false && decide (0 <= t.num) && decide (t.num <= 16384))
 else if t.knd = 6 then (1, 0, bare t false false true false)
 else if t.knd = 7 then (1, 1, bare t false false true true && decide ((t.tail.length : Int) <= if (t.items.length : Int) < 1 then (t.items.length : Int) else 1) && t.tail.all fun x => decide (x.knd ≠ 7))
 else (1, 0, false)
mutual
def size : Term -> Int
 | .mk k g l s n ks ts =>
  if (k.toNat : Int) = 1 then (if wr (.mk k g l s n ks ts) = true then 1 + l.length else 0) else
   let h := head (.mk k g l s n ks ts)
   let a := adds ks h.2.1 (h.1, h.2.2)
   let b := adds ts 0 a
   if b.2 = true then b.1 else 0
def adds : List Term -> Int -> Int × Bool -> Int × Bool
 | [], _, a => a
 | k :: ks, each, a => if a.2 = true then adds ks each (a.1 + size k + each, decide (0 < size k) && decide (a.1 + size k + each <= 4096)) else a
end
theorem size_eq (t : Term) : size t = if t.knd = 1 then (if wr t = true then (1 + t.limbs.length : Int) else 0) else
  if (adds t.tail 0 (adds t.items (head t).2.1 ((head t).1, (head t).2.2))).2 = true then (adds t.tail 0 (adds t.items (head t).2.1 ((head t).1, (head t).2.2))).1 else 0 := by
 cases t; rw [size]; rfl
theorem adds_le (l : List Term) (h : ∀ x, x ∈ l -> 0 <= size x /\ size x <= 4096) (each : Int) (he0 : 0 <= each) (he1 : each <= 1) : ∀ a : Int × Bool, 0 < a.1 -> (a.2 = true -> a.1 <= 4096) -> a.1 <= 10000 ->
  0 < (adds l each a).1 /\ ((adds l each a).2 = true -> (adds l each a).1 <= 4096) /\ (adds l each a).1 <= 10000 := by
 induction l with
 | nil => intro a h1 h2 h3; exact ⟨h1, h2, h3⟩
 | cons x l ih =>
  intro a h1 h2 h3
  have hx := h x (by simp)
  simp only [adds]
  split
  ·rename_i hf
   have := h2 hf
   refine ih (fun y hy => h y (by simp [hy])) _ (by simp only; omega) (fun hh => ?_) (by simp only; omega)
   simp only [Bool.and_eq_true, decide_eq_true_eq] at hh
   exact hh.2
  ·exact ⟨h1, h2, h3⟩
theorem head_le (t : Term) : 0 < (head t).1 /\ (head t).1 <= 2 /\ 0 <= (head t).2.1 /\ (head t).2.1 <= 1 := by
 unfold head; split <;> (try split) <;> (try split) <;> (try split) <;> (try split) <;> simp
theorem size_le (t : Term) : 0 <= size t /\ size t <= 4096 := by
 refine Term.ind (P := fun t => 0 <= size t /\ size t <= 4096) (fun t ih1 ih2 => ?_) t
 obtain ⟨h1, h2, h3, h4⟩ := head_le t
 have a := adds_le t.items ih1 _ h3 h4 ((head t).1, (head t).2.2) h1 (fun _ => by simp only; omega) (by simp only; omega)
 have b := adds_le t.tail ih2 0 (by omega) (by omega) _ a.1 a.2.1 a.2.2
 rw [size_eq]
 split
 ·split
  ·rename_i hw
   simp only [wr, Bool.and_eq_true, decide_eq_true_eq] at hw
   omega
  ·omega
 ·split
  ·rename_i hf
   have := b.2.1 hf
   omega
  ·omega
theorem adds_false (l : List Term) (each n : Int) : adds l each (n, false) = (n, false) := by cases l <;> simp [adds]
theorem adds_tri (l : List Term) (each : Int) (he0 : 0 <= each) (he1 : each <= 1) (hl : l.length <= 1000000000) (hf : ∀ x, x ∈ l -> Pure Tryz.prog G 81 [x.enc] (.int .i64 (size x))) (σ : AS) (bf bn : Nat) (hne : bf ≠ bn) (n : Int) (f : Bool)
  (hbf : σ.box bf = some [.bool f]) (hbn : σ.box bn = some [.int .i64 n]) (hn0 : 0 < n) (hn1 : f = true -> n <= 4096) (hn2 : n <= 10000) :
  Tri Tryz.prog G 147 [encs l, .int .i64 each, .ptr bf 0, .ptr bn 0] σ fun r σ' => σ' = (σ.setBox bn [.int .i64 (adds l each (n, f)).1]).setBox bf [.bool (adds l each (n, f)).2] := by
 have hnb : bn ≠ bf := Ne.symm hne
 have hid : σ = (σ.setBox bn [.int .i64 n]).setBox bf [.bool f] := by
  unfold AS.setBox; cases σ with
  | mk box tip ty =>
   simp only [AS.mk.injEq, and_true]
   funext i
   split
   ·rename_i h; subst h; exact hbf
   ·split
    ·rename_i h; subst h; exact hbn
    ·rfl
 have sw : ∀ (m m' : Int) (g g' : Bool), (((σ.setBox bn [.int .i64 m]).setBox bf [.bool g]).setBox bn [.int .i64 m']).setBox bf [.bool g'] = (σ.setBox bn [.int .i64 m']).setBox bf [.bool g'] := fun m m' g g' => by
  unfold AS.setBox
  congr 1
  funext i
  simp only
  by_cases h1 : i = bf
  ·simp [h1]
  ·by_cases h2 : i = bn
   ·simp [h1, h2]
   ·simp [h1, h2]
 refine Tri.of_awp mixed Tryz.func147 rfl (by kernel_rfl) (by kernel_rfl) (by simp [Tryz.ntmps147]) Tryz.results147 ?_
 simp -dsimp only [↓bp, bq, br, seval, tbSize2]
 refine loop_intro (fun k e σ' => ∃ (i : Nat) (a : Int × Bool), i <= l.length /\ k = l.length - i /\ e 6 = .int .i64 i /\ 0 < a.1 /\ (a.2 = true -> a.1 <= 4096) /\ a.1 <= 10000 /\ adds (l.drop i) each a = adds l each (n, f) /\ σ' = (σ.setBox bn [.int .i64 a.1]).setBox bf [.bool a.2]) l.length
  ⟨0, (n, f), by omega, by omega, by simp -dsimp only [↓bp, bq, br, seval, tbSize2]; try rfl, hn0, hn1, hn2, by rw [List.drop_zero], hid⟩ ?_
 rintro k v σ' ⟨i, ⟨m, g⟩, hi, rfl, h6, hm0, hm1, hm2, ha, rfl⟩
 simp only at hm0 hm1 hm2 ⊢
 simp -dsimp only [↓bp, bq, br, seval, tbSize2] at h6
 simp -dsimp only [↓bp, bq, br, seval, tbSize2, h6]
 refine gW_dec (fun hlt => ?_) (fun hge => ?_)
 ·obtain ⟨x, hx⟩ : ∃ x, l[i]? = some x := ⟨_, List.getElem?_eq_getElem (by omega)⟩
  have hxm : x ∈ l := List.mem_of_getElem? hx
  have hs := size_le x
  have hdr := drop_get _ _ _ hx
  have hp := hf x hxm
  cases g with
  | false =>
   simp -dsimp only [↓bp, bq, br, seval, tbSize2, h6, hx, hlt, hne, hnb]
   refine ⟨_, _, rfl, AS.le.refl _, ?_⟩
   rw [<- ha, adds_false]
  | true =>
   have hm1 := hm1 rfl
   have hw1 : IntKind.i64.wrap (size x + each) = size x + each := wrap_nat (by omega) (by omega)
   have hw2 : IntKind.i64.wrap (m + (size x + each)) = m + size x + each := by rw [wrap_nat (by omega) (by omega)]; omega
   simp -dsimp only [↓bp, bq, br, seval, tbSize2, h6, hx, hlt, hne, hnb]
   refine Pure.use hp ?_
   simp -dsimp only [↓bp, bq, br, seval, tbSize2, h6, hx, hlt, hne, hnb, hw1, hw2]
   have hnx : adds (l.drop (i + 1)) each (m + size x + each, decide (0 < size x) && decide (m + size x + each <= 4096)) = adds l each (n, f) := by rw [<- ha, hdr]; simp [adds]
   refine gW_dec (fun h0 => ?_) (fun h0 => ?_)
   ·simp -dsimp only [↓bp, bq, br, seval, tbSize2, h6, hx, hlt, hne, hnb, hw1, hw2, h0]
    refine ⟨l.length - (i + 1), by omega, i + 1, (m + size x + each, decide (0 < size x) && decide (m + size x + each <= 4096)), by omega, rfl, by rw [wrap_nat (by omega) (by omega)]; rfl, by simp only; omega, ?_, by simp only; omega, hnx, ?_⟩
    ·intro hh
     simp only [Bool.and_eq_true, decide_eq_true_eq] at hh
     exact hh.2
    ·simp only [h0, decide_true, Bool.true_and]
     exact sw _ _ _ _
   ·simp -dsimp only [↓bp, bq, br, seval, tbSize2, h6, hx, hlt, hne, hnb, hw1, hw2, h0]
    refine ⟨l.length - (i + 1), by omega, i + 1, (m + size x + each, decide (0 < size x) && decide (m + size x + each <= 4096)), by omega, rfl, by rw [wrap_nat (by omega) (by omega)]; rfl, by simp only; omega, ?_, by simp only; omega, hnx, ?_⟩
    ·intro hh
     simp only [Bool.and_eq_true, decide_eq_true_eq] at hh
     exact hh.2
    ·simp only [h0, decide_false, Bool.false_and]
     exact sw _ _ _ _
 ·have : i = l.length := by omega
  subst this
  rw [List.drop_length] at ha
  simp -dsimp only [↓bp, bq, br, seval, tbSize2, h6, hge]
  refine ⟨_, _, rfl, AS.le.refl _, ?_⟩
  rw [<- ha]; rfl
end
end Go.Proofs.YtjmdaeabllkgnaaGreatDoor
