/- Atoms: plain ones, quoted ones. -/
import Derived.Test.YtpginpbcndlfmaaDoorZQuo
set_option linter.unusedVariables false
set_option linter.unusedSimpArgs false
set_option maxRecDepth 20000
set_option linter.defProp false
namespace Go.Proofs.YtpginpbcndlfmaaDoor
open Go Go.Av
def tbQuo2 := And.intro (And.intro (And.intro @tf3 (And.intro @tf4 @tf5)) (And.intro @tf9 (And.intro @tf63 @tf31))) (And.intro (And.intro @tf94 (And.intro @tf65 @tf62)) (And.intro @tf95 (And.intro @isv_byteA @flat_byteA)))
variable {G : Nat → AV}
/-- what the program's variables hold -/
structure Glob (G : Nat → AV) : Prop where
  words : G 0 = .rp (Proofs.YtpginpbcndlfmaaDoor.words.map AV.str)
theorem words_len : (words.map AV.str).length = 19 := rfl
theorem plainA_pure (hg : Glob G) (s : List UInt8) (hs : s.length ≤ 1000000000) : Pure Tryd.prog G 48 [.str s] (.bool (plainA s)) := by
  have hi := inner_pure G s hs
  have hc := contains_pure G words s (by decide)
  have hw := hg.words
  have h19 : rsk (some (19, 1)) (words.map AV.str) = some (texts words) := by
    show (if 19 = (words.map AV.str).length ∧ 19 ≤ maxLen then some (AV.sl .none (words.map AV.str) []) else none) = _
    exact if_pos ⟨words_len.symm, by unfold maxLen; decide⟩
  have ha : arrT Tryd.prog 94 = some (19, 1) := tf94.2.2.2.2.2.2
  have has : aslice Tryd.prog 94 (.rp (words.map AV.str)) none none = some (texts words) := by rw [aslice_rp, ha, h19]
  cases s with
  | nil =>
    intro σ
    clear hi hc
    refine Tri.of_awp mixed Tryd.func48 rfl (by kernel_rfl) (by kernel_rfl) (by simp [Tryd.ntmps48]) Tryd.results48 ?_
    repeat' (first
    | with_reducible refine condW_both (fun _ _ => ?_) (fun _ _ => ?_)
    | with_reducible refine gW_both (fun _ _ => ?_) (fun _ _ => ?_)
    | with_reducible refine condW_split (fun _ => ?_) (fun _ => ?_)
    | with_reducible refine gW_split (fun _ => ?_) (fun _ => ?_)
    | with_reducible refine pickW_split (fun _ => ?_) (fun _ => ?_)
    | (refine newW_intro ?_; intro bx hbx; (try simp only [fresh_box, fresh_tip, fresh_ty] at hbx))
    | (refine newT_plain ?_; intro bx hbx; (try simp only [fresh_box, fresh_tip, fresh_ty] at hbx))
    | refine storeX_w ?_
    | ((with_reducible refine And.intro ?_ ?_); omega)
    | refine bo_buildSlice (d' := ⟨⟩) ?_
    | (refine draw_all (by kernel_rfl) ?_)
    | refine finish_pure ?_ (by repeat' (first | exact AS.le.refl _ | assumption | (refine le_set (by first | assumption | (simp only [*]; done) | exact AS.le.fresh (by assumption) (by simp only [*])) ?_) | (refine le_ty (by first | assumption | (simp only [*]; done) | exact AS.le.fresh (by assumption) (by simp only [*])) ?_)))
    | simp -dsimp only [↓bp, bq, br, afin, bsk, cWrites, opsWrites, pieceGh, rsk, ne_eq, if_true, if_false, exists_eq_left', forall_const, forall_eq, Nat.reduceLT, Int.reduceSub, Nat.reduceAdd, Nat.reduceSub, Nat.reduceMul, Nat.reduceLeDiff, Nat.reduceEqDiff, Nat.reduceBEq, Nat.reduceBNe, Int.reduceNeg, Int.reduceAdd, Int.reduceMul, Int.reduceLE, Int.reduceLT, Int.reduceEq, Int.reduceToNat, reduceIte, reduceCtorEq, tbQuo2, *])
    all_goals rfl
  | cons c l =>
    have hp : plainA (c :: l) = (decide (97 ≤ c.toNat) && decide (c.toNat ≤ 122) && !words.contains (c :: l) && (c :: l).all innerC) := rfl
    have hx : (c :: l)[0]? = some c := rfl
    have hne : ¬ (c :: l) = [] := by simp
    rw [hp]
    generalize (c :: l) = s at *
    clear hp
    generalize words.contains s = wc at *
    generalize s.all innerC = si at *
    have e1 : ((97 : Int) ≤ c.toNat) ↔ 97 ≤ c.toNat := by omega
    have e2 : ((c.toNat : Int) ≤ 122) ↔ c.toNat ≤ 122 := by omega
    by_cases h1 : 97 ≤ c.toNat
    · have g1 : ¬ (c.toNat : Int) < 97 := by omega
      by_cases h2 : c.toNat ≤ 122
      · have g2 : ¬ (122 : Int) < c.toNat := by omega
        have q1 := decide_eq_true h1
        have q2 := decide_eq_true h2
        rw [q1, q2]
        clear h1 h2 e1 e2 q1 q2
        intro σ
        cases wc
        · refine Tri.of_awp mixed Tryd.func48 rfl (by kernel_rfl) (by kernel_rfl) (by simp [Tryd.ntmps48]) Tryd.results48 ?_
          repeat' (first
    | with_reducible refine condW_both (fun _ _ => ?_) (fun _ _ => ?_)
    | with_reducible refine gW_both (fun _ _ => ?_) (fun _ _ => ?_)
    | with_reducible refine condW_split (fun _ => ?_) (fun _ => ?_)
    | with_reducible refine gW_split (fun _ => ?_) (fun _ => ?_)
    | with_reducible refine pickW_split (fun _ => ?_) (fun _ => ?_)
    | (refine newW_intro ?_; intro bx hbx; (try simp only [fresh_box, fresh_tip, fresh_ty] at hbx))
    | (refine newT_plain ?_; intro bx hbx; (try simp only [fresh_box, fresh_tip, fresh_ty] at hbx))
    | refine Pure.use (hc) ?_
    | refine Pure.head (hc) ?_
    | refine Pure.use (hi) ?_
    | refine Pure.head (hi) ?_
    | refine storeX_w ?_
    | ((with_reducible refine And.intro ?_ ?_); omega)
    | refine bo_buildSlice (d' := ⟨⟩) ?_
    | (refine draw_all (by kernel_rfl) ?_)
    | refine finish_pure ?_ (by repeat' (first | exact AS.le.refl _ | assumption | (refine le_set (by first | assumption | (simp only [*]; done) | exact AS.le.fresh (by assumption) (by simp only [*])) ?_) | (refine le_ty (by first | assumption | (simp only [*]; done) | exact AS.le.fresh (by assumption) (by simp only [*])) ?_)))
    | simp -dsimp only [↓bp, bq, br, afin, bsk, cWrites, opsWrites, pieceGh, rsk, ne_eq, if_true, if_false, exists_eq_left', forall_const, forall_eq, Nat.reduceLT, Int.reduceSub, Nat.reduceAdd, Nat.reduceSub, Nat.reduceMul, Nat.reduceLeDiff, Nat.reduceEqDiff, Nat.reduceBEq, Nat.reduceBNe, Int.reduceNeg, Int.reduceAdd, Int.reduceMul, Int.reduceLE, Int.reduceLT, Int.reduceEq, Int.reduceToNat, reduceIte, reduceCtorEq, tbQuo2, *])
          all_goals rfl
        · refine Tri.of_awp mixed Tryd.func48 rfl (by kernel_rfl) (by kernel_rfl) (by simp [Tryd.ntmps48]) Tryd.results48 ?_
          repeat' (first
    | with_reducible refine condW_both (fun _ _ => ?_) (fun _ _ => ?_)
    | with_reducible refine gW_both (fun _ _ => ?_) (fun _ _ => ?_)
    | with_reducible refine condW_split (fun _ => ?_) (fun _ => ?_)
    | with_reducible refine gW_split (fun _ => ?_) (fun _ => ?_)
    | with_reducible refine pickW_split (fun _ => ?_) (fun _ => ?_)
    | (refine newW_intro ?_; intro bx hbx; (try simp only [fresh_box, fresh_tip, fresh_ty] at hbx))
    | (refine newT_plain ?_; intro bx hbx; (try simp only [fresh_box, fresh_tip, fresh_ty] at hbx))
    | refine Pure.use (hc) ?_
    | refine Pure.head (hc) ?_
    | refine Pure.use (hi) ?_
    | refine Pure.head (hi) ?_
    | refine storeX_w ?_
    | ((with_reducible refine And.intro ?_ ?_); omega)
    | refine bo_buildSlice (d' := ⟨⟩) ?_
    | (refine draw_all (by kernel_rfl) ?_)
    | refine finish_pure ?_ (by repeat' (first | exact AS.le.refl _ | assumption | (refine le_set (by first | assumption | (simp only [*]; done) | exact AS.le.fresh (by assumption) (by simp only [*])) ?_) | (refine le_ty (by first | assumption | (simp only [*]; done) | exact AS.le.fresh (by assumption) (by simp only [*])) ?_)))
    | simp -dsimp only [↓bp, bq, br, afin, bsk, cWrites, opsWrites, pieceGh, rsk, ne_eq, if_true, if_false, exists_eq_left', forall_const, forall_eq, Nat.reduceLT, Int.reduceSub, Nat.reduceAdd, Nat.reduceSub, Nat.reduceMul, Nat.reduceLeDiff, Nat.reduceEqDiff, Nat.reduceBEq, Nat.reduceBNe, Int.reduceNeg, Int.reduceAdd, Int.reduceMul, Int.reduceLE, Int.reduceLT, Int.reduceEq, Int.reduceToNat, reduceIte, reduceCtorEq, tbQuo2, *])
          all_goals rfl
      · have g2 : (122 : Int) < c.toNat := by omega
        have q2 := decide_eq_false h2
        rw [q2]
        simp only [Bool.and_false, Bool.false_and]
        clear h1 h2 e1 e2 q2
        intro σ
        refine Tri.of_awp mixed Tryd.func48 rfl (by kernel_rfl) (by kernel_rfl) (by simp [Tryd.ntmps48]) Tryd.results48 ?_
        repeat' (first
    | with_reducible refine condW_both (fun _ _ => ?_) (fun _ _ => ?_)
    | with_reducible refine gW_both (fun _ _ => ?_) (fun _ _ => ?_)
    | with_reducible refine condW_split (fun _ => ?_) (fun _ => ?_)
    | with_reducible refine gW_split (fun _ => ?_) (fun _ => ?_)
    | with_reducible refine pickW_split (fun _ => ?_) (fun _ => ?_)
    | (refine newW_intro ?_; intro bx hbx; (try simp only [fresh_box, fresh_tip, fresh_ty] at hbx))
    | (refine newT_plain ?_; intro bx hbx; (try simp only [fresh_box, fresh_tip, fresh_ty] at hbx))
    | refine Pure.use (hc) ?_
    | refine Pure.head (hc) ?_
    | refine Pure.use (hi) ?_
    | refine Pure.head (hi) ?_
    | refine storeX_w ?_
    | ((with_reducible refine And.intro ?_ ?_); omega)
    | refine bo_buildSlice (d' := ⟨⟩) ?_
    | (refine draw_all (by kernel_rfl) ?_)
    | refine finish_pure ?_ (by repeat' (first | exact AS.le.refl _ | assumption | (refine le_set (by first | assumption | (simp only [*]; done) | exact AS.le.fresh (by assumption) (by simp only [*])) ?_) | (refine le_ty (by first | assumption | (simp only [*]; done) | exact AS.le.fresh (by assumption) (by simp only [*])) ?_)))
    | simp -dsimp only [↓bp, bq, br, afin, bsk, cWrites, opsWrites, pieceGh, rsk, ne_eq, if_true, if_false, exists_eq_left', forall_const, forall_eq, Nat.reduceLT, Int.reduceSub, Nat.reduceAdd, Nat.reduceSub, Nat.reduceMul, Nat.reduceLeDiff, Nat.reduceEqDiff, Nat.reduceBEq, Nat.reduceBNe, Int.reduceNeg, Int.reduceAdd, Int.reduceMul, Int.reduceLE, Int.reduceLT, Int.reduceEq, Int.reduceToNat, reduceIte, reduceCtorEq, tbQuo2, *])
        all_goals rfl
    · have g1 : (c.toNat : Int) < 97 := by omega
      have q1 := decide_eq_false h1
      rw [q1]
      simp only [Bool.and_false, Bool.false_and]
      clear h1 e1 e2 q1
      intro σ
      refine Tri.of_awp mixed Tryd.func48 rfl (by kernel_rfl) (by kernel_rfl) (by simp [Tryd.ntmps48]) Tryd.results48 ?_
      repeat' (first
    | with_reducible refine condW_both (fun _ _ => ?_) (fun _ _ => ?_)
    | with_reducible refine gW_both (fun _ _ => ?_) (fun _ _ => ?_)
    | with_reducible refine condW_split (fun _ => ?_) (fun _ => ?_)
    | with_reducible refine gW_split (fun _ => ?_) (fun _ => ?_)
    | with_reducible refine pickW_split (fun _ => ?_) (fun _ => ?_)
    | (refine newW_intro ?_; intro bx hbx; (try simp only [fresh_box, fresh_tip, fresh_ty] at hbx))
    | (refine newT_plain ?_; intro bx hbx; (try simp only [fresh_box, fresh_tip, fresh_ty] at hbx))
    | refine Pure.use (hc) ?_
    | refine Pure.head (hc) ?_
    | refine Pure.use (hi) ?_
    | refine Pure.head (hi) ?_
    | refine storeX_w ?_
    | ((with_reducible refine And.intro ?_ ?_); omega)
    | refine bo_buildSlice (d' := ⟨⟩) ?_
    | (refine draw_all (by kernel_rfl) ?_)
    | refine finish_pure ?_ (by repeat' (first | exact AS.le.refl _ | assumption | (refine le_set (by first | assumption | (simp only [*]; done) | exact AS.le.fresh (by assumption) (by simp only [*])) ?_) | (refine le_ty (by first | assumption | (simp only [*]; done) | exact AS.le.fresh (by assumption) (by simp only [*])) ?_)))
    | simp -dsimp only [↓bp, bq, br, afin, bsk, cWrites, opsWrites, pieceGh, rsk, ne_eq, if_true, if_false, exists_eq_left', forall_const, forall_eq, Nat.reduceLT, Int.reduceSub, Nat.reduceAdd, Nat.reduceSub, Nat.reduceMul, Nat.reduceLeDiff, Nat.reduceEqDiff, Nat.reduceBEq, Nat.reduceBNe, Int.reduceNeg, Int.reduceAdd, Int.reduceMul, Int.reduceLE, Int.reduceLT, Int.reduceEq, Int.reduceToNat, reduceIte, reduceCtorEq, tbQuo2, *])
      all_goals rfl
theorem wb {σ0 σ : AS} {b : Nat} {xs : List UInt8} (h : Bl σ0 σ b xs) (hl : xs.length ≤ 1000000000) (c : UInt8) (n : Int) (hn : n = c.toNat) :
    Tri Tryd.prog G 45 [.ptr b 0, .int .u8 n] σ fun r σ' => Bl σ0 σ' b (xs ++ [c]) := by subst hn; exact writeByte_tri G h hl c
def hexT : List UInt8 := [48, 49, 50, 51, 52, 53, 54, 55, 56, 57, 97, 98, 99, 100, 101, 102]
theorem hex_at : ∀ k, k < 16 → hexT[k]? = some (hexD k) := by decide
theorem fdiv16 (c : UInt8) : ((c.toNat : Int).fdiv (2 ^ min 4 IntKind.u8.bits)) = ((c.toNat / 16 : Nat) : Int) := by
  have : ((2 : Int) ^ min 4 IntKind.u8.bits) = ((16 : Nat) : Int) := by decide
  rw [this, Int.fdiv_eq_ediv_of_nonneg _ (by omega)]; rfl
theorem and15 (c : UInt8) : IntKind.u8.wrap ((BitVec.ofInt IntKind.u8.bits (c.toNat : Int) &&& BitVec.ofInt IntKind.u8.bits 15).toNat : Int) = ((c.toNat % 16 : Nat) : Int) := by
  have hb : IntKind.u8.bits = 8 := rfl
  have hc := c.toNat_lt
  rw [hb, BitVec.toNat_and, BitVec.toNat_ofInt, BitVec.toNat_ofInt]
  have e1 : ((c.toNat : Int) % ((2 ^ 8 : Nat) : Int)).toNat = c.toNat := by omega
  have e2 : ((15 : Int) % ((2 ^ 8 : Nat) : Int)).toNat = 15 := by decide
  rw [e1, e2, show (15 : Nat) = 2 ^ 4 - 1 by decide, Nat.and_two_pow_sub_one_eq_mod, IntKind.wrap_u8]
  omega
end Go.Proofs.YtpginpbcndlfmaaDoor
set_option linter.unusedVariables false
set_option linter.unusedSimpArgs false
set_option maxRecDepth 20000
namespace Go.Proofs.YtpginpbcndlfmaaDoor
open Go Go.Av
def tbQuo3 := And.intro (And.intro (And.intro @tf3 @tf4) (And.intro @tf5 (And.intro @tf9 @tf63))) (And.intro (And.intro @tf65 @tf62) (And.intro @tf95 (And.intro @isv_byteA @flat_byteA)))
variable {G : Nat → AV}
theorem quoC_len (c : UInt8) : (quoC c).length ≤ 4 := by
  unfold quoC; repeat' split
  all_goals simp
theorem quoCs_len (s : List UInt8) : (s.flatMap quoC).length ≤ 4 * s.length := by
  induction s with
  | nil => simp
  | cons c s ih => have := quoC_len c; simp only [List.flatMap_cons, List.length_append, List.length_cons]; omega
set_option maxHeartbeats 1000000 in
theorem quoted_pure (s : List UInt8) (hs : s.length ≤ 100000000) : Pure Tryd.prog G 49 [.str s] (.str (quoted s)) := by
  intro σ
  have hml : s.length ≤ maxLen := by unfold maxLen; omega
  refine Tri.of_awp mixed Tryd.func49 rfl (by kernel_rfl) (by kernel_rfl) (by simp [Tryd.ntmps49]) Tryd.results49 ?_
  simp -dsimp only [↓bp, bq, br, afin, bsk, cWrites, opsWrites, pieceGh, rsk, ne_eq, if_true, if_false, exists_eq_left', forall_const, forall_eq, Nat.reduceLT, Int.reduceSub, Nat.reduceAdd, Nat.reduceSub, Nat.reduceMul, Nat.reduceLeDiff, Nat.reduceEqDiff, Nat.reduceBEq, Nat.reduceBNe, Int.reduceNeg, Int.reduceAdd, Int.reduceMul, Int.reduceLE, Int.reduceLT, Int.reduceEq, Int.reduceToNat, reduceIte, reduceCtorEq, tbQuo3]
  refine newT_ty (fun b hb => ?_)
  have hB0 : Bl σ ((σ.setBox b [.nilptr, .nil]).setTy b (65, 2)) b [] := Bld.start (AS.le.refl σ) hb
  simp only [List.length_cons, List.length_nil, Nat.zero_add, Nat.reduceAdd]
  generalize (σ.setBox b [.nilptr, .nil]).setTy b (65, 2) = σ0 at *
  repeat' (first
    | with_reducible refine condW_both (fun _ _ => ?_) (fun _ _ => ?_)
    | with_reducible refine gW_both (fun _ _ => ?_) (fun _ _ => ?_)
    | with_reducible refine condW_split (fun _ => ?_) (fun _ => ?_)
    | with_reducible refine gW_split (fun _ => ?_) (fun _ => ?_)
    | with_reducible refine pickW_split (fun _ => ?_) (fun _ => ?_)
    | (refine newW_intro ?_; intro bx hbx; (try simp only [fresh_box, fresh_tip, fresh_ty] at hbx))
    | (refine newT_plain ?_; intro bx hbx; (try simp only [fresh_box, fresh_tip, fresh_ty] at hbx))
    | ((refine Tri.mono (wb hB0 (by simp) 39 39 rfl) ?_; rintro r s1 hB1))
    | refine storeX_w ?_
    | ((with_reducible refine And.intro ?_ ?_); omega)
    | refine bo_buildSlice (d' := ⟨⟩) ?_
    | (refine draw_all (by kernel_rfl) ?_)
    | refine finish_pure ?_ (by repeat' (first | exact AS.le.refl _ | assumption | (refine le_set (by first | assumption | (simp only [*]; done) | exact AS.le.fresh (by assumption) (by simp only [*])) ?_) | (refine le_ty (by first | assumption | (simp only [*]; done) | exact AS.le.fresh (by assumption) (by simp only [*])) ?_)))
    | simp -dsimp only [↓bp, bq, br, afin, bsk, cWrites, opsWrites, pieceGh, rsk, ne_eq, if_true, if_false, exists_eq_left', forall_const, forall_eq, Nat.reduceLT, Int.reduceSub, Nat.reduceAdd, Nat.reduceSub, Nat.reduceMul, Nat.reduceLeDiff, Nat.reduceEqDiff, Nat.reduceBEq, Nat.reduceBNe, Int.reduceNeg, Int.reduceAdd, Int.reduceMul, Int.reduceLE, Int.reduceLT, Int.reduceEq, Int.reduceToNat, reduceIte, reduceCtorEq, tbQuo3, hml, *])
  refine loop_intro (fun n e σ' => ∃ i : Nat, i ≤ s.length ∧ n = s.length - i ∧ e 10 = .int .i64 i ∧ Bl σ σ' b (39 :: (s.take i).flatMap quoC)) s.length ⟨0, by omega, by omega, by first | (simp -dsimp only [↓bp, bq, br, afin, bsk, cWrites, opsWrites, pieceGh, rsk, ne_eq, if_true, if_false, exists_eq_left', forall_const, forall_eq, Nat.reduceLT, Int.reduceSub, Nat.reduceAdd, Nat.reduceSub, Nat.reduceMul, Nat.reduceLeDiff, Nat.reduceEqDiff, Nat.reduceBEq, Nat.reduceBNe, Int.reduceNeg, Int.reduceAdd, Int.reduceMul, Int.reduceLE, Int.reduceLT, Int.reduceEq, Int.reduceToNat, reduceIte, reduceCtorEq, tbQuo3]; done) | (simp -dsimp only [↓bp, bq, br, afin, bsk, cWrites, opsWrites, pieceGh, rsk, ne_eq, if_true, if_false, exists_eq_left', forall_const, forall_eq, Nat.reduceLT, Int.reduceSub, Nat.reduceAdd, Nat.reduceSub, Nat.reduceMul, Nat.reduceLeDiff, Nat.reduceEqDiff, Nat.reduceBEq, Nat.reduceBNe, Int.reduceNeg, Int.reduceAdd, Int.reduceMul, Int.reduceLE, Int.reduceLT, Int.reduceEq, Int.reduceToNat, reduceIte, reduceCtorEq, tbQuo3]; rfl), by simpa using hB1⟩ ?_
  rintro n v σ' ⟨i, hi, rfl, h10, hB⟩
  simp -dsimp only [↓bp, bq, br, afin, bsk, cWrites, opsWrites, pieceGh, rsk, ne_eq, if_true, if_false, exists_eq_left', forall_const, forall_eq, Nat.reduceLT, Int.reduceSub, Nat.reduceAdd, Nat.reduceSub, Nat.reduceMul, Nat.reduceLeDiff, Nat.reduceEqDiff, Nat.reduceBEq, Nat.reduceBNe, Int.reduceNeg, Int.reduceAdd, Int.reduceMul, Int.reduceLE, Int.reduceLT, Int.reduceEq, Int.reduceToNat, reduceIte, reduceCtorEq, tbQuo3] at h10
  by_cases hlt : (i : Int) < s.length
  · obtain ⟨c, hc⟩ : ∃ c, s[i]? = some c := ⟨_, List.getElem?_eq_getElem (by omega)⟩
    have hts : (s.take (i + 1)).flatMap quoC = (s.take i).flatMap quoC ++ quoC c := by rw [take_succ_get _ _ _ hc, List.flatMap_append]; simp
    have hq := quoCs_len (s.take i)
    have hti : (s.take i).length = i := by rw [List.length_take]; omega
    have hlen : (39 :: (s.take i).flatMap quoC).length ≤ 500000000 := by simp only [List.length_cons]; omega
    have hw : IntKind.i64.wrap ((i : Int) + 1) = ((i + 1 : Nat) : Int) := by rw [wrap_nat (by omega) (by omega)]; rfl
    have hnext : ∀ s2 : AS, Bl σ s2 b (39 :: (s.take i).flatMap quoC ++ quoC c) → ∃ m, m < s.length - i ∧ ∃ i_1, i_1 ≤ s.length ∧ m = s.length - i_1 ∧ AV.int .i64 ((i + 1 : Nat) : Int) = .int .i64 i_1 ∧ Bl σ s2 b (39 :: (s.take i_1).flatMap quoC) := fun s2 h2 =>
      ⟨s.length - (i + 1), by omega, i + 1, by omega, rfl, rfl, by rw [hts]; simpa using h2⟩
    clear hts hq hti hi
    generalize 39 :: (s.take i).flatMap quoC = out at *
    by_cases k1 : c.toNat = 39 ∨ c.toNat = 92
    · have hqc : quoC c = [92] ++ [c] := by unfold quoC; rw [if_pos k1]; rfl
      rw [hqc] at hnext
      have k1' : (c.toNat : Int) = 39 ∨ (c.toNat : Int) = 92 := by omega
      clear hqc k1
      rcases k1' with k1' | k1'
      · have kk := eq_true k1'
        clear k1'
        repeat' (first
    | with_reducible refine condW_both (fun _ _ => ?_) (fun _ _ => ?_)
    | with_reducible refine gW_both (fun _ _ => ?_) (fun _ _ => ?_)
    | with_reducible refine condW_split (fun _ => ?_) (fun _ => ?_)
    | with_reducible refine gW_split (fun _ => ?_) (fun _ => ?_)
    | with_reducible refine pickW_split (fun _ => ?_) (fun _ => ?_)
    | (refine newW_intro ?_; intro bx hbx; (try simp only [fresh_box, fresh_tip, fresh_ty] at hbx))
    | (refine newT_plain ?_; intro bx hbx; (try simp only [fresh_box, fresh_tip, fresh_ty] at hbx))
    | ((refine Tri.mono (wb hB (by omega) 92 92 rfl) ?_; rintro r s1 hBB))
    | ((refine Tri.mono (wb hBB (by simp; omega) c _ rfl) ?_; rintro r s2 hB2))
    | refine storeX_w ?_
    | ((with_reducible refine And.intro ?_ ?_); omega)
    | refine bo_buildSlice (d' := ⟨⟩) ?_
    | (refine draw_all (by kernel_rfl) ?_)
    | refine finish_pure ?_ (by repeat' (first | exact AS.le.refl _ | assumption | (refine le_set (by first | assumption | (simp only [*]; done) | exact AS.le.fresh (by assumption) (by simp only [*])) ?_) | (refine le_ty (by first | assumption | (simp only [*]; done) | exact AS.le.fresh (by assumption) (by simp only [*])) ?_)))
    | simp -dsimp only [↓bp, bq, br, afin, bsk, cWrites, opsWrites, pieceGh, rsk, ne_eq, if_true, if_false, exists_eq_left', forall_const, forall_eq, Nat.reduceLT, Int.reduceSub, Nat.reduceAdd, Nat.reduceSub, Nat.reduceMul, Nat.reduceLeDiff, Nat.reduceEqDiff, Nat.reduceBEq, Nat.reduceBNe, Int.reduceNeg, Int.reduceAdd, Int.reduceMul, Int.reduceLE, Int.reduceLT, Int.reduceEq, Int.reduceToNat, reduceIte, reduceCtorEq, tbQuo3, hw, *])
        all_goals exact hnext _ (by simpa using hB2)
      · have kk := eq_true k1'
        have kk2 := eq_false (show ¬ (c.toNat : Int) = 39 by omega)
        clear k1'
        repeat' (first
    | with_reducible refine condW_both (fun _ _ => ?_) (fun _ _ => ?_)
    | with_reducible refine gW_both (fun _ _ => ?_) (fun _ _ => ?_)
    | with_reducible refine condW_split (fun _ => ?_) (fun _ => ?_)
    | with_reducible refine gW_split (fun _ => ?_) (fun _ => ?_)
    | with_reducible refine pickW_split (fun _ => ?_) (fun _ => ?_)
    | (refine newW_intro ?_; intro bx hbx; (try simp only [fresh_box, fresh_tip, fresh_ty] at hbx))
    | (refine newT_plain ?_; intro bx hbx; (try simp only [fresh_box, fresh_tip, fresh_ty] at hbx))
    | ((refine Tri.mono (wb hB (by omega) 92 92 rfl) ?_; rintro r s1 hBB))
    | ((refine Tri.mono (wb hBB (by simp; omega) c _ rfl) ?_; rintro r s2 hB2))
    | refine storeX_w ?_
    | ((with_reducible refine And.intro ?_ ?_); omega)
    | refine bo_buildSlice (d' := ⟨⟩) ?_
    | (refine draw_all (by kernel_rfl) ?_)
    | refine finish_pure ?_ (by repeat' (first | exact AS.le.refl _ | assumption | (refine le_set (by first | assumption | (simp only [*]; done) | exact AS.le.fresh (by assumption) (by simp only [*])) ?_) | (refine le_ty (by first | assumption | (simp only [*]; done) | exact AS.le.fresh (by assumption) (by simp only [*])) ?_)))
    | simp -dsimp only [↓bp, bq, br, afin, bsk, cWrites, opsWrites, pieceGh, rsk, ne_eq, if_true, if_false, exists_eq_left', forall_const, forall_eq, Nat.reduceLT, Int.reduceSub, Nat.reduceAdd, Nat.reduceSub, Nat.reduceMul, Nat.reduceLeDiff, Nat.reduceEqDiff, Nat.reduceBEq, Nat.reduceBNe, Int.reduceNeg, Int.reduceAdd, Int.reduceMul, Int.reduceLE, Int.reduceLT, Int.reduceEq, Int.reduceToNat, reduceIte, reduceCtorEq, tbQuo3, hw, *])
        all_goals exact hnext _ (by simpa using hB2)
    · have j1 := eq_false (show ¬ (c.toNat : Int) = 39 by omega)
      have j2 := eq_false (show ¬ (c.toNat : Int) = 92 by omega)
      by_cases k2 : c.toNat = 10
      · have hqc : quoC c = [92, 110] := by unfold quoC; rw [if_neg k1, if_pos k2]
        rw [hqc] at hnext
        have j3 := eq_true (show (c.toNat : Int) = 10 by omega)
        clear hqc k1 k2
        repeat' (first
    | with_reducible refine condW_both (fun _ _ => ?_) (fun _ _ => ?_)
    | with_reducible refine gW_both (fun _ _ => ?_) (fun _ _ => ?_)
    | with_reducible refine condW_split (fun _ => ?_) (fun _ => ?_)
    | with_reducible refine gW_split (fun _ => ?_) (fun _ => ?_)
    | with_reducible refine pickW_split (fun _ => ?_) (fun _ => ?_)
    | (refine newW_intro ?_; intro bx hbx; (try simp only [fresh_box, fresh_tip, fresh_ty] at hbx))
    | (refine newT_plain ?_; intro bx hbx; (try simp only [fresh_box, fresh_tip, fresh_ty] at hbx))
    | ((refine Tri.mono (writeString_tri _ hB [92, 110] (by simp; omega)) ?_; rintro r s2 hB2))
    | refine storeX_w ?_
    | ((with_reducible refine And.intro ?_ ?_); omega)
    | refine bo_buildSlice (d' := ⟨⟩) ?_
    | (refine draw_all (by kernel_rfl) ?_)
    | refine finish_pure ?_ (by repeat' (first | exact AS.le.refl _ | assumption | (refine le_set (by first | assumption | (simp only [*]; done) | exact AS.le.fresh (by assumption) (by simp only [*])) ?_) | (refine le_ty (by first | assumption | (simp only [*]; done) | exact AS.le.fresh (by assumption) (by simp only [*])) ?_)))
    | simp -dsimp only [↓bp, bq, br, afin, bsk, cWrites, opsWrites, pieceGh, rsk, ne_eq, if_true, if_false, exists_eq_left', forall_const, forall_eq, Nat.reduceLT, Int.reduceSub, Nat.reduceAdd, Nat.reduceSub, Nat.reduceMul, Nat.reduceLeDiff, Nat.reduceEqDiff, Nat.reduceBEq, Nat.reduceBNe, Int.reduceNeg, Int.reduceAdd, Int.reduceMul, Int.reduceLE, Int.reduceLT, Int.reduceEq, Int.reduceToNat, reduceIte, reduceCtorEq, tbQuo3, hw, *])
        all_goals exact hnext _ (by simpa using hB2)
      · have j3 := eq_false (show ¬ (c.toNat : Int) = 10 by omega)
        by_cases k3 : c.toNat < 32 ∨ 126 < c.toNat
        · have hqc : quoC c = [92, 120] ++ [hexD (c.toNat / 16)] ++ [hexD (c.toNat % 16)] := by unfold quoC; rw [if_neg k1, if_neg k2, if_pos k3]; rfl
          rw [hqc] at hnext
          have hcl := c.toNat_lt
          have hx1 := hex_at (c.toNat / 16) (by omega)
          have hx2 := hex_at (c.toNat % 16) (by omega)
          unfold hexT at hx1 hx2
          have f1 := fdiv16 c
          have f2 := and15 c
          have hn1 : (0 : Int) ≤ ((c.toNat / 16 : Nat) : Int) := Int.natCast_nonneg _
          have hn2 : (0 : Int) ≤ ((c.toNat % 16 : Nat) : Int) := Int.natCast_nonneg _
          generalize c.toNat / 16 = d1 at *
          generalize c.toNat % 16 = d2 at *
          have k3' : (c.toNat : Int) < 32 ∨ ¬ (c.toNat : Int) < 32 ∧ 126 < (c.toNat : Int) := by omega
          clear hqc k1 k2 k3 hcl
          rcases k3' with k3 | ⟨k3, k4⟩
          · have k3 := eq_true k3
            repeat' (first
    | with_reducible refine condW_both (fun _ _ => ?_) (fun _ _ => ?_)
    | with_reducible refine gW_both (fun _ _ => ?_) (fun _ _ => ?_)
    | with_reducible refine condW_split (fun _ => ?_) (fun _ => ?_)
    | with_reducible refine gW_split (fun _ => ?_) (fun _ => ?_)
    | with_reducible refine pickW_split (fun _ => ?_) (fun _ => ?_)
    | (refine newW_intro ?_; intro bx hbx; (try simp only [fresh_box, fresh_tip, fresh_ty] at hbx))
    | (refine newT_plain ?_; intro bx hbx; (try simp only [fresh_box, fresh_tip, fresh_ty] at hbx))
    | ((refine Tri.mono (writeString_tri _ hB [92, 120] (by simp; omega)) ?_; rintro r s2 hB2))
    | ((refine Tri.mono (wb hB2 (by simp; omega) (hexD d1) _ rfl) ?_; rintro r s3 hB3))
    | ((refine Tri.mono (wb hB3 (by simp; omega) (hexD d2) _ rfl) ?_; rintro r s4 hB4))
    | refine storeX_w ?_
    | ((with_reducible refine And.intro ?_ ?_); omega)
    | refine bo_buildSlice (d' := ⟨⟩) ?_
    | (refine draw_all (by kernel_rfl) ?_)
    | refine finish_pure ?_ (by repeat' (first | exact AS.le.refl _ | assumption | (refine le_set (by first | assumption | (simp only [*]; done) | exact AS.le.fresh (by assumption) (by simp only [*])) ?_) | (refine le_ty (by first | assumption | (simp only [*]; done) | exact AS.le.fresh (by assumption) (by simp only [*])) ?_)))
    | simp -dsimp only [↓bp, bq, br, afin, bsk, cWrites, opsWrites, pieceGh, rsk, ne_eq, if_true, if_false, exists_eq_left', forall_const, forall_eq, Nat.reduceLT, Int.reduceSub, Nat.reduceAdd, Nat.reduceSub, Nat.reduceMul, Nat.reduceLeDiff, Nat.reduceEqDiff, Nat.reduceBEq, Nat.reduceBNe, Int.reduceNeg, Int.reduceAdd, Int.reduceMul, Int.reduceLE, Int.reduceLT, Int.reduceEq, Int.reduceToNat, reduceIte, reduceCtorEq, tbQuo3, hw, *])
            all_goals exact hnext _ (by simpa using hB4)
          · have k3 := eq_false k3
            repeat' (first
    | with_reducible refine condW_both (fun _ _ => ?_) (fun _ _ => ?_)
    | with_reducible refine gW_both (fun _ _ => ?_) (fun _ _ => ?_)
    | with_reducible refine condW_split (fun _ => ?_) (fun _ => ?_)
    | with_reducible refine gW_split (fun _ => ?_) (fun _ => ?_)
    | with_reducible refine pickW_split (fun _ => ?_) (fun _ => ?_)
    | (refine newW_intro ?_; intro bx hbx; (try simp only [fresh_box, fresh_tip, fresh_ty] at hbx))
    | (refine newT_plain ?_; intro bx hbx; (try simp only [fresh_box, fresh_tip, fresh_ty] at hbx))
    | ((refine Tri.mono (writeString_tri _ hB [92, 120] (by simp; omega)) ?_; rintro r s2 hB2))
    | ((refine Tri.mono (wb hB2 (by simp; omega) (hexD d1) _ rfl) ?_; rintro r s3 hB3))
    | ((refine Tri.mono (wb hB3 (by simp; omega) (hexD d2) _ rfl) ?_; rintro r s4 hB4))
    | refine storeX_w ?_
    | ((with_reducible refine And.intro ?_ ?_); omega)
    | refine bo_buildSlice (d' := ⟨⟩) ?_
    | (refine draw_all (by kernel_rfl) ?_)
    | refine finish_pure ?_ (by repeat' (first | exact AS.le.refl _ | assumption | (refine le_set (by first | assumption | (simp only [*]; done) | exact AS.le.fresh (by assumption) (by simp only [*])) ?_) | (refine le_ty (by first | assumption | (simp only [*]; done) | exact AS.le.fresh (by assumption) (by simp only [*])) ?_)))
    | simp -dsimp only [↓bp, bq, br, afin, bsk, cWrites, opsWrites, pieceGh, rsk, ne_eq, if_true, if_false, exists_eq_left', forall_const, forall_eq, Nat.reduceLT, Int.reduceSub, Nat.reduceAdd, Nat.reduceSub, Nat.reduceMul, Nat.reduceLeDiff, Nat.reduceEqDiff, Nat.reduceBEq, Nat.reduceBNe, Int.reduceNeg, Int.reduceAdd, Int.reduceMul, Int.reduceLE, Int.reduceLT, Int.reduceEq, Int.reduceToNat, reduceIte, reduceCtorEq, tbQuo3, hw, *])
            all_goals exact hnext _ (by simpa using hB4)
        · have hqc : quoC c = [c] := by unfold quoC; rw [if_neg k1, if_neg k2, if_neg k3]
          rw [hqc] at hnext
          have j4 := eq_false (show ¬ (c.toNat : Int) < 32 by omega)
          have j5 := eq_false (show ¬ (126 : Int) < c.toNat by omega)
          clear hqc k1 k2 k3
          repeat' (first
    | with_reducible refine condW_both (fun _ _ => ?_) (fun _ _ => ?_)
    | with_reducible refine gW_both (fun _ _ => ?_) (fun _ _ => ?_)
    | with_reducible refine condW_split (fun _ => ?_) (fun _ => ?_)
    | with_reducible refine gW_split (fun _ => ?_) (fun _ => ?_)
    | with_reducible refine pickW_split (fun _ => ?_) (fun _ => ?_)
    | (refine newW_intro ?_; intro bx hbx; (try simp only [fresh_box, fresh_tip, fresh_ty] at hbx))
    | (refine newT_plain ?_; intro bx hbx; (try simp only [fresh_box, fresh_tip, fresh_ty] at hbx))
    | ((refine Tri.mono (wb hB (by omega) c _ rfl) ?_; rintro r s2 hB2))
    | refine storeX_w ?_
    | ((with_reducible refine And.intro ?_ ?_); omega)
    | refine bo_buildSlice (d' := ⟨⟩) ?_
    | (refine draw_all (by kernel_rfl) ?_)
    | refine finish_pure ?_ (by repeat' (first | exact AS.le.refl _ | assumption | (refine le_set (by first | assumption | (simp only [*]; done) | exact AS.le.fresh (by assumption) (by simp only [*])) ?_) | (refine le_ty (by first | assumption | (simp only [*]; done) | exact AS.le.fresh (by assumption) (by simp only [*])) ?_)))
    | simp -dsimp only [↓bp, bq, br, afin, bsk, cWrites, opsWrites, pieceGh, rsk, ne_eq, if_true, if_false, exists_eq_left', forall_const, forall_eq, Nat.reduceLT, Int.reduceSub, Nat.reduceAdd, Nat.reduceSub, Nat.reduceMul, Nat.reduceLeDiff, Nat.reduceEqDiff, Nat.reduceBEq, Nat.reduceBNe, Int.reduceNeg, Int.reduceAdd, Int.reduceMul, Int.reduceLE, Int.reduceLT, Int.reduceEq, Int.reduceToNat, reduceIte, reduceCtorEq, tbQuo3, hw, *])
          all_goals exact hnext _ (by simpa using hB2)
  · have : i = s.length := by omega
    subst this
    rw [List.take_length] at hB
    have hq := quoCs_len s
    clear hi
    repeat' (first
    | with_reducible refine condW_both (fun _ _ => ?_) (fun _ _ => ?_)
    | with_reducible refine gW_both (fun _ _ => ?_) (fun _ _ => ?_)
    | with_reducible refine condW_split (fun _ => ?_) (fun _ => ?_)
    | with_reducible refine gW_split (fun _ => ?_) (fun _ => ?_)
    | with_reducible refine pickW_split (fun _ => ?_) (fun _ => ?_)
    | (refine newW_intro ?_; intro bx hbx; (try simp only [fresh_box, fresh_tip, fresh_ty] at hbx))
    | (refine newT_plain ?_; intro bx hbx; (try simp only [fresh_box, fresh_tip, fresh_ty] at hbx))
    | ((refine Tri.mono (wb hB (by simp only [List.length_cons]; omega) 39 39 rfl) ?_; rintro r s1 hBB))
    | ((refine Tri.mono (string_tri _ hBB (by simp only [List.length_append, List.length_cons, List.length_nil]; omega)) ?_; rintro r s2 ⟨rfl, rfl⟩))
    | refine storeX_w ?_
    | ((with_reducible refine And.intro ?_ ?_); omega)
    | refine bo_buildSlice (d' := ⟨⟩) ?_
    | (refine draw_all (by kernel_rfl) ?_)
    | refine finish_pure ?_ (by repeat' (first | exact AS.le.refl _ | assumption | (refine le_set (by first | assumption | (simp only [*]; done) | exact AS.le.fresh (by assumption) (by simp only [*])) ?_) | (refine le_ty (by first | assumption | (simp only [*]; done) | exact AS.le.fresh (by assumption) (by simp only [*])) ?_)))
    | simp -dsimp only [↓bp, bq, br, afin, bsk, cWrites, opsWrites, pieceGh, rsk, ne_eq, if_true, if_false, exists_eq_left', forall_const, forall_eq, Nat.reduceLT, Int.reduceSub, Nat.reduceAdd, Nat.reduceSub, Nat.reduceMul, Nat.reduceLeDiff, Nat.reduceEqDiff, Nat.reduceBEq, Nat.reduceBNe, Int.reduceNeg, Int.reduceAdd, Int.reduceMul, Int.reduceLE, Int.reduceLT, Int.reduceEq, Int.reduceToNat, reduceIte, reduceCtorEq, tbQuo3, *])
    all_goals simp [quoted]
end Go.Proofs.YtpginpbcndlfmaaDoor
