/- Atoms: plain ones, quoted ones. -/
import Derived.Test.YtjnhalmeddafdaaDoorZQuo
set_option linter.unusedVariables false
set_option linter.unusedSimpArgs false
set_option maxRecDepth 20000
namespace Go.Proofs.YtjnhalmeddafdaaDoor
open Go Go.Av
variable {G : Nat → AV}
/-- what the program's variables hold -/
structure Glob (G : Nat → AV) : Prop where
  words : G 0 = .rp (Proofs.YtjnhalmeddafdaaDoor.words.map AV.str)
theorem texts_eq : AV.sl .none (words.map AV.str) [] = texts words := rfl
theorem words_len : (words.map AV.str).length = 19 := rfl
theorem plainA_pure (hg : Glob G) (s : List UInt8) (hs : s.length ≤ 1000000000) : Pure Tryd.prog G 47 [.str s] (.bool (plainA s)) := by
  have hi := inner_pure G s hs
  have hc := contains_pure G words s (by decide)
  have hw := hg.words
  have h19 : rsk (some (19, 1)) (words.map AV.str) = some (texts words) := by
    show (if 19 = (words.map AV.str).length ∧ 19 ≤ maxLen then some (AV.sl .none (words.map AV.str) []) else none) = _
    exact if_pos ⟨words_len.symm, by unfold maxLen; decide⟩
  have ha : arrT Tryd.prog 83 = some (19, 1) := tf83.2.2.2.2.2.2
  have has : aslice Tryd.prog 83 (.rp (words.map AV.str)) none none = some (texts words) := by rw [aslice_rp, ha, h19]
  cases s with
  | nil =>
    intro σ
    clear hi hc
    refine Tri.of_awp mixed Tryd.func47 rfl (by kernel_rfl) (by kernel_rfl) (by simp [Tryd.ntmps47]) Tryd.results47 ?_
    repeat' (first
    | with_reducible refine condW_both (fun _ _ => ?_) (fun _ _ => ?_)
    | with_reducible refine gW_both (fun _ _ => ?_) (fun _ _ => ?_)
    | with_reducible refine condW_split (fun _ => ?_) (fun _ => ?_)
    | with_reducible refine gW_split (fun _ => ?_) (fun _ => ?_)
    | with_reducible refine pickW_split (fun _ => ?_) (fun _ => ?_)
    | (refine newW_intro ?_; intro bx hbx; (try simp only [fresh_box, fresh_tip, fresh_ty] at hbx))
    | (refine newT_plain ?_; intro bx hbx; (try simp only [fresh_box, fresh_tip, fresh_ty] at hbx))
    | refine storeX_w ?_
    | ((with_reducible refine And.intro ?_ ?_); omega)
    | refine bo_buildSlice (d' := ⟨⟩) ?_
    | (refine draw_all (by kernel_rfl) ?_)
    | refine finish_pure ?_ (by repeat' (first | exact AS.le.refl _ | assumption | (refine le_set (by first | assumption | (simp only [*]; done) | exact AS.le.fresh (by assumption) (by simp only [*])) ?_) | (refine le_ty (by first | assumption | (simp only [*]; done) | exact AS.le.fresh (by assumption) (by simp only [*])) ?_)))
    | simp -dsimp only [↓bp, bq, br, afin, bsk, cWrites, opsWrites, pieceGh, rsk, ne_eq, if_true, if_false, exists_eq_left', forall_const, forall_eq, Nat.reduceLT, Int.reduceSub, Nat.reduceAdd, Nat.reduceSub, Nat.reduceMul, Nat.reduceLeDiff, Nat.reduceEqDiff, Nat.reduceBEq, Nat.reduceBNe, Int.reduceNeg, Int.reduceAdd, Int.reduceMul, Int.reduceLE, Int.reduceLT, Int.reduceEq, Int.reduceToNat, reduceIte, reduceCtorEq, tf3, tf4, tf5, tf9, tf51, tf82, tf83, tf53, tf50, tf84, isv_byteA, flat_byteA, *])
    all_goals rfl
  | cons c l =>
    have hp : plainA (c :: l) = (decide (97 ≤ c.toNat) && decide (c.toNat ≤ 122) && !words.contains (c :: l) && (c :: l).all innerC) := rfl
    have hx : (c :: l)[0]? = some c := rfl
    have hne : ¬ (c :: l) = [] := by simp
    rw [hp]
    generalize (c :: l) = s at *
    clear hp
    generalize words.contains s = wc at *
    generalize s.all innerC = si at *
    have e1 : ((97 : Int) ≤ c.toNat) ↔ 97 ≤ c.toNat := by omega
    have e2 : ((c.toNat : Int) ≤ 122) ↔ c.toNat ≤ 122 := by omega
    by_cases h1 : 97 ≤ c.toNat
    · have g1 : ¬ (c.toNat : Int) < 97 := by omega
      by_cases h2 : c.toNat ≤ 122
      · have g2 : ¬ (122 : Int) < c.toNat := by omega
        have q1 := decide_eq_true h1
        have q2 := decide_eq_true h2
        rw [q1, q2]
        clear h1 h2 e1 e2 q1 q2
        intro σ
        cases wc
        · refine Tri.of_awp mixed Tryd.func47 rfl (by kernel_rfl) (by kernel_rfl) (by simp [Tryd.ntmps47]) Tryd.results47 ?_
          repeat' (first
    | with_reducible refine condW_both (fun _ _ => ?_) (fun _ _ => ?_)
    | with_reducible refine gW_both (fun _ _ => ?_) (fun _ _ => ?_)
    | with_reducible refine condW_split (fun _ => ?_) (fun _ => ?_)
    | with_reducible refine gW_split (fun _ => ?_) (fun _ => ?_)
    | with_reducible refine pickW_split (fun _ => ?_) (fun _ => ?_)
    | (refine newW_intro ?_; intro bx hbx; (try simp only [fresh_box, fresh_tip, fresh_ty] at hbx))
    | (refine newT_plain ?_; intro bx hbx; (try simp only [fresh_box, fresh_tip, fresh_ty] at hbx))
    | refine Pure.use (hc) ?_
    | refine Pure.head (hc) ?_
    | refine Pure.use (hi) ?_
    | refine Pure.head (hi) ?_
    | refine storeX_w ?_
    | ((with_reducible refine And.intro ?_ ?_); omega)
    | refine bo_buildSlice (d' := ⟨⟩) ?_
    | (refine draw_all (by kernel_rfl) ?_)
    | refine finish_pure ?_ (by repeat' (first | exact AS.le.refl _ | assumption | (refine le_set (by first | assumption | (simp only [*]; done) | exact AS.le.fresh (by assumption) (by simp only [*])) ?_) | (refine le_ty (by first | assumption | (simp only [*]; done) | exact AS.le.fresh (by assumption) (by simp only [*])) ?_)))
    | simp -dsimp only [↓bp, bq, br, afin, bsk, cWrites, opsWrites, pieceGh, rsk, ne_eq, if_true, if_false, exists_eq_left', forall_const, forall_eq, Nat.reduceLT, Int.reduceSub, Nat.reduceAdd, Nat.reduceSub, Nat.reduceMul, Nat.reduceLeDiff, Nat.reduceEqDiff, Nat.reduceBEq, Nat.reduceBNe, Int.reduceNeg, Int.reduceAdd, Int.reduceMul, Int.reduceLE, Int.reduceLT, Int.reduceEq, Int.reduceToNat, reduceIte, reduceCtorEq, tf3, tf4, tf5, tf9, tf51, tf82, tf83, tf53, tf50, tf84, isv_byteA, flat_byteA, *])
          all_goals rfl
        · refine Tri.of_awp mixed Tryd.func47 rfl (by kernel_rfl) (by kernel_rfl) (by simp [Tryd.ntmps47]) Tryd.results47 ?_
          repeat' (first
    | with_reducible refine condW_both (fun _ _ => ?_) (fun _ _ => ?_)
    | with_reducible refine gW_both (fun _ _ => ?_) (fun _ _ => ?_)
    | with_reducible refine condW_split (fun _ => ?_) (fun _ => ?_)
    | with_reducible refine gW_split (fun _ => ?_) (fun _ => ?_)
    | with_reducible refine pickW_split (fun _ => ?_) (fun _ => ?_)
    | (refine newW_intro ?_; intro bx hbx; (try simp only [fresh_box, fresh_tip, fresh_ty] at hbx))
    | (refine newT_plain ?_; intro bx hbx; (try simp only [fresh_box, fresh_tip, fresh_ty] at hbx))
    | refine Pure.use (hc) ?_
    | refine Pure.head (hc) ?_
    | refine Pure.use (hi) ?_
    | refine Pure.head (hi) ?_
    | refine storeX_w ?_
    | ((with_reducible refine And.intro ?_ ?_); omega)
    | refine bo_buildSlice (d' := ⟨⟩) ?_
    | (refine draw_all (by kernel_rfl) ?_)
    | refine finish_pure ?_ (by repeat' (first | exact AS.le.refl _ | assumption | (refine le_set (by first | assumption | (simp only [*]; done) | exact AS.le.fresh (by assumption) (by simp only [*])) ?_) | (refine le_ty (by first | assumption | (simp only [*]; done) | exact AS.le.fresh (by assumption) (by simp only [*])) ?_)))
    | simp -dsimp only [↓bp, bq, br, afin, bsk, cWrites, opsWrites, pieceGh, rsk, ne_eq, if_true, if_false, exists_eq_left', forall_const, forall_eq, Nat.reduceLT, Int.reduceSub, Nat.reduceAdd, Nat.reduceSub, Nat.reduceMul, Nat.reduceLeDiff, Nat.reduceEqDiff, Nat.reduceBEq, Nat.reduceBNe, Int.reduceNeg, Int.reduceAdd, Int.reduceMul, Int.reduceLE, Int.reduceLT, Int.reduceEq, Int.reduceToNat, reduceIte, reduceCtorEq, tf3, tf4, tf5, tf9, tf51, tf82, tf83, tf53, tf50, tf84, isv_byteA, flat_byteA, *])
          all_goals rfl
      · have g2 : (122 : Int) < c.toNat := by omega
        have q2 := decide_eq_false h2
        rw [q2]
        simp only [Bool.and_false, Bool.false_and]
        clear h1 h2 e1 e2 q2
        intro σ
        refine Tri.of_awp mixed Tryd.func47 rfl (by kernel_rfl) (by kernel_rfl) (by simp [Tryd.ntmps47]) Tryd.results47 ?_
        repeat' (first
    | with_reducible refine condW_both (fun _ _ => ?_) (fun _ _ => ?_)
    | with_reducible refine gW_both (fun _ _ => ?_) (fun _ _ => ?_)
    | with_reducible refine condW_split (fun _ => ?_) (fun _ => ?_)
    | with_reducible refine gW_split (fun _ => ?_) (fun _ => ?_)
    | with_reducible refine pickW_split (fun _ => ?_) (fun _ => ?_)
    | (refine newW_intro ?_; intro bx hbx; (try simp only [fresh_box, fresh_tip, fresh_ty] at hbx))
    | (refine newT_plain ?_; intro bx hbx; (try simp only [fresh_box, fresh_tip, fresh_ty] at hbx))
    | refine Pure.use (hc) ?_
    | refine Pure.head (hc) ?_
    | refine Pure.use (hi) ?_
    | refine Pure.head (hi) ?_
    | refine storeX_w ?_
    | ((with_reducible refine And.intro ?_ ?_); omega)
    | refine bo_buildSlice (d' := ⟨⟩) ?_
    | (refine draw_all (by kernel_rfl) ?_)
    | refine finish_pure ?_ (by repeat' (first | exact AS.le.refl _ | assumption | (refine le_set (by first | assumption | (simp only [*]; done) | exact AS.le.fresh (by assumption) (by simp only [*])) ?_) | (refine le_ty (by first | assumption | (simp only [*]; done) | exact AS.le.fresh (by assumption) (by simp only [*])) ?_)))
    | simp -dsimp only [↓bp, bq, br, afin, bsk, cWrites, opsWrites, pieceGh, rsk, ne_eq, if_true, if_false, exists_eq_left', forall_const, forall_eq, Nat.reduceLT, Int.reduceSub, Nat.reduceAdd, Nat.reduceSub, Nat.reduceMul, Nat.reduceLeDiff, Nat.reduceEqDiff, Nat.reduceBEq, Nat.reduceBNe, Int.reduceNeg, Int.reduceAdd, Int.reduceMul, Int.reduceLE, Int.reduceLT, Int.reduceEq, Int.reduceToNat, reduceIte, reduceCtorEq, tf3, tf4, tf5, tf9, tf51, tf82, tf83, tf53, tf50, tf84, isv_byteA, flat_byteA, *])
        all_goals rfl
    · have g1 : (c.toNat : Int) < 97 := by omega
      have q1 := decide_eq_false h1
      rw [q1]
      simp only [Bool.and_false, Bool.false_and]
      clear h1 e1 e2 q1
      intro σ
      refine Tri.of_awp mixed Tryd.func47 rfl (by kernel_rfl) (by kernel_rfl) (by simp [Tryd.ntmps47]) Tryd.results47 ?_
      repeat' (first
    | with_reducible refine condW_both (fun _ _ => ?_) (fun _ _ => ?_)
    | with_reducible refine gW_both (fun _ _ => ?_) (fun _ _ => ?_)
    | with_reducible refine condW_split (fun _ => ?_) (fun _ => ?_)
    | with_reducible refine gW_split (fun _ => ?_) (fun _ => ?_)
    | with_reducible refine pickW_split (fun _ => ?_) (fun _ => ?_)
    | (refine newW_intro ?_; intro bx hbx; (try simp only [fresh_box, fresh_tip, fresh_ty] at hbx))
    | (refine newT_plain ?_; intro bx hbx; (try simp only [fresh_box, fresh_tip, fresh_ty] at hbx))
    | refine Pure.use (hc) ?_
    | refine Pure.head (hc) ?_
    | refine Pure.use (hi) ?_
    | refine Pure.head (hi) ?_
    | refine storeX_w ?_
    | ((with_reducible refine And.intro ?_ ?_); omega)
    | refine bo_buildSlice (d' := ⟨⟩) ?_
    | (refine draw_all (by kernel_rfl) ?_)
    | refine finish_pure ?_ (by repeat' (first | exact AS.le.refl _ | assumption | (refine le_set (by first | assumption | (simp only [*]; done) | exact AS.le.fresh (by assumption) (by simp only [*])) ?_) | (refine le_ty (by first | assumption | (simp only [*]; done) | exact AS.le.fresh (by assumption) (by simp only [*])) ?_)))
    | simp -dsimp only [↓bp, bq, br, afin, bsk, cWrites, opsWrites, pieceGh, rsk, ne_eq, if_true, if_false, exists_eq_left', forall_const, forall_eq, Nat.reduceLT, Int.reduceSub, Nat.reduceAdd, Nat.reduceSub, Nat.reduceMul, Nat.reduceLeDiff, Nat.reduceEqDiff, Nat.reduceBEq, Nat.reduceBNe, Int.reduceNeg, Int.reduceAdd, Int.reduceMul, Int.reduceLE, Int.reduceLT, Int.reduceEq, Int.reduceToNat, reduceIte, reduceCtorEq, tf3, tf4, tf5, tf9, tf51, tf82, tf83, tf53, tf50, tf84, isv_byteA, flat_byteA, *])
      all_goals rfl
theorem wb {σ0 σ : AS} {b : Nat} {xs : List UInt8} (h : Bl σ0 σ b xs) (hl : xs.length ≤ 1000000000) (c : UInt8) (n : Int) (hn : n = c.toNat) :
    Tri Tryd.prog G 44 [.ptr b 0, .int .u8 n] σ fun r σ' => Bl σ0 σ' b (xs ++ [c]) := by subst hn; exact writeByte_tri G h hl c
def hexT : List UInt8 := [48, 49, 50, 51, 52, 53, 54, 55, 56, 57, 97, 98, 99, 100, 101, 102]
theorem hex_at : ∀ k, k < 16 → hexT[k]? = some (hexD k) := by decide
theorem fdiv16 (c : UInt8) : ((c.toNat : Int).fdiv (2 ^ min 4 IntKind.u8.bits)) = ((c.toNat / 16 : Nat) : Int) := by
  have : ((2 : Int) ^ min 4 IntKind.u8.bits) = ((16 : Nat) : Int) := by decide
  rw [this, Int.fdiv_eq_ediv_of_nonneg _ (by omega)]; rfl
theorem and15 (c : UInt8) : IntKind.u8.wrap ((BitVec.ofInt IntKind.u8.bits (c.toNat : Int) &&& BitVec.ofInt IntKind.u8.bits 15).toNat : Int) = ((c.toNat % 16 : Nat) : Int) := by
  have hb : IntKind.u8.bits = 8 := rfl
  have hc := c.toNat_lt
  rw [hb, BitVec.toNat_and, BitVec.toNat_ofInt, BitVec.toNat_ofInt]
  have e1 : ((c.toNat : Int) % ((2 ^ 8 : Nat) : Int)).toNat = c.toNat := by omega
  have e2 : ((15 : Int) % ((2 ^ 8 : Nat) : Int)).toNat = 15 := by decide
  rw [e1, e2, show (15 : Nat) = 2 ^ 4 - 1 by decide, Nat.and_two_pow_sub_one_eq_mod, IntKind.wrap_u8]
  omega
end Go.Proofs.YtjnhalmeddafdaaDoor
