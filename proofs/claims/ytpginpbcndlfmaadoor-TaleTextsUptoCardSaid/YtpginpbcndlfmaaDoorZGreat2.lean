/- How great a term is, up to a bound; whether some are too great. -/
import Derived.Test.YtpginpbcndlfmaaDoorZTermKit
set_option linter.unusedVariables false
set_option linter.unusedSimpArgs false
set_option maxRecDepth 20000
set_option linter.defProp false
namespace Go.Proofs.YtpginpbcndlfmaaDoor
open Go Go.Av
def tbGreat2 := And.intro (And.intro (And.intro (And.intro @tf3 @tf4) (And.intro @tf5 (And.intro @tf61 @tf9))) (And.intro (And.intro @tf38 (And.intro @tf37 @tf22)) (And.intro @tf40 (And.intro @Term.flat_enc @Term.isv_enc)))) (And.intro (And.intro (And.intro @Term.fold_enc (And.intro @isv_encs @flat_encs)) (And.intro @len_encs (And.intro @ix_encs @ix_encs'))) (And.intro (And.intro @isv_lims (And.intro @flat_lims @len_lims)) (And.intro @ix_lims (And.intro @ix_lims' @flat_limA))))
mutual
def termsOf : Term → Int → Int
  | .mk _ _ l s _ ks ts, m => termsLoop ts (termsLoop ks (1 + l.length + (s.length / 8 : Nat)) m) m
def termsLoop : List Term → Int → Int → Int
  | [], n, _ => n
  | k :: ks, n, m => if n ≤ m then termsLoop ks (n + termsOf k (m - n)) m else n
end
theorem termsOf_eq (t : Term) (m : Int) : termsOf t m = termsLoop t.tail (termsLoop t.items (1 + t.limbs.length + (t.text.length / 8 : Nat)) m) m := by cases t; rw [termsOf]; rfl
theorem termsLoop_le (l : List Term) (ih : ∀ k, k ∈ l → ∀ m, 0 < termsOf k m ∧ termsOf k m ≤ k.bulk) : ∀ n m, n ≤ termsLoop l n m ∧ termsLoop l n m ≤ n + bulks l := by
  induction l with
  | nil => intro n m; simp [termsLoop, bulks]
  | cons x l ih2 =>
    intro n m
    have h1 := ih x (by simp) (m - n)
    have h2 := ih2 (fun k hk => ih k (by simp [hk])) (n + termsOf x (m - n)) m
    simp only [termsLoop, bulks]
    split <;> omega
theorem termsOf_le (t : Term) : ∀ m, 0 < termsOf t m ∧ termsOf t m ≤ t.bulk := by
  refine Term.ind (P := fun t => ∀ m, 0 < termsOf t m ∧ termsOf t m ≤ t.bulk) (fun t ih1 ih2 m => ?_) t
  have h1 := termsLoop_le t.items ih1 (1 + t.limbs.length + (t.text.length / 8 : Nat)) m
  have h2 := termsLoop_le t.tail ih2 (termsLoop t.items (1 + t.limbs.length + (t.text.length / 8 : Nat)) m) m
  rw [termsOf_eq, Term.bulk_eq]
  omega
theorem bulks_take (l : List Term) (i : Nat) : bulks (l.take i) ≤ bulks l := by
  have := bulks_append (l.take i) (l.drop i)
  rw [List.take_append_drop] at this
  omega
variable (G : Nat → AV)
theorem termsOf_pure (t : Term) : ∀ m : Int, 0 ≤ m → m ≤ 1000000 → t.bulk ≤ 1000000000 → Pure Tryd.prog G 16 [t.enc, .int .i64 m] (.int .i64 (termsOf t m)) := by
  refine Term.ind (P := fun t => ∀ m : Int, 0 ≤ m → m ≤ 1000000 → t.bulk ≤ 1000000000 → Pure Tryd.prog G 16 [t.enc, .int .i64 m] (.int .i64 (termsOf t m))) (fun t ih1 ih2 m hm0 hm1 hbulk => ?_) t
  intro σ
  have hbe := t.bulk_eq
  have hl1 := len_le_bulks t.items
  have hl2 := len_le_bulks t.tail
  have hde := termsOf_eq t m
  obtain ⟨n0, hn0⟩ : ∃ n0 : Int, n0 = 1 + t.limbs.length + (t.text.length / 8 : Nat) := ⟨_, rfl⟩
  rw [← hn0] at hde
  have hq : IntKind.i64.wrap (IntKind.i64.wrap (1 + (t.limbs.length : Int)) + IntKind.i64.wrap ((t.text.length : Int).tdiv 8)) = n0 := by
    have : ((t.text.length : Int).tdiv 8) = ((t.text.length / 8 : Nat) : Int) := by
      rw [Int.tdiv_eq_ediv_of_nonneg (by omega)]; omega
    have hi : IntKind.i64.wrap ((t.text.length / 8 : Nat) : Int) = (t.text.length / 8 : Nat) := wrap_nat (by omega) (by omega)
    rw [this, hi, wrap_nat (x := 1 + (t.limbs.length : Int)) (by omega) (by omega), wrap_nat (by omega) (by omega), hn0]
  have hn1 : n0 ≤ 1 + t.limbs.length + t.text.length := by omega
  have hn2 : 0 < n0 := by omega
  clear hn0
  have e1 := termsLoop_le t.items (fun k _ => termsOf_le k) n0 m
  refine Tri.of_awp mixed Tryd.func16 rfl (by kernel_rfl) (by kernel_rfl) (by simp [Tryd.ntmps16]) Tryd.results16 ?_
  simp -dsimp only [↓bp, bq, br, afin, bsk, cWrites, opsWrites, pieceGh, rsk, ne_eq, if_true, if_false, exists_eq_left', forall_const, forall_eq, Nat.reduceLT, Int.reduceSub, Nat.reduceAdd, Nat.reduceSub, Nat.reduceMul, Nat.reduceLeDiff, Nat.reduceEqDiff, Nat.reduceBEq, Nat.reduceBNe, Int.reduceNeg, Int.reduceAdd, Int.reduceMul, Int.reduceLE, Int.reduceLT, Int.reduceEq, Int.reduceToNat, reduceIte, reduceCtorEq, tbGreat2]
  intro b hb
  simp -dsimp only [↓bp, bq, br, afin, bsk, cWrites, opsWrites, pieceGh, rsk, ne_eq, if_true, if_false, exists_eq_left', forall_const, forall_eq, Nat.reduceLT, Int.reduceSub, Nat.reduceAdd, Nat.reduceSub, Nat.reduceMul, Nat.reduceLeDiff, Nat.reduceEqDiff, Nat.reduceBEq, Nat.reduceBNe, Int.reduceNeg, Int.reduceAdd, Int.reduceMul, Int.reduceLE, Int.reduceLT, Int.reduceEq, Int.reduceToNat, reduceIte, reduceCtorEq, tbGreat2, hq]
  refine loop_intro (fun n e σ' => ∃ (i : Nat) (z : Int), i ≤ t.items.length ∧ n = t.items.length - i ∧ e 6 = .int .i64 i ∧ e 5 = .int .i64 z ∧ 0 < z ∧ z ≤ n0 + bulks (t.items.take i) ∧ termsLoop (t.items.drop i) z m = termsLoop t.items n0 m ∧
      σ' = σ.setBox b [.int .u8 t.knd, .bool t.neg, lims t.limbs, .str t.text, .int .i64 t.num, encs t.items, encs t.tail]) t.items.length
    ⟨0, n0, by omega, by omega, by simp -dsimp only [↓bp, bq, br, afin, bsk, cWrites, opsWrites, pieceGh, rsk, ne_eq, if_true, if_false, exists_eq_left', forall_const, forall_eq, Nat.reduceLT, Int.reduceSub, Nat.reduceAdd, Nat.reduceSub, Nat.reduceMul, Nat.reduceLeDiff, Nat.reduceEqDiff, Nat.reduceBEq, Nat.reduceBNe, Int.reduceNeg, Int.reduceAdd, Int.reduceMul, Int.reduceLE, Int.reduceLT, Int.reduceEq, Int.reduceToNat, reduceIte, reduceCtorEq, tbGreat2]; rfl, by simp -dsimp only [↓bp, bq, br, afin, bsk, cWrites, opsWrites, pieceGh, rsk, ne_eq, if_true, if_false, exists_eq_left', forall_const, forall_eq, Nat.reduceLT, Int.reduceSub, Nat.reduceAdd, Nat.reduceSub, Nat.reduceMul, Nat.reduceLeDiff, Nat.reduceEqDiff, Nat.reduceBEq, Nat.reduceBNe, Int.reduceNeg, Int.reduceAdd, Int.reduceMul, Int.reduceLE, Int.reduceLT, Int.reduceEq, Int.reduceToNat, reduceIte, reduceCtorEq, tbGreat2, hq], by omega, by simp [bulks], by rw [List.drop_zero], rfl⟩ ?_
  rintro n v σ' ⟨i, z, hi, rfl, h6, h5, hz0, hz1, hz, rfl⟩
  have hbt := bulks_take t.items i
  simp -dsimp only [↓bp, bq, br, afin, bsk, cWrites, opsWrites, pieceGh, rsk, ne_eq, if_true, if_false, exists_eq_left', forall_const, forall_eq, Nat.reduceLT, Int.reduceSub, Nat.reduceAdd, Nat.reduceSub, Nat.reduceMul, Nat.reduceLeDiff, Nat.reduceEqDiff, Nat.reduceBEq, Nat.reduceBNe, Int.reduceNeg, Int.reduceAdd, Int.reduceMul, Int.reduceLE, Int.reduceLT, Int.reduceEq, Int.reduceToNat, reduceIte, reduceCtorEq, tbGreat2] at h6 h5
  simp -dsimp only [↓bp, bq, br, afin, bsk, cWrites, opsWrites, pieceGh, rsk, ne_eq, if_true, if_false, exists_eq_left', forall_const, forall_eq, Nat.reduceLT, Int.reduceSub, Nat.reduceAdd, Nat.reduceSub, Nat.reduceMul, Nat.reduceLeDiff, Nat.reduceEqDiff, Nat.reduceBEq, Nat.reduceBNe, Int.reduceNeg, Int.reduceAdd, Int.reduceMul, Int.reduceLE, Int.reduceLT, Int.reduceEq, Int.reduceToNat, reduceIte, reduceCtorEq, tbGreat2, h6, h5]
  refine gW_dec (fun hlt => ?_) (fun hge => ?_)
  · obtain ⟨k, hk⟩ : ∃ k, t.items[i]? = some k := ⟨_, List.getElem?_eq_getElem (by omega)⟩
    have hkm : k ∈ t.items := List.mem_of_getElem? hk
    have hkb := bulk_mem hkm
    have hko := termsOf_le k (m - z)
    have hdr := drop_get _ _ _ hk
    simp -dsimp only [↓bp, bq, br, afin, bsk, cWrites, opsWrites, pieceGh, rsk, ne_eq, if_true, if_false, exists_eq_left', forall_const, forall_eq, Nat.reduceLT, Int.reduceSub, Nat.reduceAdd, Nat.reduceSub, Nat.reduceMul, Nat.reduceLeDiff, Nat.reduceEqDiff, Nat.reduceBEq, Nat.reduceBNe, Int.reduceNeg, Int.reduceAdd, Int.reduceMul, Int.reduceLE, Int.reduceLT, Int.reduceEq, Int.reduceToNat, reduceIte, reduceCtorEq, tbGreat2, h6, h5, hk, hlt]
    refine condW_dec (fun hle => ?_) (fun hnle => ?_)
    · have hw : IntKind.i64.wrap (m - z) = m - z := wrap_nat (by omega) (by omega)
      simp -dsimp only [↓bp, bq, br, afin, bsk, cWrites, opsWrites, pieceGh, rsk, ne_eq, if_true, if_false, exists_eq_left', forall_const, forall_eq, Nat.reduceLT, Int.reduceSub, Nat.reduceAdd, Nat.reduceSub, Nat.reduceMul, Nat.reduceLeDiff, Nat.reduceEqDiff, Nat.reduceBEq, Nat.reduceBNe, Int.reduceNeg, Int.reduceAdd, Int.reduceMul, Int.reduceLE, Int.reduceLT, Int.reduceEq, Int.reduceToNat, reduceIte, reduceCtorEq, tbGreat2, h6, h5, hk, hlt, hle, hw]
      refine Pure.use (ih1 k hkm (m - z) (by omega) (by omega) (by omega)) ?_
      simp -dsimp only [↓bp, bq, br, afin, bsk, cWrites, opsWrites, pieceGh, rsk, ne_eq, if_true, if_false, exists_eq_left', forall_const, forall_eq, Nat.reduceLT, Int.reduceSub, Nat.reduceAdd, Nat.reduceSub, Nat.reduceMul, Nat.reduceLeDiff, Nat.reduceEqDiff, Nat.reduceBEq, Nat.reduceBNe, Int.reduceNeg, Int.reduceAdd, Int.reduceMul, Int.reduceLE, Int.reduceLT, Int.reduceEq, Int.reduceToNat, reduceIte, reduceCtorEq, tbGreat2, h6, h5, hk, hlt, hle, hw]
      refine ⟨t.items.length - (i + 1), by omega, i + 1, z + termsOf k (m - z), by omega, rfl, ?_, ?_, by omega, ?_, ?_⟩
      · rw [wrap_nat (by omega) (by omega)]; rfl
      · rw [wrap_nat (by omega) (by omega)]
      · rw [take_succ_get _ _ _ hk, bulks_append]
        simp only [bulks]
        omega
      · rw [← hz, hdr, termsLoop, if_pos hle]
    · have hz' : termsLoop t.items n0 m = z := by rw [← hz, hdr, termsLoop, if_neg hnle]
      simp -dsimp only [↓bp, bq, br, afin, bsk, cWrites, opsWrites, pieceGh, rsk, ne_eq, if_true, if_false, exists_eq_left', forall_const, forall_eq, Nat.reduceLT, Int.reduceSub, Nat.reduceAdd, Nat.reduceSub, Nat.reduceMul, Nat.reduceLeDiff, Nat.reduceEqDiff, Nat.reduceBEq, Nat.reduceBNe, Int.reduceNeg, Int.reduceAdd, Int.reduceMul, Int.reduceLE, Int.reduceLT, Int.reduceEq, Int.reduceToNat, reduceIte, reduceCtorEq, tbGreat2, h6, h5, hk, hlt, hnle]
      have hz3 : z ≤ n0 + bulks t.items := by omega
      have hz4 := termsLoop_le t.tail (fun k _ => termsOf_le k) z m
      rw [hz'] at hde
      refine loop_intro (fun n e σ' => ∃ (i : Nat) (y : Int), i ≤ t.tail.length ∧ n = t.tail.length - i ∧ e 7 = .int .i64 i ∧ e 5 = .int .i64 y ∧ 0 < y ∧ y ≤ z + bulks (t.tail.take i) ∧ termsLoop (t.tail.drop i) y m = termsLoop t.tail z m ∧
          σ' = σ.setBox b [.int .u8 t.knd, .bool t.neg, lims t.limbs, .str t.text, .int .i64 t.num, encs t.items, encs t.tail]) t.tail.length
        ⟨0, z, by omega, by omega, by simp -dsimp only [↓bp, bq, br, afin, bsk, cWrites, opsWrites, pieceGh, rsk, ne_eq, if_true, if_false, exists_eq_left', forall_const, forall_eq, Nat.reduceLT, Int.reduceSub, Nat.reduceAdd, Nat.reduceSub, Nat.reduceMul, Nat.reduceLeDiff, Nat.reduceEqDiff, Nat.reduceBEq, Nat.reduceBNe, Int.reduceNeg, Int.reduceAdd, Int.reduceMul, Int.reduceLE, Int.reduceLT, Int.reduceEq, Int.reduceToNat, reduceIte, reduceCtorEq, tbGreat2]; rfl, by simp -dsimp only [↓bp, bq, br, afin, bsk, cWrites, opsWrites, pieceGh, rsk, ne_eq, if_true, if_false, exists_eq_left', forall_const, forall_eq, Nat.reduceLT, Int.reduceSub, Nat.reduceAdd, Nat.reduceSub, Nat.reduceMul, Nat.reduceLeDiff, Nat.reduceEqDiff, Nat.reduceBEq, Nat.reduceBNe, Int.reduceNeg, Int.reduceAdd, Int.reduceMul, Int.reduceLE, Int.reduceLT, Int.reduceEq, Int.reduceToNat, reduceIte, reduceCtorEq, tbGreat2, h5], by omega, by simp [bulks], by rw [List.drop_zero], rfl⟩ ?_
      rintro n2 v2 σ' ⟨j, y, hj, rfl, h7, h5', hy0, hy1, hy, rfl⟩
      have hbt2 := bulks_take t.tail j
      simp -dsimp only [↓bp, bq, br, afin, bsk, cWrites, opsWrites, pieceGh, rsk, ne_eq, if_true, if_false, exists_eq_left', forall_const, forall_eq, Nat.reduceLT, Int.reduceSub, Nat.reduceAdd, Nat.reduceSub, Nat.reduceMul, Nat.reduceLeDiff, Nat.reduceEqDiff, Nat.reduceBEq, Nat.reduceBNe, Int.reduceNeg, Int.reduceAdd, Int.reduceMul, Int.reduceLE, Int.reduceLT, Int.reduceEq, Int.reduceToNat, reduceIte, reduceCtorEq, tbGreat2] at h7 h5'
      simp -dsimp only [↓bp, bq, br, afin, bsk, cWrites, opsWrites, pieceGh, rsk, ne_eq, if_true, if_false, exists_eq_left', forall_const, forall_eq, Nat.reduceLT, Int.reduceSub, Nat.reduceAdd, Nat.reduceSub, Nat.reduceMul, Nat.reduceLeDiff, Nat.reduceEqDiff, Nat.reduceBEq, Nat.reduceBNe, Int.reduceNeg, Int.reduceAdd, Int.reduceMul, Int.reduceLE, Int.reduceLT, Int.reduceEq, Int.reduceToNat, reduceIte, reduceCtorEq, tbGreat2, h7, h5']
      refine gW_dec (fun hlt2 => ?_) (fun hge2 => ?_)
      · obtain ⟨k, hk⟩ : ∃ k, t.tail[j]? = some k := ⟨_, List.getElem?_eq_getElem (by omega)⟩
        have hkm : k ∈ t.tail := List.mem_of_getElem? hk
        have hkb := bulk_mem hkm
        have hko := termsOf_le k (m - y)
        have hdr := drop_get _ _ _ hk
        simp -dsimp only [↓bp, bq, br, afin, bsk, cWrites, opsWrites, pieceGh, rsk, ne_eq, if_true, if_false, exists_eq_left', forall_const, forall_eq, Nat.reduceLT, Int.reduceSub, Nat.reduceAdd, Nat.reduceSub, Nat.reduceMul, Nat.reduceLeDiff, Nat.reduceEqDiff, Nat.reduceBEq, Nat.reduceBNe, Int.reduceNeg, Int.reduceAdd, Int.reduceMul, Int.reduceLE, Int.reduceLT, Int.reduceEq, Int.reduceToNat, reduceIte, reduceCtorEq, tbGreat2, h7, h5', hk, hlt2]
        refine condW_dec (fun hle => ?_) (fun hnle => ?_)
        · have hw : IntKind.i64.wrap (m - y) = m - y := wrap_nat (by omega) (by omega)
          simp -dsimp only [↓bp, bq, br, afin, bsk, cWrites, opsWrites, pieceGh, rsk, ne_eq, if_true, if_false, exists_eq_left', forall_const, forall_eq, Nat.reduceLT, Int.reduceSub, Nat.reduceAdd, Nat.reduceSub, Nat.reduceMul, Nat.reduceLeDiff, Nat.reduceEqDiff, Nat.reduceBEq, Nat.reduceBNe, Int.reduceNeg, Int.reduceAdd, Int.reduceMul, Int.reduceLE, Int.reduceLT, Int.reduceEq, Int.reduceToNat, reduceIte, reduceCtorEq, tbGreat2, h7, h5', hk, hlt2, hle, hw]
          refine Pure.use (ih2 k hkm (m - y) (by omega) (by omega) (by omega)) ?_
          simp -dsimp only [↓bp, bq, br, afin, bsk, cWrites, opsWrites, pieceGh, rsk, ne_eq, if_true, if_false, exists_eq_left', forall_const, forall_eq, Nat.reduceLT, Int.reduceSub, Nat.reduceAdd, Nat.reduceSub, Nat.reduceMul, Nat.reduceLeDiff, Nat.reduceEqDiff, Nat.reduceBEq, Nat.reduceBNe, Int.reduceNeg, Int.reduceAdd, Int.reduceMul, Int.reduceLE, Int.reduceLT, Int.reduceEq, Int.reduceToNat, reduceIte, reduceCtorEq, tbGreat2, h7, h5', hk, hlt2, hle, hw]
          refine ⟨t.tail.length - (j + 1), by omega, j + 1, y + termsOf k (m - y), by omega, rfl, ?_, ?_, by omega, ?_, ?_⟩
          · rw [wrap_nat (by omega) (by omega)]; rfl
          · rw [wrap_nat (by omega) (by omega)]
          · rw [take_succ_get _ _ _ hk, bulks_append]
            simp only [bulks]
            omega
          · rw [← hy, hdr, termsLoop, if_pos hle]
        · simp -dsimp only [↓bp, bq, br, afin, bsk, cWrites, opsWrites, pieceGh, rsk, ne_eq, if_true, if_false, exists_eq_left', forall_const, forall_eq, Nat.reduceLT, Int.reduceSub, Nat.reduceAdd, Nat.reduceSub, Nat.reduceMul, Nat.reduceLeDiff, Nat.reduceEqDiff, Nat.reduceBEq, Nat.reduceBNe, Int.reduceNeg, Int.reduceAdd, Int.reduceMul, Int.reduceLE, Int.reduceLT, Int.reduceEq, Int.reduceToNat, reduceIte, reduceCtorEq, tbGreat2, h7, h5', hk, hlt2, hnle]
          refine finish_pure ?_ (le_set hb (AS.le.refl σ))
          rw [hde, ← hy, hdr, termsLoop, if_neg hnle]
      · have : j = t.tail.length := by omega
        subst this
        simp -dsimp only [↓bp, bq, br, afin, bsk, cWrites, opsWrites, pieceGh, rsk, ne_eq, if_true, if_false, exists_eq_left', forall_const, forall_eq, Nat.reduceLT, Int.reduceSub, Nat.reduceAdd, Nat.reduceSub, Nat.reduceMul, Nat.reduceLeDiff, Nat.reduceEqDiff, Nat.reduceBEq, Nat.reduceBNe, Int.reduceNeg, Int.reduceAdd, Int.reduceMul, Int.reduceLE, Int.reduceLT, Int.reduceEq, Int.reduceToNat, reduceIte, reduceCtorEq, tbGreat2, h7, h5', hge2]
        refine finish_pure ?_ (le_set hb (AS.le.refl σ))
        rw [hde, ← hy, List.drop_length, termsLoop]
  · have : i = t.items.length := by omega
    subst this
    have hz' : termsLoop t.items n0 m = z := by rw [← hz, List.drop_length, termsLoop]
    simp -dsimp only [↓bp, bq, br, afin, bsk, cWrites, opsWrites, pieceGh, rsk, ne_eq, if_true, if_false, exists_eq_left', forall_const, forall_eq, Nat.reduceLT, Int.reduceSub, Nat.reduceAdd, Nat.reduceSub, Nat.reduceMul, Nat.reduceLeDiff, Nat.reduceEqDiff, Nat.reduceBEq, Nat.reduceBNe, Int.reduceNeg, Int.reduceAdd, Int.reduceMul, Int.reduceLE, Int.reduceLT, Int.reduceEq, Int.reduceToNat, reduceIte, reduceCtorEq, tbGreat2, h6, h5, hge]
    have hz3 : z ≤ n0 + bulks t.items := by omega
    have hz4 := termsLoop_le t.tail (fun k _ => termsOf_le k) z m
    rw [hz'] at hde
    refine loop_intro (fun n e σ' => ∃ (i : Nat) (y : Int), i ≤ t.tail.length ∧ n = t.tail.length - i ∧ e 7 = .int .i64 i ∧ e 5 = .int .i64 y ∧ 0 < y ∧ y ≤ z + bulks (t.tail.take i) ∧ termsLoop (t.tail.drop i) y m = termsLoop t.tail z m ∧
        σ' = σ.setBox b [.int .u8 t.knd, .bool t.neg, lims t.limbs, .str t.text, .int .i64 t.num, encs t.items, encs t.tail]) t.tail.length
      ⟨0, z, by omega, by omega, by simp -dsimp only [↓bp, bq, br, afin, bsk, cWrites, opsWrites, pieceGh, rsk, ne_eq, if_true, if_false, exists_eq_left', forall_const, forall_eq, Nat.reduceLT, Int.reduceSub, Nat.reduceAdd, Nat.reduceSub, Nat.reduceMul, Nat.reduceLeDiff, Nat.reduceEqDiff, Nat.reduceBEq, Nat.reduceBNe, Int.reduceNeg, Int.reduceAdd, Int.reduceMul, Int.reduceLE, Int.reduceLT, Int.reduceEq, Int.reduceToNat, reduceIte, reduceCtorEq, tbGreat2]; rfl, by simp -dsimp only [↓bp, bq, br, afin, bsk, cWrites, opsWrites, pieceGh, rsk, ne_eq, if_true, if_false, exists_eq_left', forall_const, forall_eq, Nat.reduceLT, Int.reduceSub, Nat.reduceAdd, Nat.reduceSub, Nat.reduceMul, Nat.reduceLeDiff, Nat.reduceEqDiff, Nat.reduceBEq, Nat.reduceBNe, Int.reduceNeg, Int.reduceAdd, Int.reduceMul, Int.reduceLE, Int.reduceLT, Int.reduceEq, Int.reduceToNat, reduceIte, reduceCtorEq, tbGreat2, h5], by omega, by simp [bulks], by rw [List.drop_zero], rfl⟩ ?_
    rintro n2 v2 σ' ⟨j, y, hj, rfl, h7, h5', hy0, hy1, hy, rfl⟩
    have hbt2 := bulks_take t.tail j
    simp -dsimp only [↓bp, bq, br, afin, bsk, cWrites, opsWrites, pieceGh, rsk, ne_eq, if_true, if_false, exists_eq_left', forall_const, forall_eq, Nat.reduceLT, Int.reduceSub, Nat.reduceAdd, Nat.reduceSub, Nat.reduceMul, Nat.reduceLeDiff, Nat.reduceEqDiff, Nat.reduceBEq, Nat.reduceBNe, Int.reduceNeg, Int.reduceAdd, Int.reduceMul, Int.reduceLE, Int.reduceLT, Int.reduceEq, Int.reduceToNat, reduceIte, reduceCtorEq, tbGreat2] at h7 h5'
    simp -dsimp only [↓bp, bq, br, afin, bsk, cWrites, opsWrites, pieceGh, rsk, ne_eq, if_true, if_false, exists_eq_left', forall_const, forall_eq, Nat.reduceLT, Int.reduceSub, Nat.reduceAdd, Nat.reduceSub, Nat.reduceMul, Nat.reduceLeDiff, Nat.reduceEqDiff, Nat.reduceBEq, Nat.reduceBNe, Int.reduceNeg, Int.reduceAdd, Int.reduceMul, Int.reduceLE, Int.reduceLT, Int.reduceEq, Int.reduceToNat, reduceIte, reduceCtorEq, tbGreat2, h7, h5']
    refine gW_dec (fun hlt2 => ?_) (fun hge2 => ?_)
    · obtain ⟨k, hk⟩ : ∃ k, t.tail[j]? = some k := ⟨_, List.getElem?_eq_getElem (by omega)⟩
      have hkm : k ∈ t.tail := List.mem_of_getElem? hk
      have hkb := bulk_mem hkm
      have hko := termsOf_le k (m - y)
      have hdr := drop_get _ _ _ hk
      simp -dsimp only [↓bp, bq, br, afin, bsk, cWrites, opsWrites, pieceGh, rsk, ne_eq, if_true, if_false, exists_eq_left', forall_const, forall_eq, Nat.reduceLT, Int.reduceSub, Nat.reduceAdd, Nat.reduceSub, Nat.reduceMul, Nat.reduceLeDiff, Nat.reduceEqDiff, Nat.reduceBEq, Nat.reduceBNe, Int.reduceNeg, Int.reduceAdd, Int.reduceMul, Int.reduceLE, Int.reduceLT, Int.reduceEq, Int.reduceToNat, reduceIte, reduceCtorEq, tbGreat2, h7, h5', hk, hlt2]
      refine condW_dec (fun hle => ?_) (fun hnle => ?_)
      · have hw : IntKind.i64.wrap (m - y) = m - y := wrap_nat (by omega) (by omega)
        simp -dsimp only [↓bp, bq, br, afin, bsk, cWrites, opsWrites, pieceGh, rsk, ne_eq, if_true, if_false, exists_eq_left', forall_const, forall_eq, Nat.reduceLT, Int.reduceSub, Nat.reduceAdd, Nat.reduceSub, Nat.reduceMul, Nat.reduceLeDiff, Nat.reduceEqDiff, Nat.reduceBEq, Nat.reduceBNe, Int.reduceNeg, Int.reduceAdd, Int.reduceMul, Int.reduceLE, Int.reduceLT, Int.reduceEq, Int.reduceToNat, reduceIte, reduceCtorEq, tbGreat2, h7, h5', hk, hlt2, hle, hw]
        refine Pure.use (ih2 k hkm (m - y) (by omega) (by omega) (by omega)) ?_
        simp -dsimp only [↓bp, bq, br, afin, bsk, cWrites, opsWrites, pieceGh, rsk, ne_eq, if_true, if_false, exists_eq_left', forall_const, forall_eq, Nat.reduceLT, Int.reduceSub, Nat.reduceAdd, Nat.reduceSub, Nat.reduceMul, Nat.reduceLeDiff, Nat.reduceEqDiff, Nat.reduceBEq, Nat.reduceBNe, Int.reduceNeg, Int.reduceAdd, Int.reduceMul, Int.reduceLE, Int.reduceLT, Int.reduceEq, Int.reduceToNat, reduceIte, reduceCtorEq, tbGreat2, h7, h5', hk, hlt2, hle, hw]
        refine ⟨t.tail.length - (j + 1), by omega, j + 1, y + termsOf k (m - y), by omega, rfl, ?_, ?_, by omega, ?_, ?_⟩
        · rw [wrap_nat (by omega) (by omega)]; rfl
        · rw [wrap_nat (by omega) (by omega)]
        · rw [take_succ_get _ _ _ hk, bulks_append]
          simp only [bulks]
          omega
        · rw [← hy, hdr, termsLoop, if_pos hle]
      · simp -dsimp only [↓bp, bq, br, afin, bsk, cWrites, opsWrites, pieceGh, rsk, ne_eq, if_true, if_false, exists_eq_left', forall_const, forall_eq, Nat.reduceLT, Int.reduceSub, Nat.reduceAdd, Nat.reduceSub, Nat.reduceMul, Nat.reduceLeDiff, Nat.reduceEqDiff, Nat.reduceBEq, Nat.reduceBNe, Int.reduceNeg, Int.reduceAdd, Int.reduceMul, Int.reduceLE, Int.reduceLT, Int.reduceEq, Int.reduceToNat, reduceIte, reduceCtorEq, tbGreat2, h7, h5', hk, hlt2, hnle]
        refine finish_pure ?_ (le_set hb (AS.le.refl σ))
        rw [hde, ← hy, hdr, termsLoop, if_neg hnle]
    · have : j = t.tail.length := by omega
      subst this
      simp -dsimp only [↓bp, bq, br, afin, bsk, cWrites, opsWrites, pieceGh, rsk, ne_eq, if_true, if_false, exists_eq_left', forall_const, forall_eq, Nat.reduceLT, Int.reduceSub, Nat.reduceAdd, Nat.reduceSub, Nat.reduceMul, Nat.reduceLeDiff, Nat.reduceEqDiff, Nat.reduceBEq, Nat.reduceBNe, Int.reduceNeg, Int.reduceAdd, Int.reduceMul, Int.reduceLE, Int.reduceLT, Int.reduceEq, Int.reduceToNat, reduceIte, reduceCtorEq, tbGreat2, h7, h5', hge2]
      refine finish_pure ?_ (le_set hb (AS.le.refl σ))
      rw [hde, ← hy, List.drop_length, termsLoop]
def greats : List Term → Int → Int
  | [], n => n
  | t :: l, n => if n ≤ 6000 then greats l (n + termsOf t 6000) else n
/-- is one of some greater than is gone through? -/
def great (l : List Term) : Bool := decide (6000 < greats l 0)
end Go.Proofs.YtpginpbcndlfmaaDoor
