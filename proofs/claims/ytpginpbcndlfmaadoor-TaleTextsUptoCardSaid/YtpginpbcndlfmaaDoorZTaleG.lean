/- Is more seen than is gone through? Is all of it such as has one text? -/
import Derived.Test.YtpginpbcndlfmaaDoorZTaleA
import Derived.Test.YtpginpbcndlfmaaDoorZGreat2
import Derived.Test.YtpginpbcndlfmaaDoorZSeenT
import Derived.Test.YtpginpbcndlfmaaDoorZTermApi
set_option linter.unusedVariables false
set_option linter.unusedSimpArgs false
set_option maxRecDepth 20000
set_option linter.defProp false
namespace Go.Proofs.YtpginpbcndlfmaaDoor
open Go Go.Av
def tbTaleG := And.intro (And.intro (And.intro (And.intro (And.intro @tf3 @tf4) (And.intro @tf5 (And.intro @tf61 @tf9))) (And.intro (And.intro @tf31 @tf38) (And.intro @tf37 (And.intro @tf22 @tf40)))) (And.intro (And.intro (And.intro @tf23 @tf44) (And.intro @tf24 (And.intro @tf46 @tf26))) (And.intro (And.intro @Term.flat_enc (And.intro @Term.isv_enc @Term.fold_enc)) (And.intro @isv_encs (And.intro @flat_encs @len_encs))))) (And.intro (And.intro (And.intro (And.intro @ix_encs @ix_encs') (And.intro @isv_lims (And.intro @flat_lims @len_lims))) (And.intro (And.intro @Ended.flat_enc (And.intro @Ended.isv_enc @Ended.fold_enc)) (And.intro @Named.flat_enc (And.intro @Named.isv_enc @Named.fold_enc)))) (And.intro (And.intro (And.intro @Seen.flat_enc @Seen.isv_enc) (And.intro @Seen.fold_enc (And.intro @isv_encE @flat_encE))) (And.intro (And.intro @len_encE (And.intro @ix_encE @isv_encN)) (And.intro @flat_encN (And.intro @len_encN @ix_encN)))))
variable (G : Nat → AV)
def greatsE : List Ended → Int → Int
  | [], n => n
  | t :: l, n => if n ≤ 6000 then greatsE l (n + termsOf t.reason 6000) else n
def greatsN : List Named → Int → Int
  | [], n => n
  | t :: l, n => if n ≤ 6000 then greatsN l (n + (t.name.length : Int).tdiv 8) else n
def greatS (s : Seen) : Bool := decide (6000 < greatsN s.names (greatsE s.ended (greats s.out ((s.out.length : Int) + s.ended.length + s.names.length))))
set_option maxHeartbeats 4000000 in
theorem greatS_pure (s : Seen) (hb : s.bulk ≤ 2000000) : Pure Tryd.prog G 6 [s.enc] (.bool (greatS s)) := by
  have n1 : s.out.length ≤ 2000000 := by have := len_le_bulks s.out; unfold Seen.bulk at hb; omega
  have n2 : s.ended.length ≤ 2000000 := by have := lenE_le s.ended; unfold Seen.bulk at hb; omega
  have n3 : s.names.length ≤ 2000000 := by have := lenN_le s.names; unfold Seen.bulk at hb; omega
  have hto : ∀ x, x ∈ s.out → Pure Tryd.prog G 16 [x.enc, .int .i64 6000] (.int .i64 (termsOf x 6000)) ∧ 0 ≤ termsOf x 6000 ∧ termsOf x 6000 ≤ 2000000 := fun x hx => by
    have := bulk_mem hx
    have h2 := termsOf_le x 6000
    unfold Seen.bulk at hb
    exact ⟨termsOf_pure G x 6000 (by omega) (by omega) (by omega), by omega, by omega⟩
  have hte : ∀ x, x ∈ s.ended → Pure Tryd.prog G 16 [x.reason.enc, .int .i64 6000] (.int .i64 (termsOf x.reason 6000)) ∧ 0 ≤ termsOf x.reason 6000 ∧ termsOf x.reason 6000 ≤ 2000000 := fun x hx => by
    have := bulkE_mem hx
    have h2 := termsOf_le x.reason 6000
    unfold Seen.bulk at hb
    exact ⟨termsOf_pure G x.reason 6000 (by omega) (by omega) (by omega), by omega, by omega⟩
  have htn : ∀ x, x ∈ s.names → IntKind.i64.wrap ((x.name.length : Int).tdiv 8) = (x.name.length : Int).tdiv 8 ∧ 0 ≤ (x.name.length : Int).tdiv 8 ∧ (x.name.length : Int).tdiv 8 ≤ 2000000 := fun x hx => by
    have := bulkN_mem hx
    have e : (x.name.length : Int).tdiv 8 = (x.name.length : Int) / 8 := Int.tdiv_eq_ediv_of_nonneg (by omega)
    unfold Seen.bulk at hb
    rw [e]
    exact ⟨wrap_nat (by omega) (by omega), by omega, by omega⟩
  have w1 : IntKind.i64.wrap ((s.out.length : Int) + s.ended.length) = s.out.length + s.ended.length := wrap_nat (by omega) (by omega)
  obtain ⟨r, hr⟩ : ∃ r, r = greatS s := ⟨_, rfl⟩
  rw [← hr]
  unfold greatS at hr
  obtain ⟨n0, hn0⟩ : ∃ n0, n0 = (s.out.length : Int) + s.ended.length + s.names.length := ⟨_, rfl⟩
  have w2 : IntKind.i64.wrap ((s.out.length : Int) + s.ended.length + s.names.length) = n0 := by rw [hn0]; exact wrap_nat (by omega) (by omega)
  rw [← hn0] at hr
  have hn1 : 0 ≤ n0 ∧ n0 ≤ 8100000 := by omega
  clear hb hn0
  intro σ
  refine Tri.of_awp mixed Tryd.func6 rfl (by kernel_rfl) (by kernel_rfl) (by simp [Tryd.ntmps6]) Tryd.results6 ?_
  simp -dsimp only [↓bp, bq, br, afin, bsk, cWrites, opsWrites, pieceGh, rsk, ne_eq, if_true, if_false, exists_eq_left', forall_const, forall_eq, Nat.reduceLT, Int.reduceSub, Nat.reduceAdd, Nat.reduceSub, Nat.reduceMul, Nat.reduceLeDiff, Nat.reduceEqDiff, Nat.reduceBEq, Nat.reduceBNe, Int.reduceNeg, Int.reduceAdd, Int.reduceMul, Int.reduceLE, Int.reduceLT, Int.reduceEq, Int.reduceToNat, reduceIte, reduceCtorEq, tbTaleG]
  refine newW_intro fun b hb => ?_
  have hle0 := le_set (cs := [encs s.out, encE s.ended, encN s.names, .int .i64 s.verdict, .int .i64 s.spent, .int .i64 s.clock]) hb (AS.le.refl σ)
  simp -dsimp only [↓bp, bq, br, afin, bsk, cWrites, opsWrites, pieceGh, rsk, ne_eq, if_true, if_false, exists_eq_left', forall_const, forall_eq, Nat.reduceLT, Int.reduceSub, Nat.reduceAdd, Nat.reduceSub, Nat.reduceMul, Nat.reduceLeDiff, Nat.reduceEqDiff, Nat.reduceBEq, Nat.reduceBNe, Int.reduceNeg, Int.reduceAdd, Int.reduceMul, Int.reduceLE, Int.reduceLT, Int.reduceEq, Int.reduceToNat, reduceIte, reduceCtorEq, tbTaleG, w1, w2]
  refine loop_keep mixed (fun n e => ∃ (i : Nat) (z : Int), i ≤ s.out.length ∧ n = s.out.length - i ∧ e 4 = .int .i64 i ∧ e 3 = .int .i64 z ∧ 0 ≤ z ∧ z ≤ 8100000 ∧ greats (s.out.drop i) z = greats s.out n0) s.out.length
    ⟨0, n0, by omega, by omega, by first | (simp -dsimp only [↓bp, bq, br, afin, bsk, cWrites, opsWrites, pieceGh, rsk, ne_eq, if_true, if_false, exists_eq_left', forall_const, forall_eq, Nat.reduceLT, Int.reduceSub, Nat.reduceAdd, Nat.reduceSub, Nat.reduceMul, Nat.reduceLeDiff, Nat.reduceEqDiff, Nat.reduceBEq, Nat.reduceBNe, Int.reduceNeg, Int.reduceAdd, Int.reduceMul, Int.reduceLE, Int.reduceLT, Int.reduceEq, Int.reduceToNat, reduceIte, reduceCtorEq, tbTaleG]; done) | (simp -dsimp only [↓bp, bq, br, afin, bsk, cWrites, opsWrites, pieceGh, rsk, ne_eq, if_true, if_false, exists_eq_left', forall_const, forall_eq, Nat.reduceLT, Int.reduceSub, Nat.reduceAdd, Nat.reduceSub, Nat.reduceMul, Nat.reduceLeDiff, Nat.reduceEqDiff, Nat.reduceBEq, Nat.reduceBNe, Int.reduceNeg, Int.reduceAdd, Int.reduceMul, Int.reduceLE, Int.reduceLT, Int.reduceEq, Int.reduceToNat, reduceIte, reduceCtorEq, tbTaleG]; rfl), by first | (simp -dsimp only [↓bp, bq, br, afin, bsk, cWrites, opsWrites, pieceGh, rsk, ne_eq, if_true, if_false, exists_eq_left', forall_const, forall_eq, Nat.reduceLT, Int.reduceSub, Nat.reduceAdd, Nat.reduceSub, Nat.reduceMul, Nat.reduceLeDiff, Nat.reduceEqDiff, Nat.reduceBEq, Nat.reduceBNe, Int.reduceNeg, Int.reduceAdd, Int.reduceMul, Int.reduceLE, Int.reduceLT, Int.reduceEq, Int.reduceToNat, reduceIte, reduceCtorEq, tbTaleG, *]; done) | (simp -dsimp only [↓bp, bq, br, afin, bsk, cWrites, opsWrites, pieceGh, rsk, ne_eq, if_true, if_false, exists_eq_left', forall_const, forall_eq, Nat.reduceLT, Int.reduceSub, Nat.reduceAdd, Nat.reduceSub, Nat.reduceMul, Nat.reduceLeDiff, Nat.reduceEqDiff, Nat.reduceBEq, Nat.reduceBNe, Int.reduceNeg, Int.reduceAdd, Int.reduceMul, Int.reduceLE, Int.reduceLT, Int.reduceEq, Int.reduceToNat, reduceIte, reduceCtorEq, tbTaleG, *]; rfl), by omega, by omega, by rw [List.drop_zero]⟩ ?_
  clear w1 w2 hn1
  rintro n v ⟨i, z, hi, rfl, hI, hN, hz0, hz1, hz⟩
  simp -dsimp only [↓bp, bq, br, afin, bsk, cWrites, opsWrites, pieceGh, rsk, ne_eq, if_true, if_false, exists_eq_left', forall_const, forall_eq, Nat.reduceLT, Int.reduceSub, Nat.reduceAdd, Nat.reduceSub, Nat.reduceMul, Nat.reduceLeDiff, Nat.reduceEqDiff, Nat.reduceBEq, Nat.reduceBNe, Int.reduceNeg, Int.reduceAdd, Int.reduceMul, Int.reduceLE, Int.reduceLT, Int.reduceEq, Int.reduceToNat, reduceIte, reduceCtorEq, tbTaleG] at hI hN
  have hc : (∃ x, s.out[i]? = some x ∧ z ≤ 6000 ∧ greats (s.out.drop (i + 1)) (z + termsOf x 6000) = greats s.out n0) ∨ (((i : Int) < s.out.length) = True ∧ (z ≤ 6000) = False ∧ greats s.out n0 = z) ∨ (((i : Int) < s.out.length) = False ∧ True ∧ greats s.out n0 = z) := by
    by_cases hlt : i < s.out.length
    · obtain ⟨x, hx⟩ : ∃ x, s.out[i]? = some x := ⟨_, List.getElem?_eq_getElem hlt⟩
      rw [drop_get _ _ _ hx, greats] at hz
      by_cases hle : z ≤ 6000
      · rw [if_pos hle] at hz; exact .inl ⟨x, hx, hle, hz⟩
      · rw [if_neg hle] at hz; exact .inr (.inl ⟨eq_true (by omega), eq_false hle, hz.symm⟩)
    · have : i = s.out.length := by omega
      subst this
      rw [List.drop_length, greats] at hz
      exact .inr (.inr ⟨eq_false (by omega), trivial, hz.symm⟩)
  rcases hc with ⟨x, hx, hle, hz2⟩ | ⟨c1, c2, hz2⟩ | ⟨c1, c2, hz2⟩
  · obtain ⟨hp, t0, t1⟩ := hto x (List.mem_of_getElem? hx)
    have hw : IntKind.i64.wrap ((i : Int) + 1) = ((i + 1 : Nat) : Int) := by rw [wrap_nat (by omega) (by omega)]; rfl
    have hw2 : IntKind.i64.wrap (z + termsOf x 6000) = z + termsOf x 6000 := wrap_nat (by omega) (by omega)
    have hlt := (List.getElem?_eq_some_iff.1 hx).1
    have hlt' : ((i : Int) < s.out.length) = True := eq_true (by omega)
    have hle' := eq_true hle
    simp -dsimp only [↓bp, bq, br, afin, bsk, cWrites, opsWrites, pieceGh, rsk, ne_eq, if_true, if_false, exists_eq_left', forall_const, forall_eq, Nat.reduceLT, Int.reduceSub, Nat.reduceAdd, Nat.reduceSub, Nat.reduceMul, Nat.reduceLeDiff, Nat.reduceEqDiff, Nat.reduceBEq, Nat.reduceBNe, Int.reduceNeg, Int.reduceAdd, Int.reduceMul, Int.reduceLE, Int.reduceLT, Int.reduceEq, Int.reduceToNat, reduceIte, reduceCtorEq, tbTaleG, hI, hN, hlt', hle', hx]
    refine Pure.use hp ?_; simp -dsimp only [↓bp, bq, br, afin, bsk, cWrites, opsWrites, pieceGh, rsk, ne_eq, if_true, if_false, exists_eq_left', forall_const, forall_eq, Nat.reduceLT, Int.reduceSub, Nat.reduceAdd, Nat.reduceSub, Nat.reduceMul, Nat.reduceLeDiff, Nat.reduceEqDiff, Nat.reduceBEq, Nat.reduceBNe, Int.reduceNeg, Int.reduceAdd, Int.reduceMul, Int.reduceLE, Int.reduceLT, Int.reduceEq, Int.reduceToNat, reduceIte, reduceCtorEq, tbTaleG, hI, hN, hlt', hle', hx, hw, hw2]
    exact ⟨s.out.length - (i + 1), by omega, i + 1, z + termsOf x 6000, by omega, rfl, rfl, rfl, by omega, by omega, hz2⟩
  all_goals
    rw [hz2] at hr
    clear hz2 hz hto hi
    simp -dsimp only [↓bp, bq, br, afin, bsk, cWrites, opsWrites, pieceGh, rsk, ne_eq, if_true, if_false, exists_eq_left', forall_const, forall_eq, Nat.reduceLT, Int.reduceSub, Nat.reduceAdd, Nat.reduceSub, Nat.reduceMul, Nat.reduceLeDiff, Nat.reduceEqDiff, Nat.reduceBEq, Nat.reduceBNe, Int.reduceNeg, Int.reduceAdd, Int.reduceMul, Int.reduceLE, Int.reduceLT, Int.reduceEq, Int.reduceToNat, reduceIte, reduceCtorEq, tbTaleG, hI, hN, c1, c2]
    clear c1 c2 hI
    generalize z = z1 at *
    refine loop_keep mixed (fun n e => ∃ (i : Nat) (z : Int), i ≤ s.ended.length ∧ n = s.ended.length - i ∧ e 5 = .int .i64 i ∧ e 3 = .int .i64 z ∧ 0 ≤ z ∧ z ≤ 8100000 ∧ greatsE (s.ended.drop i) z = greatsE s.ended z1) s.ended.length
      ⟨0, z1, by omega, by omega, by first | (simp -dsimp only [↓bp, bq, br, afin, bsk, cWrites, opsWrites, pieceGh, rsk, ne_eq, if_true, if_false, exists_eq_left', forall_const, forall_eq, Nat.reduceLT, Int.reduceSub, Nat.reduceAdd, Nat.reduceSub, Nat.reduceMul, Nat.reduceLeDiff, Nat.reduceEqDiff, Nat.reduceBEq, Nat.reduceBNe, Int.reduceNeg, Int.reduceAdd, Int.reduceMul, Int.reduceLE, Int.reduceLT, Int.reduceEq, Int.reduceToNat, reduceIte, reduceCtorEq, tbTaleG]; done) | (simp -dsimp only [↓bp, bq, br, afin, bsk, cWrites, opsWrites, pieceGh, rsk, ne_eq, if_true, if_false, exists_eq_left', forall_const, forall_eq, Nat.reduceLT, Int.reduceSub, Nat.reduceAdd, Nat.reduceSub, Nat.reduceMul, Nat.reduceLeDiff, Nat.reduceEqDiff, Nat.reduceBEq, Nat.reduceBNe, Int.reduceNeg, Int.reduceAdd, Int.reduceMul, Int.reduceLE, Int.reduceLT, Int.reduceEq, Int.reduceToNat, reduceIte, reduceCtorEq, tbTaleG]; rfl), by first | (simp -dsimp only [↓bp, bq, br, afin, bsk, cWrites, opsWrites, pieceGh, rsk, ne_eq, if_true, if_false, exists_eq_left', forall_const, forall_eq, Nat.reduceLT, Int.reduceSub, Nat.reduceAdd, Nat.reduceSub, Nat.reduceMul, Nat.reduceLeDiff, Nat.reduceEqDiff, Nat.reduceBEq, Nat.reduceBNe, Int.reduceNeg, Int.reduceAdd, Int.reduceMul, Int.reduceLE, Int.reduceLT, Int.reduceEq, Int.reduceToNat, reduceIte, reduceCtorEq, tbTaleG, *]; done) | (simp -dsimp only [↓bp, bq, br, afin, bsk, cWrites, opsWrites, pieceGh, rsk, ne_eq, if_true, if_false, exists_eq_left', forall_const, forall_eq, Nat.reduceLT, Int.reduceSub, Nat.reduceAdd, Nat.reduceSub, Nat.reduceMul, Nat.reduceLeDiff, Nat.reduceEqDiff, Nat.reduceBEq, Nat.reduceBNe, Int.reduceNeg, Int.reduceAdd, Int.reduceMul, Int.reduceLE, Int.reduceLT, Int.reduceEq, Int.reduceToNat, reduceIte, reduceCtorEq, tbTaleG, *]; rfl), by omega, by omega, by rw [List.drop_zero]⟩ ?_
    clear hz0 hz1
    rintro n v ⟨i, z, hi, rfl, hI, hN, hz0, hz1, hz⟩
    simp -dsimp only [↓bp, bq, br, afin, bsk, cWrites, opsWrites, pieceGh, rsk, ne_eq, if_true, if_false, exists_eq_left', forall_const, forall_eq, Nat.reduceLT, Int.reduceSub, Nat.reduceAdd, Nat.reduceSub, Nat.reduceMul, Nat.reduceLeDiff, Nat.reduceEqDiff, Nat.reduceBEq, Nat.reduceBNe, Int.reduceNeg, Int.reduceAdd, Int.reduceMul, Int.reduceLE, Int.reduceLT, Int.reduceEq, Int.reduceToNat, reduceIte, reduceCtorEq, tbTaleG] at hI hN
    have hc : (∃ x, s.ended[i]? = some x ∧ z ≤ 6000 ∧ greatsE (s.ended.drop (i + 1)) (z + termsOf x.reason 6000) = greatsE s.ended z1) ∨ (((i : Int) < s.ended.length) = True ∧ (z ≤ 6000) = False ∧ greatsE s.ended z1 = z) ∨ (((i : Int) < s.ended.length) = False ∧ True ∧ greatsE s.ended z1 = z) := by
      by_cases hlt : i < s.ended.length
      · obtain ⟨x, hx⟩ : ∃ x, s.ended[i]? = some x := ⟨_, List.getElem?_eq_getElem hlt⟩
        rw [drop_get _ _ _ hx, greatsE] at hz
        by_cases hle : z ≤ 6000
        · rw [if_pos hle] at hz; exact .inl ⟨x, hx, hle, hz⟩
        · rw [if_neg hle] at hz; exact .inr (.inl ⟨eq_true (by omega), eq_false hle, hz.symm⟩)
      · have : i = s.ended.length := by omega
        subst this
        rw [List.drop_length, greatsE] at hz
        exact .inr (.inr ⟨eq_false (by omega), trivial, hz.symm⟩)
    rcases hc with ⟨x, hx, hle, hz2⟩ | ⟨c1, c2, hz2⟩ | ⟨c1, c2, hz2⟩
    · obtain ⟨hp, t0, t1⟩ := hte x (List.mem_of_getElem? hx)
      have hw : IntKind.i64.wrap ((i : Int) + 1) = ((i + 1 : Nat) : Int) := by rw [wrap_nat (by omega) (by omega)]; rfl
      have hw2 : IntKind.i64.wrap (z + termsOf x.reason 6000) = z + termsOf x.reason 6000 := wrap_nat (by omega) (by omega)
      have hlt := (List.getElem?_eq_some_iff.1 hx).1
      have hlt' : ((i : Int) < s.ended.length) = True := eq_true (by omega)
      have hle' := eq_true hle
      simp -dsimp only [↓bp, bq, br, afin, bsk, cWrites, opsWrites, pieceGh, rsk, ne_eq, if_true, if_false, exists_eq_left', forall_const, forall_eq, Nat.reduceLT, Int.reduceSub, Nat.reduceAdd, Nat.reduceSub, Nat.reduceMul, Nat.reduceLeDiff, Nat.reduceEqDiff, Nat.reduceBEq, Nat.reduceBNe, Int.reduceNeg, Int.reduceAdd, Int.reduceMul, Int.reduceLE, Int.reduceLT, Int.reduceEq, Int.reduceToNat, reduceIte, reduceCtorEq, tbTaleG, hI, hN, hlt', hle', hx]
      refine Pure.use hp ?_; simp -dsimp only [↓bp, bq, br, afin, bsk, cWrites, opsWrites, pieceGh, rsk, ne_eq, if_true, if_false, exists_eq_left', forall_const, forall_eq, Nat.reduceLT, Int.reduceSub, Nat.reduceAdd, Nat.reduceSub, Nat.reduceMul, Nat.reduceLeDiff, Nat.reduceEqDiff, Nat.reduceBEq, Nat.reduceBNe, Int.reduceNeg, Int.reduceAdd, Int.reduceMul, Int.reduceLE, Int.reduceLT, Int.reduceEq, Int.reduceToNat, reduceIte, reduceCtorEq, tbTaleG, hI, hN, hlt', hle', hx, hw, hw2]
      exact ⟨s.ended.length - (i + 1), by omega, i + 1, z + termsOf x.reason 6000, by omega, rfl, rfl, rfl, by omega, by omega, hz2⟩
    all_goals
      rw [hz2] at hr
      clear hz2 hz hte hi
      simp -dsimp only [↓bp, bq, br, afin, bsk, cWrites, opsWrites, pieceGh, rsk, ne_eq, if_true, if_false, exists_eq_left', forall_const, forall_eq, Nat.reduceLT, Int.reduceSub, Nat.reduceAdd, Nat.reduceSub, Nat.reduceMul, Nat.reduceLeDiff, Nat.reduceEqDiff, Nat.reduceBEq, Nat.reduceBNe, Int.reduceNeg, Int.reduceAdd, Int.reduceMul, Int.reduceLE, Int.reduceLT, Int.reduceEq, Int.reduceToNat, reduceIte, reduceCtorEq, tbTaleG, hI, hN, c1, c2]
      clear c1 c2 hI
      generalize z = z2 at *
      refine loop_keep mixed (fun n e => ∃ (i : Nat) (z : Int), i ≤ s.names.length ∧ n = s.names.length - i ∧ e 6 = .int .i64 i ∧ e 3 = .int .i64 z ∧ 0 ≤ z ∧ z ≤ 8100000 ∧ greatsN (s.names.drop i) z = greatsN s.names z2) s.names.length
        ⟨0, z2, by omega, by omega, by first | (simp -dsimp only [↓bp, bq, br, afin, bsk, cWrites, opsWrites, pieceGh, rsk, ne_eq, if_true, if_false, exists_eq_left', forall_const, forall_eq, Nat.reduceLT, Int.reduceSub, Nat.reduceAdd, Nat.reduceSub, Nat.reduceMul, Nat.reduceLeDiff, Nat.reduceEqDiff, Nat.reduceBEq, Nat.reduceBNe, Int.reduceNeg, Int.reduceAdd, Int.reduceMul, Int.reduceLE, Int.reduceLT, Int.reduceEq, Int.reduceToNat, reduceIte, reduceCtorEq, tbTaleG]; done) | (simp -dsimp only [↓bp, bq, br, afin, bsk, cWrites, opsWrites, pieceGh, rsk, ne_eq, if_true, if_false, exists_eq_left', forall_const, forall_eq, Nat.reduceLT, Int.reduceSub, Nat.reduceAdd, Nat.reduceSub, Nat.reduceMul, Nat.reduceLeDiff, Nat.reduceEqDiff, Nat.reduceBEq, Nat.reduceBNe, Int.reduceNeg, Int.reduceAdd, Int.reduceMul, Int.reduceLE, Int.reduceLT, Int.reduceEq, Int.reduceToNat, reduceIte, reduceCtorEq, tbTaleG]; rfl), by first | (simp -dsimp only [↓bp, bq, br, afin, bsk, cWrites, opsWrites, pieceGh, rsk, ne_eq, if_true, if_false, exists_eq_left', forall_const, forall_eq, Nat.reduceLT, Int.reduceSub, Nat.reduceAdd, Nat.reduceSub, Nat.reduceMul, Nat.reduceLeDiff, Nat.reduceEqDiff, Nat.reduceBEq, Nat.reduceBNe, Int.reduceNeg, Int.reduceAdd, Int.reduceMul, Int.reduceLE, Int.reduceLT, Int.reduceEq, Int.reduceToNat, reduceIte, reduceCtorEq, tbTaleG, *]; done) | (simp -dsimp only [↓bp, bq, br, afin, bsk, cWrites, opsWrites, pieceGh, rsk, ne_eq, if_true, if_false, exists_eq_left', forall_const, forall_eq, Nat.reduceLT, Int.reduceSub, Nat.reduceAdd, Nat.reduceSub, Nat.reduceMul, Nat.reduceLeDiff, Nat.reduceEqDiff, Nat.reduceBEq, Nat.reduceBNe, Int.reduceNeg, Int.reduceAdd, Int.reduceMul, Int.reduceLE, Int.reduceLT, Int.reduceEq, Int.reduceToNat, reduceIte, reduceCtorEq, tbTaleG, *]; rfl), by omega, by omega, by rw [List.drop_zero]⟩ ?_
      clear hz0 hz1
      rintro n v ⟨i, z, hi, rfl, hI, hN, hz0, hz1, hz⟩
      simp -dsimp only [↓bp, bq, br, afin, bsk, cWrites, opsWrites, pieceGh, rsk, ne_eq, if_true, if_false, exists_eq_left', forall_const, forall_eq, Nat.reduceLT, Int.reduceSub, Nat.reduceAdd, Nat.reduceSub, Nat.reduceMul, Nat.reduceLeDiff, Nat.reduceEqDiff, Nat.reduceBEq, Nat.reduceBNe, Int.reduceNeg, Int.reduceAdd, Int.reduceMul, Int.reduceLE, Int.reduceLT, Int.reduceEq, Int.reduceToNat, reduceIte, reduceCtorEq, tbTaleG] at hI hN
      have hc : (∃ x, s.names[i]? = some x ∧ z ≤ 6000 ∧ greatsN (s.names.drop (i + 1)) (z + (x.name.length : Int).tdiv 8) = greatsN s.names z2) ∨ (((i : Int) < s.names.length) = True ∧ (z ≤ 6000) = False ∧ greatsN s.names z2 = z) ∨ (((i : Int) < s.names.length) = False ∧ True ∧ greatsN s.names z2 = z) := by
        by_cases hlt : i < s.names.length
        · obtain ⟨x, hx⟩ : ∃ x, s.names[i]? = some x := ⟨_, List.getElem?_eq_getElem hlt⟩
          rw [drop_get _ _ _ hx, greatsN] at hz
          by_cases hle : z ≤ 6000
          · rw [if_pos hle] at hz; exact .inl ⟨x, hx, hle, hz⟩
          · rw [if_neg hle] at hz; exact .inr (.inl ⟨eq_true (by omega), eq_false hle, hz.symm⟩)
        · have : i = s.names.length := by omega
          subst this
          rw [List.drop_length, greatsN] at hz
          exact .inr (.inr ⟨eq_false (by omega), trivial, hz.symm⟩)
      rcases hc with ⟨x, hx, hle, hz2⟩ | ⟨c1, c2, hz2⟩ | ⟨c1, c2, hz2⟩
      · obtain ⟨hp, t0, t1⟩ := htn x (List.mem_of_getElem? hx)
        have hw : IntKind.i64.wrap ((i : Int) + 1) = ((i + 1 : Nat) : Int) := by rw [wrap_nat (by omega) (by omega)]; rfl
        have hw2 : IntKind.i64.wrap (z + (x.name.length : Int).tdiv 8) = z + (x.name.length : Int).tdiv 8 := wrap_nat (by omega) (by omega)
        have hlt := (List.getElem?_eq_some_iff.1 hx).1
        have hlt' : ((i : Int) < s.names.length) = True := eq_true (by omega)
        have hle' := eq_true hle
        simp -dsimp only [↓bp, bq, br, afin, bsk, cWrites, opsWrites, pieceGh, rsk, ne_eq, if_true, if_false, exists_eq_left', forall_const, forall_eq, Nat.reduceLT, Int.reduceSub, Nat.reduceAdd, Nat.reduceSub, Nat.reduceMul, Nat.reduceLeDiff, Nat.reduceEqDiff, Nat.reduceBEq, Nat.reduceBNe, Int.reduceNeg, Int.reduceAdd, Int.reduceMul, Int.reduceLE, Int.reduceLT, Int.reduceEq, Int.reduceToNat, reduceIte, reduceCtorEq, tbTaleG, hI, hN, hlt', hle', hx]
        simp -dsimp only [↓bp, bq, br, afin, bsk, cWrites, opsWrites, pieceGh, rsk, ne_eq, if_true, if_false, exists_eq_left', forall_const, forall_eq, Nat.reduceLT, Int.reduceSub, Nat.reduceAdd, Nat.reduceSub, Nat.reduceMul, Nat.reduceLeDiff, Nat.reduceEqDiff, Nat.reduceBEq, Nat.reduceBNe, Int.reduceNeg, Int.reduceAdd, Int.reduceMul, Int.reduceLE, Int.reduceLT, Int.reduceEq, Int.reduceToNat, reduceIte, reduceCtorEq, tbTaleG, hI, hN, hlt', hle', hx, hw, hw2, hp]
        exact ⟨s.names.length - (i + 1), by omega, i + 1, z + (x.name.length : Int).tdiv 8, by omega, rfl, rfl, rfl, by omega, by omega, hz2⟩
      all_goals
        rw [hz2] at hr
        clear hz2 hz htn hi
        simp -dsimp only [↓bp, bq, br, afin, bsk, cWrites, opsWrites, pieceGh, rsk, ne_eq, if_true, if_false, exists_eq_left', forall_const, forall_eq, Nat.reduceLT, Int.reduceSub, Nat.reduceAdd, Nat.reduceSub, Nat.reduceMul, Nat.reduceLeDiff, Nat.reduceEqDiff, Nat.reduceBEq, Nat.reduceBNe, Int.reduceNeg, Int.reduceAdd, Int.reduceMul, Int.reduceLE, Int.reduceLT, Int.reduceEq, Int.reduceToNat, reduceIte, reduceCtorEq, tbTaleG, hI, hN, c1, c2]
        exact finish_pure (by rw [hr]) hle0
end Go.Proofs.YtpginpbcndlfmaaDoor
