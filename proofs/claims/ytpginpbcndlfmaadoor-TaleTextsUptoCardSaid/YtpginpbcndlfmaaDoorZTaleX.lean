/- The text of what is seen, told. -/
import Derived.Test.YtpginpbcndlfmaaDoorZTaleT
set_option linter.unusedVariables false
set_option linter.unusedSimpArgs false
set_option maxRecDepth 20000
set_option linter.defProp false
namespace Go.Proofs.YtpginpbcndlfmaaDoor
open Go Go.Av Go.RowKit
def tbTaleX := And.intro (And.intro (And.intro (And.intro (And.intro @tf3 @tf4) (And.intro @tf5 (And.intro @tf61 @tf9))) (And.intro (And.intro @tf31 @tf38) (And.intro @tf37 (And.intro @tf22 @tf40)))) (And.intro (And.intro (And.intro @tf23 @tf44) (And.intro @tf24 (And.intro @tf46 @tf26))) (And.intro (And.intro @tf53 (And.intro @Term.flat_enc @Term.isv_enc)) (And.intro @Term.fold_enc (And.intro @isv_encs @flat_encs))))) (And.intro (And.intro (And.intro (And.intro @len_encs @ix_encs) (And.intro @isv_lims (And.intro @flat_lims @len_lims))) (And.intro (And.intro @Ended.flat_enc (And.intro @Ended.isv_enc @Ended.fold_enc)) (And.intro @Named.flat_enc (And.intro @Named.isv_enc @Named.fold_enc)))) (And.intro (And.intro (And.intro @Seen.flat_enc @Seen.isv_enc) (And.intro @Seen.fold_enc (And.intro @isv_encE @flat_encE))) (And.intro (And.intro @len_encE (And.intro @ix_encE @isv_encN)) (And.intro @flat_encN (And.intro @len_encN @ix_encN)))))
variable {G : Nat → AV}
def i64R (n : Int) : Prop := -9223372036854775808 ≤ n ∧ n ≤ 9223372036854775807
structure Seen.Rng (s : Seen) : Prop where
  ended : ∀ e, e ∈ s.ended → i64R e.pid
  names : ∀ n, n ∈ s.names → i64R n.pid
  verdict : i64R s.verdict
  spent : i64R s.spent
  clock : i64R s.clock
set_option maxHeartbeats 2000000 in
theorem taleText_pure (hg : GlobT G) (s : Seen) (hb : s.bulk ≤ 2000000) (hr : s.Rng) : Pure Tryd.prog G 10 [s.enc] (texts (tlines s)) := by
  have hto : ∀ x, x ∈ s.out → Pure Tryd.prog G 24 [x.enc] (.str (lineT x)) ∧ (lineT x).length ≤ 800000001 := fun x hx => by
    have := bulk_mem hx
    unfold Seen.bulk at hb
    exact ⟨lineT_pure hg x (by omega), lineT_len x (by omega)⟩
  have hte : ∀ x, x ∈ s.ended → Pure Tryd.prog G 24 [x.reason.enc] (.str (lineT x.reason)) ∧ (lineT x.reason).length ≤ 800000001 := fun x hx => by
    have := bulkE_mem hx
    unfold Seen.bulk at hb
    exact ⟨lineT_pure hg x.reason (by omega), lineT_len x.reason (by omega)⟩
  have htn : ∀ x, x ∈ s.names → Pure Tryd.prog G 24 [.agg [.int .u8 2, .bool false, .nil, .str x.name, .int .i64 0, .nil, .nil]] (.str (lineT (atomTm x.name))) ∧ (lineT (atomTm x.name)).length ≤ 800000001 := fun x hx => by
    have := bulkN_mem hx
    unfold Seen.bulk at hb
    have hk : (atomTm x.name).bulk ≤ 2000000 := by simp only [atomTm, Term.bulk, bulks, List.length_nil]; omega
    exact ⟨(lineT_pure hg (atomTm x.name) hk).lessArgs (.cons (enc_nil 2 false x.name 0) .nil), lineT_len _ hk⟩
  have hio : ∀ n, i64R n → Pure Tryd.prog G 25 [.int .i64 n] (.str (itoa n)) ∧ (itoa n).length ≤ 31 := fun n hn => ⟨itoa_pure hg.pow n hn.1 hn.2, itoa_len2 n hn.1 hn.2⟩
  have hie : ∀ x, x ∈ s.ended → Pure Tryd.prog G 25 [.int .i64 x.pid] (.str (itoa x.pid)) ∧ (itoa x.pid).length ≤ 31 := fun x hx => hio _ (hr.ended x hx)
  have hin : ∀ x, x ∈ s.names → Pure Tryd.prog G 25 [.int .i64 x.pid] (.str (itoa x.pid)) ∧ (itoa x.pid).length ≤ 31 := fun x hx => hio _ (hr.names x hx)
  obtain ⟨hi1, hl1⟩ := hio _ hr.verdict
  obtain ⟨hi2, hl2⟩ := hio _ hr.spent
  obtain ⟨hi3, hl3⟩ := hio _ hr.clock
  have n1 : s.out.length ≤ 2000000 := by have := len_le_bulks s.out; unfold Seen.bulk at hb; omega
  have n2 : s.ended.length ≤ 2000000 := by have := lenE_le s.ended; unfold Seen.bulk at hb; omega
  have n3 : s.names.length ≤ 2000000 := by have := lenN_le s.names; unfold Seen.bulk at hb; omega
  clear hg hb hr hio
  refine Pure.of_le fun σ => ?_
  refine Tri.of_awp mixed Tryd.func10 rfl (by kernel_rfl) (by kernel_rfl) (by simp [Tryd.ntmps10]) Tryd.results10 ?_
  simp -dsimp only [↓bp, bq, br, afin, bsk, cWrites, opsWrites, pieceGh, rsk, ne_eq, if_true, if_false, exists_eq_left', forall_const, forall_eq, Nat.reduceLT, Int.reduceSub, Nat.reduceAdd, Nat.reduceSub, Nat.reduceMul, Nat.reduceLeDiff, Nat.reduceEqDiff, Nat.reduceBEq, Nat.reduceBNe, Int.reduceNeg, Int.reduceAdd, Int.reduceMul, Int.reduceLE, Int.reduceLT, Int.reduceEq, Int.reduceToNat, reduceIte, reduceCtorEq, tbTaleX]
  refine newW_intro fun b1 h1 => ?_
  simp -dsimp only [↓bp, bq, br, afin, bsk, cWrites, opsWrites, pieceGh, rsk, ne_eq, if_true, if_false, exists_eq_left', forall_const, forall_eq, Nat.reduceLT, Int.reduceSub, Nat.reduceAdd, Nat.reduceSub, Nat.reduceMul, Nat.reduceLeDiff, Nat.reduceEqDiff, Nat.reduceBEq, Nat.reduceBNe, Int.reduceNeg, Int.reduceAdd, Int.reduceMul, Int.reduceLE, Int.reduceLT, Int.reduceEq, Int.reduceToNat, reduceIte, reduceCtorEq, tbTaleX]
  refine newT_plain fun b3 h3 => ?_
  obtain ⟨σa, hσa⟩ : ∃ σa, σa = σ.setBox b1 [encs s.out, encE s.ended, encN s.names, .int .i64 s.verdict, .int .i64 s.spent, .int .i64 s.clock] := ⟨_, rfl⟩
  have hla : σ.le σa := by rw [hσa]; exact (AS.le.refl σ).setBox h1.1 _
  have ha : σa.box b1 = some [encs s.out, encE s.ended, encN s.names, .int .i64 s.verdict, .int .i64 s.spent, .int .i64 s.clock] := by rw [hσa]; simp [AS.setBox]
  rw [← hσa] at h3
  have hO0 : Out σa (σa.setBox b3 [.nil]) b3 [] := ⟨h3, .nil, by simp [AS.setBox], Buf.setB (Buf.nil (AS.le.refl _)) h3 _⟩
  rw [← hσa]
  generalize σa.setBox b3 [.nil] = S at *
  have ha0 := hO0.le.box _ _ ha
  clear hσa h1 h3
  simp -dsimp only [↓bp, bq, br, afin, bsk, cWrites, opsWrites, pieceGh, rsk, ne_eq, if_true, if_false, exists_eq_left', forall_const, forall_eq, Nat.reduceLT, Int.reduceSub, Nat.reduceAdd, Nat.reduceSub, Nat.reduceMul, Nat.reduceLeDiff, Nat.reduceEqDiff, Nat.reduceBEq, Nat.reduceBNe, Int.reduceNeg, Int.reduceAdd, Int.reduceMul, Int.reduceLE, Int.reduceLT, Int.reduceEq, Int.reduceToNat, reduceIte, reduceCtorEq, tbTaleX, ha0]
  refine loop_intro (fun n e σ' => ∃ i : Nat, i ≤ s.out.length ∧ n = s.out.length - i ∧ e 15 = .int .i64 i ∧ Out σa σ' b3 ((s.out.take i).map outL)) s.out.length
    ⟨0, by omega, by omega, by first | (simp -dsimp only [↓bp, bq, br, afin, bsk, cWrites, opsWrites, pieceGh, rsk, ne_eq, if_true, if_false, exists_eq_left', forall_const, forall_eq, Nat.reduceLT, Int.reduceSub, Nat.reduceAdd, Nat.reduceSub, Nat.reduceMul, Nat.reduceLeDiff, Nat.reduceEqDiff, Nat.reduceBEq, Nat.reduceBNe, Int.reduceNeg, Int.reduceAdd, Int.reduceMul, Int.reduceLE, Int.reduceLT, Int.reduceEq, Int.reduceToNat, reduceIte, reduceCtorEq, tbTaleX]; done) | (simp -dsimp only [↓bp, bq, br, afin, bsk, cWrites, opsWrites, pieceGh, rsk, ne_eq, if_true, if_false, exists_eq_left', forall_const, forall_eq, Nat.reduceLT, Int.reduceSub, Nat.reduceAdd, Nat.reduceSub, Nat.reduceMul, Nat.reduceLeDiff, Nat.reduceEqDiff, Nat.reduceBEq, Nat.reduceBNe, Int.reduceNeg, Int.reduceAdd, Int.reduceMul, Int.reduceLE, Int.reduceLT, Int.reduceEq, Int.reduceToNat, reduceIte, reduceCtorEq, tbTaleX]; rfl), by simpa using hO0⟩ ?_
  rintro n v σ2 ⟨i, hi, rfl, h15, hO⟩
  clear hO0 ha0
  simp -dsimp only [↓bp, bq, br, afin, bsk, cWrites, opsWrites, pieceGh, rsk, ne_eq, if_true, if_false, exists_eq_left', forall_const, forall_eq, Nat.reduceLT, Int.reduceSub, Nat.reduceAdd, Nat.reduceSub, Nat.reduceMul, Nat.reduceLeDiff, Nat.reduceEqDiff, Nat.reduceBEq, Nat.reduceBNe, Int.reduceNeg, Int.reduceAdd, Int.reduceMul, Int.reduceLE, Int.reduceLT, Int.reduceEq, Int.reduceToNat, reduceIte, reduceCtorEq, tbTaleX] at h15
  by_cases hlt : (i : Int) < s.out.length
  · obtain ⟨x, hx⟩ : ∃ x, s.out[i]? = some x := ⟨_, List.getElem?_eq_getElem (by omega)⟩
    have hw : IntKind.i64.wrap ((i : Int) + 1) = ((i + 1 : Nat) : Int) := by rw [wrap_nat (by omega) (by omega)]; rfl
    have ha1 : σ2.box b1 = some [encs s.out, encE s.ended, encN s.names, .int .i64 s.verdict, .int .i64 s.spent, .int .i64 s.clock] := hO.le.box _ _ ha
    obtain ⟨hp, hpl⟩ := hto x (List.mem_of_getElem? hx)
    have hlt' := eq_true hlt
    have hjl : (Lib.join [outW, lineT x] [32]).length ≤ 1000000000 := by rw [join2, List.length_append, List.length_cons]; simp only [outW, List.length_cons, List.length_nil]; omega
    have hxl : ((s.out.take i).map outL).length ≤ 1000000000 := by rw [List.length_map, List.length_take]; omega
    clear hto hte htn hie hin hi1 hi2 hi3
    repeat' (first
    | with_reducible refine condW_both (fun _ _ => ?_) (fun _ _ => ?_)
    | with_reducible refine gW_both (fun _ _ => ?_) (fun _ _ => ?_)
    | with_reducible refine condW_split (fun _ => ?_) (fun _ => ?_)
    | with_reducible refine gW_split (fun _ => ?_) (fun _ => ?_)
    | with_reducible refine pickW_split (fun _ => ?_) (fun _ => ?_)
    | (refine newW_intro ?_; intro bx hbx; (try simp only [fresh_box, fresh_tip, fresh_ty] at hbx))
    | (refine newT_plain ?_; intro bx hbx; (try simp only [fresh_box, fresh_tip, fresh_ty] at hbx))
    | refine Pure.use (hp) ?_
    | refine Pure.head (hp) ?_
    | ((refine Tri.mono (putS_tri _ [outW, lineT x] (by simp) (by simp) hjl hxl σa _ b3 (hO.newBox (by first | assumption | (simp only [*]; done)) _)) ?_; rintro r s2 ⟨rfl, hO2⟩))
    | refine storeX_w ?_
    | ((with_reducible refine And.intro ?_ ?_); omega)
    | refine bo_buildSlice (d' := ⟨⟩) ?_
    | (refine draw_all (by kernel_rfl) ?_)
    | refine finish_pure ?_ (by repeat' (first | exact AS.le.refl _ | assumption | (refine le_set (by first | assumption | (simp only [*]; done) | exact AS.le.fresh (by assumption) (by simp only [*])) ?_) | (refine le_ty (by first | assumption | (simp only [*]; done) | exact AS.le.fresh (by assumption) (by simp only [*])) ?_)))
    | simp -dsimp only [↓bp, bq, br, afin, bsk, cWrites, opsWrites, pieceGh, rsk, ne_eq, if_true, if_false, exists_eq_left', forall_const, forall_eq, Nat.reduceLT, Int.reduceSub, Nat.reduceAdd, Nat.reduceSub, Nat.reduceMul, Nat.reduceLeDiff, Nat.reduceEqDiff, Nat.reduceBEq, Nat.reduceBNe, Int.reduceNeg, Int.reduceAdd, Int.reduceMul, Int.reduceLE, Int.reduceLT, Int.reduceEq, Int.reduceToNat, reduceIte, reduceCtorEq, tbTaleX, *])
    all_goals
      rw [outL_eq] at hO2
      exact ⟨s.out.length - (i + 1), by omega, i + 1, by omega, rfl, rfl, by rw [take_succ_get _ _ _ hx, List.map_append]; exact hO2⟩
  · have : i = s.out.length := by omega
    subst this
    rw [List.take_length] at hO
    have hlt' := eq_false hlt
    have ha1 : σ2.box b1 = some [encs s.out, encE s.ended, encN s.names, .int .i64 s.verdict, .int .i64 s.spent, .int .i64 s.clock] := hO.le.box _ _ ha
    simp -dsimp only [↓bp, bq, br, afin, bsk, cWrites, opsWrites, pieceGh, rsk, ne_eq, if_true, if_false, exists_eq_left', forall_const, forall_eq, Nat.reduceLT, Int.reduceSub, Nat.reduceAdd, Nat.reduceSub, Nat.reduceMul, Nat.reduceLeDiff, Nat.reduceEqDiff, Nat.reduceBEq, Nat.reduceBNe, Int.reduceNeg, Int.reduceAdd, Int.reduceMul, Int.reduceLE, Int.reduceLT, Int.reduceEq, Int.reduceToNat, reduceIte, reduceCtorEq, tbTaleX, h15, hlt', ha1]
    generalize hL1 : s.out.map outL = L1 at *
    have m1 : L1.length ≤ 2000000 := by rw [← hL1, List.length_map]; exact n1
    clear hto hlt hlt' hi
    refine loop_intro (fun n e σ' => ∃ i : Nat, i ≤ s.ended.length ∧ n = s.ended.length - i ∧ e 28 = .int .i64 i ∧ Out σa σ' b3 (L1 ++ (s.ended.take i).map endL)) s.ended.length
      ⟨0, by omega, by omega, by first | (simp -dsimp only [↓bp, bq, br, afin, bsk, cWrites, opsWrites, pieceGh, rsk, ne_eq, if_true, if_false, exists_eq_left', forall_const, forall_eq, Nat.reduceLT, Int.reduceSub, Nat.reduceAdd, Nat.reduceSub, Nat.reduceMul, Nat.reduceLeDiff, Nat.reduceEqDiff, Nat.reduceBEq, Nat.reduceBNe, Int.reduceNeg, Int.reduceAdd, Int.reduceMul, Int.reduceLE, Int.reduceLT, Int.reduceEq, Int.reduceToNat, reduceIte, reduceCtorEq, tbTaleX]; done) | (simp -dsimp only [↓bp, bq, br, afin, bsk, cWrites, opsWrites, pieceGh, rsk, ne_eq, if_true, if_false, exists_eq_left', forall_const, forall_eq, Nat.reduceLT, Int.reduceSub, Nat.reduceAdd, Nat.reduceSub, Nat.reduceMul, Nat.reduceLeDiff, Nat.reduceEqDiff, Nat.reduceBEq, Nat.reduceBNe, Int.reduceNeg, Int.reduceAdd, Int.reduceMul, Int.reduceLE, Int.reduceLT, Int.reduceEq, Int.reduceToNat, reduceIte, reduceCtorEq, tbTaleX]; rfl), by simpa using hO⟩ ?_
    clear hO h15 ha1
    rintro n v σ2 ⟨i, hi, rfl, h28, hO⟩
    simp -dsimp only [↓bp, bq, br, afin, bsk, cWrites, opsWrites, pieceGh, rsk, ne_eq, if_true, if_false, exists_eq_left', forall_const, forall_eq, Nat.reduceLT, Int.reduceSub, Nat.reduceAdd, Nat.reduceSub, Nat.reduceMul, Nat.reduceLeDiff, Nat.reduceEqDiff, Nat.reduceBEq, Nat.reduceBNe, Int.reduceNeg, Int.reduceAdd, Int.reduceMul, Int.reduceLE, Int.reduceLT, Int.reduceEq, Int.reduceToNat, reduceIte, reduceCtorEq, tbTaleX] at h28
    by_cases hlt : (i : Int) < s.ended.length
    · obtain ⟨x, hx⟩ : ∃ x, s.ended[i]? = some x := ⟨_, List.getElem?_eq_getElem (by omega)⟩
      have hw : IntKind.i64.wrap ((i : Int) + 1) = ((i + 1 : Nat) : Int) := by rw [wrap_nat (by omega) (by omega)]; rfl
      have ha1 : σ2.box b1 = some [encs s.out, encE s.ended, encN s.names, .int .i64 s.verdict, .int .i64 s.spent, .int .i64 s.clock] := hO.le.box _ _ ha
      obtain ⟨hp, hpl⟩ := hte x (List.mem_of_getElem? hx)
      obtain ⟨hq, hql⟩ := hie x (List.mem_of_getElem? hx)
      have hlt' := eq_true hlt
      have hjl : (Lib.join [endW, itoa x.pid, lineT x.reason] [32]).length ≤ 1000000000 := by rw [join3, List.length_append, List.length_cons, List.length_append, List.length_cons]; simp only [endW, List.length_cons, List.length_nil]; omega
      have hxl : (L1 ++ (s.ended.take i).map endL).length ≤ 1000000000 := by rw [List.length_append, List.length_map, List.length_take]; omega
      clear hte htn hie hin hi1 hi2 hi3
      repeat' (first
    | with_reducible refine condW_both (fun _ _ => ?_) (fun _ _ => ?_)
    | with_reducible refine gW_both (fun _ _ => ?_) (fun _ _ => ?_)
    | with_reducible refine condW_split (fun _ => ?_) (fun _ => ?_)
    | with_reducible refine gW_split (fun _ => ?_) (fun _ => ?_)
    | with_reducible refine pickW_split (fun _ => ?_) (fun _ => ?_)
    | (refine newW_intro ?_; intro bx hbx; (try simp only [fresh_box, fresh_tip, fresh_ty] at hbx))
    | (refine newT_plain ?_; intro bx hbx; (try simp only [fresh_box, fresh_tip, fresh_ty] at hbx))
    | refine Pure.use (hp) ?_
    | refine Pure.head (hp) ?_
    | refine Pure.use (hq) ?_
    | refine Pure.head (hq) ?_
    | (refine draw_intro 8 (by kernel_rfl) rfl rfl ?_)
    | ((refine Tri.mono (putS_tri _ [endW, itoa x.pid, lineT x.reason] (by simp) (by simp) hjl hxl σa _ b3 (hO.newBox (by first | assumption | (simp only [*]; done)) _)) ?_; rintro r s2 ⟨rfl, hO2⟩))
    | refine storeX_w ?_
    | ((with_reducible refine And.intro ?_ ?_); omega)
    | refine bo_buildSlice (d' := ⟨⟩) ?_
    | (refine draw_all (by kernel_rfl) ?_)
    | refine finish_pure ?_ (by repeat' (first | exact AS.le.refl _ | assumption | (refine le_set (by first | assumption | (simp only [*]; done) | exact AS.le.fresh (by assumption) (by simp only [*])) ?_) | (refine le_ty (by first | assumption | (simp only [*]; done) | exact AS.le.fresh (by assumption) (by simp only [*])) ?_)))
    | simp -dsimp only [↓bp, bq, br, afin, bsk, cWrites, opsWrites, pieceGh, rsk, ne_eq, if_true, if_false, exists_eq_left', forall_const, forall_eq, Nat.reduceLT, Int.reduceSub, Nat.reduceAdd, Nat.reduceSub, Nat.reduceMul, Nat.reduceLeDiff, Nat.reduceEqDiff, Nat.reduceBEq, Nat.reduceBNe, Int.reduceNeg, Int.reduceAdd, Int.reduceMul, Int.reduceLE, Int.reduceLT, Int.reduceEq, Int.reduceToNat, reduceIte, reduceCtorEq, tbTaleX, *])
      all_goals
        rw [endL_eq] at hO2
        exact ⟨s.ended.length - (i + 1), by omega, i + 1, by omega, rfl, rfl, by rw [take_succ_get _ _ _ hx, List.map_append, ← List.append_assoc]; exact hO2⟩
    · have : i = s.ended.length := by omega
      subst this
      rw [List.take_length] at hO
      have hlt' := eq_false hlt
      have ha1 : σ2.box b1 = some [encs s.out, encE s.ended, encN s.names, .int .i64 s.verdict, .int .i64 s.spent, .int .i64 s.clock] := hO.le.box _ _ ha
      simp -dsimp only [↓bp, bq, br, afin, bsk, cWrites, opsWrites, pieceGh, rsk, ne_eq, if_true, if_false, exists_eq_left', forall_const, forall_eq, Nat.reduceLT, Int.reduceSub, Nat.reduceAdd, Nat.reduceSub, Nat.reduceMul, Nat.reduceLeDiff, Nat.reduceEqDiff, Nat.reduceBEq, Nat.reduceBNe, Int.reduceNeg, Int.reduceAdd, Int.reduceMul, Int.reduceLE, Int.reduceLT, Int.reduceEq, Int.reduceToNat, reduceIte, reduceCtorEq, tbTaleX, h28, hlt', ha1]
      generalize hL2 : L1 ++ s.ended.map endL = L2 at *
      have m2 : L2.length ≤ 4000000 := by rw [← hL2, List.length_append, List.length_map]; omega
      clear hte hie hlt hlt' hi
      refine loop_intro (fun n e σ' => ∃ i : Nat, i ≤ s.names.length ∧ n = s.names.length - i ∧ e 45 = .int .i64 i ∧ Out σa σ' b3 (L2 ++ (s.names.take i).map namL)) s.names.length
        ⟨0, by omega, by omega, by first | (simp -dsimp only [↓bp, bq, br, afin, bsk, cWrites, opsWrites, pieceGh, rsk, ne_eq, if_true, if_false, exists_eq_left', forall_const, forall_eq, Nat.reduceLT, Int.reduceSub, Nat.reduceAdd, Nat.reduceSub, Nat.reduceMul, Nat.reduceLeDiff, Nat.reduceEqDiff, Nat.reduceBEq, Nat.reduceBNe, Int.reduceNeg, Int.reduceAdd, Int.reduceMul, Int.reduceLE, Int.reduceLT, Int.reduceEq, Int.reduceToNat, reduceIte, reduceCtorEq, tbTaleX]; done) | (simp -dsimp only [↓bp, bq, br, afin, bsk, cWrites, opsWrites, pieceGh, rsk, ne_eq, if_true, if_false, exists_eq_left', forall_const, forall_eq, Nat.reduceLT, Int.reduceSub, Nat.reduceAdd, Nat.reduceSub, Nat.reduceMul, Nat.reduceLeDiff, Nat.reduceEqDiff, Nat.reduceBEq, Nat.reduceBNe, Int.reduceNeg, Int.reduceAdd, Int.reduceMul, Int.reduceLE, Int.reduceLT, Int.reduceEq, Int.reduceToNat, reduceIte, reduceCtorEq, tbTaleX]; rfl), by simpa using hO⟩ ?_
      clear hO h28 ha1
      rintro n v σ2 ⟨i, hi, rfl, h45, hO⟩
      simp -dsimp only [↓bp, bq, br, afin, bsk, cWrites, opsWrites, pieceGh, rsk, ne_eq, if_true, if_false, exists_eq_left', forall_const, forall_eq, Nat.reduceLT, Int.reduceSub, Nat.reduceAdd, Nat.reduceSub, Nat.reduceMul, Nat.reduceLeDiff, Nat.reduceEqDiff, Nat.reduceBEq, Nat.reduceBNe, Int.reduceNeg, Int.reduceAdd, Int.reduceMul, Int.reduceLE, Int.reduceLT, Int.reduceEq, Int.reduceToNat, reduceIte, reduceCtorEq, tbTaleX] at h45
      by_cases hlt : (i : Int) < s.names.length
      · obtain ⟨x, hx⟩ : ∃ x, s.names[i]? = some x := ⟨_, List.getElem?_eq_getElem (by omega)⟩
        have hw : IntKind.i64.wrap ((i : Int) + 1) = ((i + 1 : Nat) : Int) := by rw [wrap_nat (by omega) (by omega)]; rfl
        have ha1 : σ2.box b1 = some [encs s.out, encE s.ended, encN s.names, .int .i64 s.verdict, .int .i64 s.spent, .int .i64 s.clock] := hO.le.box _ _ ha
        obtain ⟨hp, hpl⟩ := htn x (List.mem_of_getElem? hx)
        obtain ⟨hq, hql⟩ := hin x (List.mem_of_getElem? hx)
        have hlt' := eq_true hlt
        have hjl : (Lib.join [namW, lineT (atomTm x.name), itoa x.pid] [32]).length ≤ 1000000000 := by rw [join3, List.length_append, List.length_cons, List.length_append, List.length_cons]; simp only [namW, List.length_cons, List.length_nil]; omega
        have hxl : (L2 ++ (s.names.take i).map namL).length ≤ 1000000000 := by rw [List.length_append, List.length_map, List.length_take]; omega
        clear htn hin hi1 hi2 hi3
        repeat' (first
    | with_reducible refine condW_both (fun _ _ => ?_) (fun _ _ => ?_)
    | with_reducible refine gW_both (fun _ _ => ?_) (fun _ _ => ?_)
    | with_reducible refine condW_split (fun _ => ?_) (fun _ => ?_)
    | with_reducible refine gW_split (fun _ => ?_) (fun _ => ?_)
    | with_reducible refine pickW_split (fun _ => ?_) (fun _ => ?_)
    | (refine newW_intro ?_; intro bx hbx; (try simp only [fresh_box, fresh_tip, fresh_ty] at hbx))
    | (refine newT_plain ?_; intro bx hbx; (try simp only [fresh_box, fresh_tip, fresh_ty] at hbx))
    | refine Pure.use (hp) ?_
    | refine Pure.head (hp) ?_
    | refine Pure.use (hq) ?_
    | refine Pure.head (hq) ?_
    | (refine draw_intro 9 (by kernel_rfl) rfl rfl ?_)
    | ((refine Tri.mono (putS_tri _ [namW, lineT (atomTm x.name), itoa x.pid] (by simp) (by simp) hjl hxl σa _ b3 (hO.newBox (by first | assumption | (simp only [*]; done)) _)) ?_; rintro r s2 ⟨rfl, hO2⟩))
    | refine storeX_w ?_
    | ((with_reducible refine And.intro ?_ ?_); omega)
    | refine bo_buildSlice (d' := ⟨⟩) ?_
    | (refine draw_all (by kernel_rfl) ?_)
    | refine finish_pure ?_ (by repeat' (first | exact AS.le.refl _ | assumption | (refine le_set (by first | assumption | (simp only [*]; done) | exact AS.le.fresh (by assumption) (by simp only [*])) ?_) | (refine le_ty (by first | assumption | (simp only [*]; done) | exact AS.le.fresh (by assumption) (by simp only [*])) ?_)))
    | simp -dsimp only [↓bp, bq, br, afin, bsk, cWrites, opsWrites, pieceGh, rsk, ne_eq, if_true, if_false, exists_eq_left', forall_const, forall_eq, Nat.reduceLT, Int.reduceSub, Nat.reduceAdd, Nat.reduceSub, Nat.reduceMul, Nat.reduceLeDiff, Nat.reduceEqDiff, Nat.reduceBEq, Nat.reduceBNe, Int.reduceNeg, Int.reduceAdd, Int.reduceMul, Int.reduceLE, Int.reduceLT, Int.reduceEq, Int.reduceToNat, reduceIte, reduceCtorEq, tbTaleX, *])
        all_goals
          rw [namL_eq] at hO2
          exact ⟨s.names.length - (i + 1), by omega, i + 1, by omega, rfl, rfl, by rw [take_succ_get _ _ _ hx, List.map_append, ← List.append_assoc]; exact hO2⟩
      · have : i = s.names.length := by omega
        subst this
        rw [List.take_length] at hO
        have hlt' := eq_false hlt
        generalize hL3 : L2 ++ s.names.map namL = L3 at *
        have m3 : L3.length ≤ 6000000 := by rw [← hL3, List.length_append, List.length_map]; omega
        have e1 := verL_eq s.verdict
        have e2 := speL_eq s.spent
        have e3 := cloL_eq s.clock
        have k1 : (Lib.join [[118, 101, 114, 100, 105, 99, 116], itoa s.verdict] [32]).length ≤ 1000000000 := by rw [join2, List.length_append, List.length_cons]; simp only [List.length_cons, List.length_nil]; omega
        have k2 : (Lib.join [[115, 112, 101, 110, 116], itoa s.spent] [32]).length ≤ 1000000000 := by rw [join2, List.length_append, List.length_cons]; simp only [List.length_cons, List.length_nil]; omega
        have k3 : (Lib.join [[99, 108, 111, 99, 107], itoa s.clock] [32]).length ≤ 1000000000 := by rw [join2, List.length_append, List.length_cons]; simp only [List.length_cons, List.length_nil]; omega
        have hT : tlines s = ((L3 ++ [verL s.verdict]) ++ [speL s.spent]) ++ [cloL s.clock] := by
          rw [← hL3, ← hL2, ← hL1]; simp [tlines]
        rw [hT]
        clear htn hin hlt hi hL1 hL2 hL3 hT
        have ha1 : σ2.box b1 = some [encs s.out, encE s.ended, encN s.names, .int .i64 s.verdict, .int .i64 s.spent, .int .i64 s.clock] := hO.le.box _ _ ha
        repeat' (first
    | with_reducible refine condW_both (fun _ _ => ?_) (fun _ _ => ?_)
    | with_reducible refine gW_both (fun _ _ => ?_) (fun _ _ => ?_)
    | with_reducible refine condW_split (fun _ => ?_) (fun _ => ?_)
    | with_reducible refine gW_split (fun _ => ?_) (fun _ => ?_)
    | with_reducible refine pickW_split (fun _ => ?_) (fun _ => ?_)
    | (refine newW_intro ?_; intro bx hbx; (try simp only [fresh_box, fresh_tip, fresh_ty] at hbx))
    | (refine newT_plain ?_; intro bx hbx; (try simp only [fresh_box, fresh_tip, fresh_ty] at hbx))
    | refine Pure.use (hi1) ?_
    | refine Pure.head (hi1) ?_
    | ((refine Tri.mono (putS_tri _ [[118, 101, 114, 100, 105, 99, 116], itoa s.verdict] (by simp) (by simp) k1 (by omega) σa _ b3 hO) ?_; rintro r s3 ⟨rfl, hO3⟩))
    | refine storeX_w ?_
    | ((with_reducible refine And.intro ?_ ?_); omega)
    | refine bo_buildSlice (d' := ⟨⟩) ?_
    | (refine draw_all (by kernel_rfl) ?_)
    | refine finish_pure ?_ (by repeat' (first | exact AS.le.refl _ | assumption | (refine le_set (by first | assumption | (simp only [*]; done) | exact AS.le.fresh (by assumption) (by simp only [*])) ?_) | (refine le_ty (by first | assumption | (simp only [*]; done) | exact AS.le.fresh (by assumption) (by simp only [*])) ?_)))
    | simp -dsimp only [↓bp, bq, br, afin, bsk, cWrites, opsWrites, pieceGh, rsk, ne_eq, if_true, if_false, exists_eq_left', forall_const, forall_eq, Nat.reduceLT, Int.reduceSub, Nat.reduceAdd, Nat.reduceSub, Nat.reduceMul, Nat.reduceLeDiff, Nat.reduceEqDiff, Nat.reduceBEq, Nat.reduceBNe, Int.reduceNeg, Int.reduceAdd, Int.reduceMul, Int.reduceLE, Int.reduceLT, Int.reduceEq, Int.reduceToNat, reduceIte, reduceCtorEq, tbTaleX, *])
        rw [e1] at hO3
        have ha2 : s3.box b1 = some [encs s.out, encE s.ended, encN s.names, .int .i64 s.verdict, .int .i64 s.spent, .int .i64 s.clock] := hO3.le.box _ _ ha
        repeat' (first
    | with_reducible refine condW_both (fun _ _ => ?_) (fun _ _ => ?_)
    | with_reducible refine gW_both (fun _ _ => ?_) (fun _ _ => ?_)
    | with_reducible refine condW_split (fun _ => ?_) (fun _ => ?_)
    | with_reducible refine gW_split (fun _ => ?_) (fun _ => ?_)
    | with_reducible refine pickW_split (fun _ => ?_) (fun _ => ?_)
    | (refine newW_intro ?_; intro bx hbx; (try simp only [fresh_box, fresh_tip, fresh_ty] at hbx))
    | (refine newT_plain ?_; intro bx hbx; (try simp only [fresh_box, fresh_tip, fresh_ty] at hbx))
    | refine Pure.use (hi2) ?_
    | refine Pure.head (hi2) ?_
    | ((refine Tri.mono (putS_tri _ [[115, 112, 101, 110, 116], itoa s.spent] (by simp) (by simp) k2 (by rw [List.length_append]; simp only [List.length_cons, List.length_nil]; omega) σa _ b3 hO3) ?_; rintro r s4 ⟨rfl, hO4⟩))
    | refine storeX_w ?_
    | ((with_reducible refine And.intro ?_ ?_); omega)
    | refine bo_buildSlice (d' := ⟨⟩) ?_
    | (refine draw_all (by kernel_rfl) ?_)
    | refine finish_pure ?_ (by repeat' (first | exact AS.le.refl _ | assumption | (refine le_set (by first | assumption | (simp only [*]; done) | exact AS.le.fresh (by assumption) (by simp only [*])) ?_) | (refine le_ty (by first | assumption | (simp only [*]; done) | exact AS.le.fresh (by assumption) (by simp only [*])) ?_)))
    | simp -dsimp only [↓bp, bq, br, afin, bsk, cWrites, opsWrites, pieceGh, rsk, ne_eq, if_true, if_false, exists_eq_left', forall_const, forall_eq, Nat.reduceLT, Int.reduceSub, Nat.reduceAdd, Nat.reduceSub, Nat.reduceMul, Nat.reduceLeDiff, Nat.reduceEqDiff, Nat.reduceBEq, Nat.reduceBNe, Int.reduceNeg, Int.reduceAdd, Int.reduceMul, Int.reduceLE, Int.reduceLT, Int.reduceEq, Int.reduceToNat, reduceIte, reduceCtorEq, tbTaleX, *])
        rw [e2] at hO4
        have ha3 : s4.box b1 = some [encs s.out, encE s.ended, encN s.names, .int .i64 s.verdict, .int .i64 s.spent, .int .i64 s.clock] := hO4.le.box _ _ ha
        repeat' (first
    | with_reducible refine condW_both (fun _ _ => ?_) (fun _ _ => ?_)
    | with_reducible refine gW_both (fun _ _ => ?_) (fun _ _ => ?_)
    | with_reducible refine condW_split (fun _ => ?_) (fun _ => ?_)
    | with_reducible refine gW_split (fun _ => ?_) (fun _ => ?_)
    | with_reducible refine pickW_split (fun _ => ?_) (fun _ => ?_)
    | (refine newW_intro ?_; intro bx hbx; (try simp only [fresh_box, fresh_tip, fresh_ty] at hbx))
    | (refine newT_plain ?_; intro bx hbx; (try simp only [fresh_box, fresh_tip, fresh_ty] at hbx))
    | refine Pure.use (hi3) ?_
    | refine Pure.head (hi3) ?_
    | ((refine Tri.mono (putS_tri _ [[99, 108, 111, 99, 107], itoa s.clock] (by simp) (by simp) k3 (by simp only [List.length_append, List.length_cons, List.length_nil]; omega) σa _ b3 hO4) ?_; rintro r s5 ⟨rfl, hO5⟩))
    | refine storeX_w ?_
    | ((with_reducible refine And.intro ?_ ?_); omega)
    | refine bo_buildSlice (d' := ⟨⟩) ?_
    | (refine draw_all (by kernel_rfl) ?_)
    | refine finish_pure ?_ (by repeat' (first | exact AS.le.refl _ | assumption | (refine le_set (by first | assumption | (simp only [*]; done) | exact AS.le.fresh (by assumption) (by simp only [*])) ?_) | (refine le_ty (by first | assumption | (simp only [*]; done) | exact AS.le.fresh (by assumption) (by simp only [*])) ?_)))
    | simp -dsimp only [↓bp, bq, br, afin, bsk, cWrites, opsWrites, pieceGh, rsk, ne_eq, if_true, if_false, exists_eq_left', forall_const, forall_eq, Nat.reduceLT, Int.reduceSub, Nat.reduceAdd, Nat.reduceSub, Nat.reduceMul, Nat.reduceLeDiff, Nat.reduceEqDiff, Nat.reduceBEq, Nat.reduceBNe, Int.reduceNeg, Int.reduceAdd, Int.reduceMul, Int.reduceLE, Int.reduceLT, Int.reduceEq, Int.reduceToNat, reduceIte, reduceCtorEq, tbTaleX, *])
        rw [e3] at hO5
        obtain ⟨v5, hv5, hB5⟩ := hO5.ex
        obtain ⟨o1, o2, o3⟩ := buf_one hB5
        have hle := hla.trans hO5.le
        repeat' (first
    | with_reducible refine condW_both (fun _ _ => ?_) (fun _ _ => ?_)
    | with_reducible refine gW_both (fun _ _ => ?_) (fun _ _ => ?_)
    | with_reducible refine condW_split (fun _ => ?_) (fun _ => ?_)
    | with_reducible refine gW_split (fun _ => ?_) (fun _ => ?_)
    | with_reducible refine pickW_split (fun _ => ?_) (fun _ => ?_)
    | (refine newW_intro ?_; intro bx hbx; (try simp only [fresh_box, fresh_tip, fresh_ty] at hbx))
    | (refine newT_plain ?_; intro bx hbx; (try simp only [fresh_box, fresh_tip, fresh_ty] at hbx))
    | refine storeX_w ?_
    | ((with_reducible refine And.intro ?_ ?_); omega)
    | refine bo_buildSlice (d' := ⟨⟩) ?_
    | (refine draw_all (by kernel_rfl) ?_)
    | refine finish_pure ?_ (by repeat' (first | exact AS.le.refl _ | assumption | (refine le_set (by first | assumption | (simp only [*]; done) | exact AS.le.fresh (by assumption) (by simp only [*])) ?_) | (refine le_ty (by first | assumption | (simp only [*]; done) | exact AS.le.fresh (by assumption) (by simp only [*])) ?_)))
    | simp -dsimp only [↓bp, bq, br, afin, bsk, cWrites, opsWrites, pieceGh, rsk, ne_eq, if_true, if_false, exists_eq_left', forall_const, forall_eq, Nat.reduceLT, Int.reduceSub, Nat.reduceAdd, Nat.reduceSub, Nat.reduceMul, Nat.reduceLeDiff, Nat.reduceEqDiff, Nat.reduceBEq, Nat.reduceBNe, Int.reduceNeg, Int.reduceAdd, Int.reduceMul, Int.reduceLE, Int.reduceLT, Int.reduceEq, Int.reduceToNat, reduceIte, reduceCtorEq, tbTaleX, *])
        exact finish_le (by simpa [texts] using hB5.told) hle
end Go.Proofs.YtpginpbcndlfmaaDoor
