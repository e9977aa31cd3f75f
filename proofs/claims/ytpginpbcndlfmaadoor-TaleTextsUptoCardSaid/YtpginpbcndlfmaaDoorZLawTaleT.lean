/- TaleTexts on abstract values. -/
import Derived.Test.YtpginpbcndlfmaaDoorZTaleW
import Derived.Test.YtpginpbcndlfmaaDoorZTaleB
set_option linter.unusedVariables false
set_option linter.unusedSimpArgs false
set_option maxRecDepth 20000
set_option linter.defProp false
namespace Go.Proofs.YtpginpbcndlfmaaDoor
open Go Go.Av
def tbLawTaleT := And.intro (And.intro (And.intro (And.intro @tf3 @tf4) (And.intro @tf5 (And.intro @tf9 @tf31))) (And.intro (And.intro @tf22 (And.intro @tf23 @tf24)) (And.intro @tf26 (And.intro @isv_encs @flat_encs)))) (And.intro (And.intro (And.intro @len_encs (And.intro @Seen.flat_enc @Seen.isv_enc)) (And.intro @Seen.fold_enc (And.intro @isv_encE @flat_encE))) (And.intro (And.intro @len_encE (And.intro @isv_encN @flat_encN)) (And.intro @len_encN (And.intro @len_texts @ix_texts))))
variable {G : Nat → AV}
set_option maxHeartbeats 4000000 in
theorem ttexts_at {a b : Seen} {L M : List (List UInt8)} {x y e e' : Bool} (w : Pure Tryd.prog G 5 [] (.bool true)) (ga : Pure Tryd.prog G 6 [a.enc] (.bool false)) (gb : Pure Tryd.prog G 6 [b.enc] (.bool false))
    (ta : Pure Tryd.prog G 10 [a.enc] (texts L)) (tb : Pure Tryd.prog G 10 [b.enc] (texts M)) (pa : Pure Tryd.prog G 13 [a.enc] (.bool x)) (pb : Pure Tryd.prog G 13 [b.enc] (.bool y))
    (sx : Pure Tryd.prog G 9 [texts L, texts M] (.bool e)) (sm : Pure Tryd.prog G 8 [a.enc, b.enc] (.bool e')) (h : x = true → y = true → e = e')
    (hl : (L.length : Int) = a.out.length + a.ended.length + a.names.length + 3) (hn : L.length ≤ 100000000) (hok : ∀ l, l ∈ L → okS l) (hlen : ∀ l, l ∈ L → l.length ≤ 1000000000) : Pure Tryd.prog G 4 [a.enc, b.enc] (.bool true) := by
  have w1 : IntKind.i64.wrap ((a.out.length : Int) + a.ended.length) = a.out.length + a.ended.length := wrap_nat (by omega) (by omega)
  have w2 : IntKind.i64.wrap ((a.out.length : Int) + a.ended.length + a.names.length) = a.out.length + a.ended.length + a.names.length := wrap_nat (by omega) (by omega)
  have w3 : IntKind.i64.wrap ((a.out.length : Int) + a.ended.length + a.names.length + 3) = a.out.length + a.ended.length + a.names.length + 3 := wrap_nat (by omega) (by omega)
  have hl' := eq_true hl
  clear hl
  intro σ
  refine Tri.of_awp mixed Tryd.func4 rfl (by kernel_rfl) (by kernel_rfl) (by simp [Tryd.ntmps4]) Tryd.results4 ?_
  repeat' (first
    | with_reducible refine condW_both (fun _ _ => ?_) (fun _ _ => ?_)
    | with_reducible refine gW_both (fun _ _ => ?_) (fun _ _ => ?_)
    | with_reducible refine condW_split (fun _ => ?_) (fun _ => ?_)
    | with_reducible refine gW_split (fun _ => ?_) (fun _ => ?_)
    | with_reducible refine pickW_split (fun _ => ?_) (fun _ => ?_)
    | (refine newW_intro ?_; intro bx hbx; (try simp only [fresh_box, fresh_tip, fresh_ty] at hbx))
    | (refine newT_plain ?_; intro bx hbx; (try simp only [fresh_box, fresh_tip, fresh_ty] at hbx))
    | refine Pure.use (w) ?_
    | refine Pure.head (w) ?_
    | refine Pure.use (ga) ?_
    | refine Pure.head (ga) ?_
    | refine Pure.use (gb) ?_
    | refine Pure.head (gb) ?_
    | refine Pure.use (ta) ?_
    | refine Pure.head (ta) ?_
    | refine storeX_w ?_
    | ((with_reducible refine And.intro ?_ ?_); omega)
    | refine bo_buildSlice (d' := ⟨⟩) ?_
    | (refine draw_all (by kernel_rfl) ?_)
    | refine finish_pure ?_ (by repeat' (first | exact AS.le.refl _ | assumption | (refine le_set (by first | assumption | (simp only [*]; done) | exact AS.le.fresh (by assumption) (by simp only [*])) ?_) | (refine le_ty (by first | assumption | (simp only [*]; done) | exact AS.le.fresh (by assumption) (by simp only [*])) ?_)))
    | simp -dsimp only [↓bp, bq, br, afin, bsk, cWrites, opsWrites, pieceGh, rsk, ne_eq, if_true, if_false, exists_eq_left', forall_const, forall_eq, Nat.reduceLT, Int.reduceSub, Nat.reduceAdd, Nat.reduceSub, Nat.reduceMul, Nat.reduceLeDiff, Nat.reduceEqDiff, Nat.reduceBEq, Nat.reduceBNe, Int.reduceNeg, Int.reduceAdd, Int.reduceMul, Int.reduceLE, Int.reduceLT, Int.reduceEq, Int.reduceToNat, reduceIte, reduceCtorEq, tbLawTaleT, *])
  clear w ga gb w1 w2 w3 hl'
  refine loop_keep mixed (fun n e => ∃ i : Nat, i ≤ L.length ∧ n = L.length - i ∧ e 6 = .int .i64 i) L.length
    ⟨0, by omega, by omega, by first | (simp -dsimp only [↓bp, bq, br, afin, bsk, cWrites, opsWrites, pieceGh, rsk, ne_eq, if_true, if_false, exists_eq_left', forall_const, forall_eq, Nat.reduceLT, Int.reduceSub, Nat.reduceAdd, Nat.reduceSub, Nat.reduceMul, Nat.reduceLeDiff, Nat.reduceEqDiff, Nat.reduceBEq, Nat.reduceBNe, Int.reduceNeg, Int.reduceAdd, Int.reduceMul, Int.reduceLE, Int.reduceLT, Int.reduceEq, Int.reduceToNat, reduceIte, reduceCtorEq, tbLawTaleT]; done) | (simp -dsimp only [↓bp, bq, br, afin, bsk, cWrites, opsWrites, pieceGh, rsk, ne_eq, if_true, if_false, exists_eq_left', forall_const, forall_eq, Nat.reduceLT, Int.reduceSub, Nat.reduceAdd, Nat.reduceSub, Nat.reduceMul, Nat.reduceLeDiff, Nat.reduceEqDiff, Nat.reduceBEq, Nat.reduceBNe, Int.reduceNeg, Int.reduceAdd, Int.reduceMul, Int.reduceLE, Int.reduceLT, Int.reduceEq, Int.reduceToNat, reduceIte, reduceCtorEq, tbLawTaleT]; rfl)⟩ ?_
  rintro n v ⟨i, hi, rfl, h6⟩
  simp -dsimp only [↓bp, bq, br, afin, bsk, cWrites, opsWrites, pieceGh, rsk, ne_eq, if_true, if_false, exists_eq_left', forall_const, forall_eq, Nat.reduceLT, Int.reduceSub, Nat.reduceAdd, Nat.reduceSub, Nat.reduceMul, Nat.reduceLeDiff, Nat.reduceEqDiff, Nat.reduceBEq, Nat.reduceBNe, Int.reduceNeg, Int.reduceAdd, Int.reduceMul, Int.reduceLE, Int.reduceLT, Int.reduceEq, Int.reduceToNat, reduceIte, reduceCtorEq, tbLawTaleT] at h6
  by_cases hlt : i < L.length
  · obtain ⟨s, hs⟩ : ∃ s, L[i]? = some s := ⟨_, List.getElem?_eq_getElem hlt⟩
    have hks := hok s (List.mem_of_getElem? hs)
    have hns := hlen s (List.mem_of_getElem? hs)
    have hw : IntKind.i64.wrap ((i : Int) + 1) = ((i + 1 : Nat) : Int) := by rw [wrap_nat (by omega) (by omega)]; rfl
    have hlt' : ((i : Int) < L.length) = True := eq_true (by omega)
    simp -dsimp only [↓bp, bq, br, afin, bsk, cWrites, opsWrites, pieceGh, rsk, ne_eq, if_true, if_false, exists_eq_left', forall_const, forall_eq, Nat.reduceLT, Int.reduceSub, Nat.reduceAdd, Nat.reduceSub, Nat.reduceMul, Nat.reduceLeDiff, Nat.reduceEqDiff, Nat.reduceBEq, Nat.reduceBNe, Int.reduceNeg, Int.reduceAdd, Int.reduceMul, Int.reduceLE, Int.reduceLT, Int.reduceEq, Int.reduceToNat, reduceIte, reduceCtorEq, tbLawTaleT, h6, hlt']
    refine loop_keep mixed (fun n e => ∃ k : Nat, k ≤ s.length ∧ n = s.length - k ∧ e 7 = .int .i64 k) s.length
      ⟨0, by omega, by omega, by first | (simp -dsimp only [↓bp, bq, br, afin, bsk, cWrites, opsWrites, pieceGh, rsk, ne_eq, if_true, if_false, exists_eq_left', forall_const, forall_eq, Nat.reduceLT, Int.reduceSub, Nat.reduceAdd, Nat.reduceSub, Nat.reduceMul, Nat.reduceLeDiff, Nat.reduceEqDiff, Nat.reduceBEq, Nat.reduceBNe, Int.reduceNeg, Int.reduceAdd, Int.reduceMul, Int.reduceLE, Int.reduceLT, Int.reduceEq, Int.reduceToNat, reduceIte, reduceCtorEq, tbLawTaleT]; done) | (simp -dsimp only [↓bp, bq, br, afin, bsk, cWrites, opsWrites, pieceGh, rsk, ne_eq, if_true, if_false, exists_eq_left', forall_const, forall_eq, Nat.reduceLT, Int.reduceSub, Nat.reduceAdd, Nat.reduceSub, Nat.reduceMul, Nat.reduceLeDiff, Nat.reduceEqDiff, Nat.reduceBEq, Nat.reduceBNe, Int.reduceNeg, Int.reduceAdd, Int.reduceMul, Int.reduceLE, Int.reduceLT, Int.reduceEq, Int.reduceToNat, reduceIte, reduceCtorEq, tbLawTaleT]; rfl)⟩ ?_
    rintro n2 v2 ⟨k, hk, rfl, h7⟩
    simp -dsimp only [↓bp, bq, br, afin, bsk, cWrites, opsWrites, pieceGh, rsk, ne_eq, if_true, if_false, exists_eq_left', forall_const, forall_eq, Nat.reduceLT, Int.reduceSub, Nat.reduceAdd, Nat.reduceSub, Nat.reduceMul, Nat.reduceLeDiff, Nat.reduceEqDiff, Nat.reduceBEq, Nat.reduceBNe, Int.reduceNeg, Int.reduceAdd, Int.reduceMul, Int.reduceLE, Int.reduceLT, Int.reduceEq, Int.reduceToNat, reduceIte, reduceCtorEq, tbLawTaleT] at h7
    by_cases hlk : k < s.length
    · obtain ⟨c, hc⟩ : ∃ c, s[k]? = some c := ⟨_, List.getElem?_eq_getElem hlk⟩
      have hkm := hks c (List.mem_of_getElem? hc)
      have k1 : ((c.toNat : Int) < 32) = False := eq_false (by omega)
      have k2 : (126 < (c.toNat : Int)) = False := eq_false (by omega)
      have hw2 : IntKind.i64.wrap ((k : Int) + 1) = ((k + 1 : Nat) : Int) := by rw [wrap_nat (by omega) (by omega)]; rfl
      have hlk' : ((k : Int) < s.length) = True := eq_true (by omega)
      simp -dsimp only [↓bp, bq, br, afin, bsk, cWrites, opsWrites, pieceGh, rsk, ne_eq, if_true, if_false, exists_eq_left', forall_const, forall_eq, Nat.reduceLT, Int.reduceSub, Nat.reduceAdd, Nat.reduceSub, Nat.reduceMul, Nat.reduceLeDiff, Nat.reduceEqDiff, Nat.reduceBEq, Nat.reduceBNe, Int.reduceNeg, Int.reduceAdd, Int.reduceMul, Int.reduceLE, Int.reduceLT, Int.reduceEq, Int.reduceToNat, reduceIte, reduceCtorEq, tbLawTaleT, h6, h7, hs, hlk', hc, k1, k2, hw2]
      exact ⟨s.length - (k + 1), by omega, k + 1, by omega, rfl, rfl⟩
    · have : k = s.length := by omega
      subst this
      have hlk' : ((s.length : Int) < s.length) = False := eq_false (by omega)
      simp -dsimp only [↓bp, bq, br, afin, bsk, cWrites, opsWrites, pieceGh, rsk, ne_eq, if_true, if_false, exists_eq_left', forall_const, forall_eq, Nat.reduceLT, Int.reduceSub, Nat.reduceAdd, Nat.reduceSub, Nat.reduceMul, Nat.reduceLeDiff, Nat.reduceEqDiff, Nat.reduceBEq, Nat.reduceBNe, Int.reduceNeg, Int.reduceAdd, Int.reduceMul, Int.reduceLE, Int.reduceLT, Int.reduceEq, Int.reduceToNat, reduceIte, reduceCtorEq, tbLawTaleT, h6, h7, hs, hlk', hw]
      exact ⟨L.length - (i + 1), by omega, i + 1, by omega, rfl, rfl⟩
  · have : i = L.length := by omega
    subst this
    have hge : ((L.length : Int) < L.length) = False := eq_false (by omega)
    clear hok hlen hn hlt hi
    simp -dsimp only [↓bp, bq, br, afin, bsk, cWrites, opsWrites, pieceGh, rsk, ne_eq, if_true, if_false, exists_eq_left', forall_const, forall_eq, Nat.reduceLT, Int.reduceSub, Nat.reduceAdd, Nat.reduceSub, Nat.reduceMul, Nat.reduceLeDiff, Nat.reduceEqDiff, Nat.reduceBEq, Nat.reduceBNe, Int.reduceNeg, Int.reduceAdd, Int.reduceMul, Int.reduceLE, Int.reduceLT, Int.reduceEq, Int.reduceToNat, reduceIte, reduceCtorEq, tbLawTaleT, h6, hge]
    have hc : x = false ∨ (x = true ∧ y = false) ∨ (x = true ∧ y = true ∧ e = e' ∧ e' = true) ∨ (x = true ∧ y = true ∧ e = e' ∧ e' = false) := by
      cases x <;> cases y <;> cases e <;> cases e' <;> simp_all
    clear h
    rcases hc with rfl | ⟨rfl, rfl⟩ | ⟨rfl, rfl, rfl, rfl⟩ | ⟨rfl, rfl, rfl, rfl⟩
    all_goals
      repeat' (first
    | with_reducible refine condW_both (fun _ _ => ?_) (fun _ _ => ?_)
    | with_reducible refine gW_both (fun _ _ => ?_) (fun _ _ => ?_)
    | with_reducible refine condW_split (fun _ => ?_) (fun _ => ?_)
    | with_reducible refine gW_split (fun _ => ?_) (fun _ => ?_)
    | with_reducible refine pickW_split (fun _ => ?_) (fun _ => ?_)
    | (refine newW_intro ?_; intro bx hbx; (try simp only [fresh_box, fresh_tip, fresh_ty] at hbx))
    | (refine newT_plain ?_; intro bx hbx; (try simp only [fresh_box, fresh_tip, fresh_ty] at hbx))
    | refine Pure.use (pa) ?_
    | refine Pure.head (pa) ?_
    | refine Pure.use (pb) ?_
    | refine Pure.head (pb) ?_
    | refine Pure.use (tb) ?_
    | refine Pure.head (tb) ?_
    | refine Pure.use (sx) ?_
    | refine Pure.head (sx) ?_
    | refine Pure.use (sm) ?_
    | refine Pure.head (sm) ?_
    | refine storeX_w ?_
    | ((with_reducible refine And.intro ?_ ?_); omega)
    | refine bo_buildSlice (d' := ⟨⟩) ?_
    | (refine draw_all (by kernel_rfl) ?_)
    | refine finish_pure ?_ (by repeat' (first | exact AS.le.refl _ | assumption | (refine le_set (by first | assumption | (simp only [*]; done) | exact AS.le.fresh (by assumption) (by simp only [*])) ?_) | (refine le_ty (by first | assumption | (simp only [*]; done) | exact AS.le.fresh (by assumption) (by simp only [*])) ?_)))
    | simp -dsimp only [↓bp, bq, br, afin, bsk, cWrites, opsWrites, pieceGh, rsk, ne_eq, if_true, if_false, exists_eq_left', forall_const, forall_eq, Nat.reduceLT, Int.reduceSub, Nat.reduceAdd, Nat.reduceSub, Nat.reduceMul, Nat.reduceLeDiff, Nat.reduceEqDiff, Nat.reduceBEq, Nat.reduceBNe, Int.reduceNeg, Int.reduceAdd, Int.reduceMul, Int.reduceLE, Int.reduceLT, Int.reduceEq, Int.reduceToNat, reduceIte, reduceCtorEq, tbLawTaleT, *])
      all_goals rfl
theorem ttexts_great {a b : Seen} {x y : Bool} (h : x = true ∨ x = false ∧ y = true) (w : Pure Tryd.prog G 5 [] (.bool true)) (ga : Pure Tryd.prog G 6 [a.enc] (.bool x)) (gb : Pure Tryd.prog G 6 [b.enc] (.bool y)) : Pure Tryd.prog G 4 [a.enc, b.enc] (.bool true) := by
  rcases h with rfl | ⟨rfl, rfl⟩
  all_goals
    intro σ
    refine Tri.of_awp mixed Tryd.func4 rfl (by kernel_rfl) (by kernel_rfl) (by simp [Tryd.ntmps4]) Tryd.results4 ?_
    repeat' (first
    | with_reducible refine condW_both (fun _ _ => ?_) (fun _ _ => ?_)
    | with_reducible refine gW_both (fun _ _ => ?_) (fun _ _ => ?_)
    | with_reducible refine condW_split (fun _ => ?_) (fun _ => ?_)
    | with_reducible refine gW_split (fun _ => ?_) (fun _ => ?_)
    | with_reducible refine pickW_split (fun _ => ?_) (fun _ => ?_)
    | (refine newW_intro ?_; intro bx hbx; (try simp only [fresh_box, fresh_tip, fresh_ty] at hbx))
    | (refine newT_plain ?_; intro bx hbx; (try simp only [fresh_box, fresh_tip, fresh_ty] at hbx))
    | refine Pure.use (w) ?_
    | refine Pure.head (w) ?_
    | refine Pure.use (ga) ?_
    | refine Pure.head (ga) ?_
    | refine Pure.use (gb) ?_
    | refine Pure.head (gb) ?_
    | refine storeX_w ?_
    | ((with_reducible refine And.intro ?_ ?_); omega)
    | refine bo_buildSlice (d' := ⟨⟩) ?_
    | (refine draw_all (by kernel_rfl) ?_)
    | refine finish_pure ?_ (by repeat' (first | exact AS.le.refl _ | assumption | (refine le_set (by first | assumption | (simp only [*]; done) | exact AS.le.fresh (by assumption) (by simp only [*])) ?_) | (refine le_ty (by first | assumption | (simp only [*]; done) | exact AS.le.fresh (by assumption) (by simp only [*])) ?_)))
    | simp -dsimp only [↓bp, bq, br, afin, bsk, cWrites, opsWrites, pieceGh, rsk, ne_eq, if_true, if_false, exists_eq_left', forall_const, forall_eq, Nat.reduceLT, Int.reduceSub, Nat.reduceAdd, Nat.reduceSub, Nat.reduceMul, Nat.reduceLeDiff, Nat.reduceEqDiff, Nat.reduceBEq, Nat.reduceBNe, Int.reduceNeg, Int.reduceAdd, Int.reduceMul, Int.reduceLE, Int.reduceLT, Int.reduceEq, Int.reduceToNat, reduceIte, reduceCtorEq, tbLawTaleT, *])
    all_goals rfl
theorem tlines_lens {s : Seen} (hb : s.bulk ≤ 2000000) (hr : s.Rng) : ∀ l, l ∈ tlines s → l.length ≤ 1000000000 := by
  intro l hl
  have hi : ∀ n, i64R n → (itoa n).length ≤ 31 := fun n hn => itoa_len2 n hn.1 hn.2
  unfold tlines at hl
  simp only [List.mem_append, List.mem_map, List.mem_cons, List.not_mem_nil, or_false] at hl
  unfold Seen.bulk at hb
  rcases hl with ⟨t, ht, rfl⟩ | ⟨e, he, rfl⟩ | ⟨n, hn, rfl⟩ | rfl | rfl | rfl
  · have := lineT_len t (by have := bulk_mem ht; omega)
    simp only [outL, List.length_cons, List.length_append, List.length_nil]; omega
  · have := lineT_len e.reason (by have := bulkE_mem he; omega)
    have := hi _ (hr.ended e he)
    simp only [endL, List.length_cons, List.length_append, List.length_nil]; omega
  · have h1 : (atomTm n.name).bulk ≤ 2000000 := by have := bulkN_mem hn; simp only [atomTm, Term.bulk, bulks, List.length_nil]; omega
    have := lineT_len _ h1
    have := hi _ (hr.names n hn)
    simp only [namL, List.length_cons, List.length_append, List.length_nil]; omega
  · have := hi _ hr.verdict
    simp only [verL, List.length_cons, List.length_append, List.length_nil]; omega
  · have := hi _ hr.spent
    simp only [speL, List.length_cons, List.length_append, List.length_nil]; omega
  · have := hi _ hr.clock
    simp only [cloL, List.length_cons, List.length_append, List.length_nil]; omega
theorem ttexts_law (hg : GlobT G) (a b : Seen) (ha : a.bulk ≤ 2000000) (hb : b.bulk ≤ 2000000) (ra : a.Rng) (rb : b.Rng) : Pure Tryd.prog G 4 [a.enc, b.enc] (.bool true) := by
  have w := awake_pure hg
  have ga := greatS_pure G a ha
  have gb := greatS_pure G b hb
  by_cases hgo : greatS a = true ∨ greatS a = false ∧ greatS b = true
  · exact ttexts_great hgo w ga gb
  · have e : greatS a = false ∧ greatS b = false := by
      cases h1 : greatS a <;> cases h2 : greatS b <;> simp_all
    rw [e.1] at ga
    rw [e.2] at gb
    have hn : ∀ s : Seen, s.bulk ≤ 2000000 → (tlines s).length ≤ 100000000 := fun s hs => by
      rw [tlines_len]
      have := len_le_bulks s.out
      have := lenE_le s.ended
      have := lenN_le s.names
      unfold Seen.bulk at hs
      omega
    refine ttexts_at w ga gb (taleText_pure hg a ha ra) (taleText_pure hg b hb rb) (plainS_pure G a ha) (plainS_pure G b hb)
      (sameX_pure G _ _ (by have := hn a ha; omega) (by have := hn b hb; omega)) (sameS_pure G a b (by omega) (by omega)) (fun h1 h2 => ?_) (by rw [tlines_len]; omega) (hn a ha) (tlines_ok a) (tlines_lens ha ra)
    rw [Bool.eq_iff_iff, decide_eq_true_eq, sameS_iff]
    exact ⟨tlines_inj h1 h2, fun e => by rw [e]⟩
end Go.Proofs.YtpginpbcndlfmaaDoor
