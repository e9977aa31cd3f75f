/- The chapter's examples. -/
import Derived.Test.YtpginpbcndlfmaaDoorZTaleX
set_option linter.unusedVariables false
set_option linter.unusedSimpArgs false
set_option maxRecDepth 20000
set_option linter.defProp false
namespace Go.Proofs.YtpginpbcndlfmaaDoor
open Go Go.Av
def tbTaleW := And.intro (And.intro (And.intro (And.intro (And.intro @tf3 @tf4) (And.intro @tf5 (And.intro @tf61 @tf9))) (And.intro (And.intro @tf31 @tf38) (And.intro @tf37 (And.intro @tf22 @tf40)))) (And.intro (And.intro (And.intro @tf23 @tf44) (And.intro @tf24 (And.intro @tf46 @tf26))) (And.intro (And.intro @Term.flat_enc @Term.isv_enc) (And.intro @Term.fold_enc (And.intro @isv_encs @flat_encs))))) (And.intro (And.intro (And.intro (And.intro @len_encs @ix_encs) (And.intro @isv_lims (And.intro @flat_lims @len_lims))) (And.intro (And.intro @Ended.flat_enc @Ended.isv_enc) (And.intro @Named.flat_enc (And.intro @Named.isv_enc @Named.fold_enc)))) (And.intro (And.intro (And.intro @Seen.flat_enc @Seen.isv_enc) (And.intro @isv_encE (And.intro @flat_encE @len_encE))) (And.intro (And.intro @ix_encE @isv_encN) (And.intro @flat_encN (And.intro @len_encN @ix_encN)))))
variable {G : Nat → AV}
def aT : Term := atomTm [97]
def bT : Term := atomTm [98]
def nT : Term := atomTm [110, 111, 114, 109, 97, 108]
def smallS : Seen := ⟨[aT], [⟨1, nT⟩], [⟨[115, 114, 118], 2⟩], 2, 9, 0⟩
def moreS : Seen := ⟨[aT, bT], [⟨1, nT⟩], [⟨[115, 114, 118], 2⟩], 2, 9, 0⟩
def smallF : AV := .agg [.sl .full [aT.enc] [], .sl .full [(Ended.mk 1 nT).enc] [], .sl .full [(Named.mk [115, 114, 118] 2).enc] [], .int .i64 2, .int .i64 9, .int .i64 0]
theorem seen_le (s : Seen) {cs : List AV} (h : Les cs [encs s.out, encE s.ended, encN s.names, .int .i64 s.verdict, .int .i64 s.spent, .int .i64 s.clock]) : Le (.agg cs) s.enc := by
  rw [← Seen.fold_enc s]
  exact Le.agg h (fun d hd => by simp at hd; rcases hd with rfl | rfl | rfl | rfl | rfl | rfl <;> rfl)
theorem small_le : Le smallF smallS.enc := seen_le smallS (.cons Le.gh (.cons Le.gh (.cons Le.gh (.cons (Le.refl _) (.cons (Le.refl _) (.cons (Le.refl _) .nil))))))
theorem atomK_pure (s : List UInt8) : Pure Tryd.prog G 15 [.str s] (atomTm s).enc := by
  refine Pure.of_le fun σ => ?_
  refine Tri.of_awp mixed Tryd.func15 rfl (by kernel_rfl) (by kernel_rfl) (by simp [Tryd.ntmps15]) Tryd.results15 ?_
  repeat' (first
    | with_reducible refine condW_both (fun _ _ => ?_) (fun _ _ => ?_)
    | with_reducible refine gW_both (fun _ _ => ?_) (fun _ _ => ?_)
    | with_reducible refine condW_split (fun _ => ?_) (fun _ => ?_)
    | with_reducible refine gW_split (fun _ => ?_) (fun _ => ?_)
    | with_reducible refine pickW_split (fun _ => ?_) (fun _ => ?_)
    | (refine newW_intro ?_; intro bx hbx; (try simp only [fresh_box, fresh_tip, fresh_ty] at hbx))
    | (refine newT_plain ?_; intro bx hbx; (try simp only [fresh_box, fresh_tip, fresh_ty] at hbx))
    | refine storeX_w ?_
    | ((with_reducible refine And.intro ?_ ?_); omega)
    | refine bo_buildSlice (d' := ⟨⟩) ?_
    | (refine draw_all (by kernel_rfl) ?_)
    | refine finish_pure ?_ (by repeat' (first | exact AS.le.refl _ | assumption | (refine le_set (by first | assumption | (simp only [*]; done) | exact AS.le.fresh (by assumption) (by simp only [*])) ?_) | (refine le_ty (by first | assumption | (simp only [*]; done) | exact AS.le.fresh (by assumption) (by simp only [*])) ?_)))
    | simp -dsimp only [↓bp, bq, br, afin, bsk, cWrites, opsWrites, pieceGh, rsk, ne_eq, if_true, if_false, exists_eq_left', forall_const, forall_eq, Nat.reduceLT, Int.reduceSub, Nat.reduceAdd, Nat.reduceSub, Nat.reduceMul, Nat.reduceLeDiff, Nat.reduceEqDiff, Nat.reduceBEq, Nat.reduceBNe, Int.reduceNeg, Int.reduceAdd, Int.reduceMul, Int.reduceLE, Int.reduceLT, Int.reduceEq, Int.reduceToNat, reduceIte, reduceCtorEq, tbTaleW, *])
  exact finish_le (enc_nil 2 false s 0) (by repeat' (first | exact AS.le.refl _ | assumption | (refine le_set (by first | assumption | (simp only [*]; done) | exact AS.le.fresh (by assumption) (by simp only [*])) ?_)))
theorem small_pure : Pure Tryd.prog G 14 [] smallF := by
  have h1 : Pure Tryd.prog G 15 [.str [97]] aT.enc := atomK_pure _
  have h2 : Pure Tryd.prog G 15 [.str [110, 111, 114, 109, 97, 108]] nT.enc := atomK_pure _
  intro σ
  refine Tri.of_awp mixed Tryd.func14 rfl (by kernel_rfl) (by kernel_rfl) (by simp [Tryd.ntmps14]) Tryd.results14 ?_
  repeat' (first
    | with_reducible refine condW_both (fun _ _ => ?_) (fun _ _ => ?_)
    | with_reducible refine gW_both (fun _ _ => ?_) (fun _ _ => ?_)
    | with_reducible refine condW_split (fun _ => ?_) (fun _ => ?_)
    | with_reducible refine gW_split (fun _ => ?_) (fun _ => ?_)
    | with_reducible refine pickW_split (fun _ => ?_) (fun _ => ?_)
    | (refine newW_intro ?_; intro bx hbx; (try simp only [fresh_box, fresh_tip, fresh_ty] at hbx))
    | (refine newT_plain ?_; intro bx hbx; (try simp only [fresh_box, fresh_tip, fresh_ty] at hbx))
    | refine Pure.use (h1) ?_
    | refine Pure.head (h1) ?_
    | refine Pure.use (h2) ?_
    | refine Pure.head (h2) ?_
    | refine storeX_w ?_
    | ((with_reducible refine And.intro ?_ ?_); omega)
    | refine bo_buildSlice (d' := ⟨⟩) ?_
    | (refine draw_all (by kernel_rfl) ?_)
    | refine finish_pure ?_ (by repeat' (first | exact AS.le.refl _ | assumption | (refine le_set (by first | assumption | (simp only [*]; done) | exact AS.le.fresh (by assumption) (by simp only [*])) ?_) | (refine le_ty (by first | assumption | (simp only [*]; done) | exact AS.le.fresh (by assumption) (by simp only [*])) ?_)))
    | simp -dsimp only [↓bp, bq, br, afin, bsk, cWrites, opsWrites, pieceGh, rsk, ne_eq, if_true, if_false, exists_eq_left', forall_const, forall_eq, Nat.reduceLT, Int.reduceSub, Nat.reduceAdd, Nat.reduceSub, Nat.reduceMul, Nat.reduceLeDiff, Nat.reduceEqDiff, Nat.reduceBEq, Nat.reduceBNe, Int.reduceNeg, Int.reduceAdd, Int.reduceMul, Int.reduceLE, Int.reduceLT, Int.reduceEq, Int.reduceToNat, reduceIte, reduceCtorEq, tbTaleW, *])
  all_goals rfl
theorem small_rng : smallS.Rng := ⟨fun e he => by simp [smallS] at he; subst he; unfold i64R; decide, fun n hn => by simp [smallS] at hn; subst hn; unfold i64R; decide, by unfold i64R; decide, by unfold i64R; decide, by unfold i64R; decide⟩
def lines6 : List (List UInt8) := [[111, 117, 116, 32, 97], [101, 110, 100, 101, 100, 32, 49, 32, 110, 111, 114, 109, 97, 108], [110, 97, 109, 101, 32, 115, 114, 118, 32, 50], [118, 101, 114, 100, 105, 99, 116, 32, 50], [115, 112, 101, 110, 116, 32, 57], [99, 108, 111, 99, 107, 32, 48]]
theorem small_lines : tlines smallS = lines6 := by decide +kernel
theorem small_bulk : smallS.bulk ≤ 2000000 := by decide
theorem more_bulk : moreS.bulk ≤ 2000000 := by decide
theorem same_more : sameS smallS moreS = false := by
  rw [Bool.eq_false_iff]
  intro h
  have := congrArg (fun s => s.out.length) ((sameS_iff _ _).1 h)
  simp [smallS, moreS] at this
theorem within_more : within smallS moreS = true := (within_iff _ _).2 ⟨by decide, by decide, ⟨[bT], rfl⟩, List.prefix_refl _⟩
theorem more_within : within moreS smallS = false := by
  rw [Bool.eq_false_iff]
  intro h
  have := ((within_iff _ _).1 h).2.2.1.length_le
  simp [smallS, moreS] at this
theorem le_fullX (l : List (List UInt8)) : Le (.sl .full (l.map AV.str) []) (texts l) := Le.gh
set_option maxHeartbeats 2000000 in
theorem awake_pure (hg : GlobT G) : Pure Tryd.prog G 5 [] (.bool true) := by
  have hs : Pure Tryd.prog G 14 [] smallF := small_pure
  have hb : Pure Tryd.prog G 15 [.str [98]] bT.enc := atomK_pure _
  have ht := (taleText_pure hg smallS small_bulk small_rng).lessArgs (.cons small_le .nil)
  rw [small_lines] at ht
  have hx := (sameX_pure G lines6 lines6 (by decide) (by decide)).lessArgs (args := [texts lines6, .sl .full (lines6.map AV.str) []]) (.cons (Le.refl _) (.cons (le_fullX _) .nil))
  rw [decide_eq_true rfl] at hx
  have h1 := (sameS_pure G smallS smallS (by have := small_bulk; omega) (by have := small_bulk; omega)).lessArgs (.cons small_le (.cons small_le .nil))
  rw [(sameS_iff _ _).2 rfl] at h1
  have h2 := sameS_pure G smallS moreS (by have := small_bulk; omega) (by have := more_bulk; omega)
  have h3 := within_pure G smallS moreS (by have := small_bulk; omega) (by have := more_bulk; omega)
  have h4 := within_pure G moreS smallS (by have := more_bulk; omega) (by have := small_bulk; omega)
  rw [same_more] at h2
  rw [within_more] at h3
  rw [more_within] at h4
  unfold smallF at hs ht h1
  clear hg
  intro σ
  refine Tri.of_awp mixed Tryd.func5 rfl (by kernel_rfl) (by kernel_rfl) (by simp [Tryd.ntmps5]) Tryd.results5 ?_
  repeat' (first
    | with_reducible refine condW_both (fun _ _ => ?_) (fun _ _ => ?_)
    | with_reducible refine gW_both (fun _ _ => ?_) (fun _ _ => ?_)
    | with_reducible refine condW_split (fun _ => ?_) (fun _ => ?_)
    | with_reducible refine gW_split (fun _ => ?_) (fun _ => ?_)
    | with_reducible refine pickW_split (fun _ => ?_) (fun _ => ?_)
    | (refine newW_intro ?_; intro bx hbx; (try simp only [fresh_box, fresh_tip, fresh_ty] at hbx))
    | (refine newT_plain ?_; intro bx hbx; (try simp only [fresh_box, fresh_tip, fresh_ty] at hbx))
    | refine Pure.use (hs) ?_
    | refine Pure.head (hs) ?_
    | refine Pure.use (hb) ?_
    | refine Pure.head (hb) ?_
    | refine storeX_w ?_
    | ((with_reducible refine And.intro ?_ ?_); omega)
    | refine bo_buildSlice (d' := ⟨⟩) ?_
    | (refine draw_all (by kernel_rfl) ?_)
    | refine finish_pure ?_ (by repeat' (first | exact AS.le.refl _ | assumption | (refine le_set (by first | assumption | (simp only [*]; done) | exact AS.le.fresh (by assumption) (by simp only [*])) ?_) | (refine le_ty (by first | assumption | (simp only [*]; done) | exact AS.le.fresh (by assumption) (by simp only [*])) ?_)))
    | simp -dsimp only [↓bp, bq, br, afin, bsk, cWrites, opsWrites, pieceGh, rsk, ne_eq, if_true, if_false, exists_eq_left', forall_const, forall_eq, Nat.reduceLT, Int.reduceSub, Nat.reduceAdd, Nat.reduceSub, Nat.reduceMul, Nat.reduceLeDiff, Nat.reduceEqDiff, Nat.reduceBEq, Nat.reduceBNe, Int.reduceNeg, Int.reduceAdd, Int.reduceMul, Int.reduceLE, Int.reduceLT, Int.reduceEq, Int.reduceToNat, reduceIte, reduceCtorEq, tbTaleW, *])
  obtain ⟨S, hS⟩ : ∃ S, S = σ.setBox bx [.sl .full [aT.enc] [], .sl .full [(Ended.mk 1 nT).enc] [], .sl .full [(Named.mk [115, 114, 118] 2).enc] [], .int .i64 2, .int .i64 9, .int .i64 0] := ⟨_, rfl⟩
  have hle : σ.le S := by rw [hS]; exact le_set hbx (AS.le.refl σ)
  have hSb : S.box bx = some [.sl .full [aT.enc] [], .sl .full [(Ended.mk 1 nT).enc] [], .sl .full [(Named.mk [115, 114, 118] 2).enc] [], .int .i64 2, .int .i64 9, .int .i64 0] := by rw [hS]; simp [AS.setBox]
  rw [← hS]
  refine app_full (ys := [bT.enc]) (σ0 := S) (AS.le.refl _) (fun a ha => by simp at ha; subst ha; rw [Term.flat_enc]; rfl) tfN (asrc_sl tfE) (fun a ha => by simp at ha; subst ha; rw [Term.flat_enc]; rfl) (by simp) (fun h => by cases h) (fun v3 σ3 hB4 hx4 => ?_)
  obtain ⟨p1, p2, p3⟩ := buf_one hB4
  have hb3 : σ3.box bx = some [.sl .full [aT.enc] [], .sl .full [(Ended.mk 1 nT).enc] [], .sl .full [(Named.mk [115, 114, 118] 2).enc] [], .int .i64 2, .int .i64 9, .int .i64 0] := by rw [hx4]; exact hSb
  have hm : Le (.agg [v3, .sl .full [(Ended.mk 1 nT).enc] [], .sl .full [(Named.mk [115, 114, 118] 2).enc] [], .int .i64 2, .int .i64 9, .int .i64 0]) moreS.enc :=
    seen_le moreS (.cons hB4.told (.cons Le.gh (.cons Le.gh (.cons (Le.refl _) (.cons (Le.refl _) (.cons (Le.refl _) .nil))))))
  have hsm := small_le
  unfold smallF at hsm
  have h2 := h2.lessArgs (.cons hsm (.cons hm .nil))
  have h3 := h3.lessArgs (.cons hsm (.cons hm .nil))
  have h4 := h4.lessArgs (.cons hm (.cons hsm .nil))
  have hfin : σ.le (σ3.setBox bx [v3, .sl .full [(Ended.mk 1 nT).enc] [], .sl .full [(Named.mk [115, 114, 118] 2).enc] [], .int .i64 2, .int .i64 9, .int .i64 0]) := le_set hbx (hle.trans hB4.le)
  clear hm hsm hB4 hx4 hle hS hSb hb
  repeat' (first
    | with_reducible refine condW_both (fun _ _ => ?_) (fun _ _ => ?_)
    | with_reducible refine gW_both (fun _ _ => ?_) (fun _ _ => ?_)
    | with_reducible refine condW_split (fun _ => ?_) (fun _ => ?_)
    | with_reducible refine gW_split (fun _ => ?_) (fun _ => ?_)
    | with_reducible refine pickW_split (fun _ => ?_) (fun _ => ?_)
    | (refine newW_intro ?_; intro bx hbx; (try simp only [fresh_box, fresh_tip, fresh_ty] at hbx))
    | (refine newT_plain ?_; intro bx hbx; (try simp only [fresh_box, fresh_tip, fresh_ty] at hbx))
    | refine Pure.use (hs) ?_
    | refine Pure.head (hs) ?_
    | refine Pure.use (ht) ?_
    | refine Pure.head (ht) ?_
    | refine Pure.use (hx) ?_
    | refine Pure.head (hx) ?_
    | refine Pure.use (h1) ?_
    | refine Pure.head (h1) ?_
    | refine Pure.use (h2) ?_
    | refine Pure.head (h2) ?_
    | refine Pure.use (h3) ?_
    | refine Pure.head (h3) ?_
    | refine Pure.use (h4) ?_
    | refine Pure.head (h4) ?_
    | refine storeX_w ?_
    | ((with_reducible refine And.intro ?_ ?_); omega)
    | refine bo_buildSlice (d' := ⟨⟩) ?_
    | (refine draw_all (by kernel_rfl) ?_)
    | refine finish_pure ?_ (by repeat' (first | exact AS.le.refl _ | assumption | (refine le_set (by first | assumption | (simp only [*]; done) | exact AS.le.fresh (by assumption) (by simp only [*])) ?_) | (refine le_ty (by first | assumption | (simp only [*]; done) | exact AS.le.fresh (by assumption) (by simp only [*])) ?_)))
    | simp -dsimp only [↓bp, bq, br, afin, bsk, cWrites, opsWrites, pieceGh, rsk, ne_eq, if_true, if_false, exists_eq_left', forall_const, forall_eq, Nat.reduceLT, Int.reduceSub, Nat.reduceAdd, Nat.reduceSub, Nat.reduceMul, Nat.reduceLeDiff, Nat.reduceEqDiff, Nat.reduceBEq, Nat.reduceBNe, Int.reduceNeg, Int.reduceAdd, Int.reduceMul, Int.reduceLE, Int.reduceLT, Int.reduceEq, Int.reduceToNat, reduceIte, reduceCtorEq, tbTaleW, *])
  all_goals skip
end Go.Proofs.YtpginpbcndlfmaaDoor
