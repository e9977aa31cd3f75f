/- TaleOrder on abstract values. -/
import Derived.Test.YtpginpbcndlfmaaDoorZTaleW
import Derived.Test.YtpginpbcndlfmaaDoorZTaleB
set_option linter.unusedVariables false
set_option linter.unusedSimpArgs false
set_option maxRecDepth 20000
set_option linter.defProp false
namespace Go.Proofs.YtpginpbcndlfmaaDoor
open Go Go.Av
def tbLawTale := And.intro (And.intro (And.intro (And.intro @tf3 @tf4) (And.intro @tf5 (And.intro @tf9 @tf31))) (And.intro (And.intro @tf22 @tf23) (And.intro @tf24 (And.intro @tf26 @isv_encs)))) (And.intro (And.intro (And.intro @flat_encs @len_encs) (And.intro @Seen.flat_enc (And.intro @Seen.isv_enc @Seen.fold_enc))) (And.intro (And.intro @isv_encE (And.intro @flat_encE @len_encE)) (And.intro @isv_encN (And.intro @flat_encN @len_encN))))
variable {G : Nat → AV}
/-- what the comparisons and the looks beside them answer -/
structure TEnds (G : Nat → AV) (a b c : Seen) (m n : Int) (p q : Nat) (X Y Z V S T : Bool) : Prop where
  w : Pure Tryd.prog G 5 [] (.bool true)
  ga : Pure Tryd.prog G 6 [a.enc] (.bool false)
  gb : Pure Tryd.prog G 6 [b.enc] (.bool false)
  gc : Pure Tryd.prog G 6 [c.enc] (.bool false)
  waa : Pure Tryd.prog G 7 [a.enc, a.enc] (.bool true)
  saa : Pure Tryd.prog G 8 [a.enc, a.enc] (.bool true)
  wab : Pure Tryd.prog G 7 [a.enc, b.enc] (.bool X)
  wbc : Pure Tryd.prog G 7 [b.enc, c.enc] (.bool Y)
  wac : Pure Tryd.prog G 7 [a.enc, c.enc] (.bool Z)
  wba : Pure Tryd.prog G 7 [b.enc, a.enc] (.bool V)
  sab : Pure Tryd.prog G 8 [a.enc, b.enc] (.bool S)
  sba : Pure Tryd.prog G 8 [b.enc, a.enc] (.bool S)
  sad : X = true → V = true → Pure Tryd.prog G 8 [a.enc, .agg [encs b.out, encE b.ended, encN a.names, .int .i64 a.verdict, .int .i64 b.spent, .int .i64 b.clock]] (.bool true)
  ta : Pure Tryd.prog G 10 [a.enc] (texts (tlines a))
  tb : S = true → Pure Tryd.prog G 10 [b.enc] (texts (tlines a))
  tx : Pure Tryd.prog G 9 [texts (tlines a), texts (tlines a)] (.bool true)
  cp : Pure Tryd.prog G 11 [a.enc] a.enc
  hw1 : IntKind.i64.wrap ((a.out.length : Int) + 1) = a.out.length + 1
  hw2 : IntKind.i64.wrap ((a.ended.length : Int) + 1) = a.ended.length + 1
  pk1 : Pure Tryd.prog G 12 [.int .i64 m, .int .i64 ((a.out.length : Int) + 1)] (.int .i64 (p : Int))
  pk2 : Pure Tryd.prog G 12 [.int .i64 n, .int .i64 ((a.ended.length : Int) + 1)] (.int .i64 (q : Int))
  sl1 : aslice Tryd.prog 22 (encs a.out) none (some (.int .i64 (p : Int))) = some (encs (a.out.take p))
  sl2 : aslice Tryd.prog 23 (encE a.ended) none (some (.int .i64 (q : Int))) = some (encE (a.ended.take q))
  wca : Pure Tryd.prog G 7 [.agg [encs (a.out.take p), encE (a.ended.take q), encN a.names, .int .i64 a.verdict, .int .i64 a.spent, .int .i64 a.clock], a.enc] (.bool true)
  wcb : Pure Tryd.prog G 7 [a.enc, .agg [encs (a.out.take p), encE (a.ended.take q), encN a.names, .int .i64 a.verdict, .int .i64 a.spent, .int .i64 a.clock]] (.bool T)
  tt : ((((a.out.take p).length : Int) = a.out.length) = True ∧ (((a.ended.take q).length : Int) = a.ended.length) = True ∧ T = true) ∨ ((((a.out.take p).length : Int) = a.out.length) = True ∧ (((a.ended.take q).length : Int) = a.ended.length) = False ∧ T = false) ∨ ((((a.out.take p).length : Int) = a.out.length) = False ∧ T = false)
set_option maxHeartbeats 4000000 in
theorem tale_c1 {a b c : Seen} {m n : Int} {p q : Nat} {Y Z V T : Bool} (h : TEnds G a b c m n p q false Y Z V false T) : Pure Tryd.prog G 3 [a.enc, b.enc, c.enc, .int .i64 m, .int .i64 n] (.bool true) := by
  obtain ⟨w, ga, gb, gc, waa, saa, wab, wbc, wac, wba, sab, sba, sad, ta, tb, tx, cp, hw1, hw2, pk1, pk2, sl1, sl2, wca, wcb, tt⟩ := h
  have hd := True.intro; have tb' := True.intro
  clear sad tb
  intro σ
  refine Tri.of_awp mixed Tryd.func3 rfl (by kernel_rfl) (by kernel_rfl) (by simp [Tryd.ntmps3]) Tryd.results3 ?_
  repeat' (first
    | with_reducible refine condW_both (fun _ _ => ?_) (fun _ _ => ?_)
    | with_reducible refine gW_both (fun _ _ => ?_) (fun _ _ => ?_)
    | with_reducible refine condW_split (fun _ => ?_) (fun _ => ?_)
    | with_reducible refine gW_split (fun _ => ?_) (fun _ => ?_)
    | with_reducible refine pickW_split (fun _ => ?_) (fun _ => ?_)
    | (refine newW_intro ?_; intro bx hbx; (try simp only [fresh_box, fresh_tip, fresh_ty] at hbx))
    | (refine newT_plain ?_; intro bx hbx; (try simp only [fresh_box, fresh_tip, fresh_ty] at hbx))
    | refine Pure.use (w) ?_
    | refine Pure.head (w) ?_
    | refine Pure.use (ga) ?_
    | refine Pure.head (ga) ?_
    | refine Pure.use (gb) ?_
    | refine Pure.head (gb) ?_
    | refine Pure.use (gc) ?_
    | refine Pure.head (gc) ?_
    | refine Pure.use (waa) ?_
    | refine Pure.head (waa) ?_
    | refine Pure.use (saa) ?_
    | refine Pure.head (saa) ?_
    | refine Pure.use (wab) ?_
    | refine Pure.head (wab) ?_
    | refine Pure.use (wbc) ?_
    | refine Pure.head (wbc) ?_
    | refine Pure.use (wac) ?_
    | refine Pure.head (wac) ?_
    | refine Pure.use (wba) ?_
    | refine Pure.head (wba) ?_
    | refine Pure.use (sab) ?_
    | refine Pure.head (sab) ?_
    | refine Pure.use (sba) ?_
    | refine Pure.head (sba) ?_
    | refine Pure.use (hd) ?_
    | refine Pure.head (hd) ?_
    | refine Pure.use (ta) ?_
    | refine Pure.head (ta) ?_
    | refine Pure.use (tb') ?_
    | refine Pure.head (tb') ?_
    | refine Pure.use (tx) ?_
    | refine Pure.head (tx) ?_
    | refine Pure.use (cp) ?_
    | refine Pure.head (cp) ?_
    | refine Pure.use (pk1) ?_
    | refine Pure.head (pk1) ?_
    | refine Pure.use (pk2) ?_
    | refine Pure.head (pk2) ?_
    | refine Pure.use (wca) ?_
    | refine Pure.head (wca) ?_
    | (refine draw_float1 6 bx (by decide +kernel) AS.set_get ?_)
    | refine storeX_w ?_
    | ((with_reducible refine And.intro ?_ ?_); omega)
    | refine bo_buildSlice (d' := ⟨⟩) ?_
    | (refine draw_all (by kernel_rfl) ?_)
    | refine finish_pure ?_ (by repeat' (first | exact AS.le.refl _ | assumption | (refine le_set (by first | assumption | (simp only [*]; done) | exact AS.le.fresh (by assumption) (by simp only [*])) ?_) | (refine le_ty (by first | assumption | (simp only [*]; done) | exact AS.le.fresh (by assumption) (by simp only [*])) ?_)))
    | simp -dsimp only [↓bp, bq, br, afin, bsk, cWrites, opsWrites, pieceGh, rsk, ne_eq, if_true, if_false, exists_eq_left', forall_const, forall_eq, Nat.reduceLT, Int.reduceSub, Nat.reduceAdd, Nat.reduceSub, Nat.reduceMul, Nat.reduceLeDiff, Nat.reduceEqDiff, Nat.reduceBEq, Nat.reduceBNe, Int.reduceNeg, Int.reduceAdd, Int.reduceMul, Int.reduceLE, Int.reduceLT, Int.reduceEq, Int.reduceToNat, reduceIte, reduceCtorEq, tbLawTale, *])
  all_goals
    rcases tt with ⟨t1, t2, rfl⟩ | ⟨t1, t2, rfl⟩ | ⟨t1, rfl⟩
    all_goals try (exfalso; first | (have hh := of_eq_false t1; contradiction) | (have hh := of_eq_true t1; contradiction))
  all_goals
    repeat' (first
    | with_reducible refine condW_both (fun _ _ => ?_) (fun _ _ => ?_)
    | with_reducible refine gW_both (fun _ _ => ?_) (fun _ _ => ?_)
    | with_reducible refine condW_split (fun _ => ?_) (fun _ => ?_)
    | with_reducible refine gW_split (fun _ => ?_) (fun _ => ?_)
    | with_reducible refine pickW_split (fun _ => ?_) (fun _ => ?_)
    | (refine newW_intro ?_; intro bx hbx; (try simp only [fresh_box, fresh_tip, fresh_ty] at hbx))
    | (refine newT_plain ?_; intro bx hbx; (try simp only [fresh_box, fresh_tip, fresh_ty] at hbx))
    | refine Pure.use (wcb) ?_
    | refine Pure.head (wcb) ?_
    | refine storeX_w ?_
    | ((with_reducible refine And.intro ?_ ?_); omega)
    | refine bo_buildSlice (d' := ⟨⟩) ?_
    | (refine draw_all (by kernel_rfl) ?_)
    | refine finish_pure ?_ (by repeat' (first | exact AS.le.refl _ | assumption | (refine le_set (by first | assumption | (simp only [*]; done) | exact AS.le.fresh (by assumption) (by simp only [*])) ?_) | (refine le_ty (by first | assumption | (simp only [*]; done) | exact AS.le.fresh (by assumption) (by simp only [*])) ?_)))
    | simp -dsimp only [↓bp, bq, br, afin, bsk, cWrites, opsWrites, pieceGh, rsk, ne_eq, if_true, if_false, exists_eq_left', forall_const, forall_eq, Nat.reduceLT, Int.reduceSub, Nat.reduceAdd, Nat.reduceSub, Nat.reduceMul, Nat.reduceLeDiff, Nat.reduceEqDiff, Nat.reduceBEq, Nat.reduceBNe, Int.reduceNeg, Int.reduceAdd, Int.reduceMul, Int.reduceLE, Int.reduceLT, Int.reduceEq, Int.reduceToNat, reduceIte, reduceCtorEq, tbLawTale, *])
    all_goals rfl
set_option maxHeartbeats 4000000 in
theorem tale_c2 {a b c : Seen} {m n : Int} {p q : Nat} {Z T : Bool} (h : TEnds G a b c m n p q true false Z false false T) : Pure Tryd.prog G 3 [a.enc, b.enc, c.enc, .int .i64 m, .int .i64 n] (.bool true) := by
  obtain ⟨w, ga, gb, gc, waa, saa, wab, wbc, wac, wba, sab, sba, sad, ta, tb, tx, cp, hw1, hw2, pk1, pk2, sl1, sl2, wca, wcb, tt⟩ := h
  have hd := True.intro; have tb' := True.intro
  clear sad tb
  intro σ
  refine Tri.of_awp mixed Tryd.func3 rfl (by kernel_rfl) (by kernel_rfl) (by simp [Tryd.ntmps3]) Tryd.results3 ?_
  repeat' (first
    | with_reducible refine condW_both (fun _ _ => ?_) (fun _ _ => ?_)
    | with_reducible refine gW_both (fun _ _ => ?_) (fun _ _ => ?_)
    | with_reducible refine condW_split (fun _ => ?_) (fun _ => ?_)
    | with_reducible refine gW_split (fun _ => ?_) (fun _ => ?_)
    | with_reducible refine pickW_split (fun _ => ?_) (fun _ => ?_)
    | (refine newW_intro ?_; intro bx hbx; (try simp only [fresh_box, fresh_tip, fresh_ty] at hbx))
    | (refine newT_plain ?_; intro bx hbx; (try simp only [fresh_box, fresh_tip, fresh_ty] at hbx))
    | refine Pure.use (w) ?_
    | refine Pure.head (w) ?_
    | refine Pure.use (ga) ?_
    | refine Pure.head (ga) ?_
    | refine Pure.use (gb) ?_
    | refine Pure.head (gb) ?_
    | refine Pure.use (gc) ?_
    | refine Pure.head (gc) ?_
    | refine Pure.use (waa) ?_
    | refine Pure.head (waa) ?_
    | refine Pure.use (saa) ?_
    | refine Pure.head (saa) ?_
    | refine Pure.use (wab) ?_
    | refine Pure.head (wab) ?_
    | refine Pure.use (wbc) ?_
    | refine Pure.head (wbc) ?_
    | refine Pure.use (wac) ?_
    | refine Pure.head (wac) ?_
    | refine Pure.use (wba) ?_
    | refine Pure.head (wba) ?_
    | refine Pure.use (sab) ?_
    | refine Pure.head (sab) ?_
    | refine Pure.use (sba) ?_
    | refine Pure.head (sba) ?_
    | refine Pure.use (hd) ?_
    | refine Pure.head (hd) ?_
    | refine Pure.use (ta) ?_
    | refine Pure.head (ta) ?_
    | refine Pure.use (tb') ?_
    | refine Pure.head (tb') ?_
    | refine Pure.use (tx) ?_
    | refine Pure.head (tx) ?_
    | refine Pure.use (cp) ?_
    | refine Pure.head (cp) ?_
    | refine Pure.use (pk1) ?_
    | refine Pure.head (pk1) ?_
    | refine Pure.use (pk2) ?_
    | refine Pure.head (pk2) ?_
    | refine Pure.use (wca) ?_
    | refine Pure.head (wca) ?_
    | (refine draw_float1 6 bx (by decide +kernel) AS.set_get ?_)
    | refine storeX_w ?_
    | ((with_reducible refine And.intro ?_ ?_); omega)
    | refine bo_buildSlice (d' := ⟨⟩) ?_
    | (refine draw_all (by kernel_rfl) ?_)
    | refine finish_pure ?_ (by repeat' (first | exact AS.le.refl _ | assumption | (refine le_set (by first | assumption | (simp only [*]; done) | exact AS.le.fresh (by assumption) (by simp only [*])) ?_) | (refine le_ty (by first | assumption | (simp only [*]; done) | exact AS.le.fresh (by assumption) (by simp only [*])) ?_)))
    | simp -dsimp only [↓bp, bq, br, afin, bsk, cWrites, opsWrites, pieceGh, rsk, ne_eq, if_true, if_false, exists_eq_left', forall_const, forall_eq, Nat.reduceLT, Int.reduceSub, Nat.reduceAdd, Nat.reduceSub, Nat.reduceMul, Nat.reduceLeDiff, Nat.reduceEqDiff, Nat.reduceBEq, Nat.reduceBNe, Int.reduceNeg, Int.reduceAdd, Int.reduceMul, Int.reduceLE, Int.reduceLT, Int.reduceEq, Int.reduceToNat, reduceIte, reduceCtorEq, tbLawTale, *])
  all_goals
    rcases tt with ⟨t1, t2, rfl⟩ | ⟨t1, t2, rfl⟩ | ⟨t1, rfl⟩
    all_goals try (exfalso; first | (have hh := of_eq_false t1; contradiction) | (have hh := of_eq_true t1; contradiction))
  all_goals
    repeat' (first
    | with_reducible refine condW_both (fun _ _ => ?_) (fun _ _ => ?_)
    | with_reducible refine gW_both (fun _ _ => ?_) (fun _ _ => ?_)
    | with_reducible refine condW_split (fun _ => ?_) (fun _ => ?_)
    | with_reducible refine gW_split (fun _ => ?_) (fun _ => ?_)
    | with_reducible refine pickW_split (fun _ => ?_) (fun _ => ?_)
    | (refine newW_intro ?_; intro bx hbx; (try simp only [fresh_box, fresh_tip, fresh_ty] at hbx))
    | (refine newT_plain ?_; intro bx hbx; (try simp only [fresh_box, fresh_tip, fresh_ty] at hbx))
    | refine Pure.use (wcb) ?_
    | refine Pure.head (wcb) ?_
    | refine storeX_w ?_
    | ((with_reducible refine And.intro ?_ ?_); omega)
    | refine bo_buildSlice (d' := ⟨⟩) ?_
    | (refine draw_all (by kernel_rfl) ?_)
    | refine finish_pure ?_ (by repeat' (first | exact AS.le.refl _ | assumption | (refine le_set (by first | assumption | (simp only [*]; done) | exact AS.le.fresh (by assumption) (by simp only [*])) ?_) | (refine le_ty (by first | assumption | (simp only [*]; done) | exact AS.le.fresh (by assumption) (by simp only [*])) ?_)))
    | simp -dsimp only [↓bp, bq, br, afin, bsk, cWrites, opsWrites, pieceGh, rsk, ne_eq, if_true, if_false, exists_eq_left', forall_const, forall_eq, Nat.reduceLT, Int.reduceSub, Nat.reduceAdd, Nat.reduceSub, Nat.reduceMul, Nat.reduceLeDiff, Nat.reduceEqDiff, Nat.reduceBEq, Nat.reduceBNe, Int.reduceNeg, Int.reduceAdd, Int.reduceMul, Int.reduceLE, Int.reduceLT, Int.reduceEq, Int.reduceToNat, reduceIte, reduceCtorEq, tbLawTale, *])
    all_goals rfl
end Go.Proofs.YtpginpbcndlfmaaDoor
