/- TermSplits on abstract values. -/
import Derived.Test.YtjnhalmeddafdaaDoorZAwk
set_option linter.unusedVariables false
set_option linter.unusedSimpArgs false
set_option maxRecDepth 20000
namespace Go.Proofs.YtjnhalmeddafdaaDoor
open Go Go.Av
variable {G : Nat → AV}
abbrev nilTm (k : Int) : AV := .agg [.int .u8 k, .bool false, .nil, .str [], .int .i64 0, .nil, .nil]
/-- what the parts answer, where both are right -/
structure Sp (G : Nat → AV) (h t l : Term) (S T M : Int) : Prop where
  w : Pure Tryd.prog G 8 [] (.bool true)
  g1 : Pure Tryd.prog G 7 [.sl .full [h.enc, t.enc] []] (.bool false)
  rh : Pure Tryd.prog G 15 [h.enc] (.bool true)
  rt : Pure Tryd.prog G 15 [t.enc] (.bool true)
  c1 : Pure Tryd.prog G 18 [h.enc, t.enc] l.enc
  zh : Pure Tryd.prog G 19 [h.enc] (.int .i64 S)
  zt : Pure Tryd.prog G 19 [t.enc] (.int .i64 T)
  w1 : IntKind.i64.wrap (S + T) = S + T
  e1 : S + T + 1 = M
  w2 : IntKind.i64.wrap M = M
/-- the first part, where what is put together is right -/
structure SpA (G : Nat → AV) (h t l m : Term) (N : Int) (Hs : List UInt8) : Prop where
  sp : Pure Tryd.prog G 20 [l.enc] (.tup [h.enc, t.enc, .bool true])
  k1 : Pure Tryd.prog G 16 [h.enc, h.enc] (.bool true)
  k2 : Pure Tryd.prog G 16 [t.enc, t.enc] (.bool true)
  zl : Pure Tryd.prog G 19 [l.enc] (.int .i64 N)
  c2 : Pure Tryd.prog G 18 [h.enc, nilTm 7] m.enc
  tm : Pure Tryd.prog G 21 [m.enc] (.str (91 :: (Hs ++ [93])))
  th : Pure Tryd.prog G 21 [h.enc] (.str Hs)
  lk : (l.knd = 0) = False
  m1 : 1 + Hs.length ≤ maxLen
  m2 : Hs.length + 1 + 1 ≤ maxLen
/-- the last part, where the second one is parted -/
structure SpB (G : Nat → AV) (t a b : Term) : Prop where
  sp : Pure Tryd.prog G 20 [t.enc] (.tup [a.enc, b.enc, .bool true])
  c3 : Pure Tryd.prog G 18 [a.enc, b.enc] t.enc
  k2 : Pure Tryd.prog G 16 [t.enc, t.enc] (.bool true)
  i7 : (t.knd = 7) = True
  il : (0 < (t.items.length : Int)) = True
set_option maxHeartbeats 4000000 in
/-- right together; the second one parted -/
theorem splits_1 {h t l m a b : Term} {S T N : Int} {Hs : List UInt8} (hC : Sp G h t l S T N) (hA : SpA G h t l m N Hs) (hB : SpB G t a b) (hn : (4096 < N) = False) : Pure Tryd.prog G 5 [h.enc, t.enc] (.bool true) := by
  obtain ⟨w, g1, rh, rt, c1, zh, zt, w1, e1, w2⟩ := hC
  obtain ⟨sp, k1, k2, zl, c2, tm, th, lk, m1, m2⟩ := hA
  obtain ⟨sp2, c3, k3, i7, il⟩ := hB
  clear k3
  intro σ
  refine Tri.of_awp mixed Tryd.func5 rfl (by kernel_rfl) (by kernel_rfl) (by simp [Tryd.ntmps5]) Tryd.results5 ?_
  repeat' (first
    | with_reducible refine condW_both (fun _ _ => ?_) (fun _ _ => ?_)
    | with_reducible refine gW_both (fun _ _ => ?_) (fun _ _ => ?_)
    | with_reducible refine condW_split (fun _ => ?_) (fun _ => ?_)
    | with_reducible refine gW_split (fun _ => ?_) (fun _ => ?_)
    | with_reducible refine pickW_split (fun _ => ?_) (fun _ => ?_)
    | (refine newW_intro ?_; intro bx hbx; (try simp only [fresh_box, fresh_tip, fresh_ty] at hbx))
    | (refine newT_plain ?_; intro bx hbx; (try simp only [fresh_box, fresh_tip, fresh_ty] at hbx))
    | refine Pure.use (w) ?_
    | refine Pure.head (w) ?_
    | refine Pure.use (g1) ?_
    | refine Pure.head (g1) ?_
    | refine Pure.use (rh) ?_
    | refine Pure.head (rh) ?_
    | refine Pure.use (rt) ?_
    | refine Pure.head (rt) ?_
    | refine Pure.use (c1) ?_
    | refine Pure.head (c1) ?_
    | refine Pure.use (zh) ?_
    | refine Pure.head (zh) ?_
    | refine Pure.use (zt) ?_
    | refine Pure.head (zt) ?_
    | refine Pure.use (sp) ?_
    | refine Pure.head (sp) ?_
    | refine Pure.use (k1) ?_
    | refine Pure.head (k1) ?_
    | refine Pure.use (k2) ?_
    | refine Pure.head (k2) ?_
    | refine Pure.use (zl) ?_
    | refine Pure.head (zl) ?_
    | refine Pure.use (c2) ?_
    | refine Pure.head (c2) ?_
    | refine Pure.use (tm) ?_
    | refine Pure.head (tm) ?_
    | refine Pure.use (th) ?_
    | refine Pure.head (th) ?_
    | refine Pure.use (sp2) ?_
    | refine Pure.head (sp2) ?_
    | refine Pure.use (c3) ?_
    | refine Pure.head (c3) ?_
    | refine storeX_w ?_
    | ((with_reducible refine And.intro ?_ ?_); omega)
    | refine bo_buildSlice (d' := ⟨⟩) ?_
    | (refine draw_all (by kernel_rfl) ?_)
    | refine finish_pure ?_ (by repeat' (first | exact AS.le.refl _ | assumption | (refine le_set (by first | assumption | (simp only [*]; done) | exact AS.le.fresh (by assumption) (by simp only [*])) ?_) | (refine le_ty (by first | assumption | (simp only [*]; done) | exact AS.le.fresh (by assumption) (by simp only [*])) ?_)))
    | simp -dsimp only [↓bp, bq, br, afin, bsk, cWrites, opsWrites, pieceGh, rsk, ne_eq, if_true, if_false, exists_eq_left', forall_const, forall_eq, Nat.reduceLT, Int.reduceSub, Nat.reduceAdd, Nat.reduceSub, Nat.reduceMul, Nat.reduceLeDiff, Nat.reduceEqDiff, Nat.reduceBEq, Nat.reduceBNe, Int.reduceNeg, Int.reduceAdd, Int.reduceMul, Int.reduceLE, Int.reduceLT, Int.reduceEq, Int.reduceToNat, reduceIte, reduceCtorEq, tf3, tf4, tf5, tf9, tf22, tf24, tf26, tf23, Term.flat_enc, Term.isv_enc, Term.fold_enc, isv_encs, flat_encs, len_encs, isv_lims, flat_lims, *])
  all_goals rfl
set_option maxHeartbeats 4000000 in
/-- right together; the second one is the empty list -/
theorem splits_2 {h t l m : Term} {S T N : Int} {Hs : List UInt8} (hC : Sp G h t l S T N) (hA : SpA G h t l m N Hs) (sp2 : Pure Tryd.prog G 20 [t.enc] (.tup [zeroT.enc, zeroT.enc, .bool false])) (i7 : (t.knd = 7) = True) (il : (0 < (t.items.length : Int)) = False) (hn : (4096 < N) = False) : Pure Tryd.prog G 5 [h.enc, t.enc] (.bool true) := by
  obtain ⟨w, g1, rh, rt, c1, zh, zt, w1, e1, w2⟩ := hC
  obtain ⟨sp, k1, k2, zl, c2, tm, th, lk, m1, m2⟩ := hA
  have c3 := c2
  intro σ
  refine Tri.of_awp mixed Tryd.func5 rfl (by kernel_rfl) (by kernel_rfl) (by simp [Tryd.ntmps5]) Tryd.results5 ?_
  repeat' (first
    | with_reducible refine condW_both (fun _ _ => ?_) (fun _ _ => ?_)
    | with_reducible refine gW_both (fun _ _ => ?_) (fun _ _ => ?_)
    | with_reducible refine condW_split (fun _ => ?_) (fun _ => ?_)
    | with_reducible refine gW_split (fun _ => ?_) (fun _ => ?_)
    | with_reducible refine pickW_split (fun _ => ?_) (fun _ => ?_)
    | (refine newW_intro ?_; intro bx hbx; (try simp only [fresh_box, fresh_tip, fresh_ty] at hbx))
    | (refine newT_plain ?_; intro bx hbx; (try simp only [fresh_box, fresh_tip, fresh_ty] at hbx))
    | refine Pure.use (w) ?_
    | refine Pure.head (w) ?_
    | refine Pure.use (g1) ?_
    | refine Pure.head (g1) ?_
    | refine Pure.use (rh) ?_
    | refine Pure.head (rh) ?_
    | refine Pure.use (rt) ?_
    | refine Pure.head (rt) ?_
    | refine Pure.use (c1) ?_
    | refine Pure.head (c1) ?_
    | refine Pure.use (zh) ?_
    | refine Pure.head (zh) ?_
    | refine Pure.use (zt) ?_
    | refine Pure.head (zt) ?_
    | refine Pure.use (sp) ?_
    | refine Pure.head (sp) ?_
    | refine Pure.use (k1) ?_
    | refine Pure.head (k1) ?_
    | refine Pure.use (k2) ?_
    | refine Pure.head (k2) ?_
    | refine Pure.use (zl) ?_
    | refine Pure.head (zl) ?_
    | refine Pure.use (c2) ?_
    | refine Pure.head (c2) ?_
    | refine Pure.use (tm) ?_
    | refine Pure.head (tm) ?_
    | refine Pure.use (th) ?_
    | refine Pure.head (th) ?_
    | refine Pure.use (sp2) ?_
    | refine Pure.head (sp2) ?_
    | refine Pure.use (c3) ?_
    | refine Pure.head (c3) ?_
    | refine storeX_w ?_
    | ((with_reducible refine And.intro ?_ ?_); omega)
    | refine bo_buildSlice (d' := ⟨⟩) ?_
    | (refine draw_all (by kernel_rfl) ?_)
    | refine finish_pure ?_ (by repeat' (first | exact AS.le.refl _ | assumption | (refine le_set (by first | assumption | (simp only [*]; done) | exact AS.le.fresh (by assumption) (by simp only [*])) ?_) | (refine le_ty (by first | assumption | (simp only [*]; done) | exact AS.le.fresh (by assumption) (by simp only [*])) ?_)))
    | simp -dsimp only [↓bp, bq, br, afin, bsk, cWrites, opsWrites, pieceGh, rsk, ne_eq, if_true, if_false, exists_eq_left', forall_const, forall_eq, Nat.reduceLT, Int.reduceSub, Nat.reduceAdd, Nat.reduceSub, Nat.reduceMul, Nat.reduceLeDiff, Nat.reduceEqDiff, Nat.reduceBEq, Nat.reduceBNe, Int.reduceNeg, Int.reduceAdd, Int.reduceMul, Int.reduceLE, Int.reduceLT, Int.reduceEq, Int.reduceToNat, reduceIte, reduceCtorEq, tf3, tf4, tf5, tf9, tf22, tf24, tf26, tf23, Term.flat_enc, Term.isv_enc, Term.fold_enc, isv_encs, flat_encs, len_encs, isv_lims, flat_lims, *])
  all_goals rfl
set_option maxHeartbeats 4000000 in
/-- right together; the second one is no list -/
theorem splits_3 {h t l m : Term} {S T M N : Int} {Hs : List UInt8} (hC : Sp G h t l S T M) (hA : SpA G h t l m N Hs) (sp2 : Pure Tryd.prog G 20 [t.enc] (.tup [zeroT.enc, zeroT.enc, .bool false])) (i7 : (t.knd = 7) = False) (e2 : M + 1 = N) (w3 : IntKind.i64.wrap N = N) (hn : (4096 < N) = False) : Pure Tryd.prog G 5 [h.enc, t.enc] (.bool true) := by
  obtain ⟨w, g1, rh, rt, c1, zh, zt, w1, e1, w2⟩ := hC
  obtain ⟨sp, k1, k2, zl, c2, tm, th, lk, m1, m2⟩ := hA
  have c3 := c2
  intro σ
  refine Tri.of_awp mixed Tryd.func5 rfl (by kernel_rfl) (by kernel_rfl) (by simp [Tryd.ntmps5]) Tryd.results5 ?_
  repeat' (first
    | with_reducible refine condW_both (fun _ _ => ?_) (fun _ _ => ?_)
    | with_reducible refine gW_both (fun _ _ => ?_) (fun _ _ => ?_)
    | with_reducible refine condW_split (fun _ => ?_) (fun _ => ?_)
    | with_reducible refine gW_split (fun _ => ?_) (fun _ => ?_)
    | with_reducible refine pickW_split (fun _ => ?_) (fun _ => ?_)
    | (refine newW_intro ?_; intro bx hbx; (try simp only [fresh_box, fresh_tip, fresh_ty] at hbx))
    | (refine newT_plain ?_; intro bx hbx; (try simp only [fresh_box, fresh_tip, fresh_ty] at hbx))
    | refine Pure.use (w) ?_
    | refine Pure.head (w) ?_
    | refine Pure.use (g1) ?_
    | refine Pure.head (g1) ?_
    | refine Pure.use (rh) ?_
    | refine Pure.head (rh) ?_
    | refine Pure.use (rt) ?_
    | refine Pure.head (rt) ?_
    | refine Pure.use (c1) ?_
    | refine Pure.head (c1) ?_
    | refine Pure.use (zh) ?_
    | refine Pure.head (zh) ?_
    | refine Pure.use (zt) ?_
    | refine Pure.head (zt) ?_
    | refine Pure.use (sp) ?_
    | refine Pure.head (sp) ?_
    | refine Pure.use (k1) ?_
    | refine Pure.head (k1) ?_
    | refine Pure.use (k2) ?_
    | refine Pure.head (k2) ?_
    | refine Pure.use (zl) ?_
    | refine Pure.head (zl) ?_
    | refine Pure.use (c2) ?_
    | refine Pure.head (c2) ?_
    | refine Pure.use (tm) ?_
    | refine Pure.head (tm) ?_
    | refine Pure.use (th) ?_
    | refine Pure.head (th) ?_
    | refine Pure.use (sp2) ?_
    | refine Pure.head (sp2) ?_
    | refine Pure.use (c3) ?_
    | refine Pure.head (c3) ?_
    | refine storeX_w ?_
    | ((with_reducible refine And.intro ?_ ?_); omega)
    | refine bo_buildSlice (d' := ⟨⟩) ?_
    | (refine draw_all (by kernel_rfl) ?_)
    | refine finish_pure ?_ (by repeat' (first | exact AS.le.refl _ | assumption | (refine le_set (by first | assumption | (simp only [*]; done) | exact AS.le.fresh (by assumption) (by simp only [*])) ?_) | (refine le_ty (by first | assumption | (simp only [*]; done) | exact AS.le.fresh (by assumption) (by simp only [*])) ?_)))
    | simp -dsimp only [↓bp, bq, br, afin, bsk, cWrites, opsWrites, pieceGh, rsk, ne_eq, if_true, if_false, exists_eq_left', forall_const, forall_eq, Nat.reduceLT, Int.reduceSub, Nat.reduceAdd, Nat.reduceSub, Nat.reduceMul, Nat.reduceLeDiff, Nat.reduceEqDiff, Nat.reduceBEq, Nat.reduceBNe, Int.reduceNeg, Int.reduceAdd, Int.reduceMul, Int.reduceLE, Int.reduceLT, Int.reduceEq, Int.reduceToNat, reduceIte, reduceCtorEq, tf3, tf4, tf5, tf9, tf22, tf24, tf26, tf23, Term.flat_enc, Term.isv_enc, Term.fold_enc, isv_encs, flat_encs, len_encs, isv_lims, flat_lims, *])
  all_goals rfl
set_option maxHeartbeats 4000000 in
/-- too great together; the second one parted -/
theorem splits_4 {h t l a b : Term} {S T N : Int} (hC : Sp G h t l S T N) (lk : (l.knd = 0) = True) (hB : SpB G t a b) (hn : (4096 < N) = True) : Pure Tryd.prog G 5 [h.enc, t.enc] (.bool true) := by
  obtain ⟨w, g1, rh, rt, c1, zh, zt, w1, e1, w2⟩ := hC
  obtain ⟨sp2, c3, k3, i7, il⟩ := hB
  intro σ
  refine Tri.of_awp mixed Tryd.func5 rfl (by kernel_rfl) (by kernel_rfl) (by simp [Tryd.ntmps5]) Tryd.results5 ?_
  repeat' (first
    | with_reducible refine condW_both (fun _ _ => ?_) (fun _ _ => ?_)
    | with_reducible refine gW_both (fun _ _ => ?_) (fun _ _ => ?_)
    | with_reducible refine condW_split (fun _ => ?_) (fun _ => ?_)
    | with_reducible refine gW_split (fun _ => ?_) (fun _ => ?_)
    | with_reducible refine pickW_split (fun _ => ?_) (fun _ => ?_)
    | (refine newW_intro ?_; intro bx hbx; (try simp only [fresh_box, fresh_tip, fresh_ty] at hbx))
    | (refine newT_plain ?_; intro bx hbx; (try simp only [fresh_box, fresh_tip, fresh_ty] at hbx))
    | refine Pure.use (w) ?_
    | refine Pure.head (w) ?_
    | refine Pure.use (g1) ?_
    | refine Pure.head (g1) ?_
    | refine Pure.use (rh) ?_
    | refine Pure.head (rh) ?_
    | refine Pure.use (rt) ?_
    | refine Pure.head (rt) ?_
    | refine Pure.use (c1) ?_
    | refine Pure.head (c1) ?_
    | refine Pure.use (zh) ?_
    | refine Pure.head (zh) ?_
    | refine Pure.use (zt) ?_
    | refine Pure.head (zt) ?_
    | refine Pure.use (sp2) ?_
    | refine Pure.head (sp2) ?_
    | refine Pure.use (c3) ?_
    | refine Pure.head (c3) ?_
    | refine Pure.use (k3) ?_
    | refine Pure.head (k3) ?_
    | refine storeX_w ?_
    | ((with_reducible refine And.intro ?_ ?_); omega)
    | refine bo_buildSlice (d' := ⟨⟩) ?_
    | (refine draw_all (by kernel_rfl) ?_)
    | refine finish_pure ?_ (by repeat' (first | exact AS.le.refl _ | assumption | (refine le_set (by first | assumption | (simp only [*]; done) | exact AS.le.fresh (by assumption) (by simp only [*])) ?_) | (refine le_ty (by first | assumption | (simp only [*]; done) | exact AS.le.fresh (by assumption) (by simp only [*])) ?_)))
    | simp -dsimp only [↓bp, bq, br, afin, bsk, cWrites, opsWrites, pieceGh, rsk, ne_eq, if_true, if_false, exists_eq_left', forall_const, forall_eq, Nat.reduceLT, Int.reduceSub, Nat.reduceAdd, Nat.reduceSub, Nat.reduceMul, Nat.reduceLeDiff, Nat.reduceEqDiff, Nat.reduceBEq, Nat.reduceBNe, Int.reduceNeg, Int.reduceAdd, Int.reduceMul, Int.reduceLE, Int.reduceLT, Int.reduceEq, Int.reduceToNat, reduceIte, reduceCtorEq, tf3, tf4, tf5, tf9, tf22, tf24, tf26, tf23, Term.flat_enc, Term.isv_enc, Term.fold_enc, isv_encs, flat_encs, len_encs, isv_lims, flat_lims, *])
  all_goals rfl
set_option maxHeartbeats 4000000 in
/-- too great together; the second one is the empty list -/
theorem splits_5 {h t l : Term} {S T N : Int} (hC : Sp G h t l S T N) (lk : (l.knd = 0) = True) (sp2 : Pure Tryd.prog G 20 [t.enc] (.tup [zeroT.enc, zeroT.enc, .bool false])) (i7 : (t.knd = 7) = True) (il : (0 < (t.items.length : Int)) = False) (hn : (4096 < N) = True) : Pure Tryd.prog G 5 [h.enc, t.enc] (.bool true) := by
  obtain ⟨w, g1, rh, rt, c1, zh, zt, w1, e1, w2⟩ := hC
  have c3 := rh
  have k3 := rh
  intro σ
  refine Tri.of_awp mixed Tryd.func5 rfl (by kernel_rfl) (by kernel_rfl) (by simp [Tryd.ntmps5]) Tryd.results5 ?_
  repeat' (first
    | with_reducible refine condW_both (fun _ _ => ?_) (fun _ _ => ?_)
    | with_reducible refine gW_both (fun _ _ => ?_) (fun _ _ => ?_)
    | with_reducible refine condW_split (fun _ => ?_) (fun _ => ?_)
    | with_reducible refine gW_split (fun _ => ?_) (fun _ => ?_)
    | with_reducible refine pickW_split (fun _ => ?_) (fun _ => ?_)
    | (refine newW_intro ?_; intro bx hbx; (try simp only [fresh_box, fresh_tip, fresh_ty] at hbx))
    | (refine newT_plain ?_; intro bx hbx; (try simp only [fresh_box, fresh_tip, fresh_ty] at hbx))
    | refine Pure.use (w) ?_
    | refine Pure.head (w) ?_
    | refine Pure.use (g1) ?_
    | refine Pure.head (g1) ?_
    | refine Pure.use (rh) ?_
    | refine Pure.head (rh) ?_
    | refine Pure.use (rt) ?_
    | refine Pure.head (rt) ?_
    | refine Pure.use (c1) ?_
    | refine Pure.head (c1) ?_
    | refine Pure.use (zh) ?_
    | refine Pure.head (zh) ?_
    | refine Pure.use (zt) ?_
    | refine Pure.head (zt) ?_
    | refine Pure.use (sp2) ?_
    | refine Pure.head (sp2) ?_
    | refine Pure.use (c3) ?_
    | refine Pure.head (c3) ?_
    | refine Pure.use (k3) ?_
    | refine Pure.head (k3) ?_
    | refine storeX_w ?_
    | ((with_reducible refine And.intro ?_ ?_); omega)
    | refine bo_buildSlice (d' := ⟨⟩) ?_
    | (refine draw_all (by kernel_rfl) ?_)
    | refine finish_pure ?_ (by repeat' (first | exact AS.le.refl _ | assumption | (refine le_set (by first | assumption | (simp only [*]; done) | exact AS.le.fresh (by assumption) (by simp only [*])) ?_) | (refine le_ty (by first | assumption | (simp only [*]; done) | exact AS.le.fresh (by assumption) (by simp only [*])) ?_)))
    | simp -dsimp only [↓bp, bq, br, afin, bsk, cWrites, opsWrites, pieceGh, rsk, ne_eq, if_true, if_false, exists_eq_left', forall_const, forall_eq, Nat.reduceLT, Int.reduceSub, Nat.reduceAdd, Nat.reduceSub, Nat.reduceMul, Nat.reduceLeDiff, Nat.reduceEqDiff, Nat.reduceBEq, Nat.reduceBNe, Int.reduceNeg, Int.reduceAdd, Int.reduceMul, Int.reduceLE, Int.reduceLT, Int.reduceEq, Int.reduceToNat, reduceIte, reduceCtorEq, tf3, tf4, tf5, tf9, tf22, tf24, tf26, tf23, Term.flat_enc, Term.isv_enc, Term.fold_enc, isv_encs, flat_encs, len_encs, isv_lims, flat_lims, *])
  all_goals rfl
set_option maxHeartbeats 4000000 in
/-- too great together; the second one is no list -/
theorem splits_6 {h t l : Term} {S T M N : Int} (hC : Sp G h t l S T M) (lk : (l.knd = 0) = True) (sp2 : Pure Tryd.prog G 20 [t.enc] (.tup [zeroT.enc, zeroT.enc, .bool false])) (i7 : (t.knd = 7) = False) (e2 : M + 1 = N) (w3 : IntKind.i64.wrap N = N) (hn : (4096 < N) = True) : Pure Tryd.prog G 5 [h.enc, t.enc] (.bool true) := by
  obtain ⟨w, g1, rh, rt, c1, zh, zt, w1, e1, w2⟩ := hC
  have c3 := rh
  have k3 := rh
  intro σ
  refine Tri.of_awp mixed Tryd.func5 rfl (by kernel_rfl) (by kernel_rfl) (by simp [Tryd.ntmps5]) Tryd.results5 ?_
  repeat' (first
    | with_reducible refine condW_both (fun _ _ => ?_) (fun _ _ => ?_)
    | with_reducible refine gW_both (fun _ _ => ?_) (fun _ _ => ?_)
    | with_reducible refine condW_split (fun _ => ?_) (fun _ => ?_)
    | with_reducible refine gW_split (fun _ => ?_) (fun _ => ?_)
    | with_reducible refine pickW_split (fun _ => ?_) (fun _ => ?_)
    | (refine newW_intro ?_; intro bx hbx; (try simp only [fresh_box, fresh_tip, fresh_ty] at hbx))
    | (refine newT_plain ?_; intro bx hbx; (try simp only [fresh_box, fresh_tip, fresh_ty] at hbx))
    | refine Pure.use (w) ?_
    | refine Pure.head (w) ?_
    | refine Pure.use (g1) ?_
    | refine Pure.head (g1) ?_
    | refine Pure.use (rh) ?_
    | refine Pure.head (rh) ?_
    | refine Pure.use (rt) ?_
    | refine Pure.head (rt) ?_
    | refine Pure.use (c1) ?_
    | refine Pure.head (c1) ?_
    | refine Pure.use (zh) ?_
    | refine Pure.head (zh) ?_
    | refine Pure.use (zt) ?_
    | refine Pure.head (zt) ?_
    | refine Pure.use (sp2) ?_
    | refine Pure.head (sp2) ?_
    | refine Pure.use (c3) ?_
    | refine Pure.head (c3) ?_
    | refine Pure.use (k3) ?_
    | refine Pure.head (k3) ?_
    | refine storeX_w ?_
    | ((with_reducible refine And.intro ?_ ?_); omega)
    | refine bo_buildSlice (d' := ⟨⟩) ?_
    | (refine draw_all (by kernel_rfl) ?_)
    | refine finish_pure ?_ (by repeat' (first | exact AS.le.refl _ | assumption | (refine le_set (by first | assumption | (simp only [*]; done) | exact AS.le.fresh (by assumption) (by simp only [*])) ?_) | (refine le_ty (by first | assumption | (simp only [*]; done) | exact AS.le.fresh (by assumption) (by simp only [*])) ?_)))
    | simp -dsimp only [↓bp, bq, br, afin, bsk, cWrites, opsWrites, pieceGh, rsk, ne_eq, if_true, if_false, exists_eq_left', forall_const, forall_eq, Nat.reduceLT, Int.reduceSub, Nat.reduceAdd, Nat.reduceSub, Nat.reduceMul, Nat.reduceLeDiff, Nat.reduceEqDiff, Nat.reduceBEq, Nat.reduceBNe, Int.reduceNeg, Int.reduceAdd, Int.reduceMul, Int.reduceLE, Int.reduceLT, Int.reduceEq, Int.reduceToNat, reduceIte, reduceCtorEq, tf3, tf4, tf5, tf9, tf22, tf24, tf26, tf23, Term.flat_enc, Term.isv_enc, Term.fold_enc, isv_encs, flat_encs, len_encs, isv_lims, flat_lims, *])
  all_goals rfl
theorem bulk_cons0 (h t : Term) : (cons0 h t).bulk ≤ h.bulk + t.bulk + 2 := by
  unfold cons0
  split
  · rw [Term.bulk_eq, t.bulk_eq]; simp only [listT, Term.limbs, Term.text, Term.items, Term.tail, bulks, List.length_nil]; omega
  · rw [Term.bulk_eq]; simp only [listT, Term.limbs, Term.text, Term.items, Term.tail, bulks, List.length_nil]; omega
theorem size_bounds {t : Term} (h : right t = true) : 0 < size t ∧ size t ≤ 4096 := ⟨of_decide_eq_true h, (size_le t).2⟩
theorem split_bulk {t a b : Term} (h : split t = some (a, b)) : a.bulk ≤ t.bulk ∧ b.bulk ≤ t.bulk + 1 := by
  have hb := t.bulk_eq
  unfold split at h
  split at h
  · split at h
    · cases h
    · rename_i x hi
      simp only [Option.some.injEq, Prod.mk.injEq] at h
      obtain ⟨rfl, rfl⟩ := h
      rw [hi] at hb
      simp only [bulks] at hb
      refine ⟨by omega, ?_⟩
      unfold tailOf
      split
      · rw [Term.bulk_eq]; simp [listT, Term.limbs, Term.text, Term.items, Term.tail, bulks]
      · rename_i ht
        rw [ht] at hb
        simp only [bulks] at hb
        omega
    · rename_i x l hne hi
      simp only [Option.some.injEq, Prod.mk.injEq] at h
      obtain ⟨rfl, rfl⟩ := h
      rw [hi] at hb
      simp only [bulks] at hb
      refine ⟨by omega, ?_⟩
      have e : ∀ u : List Term, (listT l u).bulk = bulks l + bulks u + 1 := fun u => by simp [listT, Term.bulk]
      rw [e]
      omega
  · cases h
theorem splitR_none {t : Term} (h : split t = none) : splitR t = .tup [zeroT.enc, zeroT.enc, .bool false] := by unfold splitR; rw [h]
theorem splitR_some {t a b : Term} (h : split t = some (a, b)) : splitR t = .tup [a.enc, b.enc, .bool true] := by unfold splitR; rw [h]
set_option maxHeartbeats 4000000 in
/-- one of the two is not right -/
theorem splits_0 {h t : Term} {x y : Bool} (w : Pure Tryd.prog G 8 [] (.bool true)) (g1 : Pure Tryd.prog G 7 [.sl .full [h.enc, t.enc] []] (.bool false))
    (rh : Pure Tryd.prog G 15 [h.enc] (.bool x)) (rt : Pure Tryd.prog G 15 [t.enc] (.bool y)) (hxy : ¬ (x = true ∧ y = true)) (c1 : Pure Tryd.prog G 18 [h.enc, t.enc] zeroT.enc)
    (k0 : Pure Tryd.prog G 16 [zeroT.enc, nilTm 0] (.bool true)) : Pure Tryd.prog G 5 [h.enc, t.enc] (.bool true) := by
  cases x
  · clear hxy
    intro σ
    refine Tri.of_awp mixed Tryd.func5 rfl (by kernel_rfl) (by kernel_rfl) (by simp [Tryd.ntmps5]) Tryd.results5 ?_
    repeat' (first
    | with_reducible refine condW_both (fun _ _ => ?_) (fun _ _ => ?_)
    | with_reducible refine gW_both (fun _ _ => ?_) (fun _ _ => ?_)
    | with_reducible refine condW_split (fun _ => ?_) (fun _ => ?_)
    | with_reducible refine gW_split (fun _ => ?_) (fun _ => ?_)
    | with_reducible refine pickW_split (fun _ => ?_) (fun _ => ?_)
    | (refine newW_intro ?_; intro bx hbx; (try simp only [fresh_box, fresh_tip, fresh_ty] at hbx))
    | (refine newT_plain ?_; intro bx hbx; (try simp only [fresh_box, fresh_tip, fresh_ty] at hbx))
    | refine Pure.use (w) ?_
    | refine Pure.head (w) ?_
    | refine Pure.use (g1) ?_
    | refine Pure.head (g1) ?_
    | refine Pure.use (rh) ?_
    | refine Pure.head (rh) ?_
    | refine Pure.use (rt) ?_
    | refine Pure.head (rt) ?_
    | refine Pure.use (c1) ?_
    | refine Pure.head (c1) ?_
    | refine Pure.use (k0) ?_
    | refine Pure.head (k0) ?_
    | refine storeX_w ?_
    | ((with_reducible refine And.intro ?_ ?_); omega)
    | refine bo_buildSlice (d' := ⟨⟩) ?_
    | (refine draw_all (by kernel_rfl) ?_)
    | refine finish_pure ?_ (by repeat' (first | exact AS.le.refl _ | assumption | (refine le_set (by first | assumption | (simp only [*]; done) | exact AS.le.fresh (by assumption) (by simp only [*])) ?_) | (refine le_ty (by first | assumption | (simp only [*]; done) | exact AS.le.fresh (by assumption) (by simp only [*])) ?_)))
    | simp -dsimp only [↓bp, bq, br, afin, bsk, cWrites, opsWrites, pieceGh, rsk, ne_eq, if_true, if_false, exists_eq_left', forall_const, forall_eq, Nat.reduceLT, Int.reduceSub, Nat.reduceAdd, Nat.reduceSub, Nat.reduceMul, Nat.reduceLeDiff, Nat.reduceEqDiff, Nat.reduceBEq, Nat.reduceBNe, Int.reduceNeg, Int.reduceAdd, Int.reduceMul, Int.reduceLE, Int.reduceLT, Int.reduceEq, Int.reduceToNat, reduceIte, reduceCtorEq, tf3, tf4, tf5, tf9, tf22, tf24, tf26, tf23, Term.flat_enc, Term.isv_enc, Term.fold_enc, isv_encs, flat_encs, len_encs, isv_lims, flat_lims, *])
    all_goals rfl
  · cases y
    · clear hxy
      intro σ
      refine Tri.of_awp mixed Tryd.func5 rfl (by kernel_rfl) (by kernel_rfl) (by simp [Tryd.ntmps5]) Tryd.results5 ?_
      repeat' (first
    | with_reducible refine condW_both (fun _ _ => ?_) (fun _ _ => ?_)
    | with_reducible refine gW_both (fun _ _ => ?_) (fun _ _ => ?_)
    | with_reducible refine condW_split (fun _ => ?_) (fun _ => ?_)
    | with_reducible refine gW_split (fun _ => ?_) (fun _ => ?_)
    | with_reducible refine pickW_split (fun _ => ?_) (fun _ => ?_)
    | (refine newW_intro ?_; intro bx hbx; (try simp only [fresh_box, fresh_tip, fresh_ty] at hbx))
    | (refine newT_plain ?_; intro bx hbx; (try simp only [fresh_box, fresh_tip, fresh_ty] at hbx))
    | refine Pure.use (w) ?_
    | refine Pure.head (w) ?_
    | refine Pure.use (g1) ?_
    | refine Pure.head (g1) ?_
    | refine Pure.use (rh) ?_
    | refine Pure.head (rh) ?_
    | refine Pure.use (rt) ?_
    | refine Pure.head (rt) ?_
    | refine Pure.use (c1) ?_
    | refine Pure.head (c1) ?_
    | refine Pure.use (k0) ?_
    | refine Pure.head (k0) ?_
    | refine storeX_w ?_
    | ((with_reducible refine And.intro ?_ ?_); omega)
    | refine bo_buildSlice (d' := ⟨⟩) ?_
    | (refine draw_all (by kernel_rfl) ?_)
    | refine finish_pure ?_ (by repeat' (first | exact AS.le.refl _ | assumption | (refine le_set (by first | assumption | (simp only [*]; done) | exact AS.le.fresh (by assumption) (by simp only [*])) ?_) | (refine le_ty (by first | assumption | (simp only [*]; done) | exact AS.le.fresh (by assumption) (by simp only [*])) ?_)))
    | simp -dsimp only [↓bp, bq, br, afin, bsk, cWrites, opsWrites, pieceGh, rsk, ne_eq, if_true, if_false, exists_eq_left', forall_const, forall_eq, Nat.reduceLT, Int.reduceSub, Nat.reduceAdd, Nat.reduceSub, Nat.reduceMul, Nat.reduceLeDiff, Nat.reduceEqDiff, Nat.reduceBEq, Nat.reduceBNe, Int.reduceNeg, Int.reduceAdd, Int.reduceMul, Int.reduceLE, Int.reduceLT, Int.reduceEq, Int.reduceToNat, reduceIte, reduceCtorEq, tf3, tf4, tf5, tf9, tf22, tf24, tf26, tf23, Term.flat_enc, Term.isv_enc, Term.fold_enc, isv_encs, flat_encs, len_encs, isv_lims, flat_lims, *])
      all_goals rfl
    · simp at hxy
set_option maxHeartbeats 4000000 in
theorem splits_great {h t : Term} (w : Pure Tryd.prog G 8 [] (.bool true)) (g1 : Pure Tryd.prog G 7 [.sl .full [h.enc, t.enc] []] (.bool true)) : Pure Tryd.prog G 5 [h.enc, t.enc] (.bool true) := by
  intro σ
  refine Tri.of_awp mixed Tryd.func5 rfl (by kernel_rfl) (by kernel_rfl) (by simp [Tryd.ntmps5]) Tryd.results5 ?_
  repeat' (first
    | with_reducible refine condW_both (fun _ _ => ?_) (fun _ _ => ?_)
    | with_reducible refine gW_both (fun _ _ => ?_) (fun _ _ => ?_)
    | with_reducible refine condW_split (fun _ => ?_) (fun _ => ?_)
    | with_reducible refine gW_split (fun _ => ?_) (fun _ => ?_)
    | with_reducible refine pickW_split (fun _ => ?_) (fun _ => ?_)
    | (refine newW_intro ?_; intro bx hbx; (try simp only [fresh_box, fresh_tip, fresh_ty] at hbx))
    | (refine newT_plain ?_; intro bx hbx; (try simp only [fresh_box, fresh_tip, fresh_ty] at hbx))
    | refine Pure.use (w) ?_
    | refine Pure.head (w) ?_
    | refine Pure.use (g1) ?_
    | refine Pure.head (g1) ?_
    | refine storeX_w ?_
    | ((with_reducible refine And.intro ?_ ?_); omega)
    | refine bo_buildSlice (d' := ⟨⟩) ?_
    | (refine draw_all (by kernel_rfl) ?_)
    | refine finish_pure ?_ (by repeat' (first | exact AS.le.refl _ | assumption | (refine le_set (by first | assumption | (simp only [*]; done) | exact AS.le.fresh (by assumption) (by simp only [*])) ?_) | (refine le_ty (by first | assumption | (simp only [*]; done) | exact AS.le.fresh (by assumption) (by simp only [*])) ?_)))
    | simp -dsimp only [↓bp, bq, br, afin, bsk, cWrites, opsWrites, pieceGh, rsk, ne_eq, if_true, if_false, exists_eq_left', forall_const, forall_eq, Nat.reduceLT, Int.reduceSub, Nat.reduceAdd, Nat.reduceSub, Nat.reduceMul, Nat.reduceLeDiff, Nat.reduceEqDiff, Nat.reduceBEq, Nat.reduceBNe, Int.reduceNeg, Int.reduceAdd, Int.reduceMul, Int.reduceLE, Int.reduceLT, Int.reduceEq, Int.reduceToNat, reduceIte, reduceCtorEq, tf3, tf4, tf5, tf9, tf22, tf24, tf26, tf23, Term.flat_enc, Term.isv_enc, Term.fold_enc, isv_encs, flat_encs, len_encs, isv_lims, flat_lims, *])
  all_goals rfl
theorem splits_law (hg : GlobT G) (h t : Term) (hh : h.bulk ≤ 1100000) (ht : t.bulk ≤ 1100000) : Pure Tryd.prog G 5 [h.enc, t.enc] (.bool true) := by
  have w := awake_pure hg
  have g1 := (great_pure G [h, t] (by simp only [bulks]; omega)).lessArgs (.cons (le_full [h, t]) .nil)
  simp only [List.map_cons, List.map_nil] at g1
  cases hgr : great [h, t] with
  | true => rw [hgr] at g1; exact splits_great w g1
  | false =>
  rw [hgr] at g1
  have rh := right_pure G h (by omega)
  have rt := right_pure G t (by omega)
  have c1 := cons_pure G h t (by omega) (by omega)
  by_cases hr : right h = true ∧ right t = true
  rotate_left
  · rw [cons_bad hr] at c1
    have k0 := (same_pure G zeroT zeroT (by decide) (by decide)).lessArgs (args := [zeroT.enc, nilTm 0]) (.cons (Le.refl _) (.cons zero_le .nil))
    rw [(same_iff zeroT zeroT).2 rfl] at k0
    exact splits_0 w g1 rh rt hr c1 k0
  · obtain ⟨hrh, hrt⟩ := hr
    rw [hrh] at rh
    rw [hrt] at rt
    have zh := termsize_pure G h (by omega)
    have zt := termsize_pure G t (by omega)
    have sh : 0 < size h ∧ size h ≤ 4096 := size_bounds hrh
    have st : 0 < size t ∧ size t ≤ 4096 := size_bounds hrt
    have hC : Sp G h t (cons h t) (size h) (size t) (size h + size t + 1) := ⟨w, g1, rh, rt, c1, zh, zt, wrap_nat (by omega) (by omega), rfl, wrap_nat (by omega) (by omega)⟩
    have kt := same_pure G t t (by omega) (by omega)
    rw [(same_iff t t).2 rfl] at kt
    have spt := split_pure G t (by omega)
    have hsp := split_some (t := t)
    rw [hrt, Bool.true_and] at hsp
    have w3 : IntKind.i64.wrap (size h + size t + 1 + 1) = size h + size t + 1 + 1 := wrap_nat (by omega) (by omega)
    by_cases hn : consN h t ≤ 4096
    · have hcg := cons_good hrh hrt hn
      have hb0 := bulk_cons0 h t
      have hl1 : consN h (listT [] []) ≤ 4096 := by
        have e1 : size (listT [] []) = 1 := by decide +kernel
        have e2 : (listT [] []).knd = 7 := rfl
        unfold consN at hn ⊢
        rw [e1, if_pos e2]
        split at hn <;> omega
      have hrn : right (listT [] []) = true := by decide +kernel
      have hm : cons h (listT [] []) = listT [h] [] := by rw [cons_good hrh hrn hl1]; rfl
      have hrm : right (listT [h] []) = true := by
        have := right_cons0 hrh hrn
        rw [decide_eq_true hl1] at this
        exact this
      have c2 := (cons_pure G h (listT [] []) (by omega) (by decide)).lessArgs (args := [h.enc, nilTm 7]) (.cons (Le.refl _) (.cons (enc_nil 7 false [] 0) .nil))
      rw [hm] at c2
      have tm := text_pure hg (listT [h] []) (by rw [Term.bulk_eq]; simp only [listT, Term.limbs, Term.text, Term.items, Term.tail, bulks, List.length_nil]; omega)
      have th := text_pure hg h (by omega)
      have htm : text (listT [h] []) = 91 :: (text h ++ [93]) := by
        unfold text
        rw [if_pos hrm, if_pos hrh, said_eq]
        have e7 : (listT [h] []).knd = 7 := rfl
        rw [if_neg (by omega), if_neg (by omega), if_neg (by omega), if_neg (by omega), if_neg (by omega), if_neg (by omega)]
        simp [listT, Term.items, Term.tail, saidI, saidN, saidT]
      rw [htm] at tm
      have htl : (text h).length ≤ 900000000 := by
        unfold text
        rw [if_pos hrh]
        have := said_len h hrh
        omega
      have hsl := split_pure G (cons0 h t) (by omega)
      rw [splitR_some (split_cons0 hrh hrt hn)] at hsl
      have kh := same_pure G h h (by omega) (by omega)
      rw [(same_iff h h).2 rfl] at kh
      have zl := termsize_pure G (cons0 h t) (by omega)
      rw [size_cons0 hrh hrt, if_pos hn] at zl
      have hA : SpA G h t (cons h t) (listT [h] []) (consN h t) (text h) := by
        rw [hcg]
        exact ⟨hsl, kh, kt, zl, c2, tm, th, eq_false (by rw [cons0_knd]; decide), by unfold maxLen; omega, by unfold maxLen; omega⟩
      by_cases h7 : t.knd = 7
      · have hN : consN h t = size h + size t + 1 := by unfold consN; rw [if_pos h7]; omega
        rw [hN] at hA hn
        cases hs : split t with
        | some ab =>
          obtain ⟨a, b⟩ := ab
          have hcs := cons_split hs
          rw [hs] at hsp
          rw [splitR_some hs] at spt
          have hil : t.items ≠ [] := by simpa [h7] using hsp.symm
          have hpos : 0 < t.items.length := List.length_pos_iff.2 hil
          have hab := split_bulk hs
          have c3 := cons_pure G a b (by omega) (by omega)
          rw [hcs] at c3
          exact splits_1 hC hA ⟨spt, c3, kt, eq_true h7, eq_true (by omega)⟩ (eq_false (by omega))
        | none =>
          rw [hs] at hsp
          rw [splitR_none hs] at spt
          have hil : t.items = [] := by simpa [h7] using hsp.symm
          exact splits_2 hC hA spt (eq_true h7) (eq_false (by rw [hil]; simp)) (eq_false (by omega))
      · have hN : consN h t = size h + size t + 1 + 1 := by unfold consN; rw [if_neg h7]
        rw [hN] at hA hn
        cases hs : split t with
        | some ab => rw [hs] at hsp; simp [h7] at hsp
        | none =>
          rw [splitR_none hs] at spt
          exact splits_3 hC hA spt (eq_false h7) rfl w3 (eq_false (by omega))
    · have hcg := cons_great hrh hrt hn
      have lk : ((cons h t).knd = 0) = True := eq_true (by rw [hcg]; rfl)
      by_cases h7 : t.knd = 7
      · have hN : consN h t = size h + size t + 1 := by unfold consN; rw [if_pos h7]; omega
        rw [hN] at hn
        cases hs : split t with
        | some ab =>
          obtain ⟨a, b⟩ := ab
          have hcs := cons_split hs
          rw [hs] at hsp
          rw [splitR_some hs] at spt
          have hil : t.items ≠ [] := by simpa [h7] using hsp.symm
          have hpos : 0 < t.items.length := List.length_pos_iff.2 hil
          have hab := split_bulk hs
          have c3 := cons_pure G a b (by omega) (by omega)
          rw [hcs] at c3
          exact splits_4 hC lk ⟨spt, c3, kt, eq_true h7, eq_true (by omega)⟩ (eq_true (by omega))
        | none =>
          rw [hs] at hsp
          rw [splitR_none hs] at spt
          have hil : t.items = [] := by simpa [h7] using hsp.symm
          exact splits_5 hC lk spt (eq_true h7) (eq_false (by rw [hil]; simp)) (eq_true (by omega))
      · have hN : consN h t = size h + size t + 1 + 1 := by unfold consN; rw [if_neg h7]
        rw [hN] at hn
        cases hs : split t with
        | some ab => rw [hs] at hsp; simp [h7] at hsp
        | none =>
          rw [splitR_none hs] at spt
          exact splits_6 hC lk spt (eq_false h7) rfl w3 (eq_true (by omega))
end Go.Proofs.YtjnhalmeddafdaaDoor
