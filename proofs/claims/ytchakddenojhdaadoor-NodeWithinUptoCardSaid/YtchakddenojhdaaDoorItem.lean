/- Items: the functions that say whether a tree is one. -/
import Derived.Test.YtchakddenojhdaaDoorHigh
set_option linter.unusedVariables false
set_option linter.unusedSimpArgs false
-- TF: 3 4 5 9 22 23 25 27 31 45 46 60
-- EX: Node.flat_enc Node.isv_enc Node.fold_enc isv_encs flat_encs len_encs ix_encs ix_encs'
namespace Go.Proofs.YtchakddenojhdaaDoor
open Go Go.Av
variable (G : Nat → AV)

section models
variable (it : Node → Bool)
def bodyW (t : Node) : Bool := decide (t.knd = 19) && it t
def clauseW (t : Node) : Bool :=
  plain t 20 && decide ((t.kids.length : Int) = 3) && plain (kid t.kids 0) 19 && (kid t.kids 0).kids.all it && plain (kid t.kids 1) 19 && (kid t.kids 1).kids.all (bodyW it) && bodyW it (kid t.kids 2)
def singleW (t : Node) : Bool := clauseW it t && decide (((kid t.kids 0).kids.length : Int) = 1)
def guardedW (t : Node) : Bool := clauseW it t && decide (((kid t.kids 0).kids.length : Int) = 0) && decide (0 < ((kid t.kids 1).kids.length : Int))
def caughtW (t : Node) : Bool :=
  singleW it t && decide ((kid (kid t.kids 0).kids 0).knd = 5) && decide (((kid (kid t.kids 0).kids 0).kids.length : Int) = 2) &&
    (decide ((kid (kid (kid t.kids 0).kids 0).kids 0).knd = 2) || decide ((kid (kid (kid t.kids 0).kids 0).kids 0).knd = 3))
def afterW (t : Node) : Bool := plain t 15 && decide ((t.kids.length : Int) = 2) && it (kid t.kids 0) && bodyW it (kid t.kids 1)
def qualW (t : Node) : Bool := it t || plain t 18 && decide ((t.kids.length : Int) = 2) && t.kids.all it
def kidsW (t : Node) (k : Int) : Bool :=
  if k = 105 then t.kids.all it
  else if k = 99 then t.kids.all (clauseW it)
  else if k = 101 then it (kid t.kids 0) && (t.kids.drop 1).all (singleW it)
  else if k = 103 then t.kids.all (guardedW it)
  else if k = 114 then (t.kids.take ((t.kids.length : Int) - t.num).toNat).all (singleW it) && (t.kids.drop ((t.kids.length : Int) - t.num).toNat).all (afterW it)
  else if k = 116 then bodyW it (kid t.kids 0) && (t.kids.drop 1).all (caughtW it)
  else if k = 113 then it (kid t.kids 0) && (t.kids.drop 1).all (qualW it)
  else true
end models

theorem bulk_kid {k t : Node} (h : k ∈ t.kids) : k.bulk < t.bulk := by
  have := bulk_mem h; have := t.bulk_eq; omega
theorem len_kids (t : Node) : t.kids.length < t.bulk := by
  have := len_le_bulks t.kids; have := t.bulk_eq; omega
/-- what is said of items holds of these -/
def Its (it : Node → Bool) (b : Nat) : Prop := ∀ k : Node, k.bulk < b → Pure Tryd.prog G 35 [k.enc] (.bool (it k))
theorem Its.mono {it : Node → Bool} {a b : Nat} (h : Its G it b) (hl : a ≤ b) : Its G it a := fun k hk => h k (by omega)

variable {it : Node → Bool}
theorem body_pure (t : Node) (h : Pure Tryd.prog G 35 [t.enc] (.bool (it t))) : Pure Tryd.prog G 48 [t.enc] (.bool (bodyW it t)) := by
  intro σ
  refine Tri.of_awp mixed Tryd.func48 rfl (by kernel_rfl) (by kernel_rfl) (by simp [Tryd.ntmps48]) Tryd.results48 ?_
  repeat' (first
    | with_reducible refine condW_both (fun _ _ => ?_) (fun _ _ => ?_)
    | with_reducible refine gW_both (fun _ _ => ?_) (fun _ _ => ?_)
    | with_reducible refine condW_split (fun _ => ?_) (fun _ => ?_)
    | with_reducible refine gW_split (fun _ => ?_) (fun _ => ?_)
    | with_reducible refine pickW_split (fun _ => ?_) (fun _ => ?_)
    | (refine newW_intro ?_; intro bx hbx; try simp only [fresh_box, fresh_tip] at hbx)
    | refine Pure.use (h) ?_
    | refine Pure.head (h) ?_
    | ((with_reducible refine And.intro ?_ ?_); omega)
    | refine bo_buildSlice (d' := ⟨⟩) ?_
    | (refine draw_all (by kernel_rfl) ?_)
    | refine finish_pure ?_ (by repeat' (first | exact AS.le.refl _ | assumption | (refine le_set (by first | assumption | (simp only [*]; done) | exact AS.le.fresh (by assumption) (by simp only [*])) ?_)))
    | simp -dsimp only [↓w_seq, ↓w_region, ↓w_draw, ↓w_cond, ↓w_block, ↓w_loop, ↓w_exit, ↓w_ret, ↓w_skip, ↓w_nil, ↓w_cons, ↓h_nil, ↓h_cons, ↓o_store, ↓o_append, ↓fin_normal, ↓fin_ret, ↓fin_exit, ↓ev_tmp, ↓ev_const, ↓ev_global, ↓ev_func, ↓upd_some, ↓upd_none, ↓mrg_at, ↓argEnv_at, ↓box_set, ↓box_tip, ↓box_del, ↓tip_box, ↓tip_set, ↓tip_del, ↓o_move, ↓o_assign, ↓o_pick, ↓o_alloc, ↓o_box, ↓o_build, ↓o_buildSlice, ↓o_makeSlice, ↓o_load, ↓o_nilCheck, ↓o_binOp, ↓o_unOp, ↓o_convert, ↓o_makeFunc, ↓o_slice, ↓o_fieldAddr, ↓o_field, ↓o_indexAddr, ↓o_index, ↓o_extract, ↓o_len, ↓o_max, ↓o_min, ↓o_call, ↓h_move, ↓h_assign, ↓h_pick, ↓h_alloc, ↓h_box, ↓h_build, ↓h_buildSlice, ↓h_load, ↓h_nilCheck, ↓h_binOp, ↓h_unOp, ↓h_convert, ↓h_makeFunc, ↓h_slice, ↓h_fieldAddr, ↓h_field, ↓h_indexAddr, ↓h_index, ↓h_extract, ↓h_len, ↓h_max, ↓h_min, ↓h_call, ↓ht_nil, ↓ht_cons, ↓iw_move, ↓iw_assign, ↓iw_pick, ↓iw_alloc, ↓iw_box, ↓iw_build, ↓iw_buildSlice, ↓iw_makeSlice, ↓iw_load, ↓iw_nilCheck, ↓iw_binOp, ↓iw_unOp, ↓iw_convert, ↓iw_makeFunc, ↓iw_slice, ↓iw_fieldAddr, ↓iw_field, ↓iw_indexAddr, ↓iw_index, ↓iw_extract, ↓iw_len, ↓iw_max, ↓iw_min, ↓iw_call, ↓iw_call, ↓iw_store, ↓iw_append, htW_true, htW_false, aw_none, aw_some, awo_some, awk_true, awk_false, awk_skip, gW_true, gW_false, gW_not, condW_not, bo_some, bo_none, bo_ite, bo_ite', st_eq, condW_true, condW_false, pickW_true, pickW_false, boxW_eq, nilW_ptr, nilW_rp, nilW_fn, callW_nocaps, callW_fn, c_bool, c_int, c_str, c_nil, c_nilptr, c_nilfn, aload_ptr, ldk_some, aload_rp, ldr_some, rd_true, rd_false, afield_eq, fdk_ptr, fdk_rp, afieldv_agg, fvk_some, aindexA_sl, ixk_some, aindex_str, aextract_tup, abin_int, abin_str, abin_bool, abin_nil_nil, abin_nil_sl, abin_sl_nil, abin_fn_nil, isNil_full, isNil_own, isNil_cons, i_add, i_sub, i_mul, i_quo, i_rem, i_eql, i_neq, i_lss, i_leq, i_gtr, i_geq, i_and, i_or, i_xor, i_shl, i_shr, s_eql, s_neq, s_add, s_lss, aeq_eql, aeq_neq, aun_not, aun_neg, aconvW_int, cvk_int, aconvW_str, cvw_str, cvw_bytes, set_set, aindexA_rp, aindexA_ptr, iak_some, abuild_eq, bdk_some, afill_nil, afill_cons, flk_some, bsk, l_str, l_nil, l_sl, l_max, l_min, astore_ptr, stk_some, pairs_nil, pairs_cons, ares_nil, ares_tmp, ares_cell, ares_two, afin, abnd_none, abnd_int, aslice_str, slks_some, pieceGh, flat_agg, flat_bool, flat_int, flat_str, flat_nil, flat_sl, flat_ptr, flat_rp, flat_fn, flat_nilptr, flat_nilfn, isv_agg, isv_bool, isv_int, isv_str, isv_nil, isv_sl, isv_ptr, isv_rp, isv_fn, isv_nilptr, isv_nilfn, List.getD_cons_zero, List.getD_cons_succ, List.getD_nil, List.map_cons, List.map_nil, List.getElem?_cons_zero, List.getElem?_cons_succ, List.getElem?_nil, List.take_zero, List.take_length, List.take_succ_cons, List.take_nil, List.drop_zero, List.drop_succ_cons, List.drop_nil, List.length_cons, List.length_nil, List.head?_cons, List.head?_nil, List.cons_append, List.nil_append, List.append_nil, List.all_cons, List.all_nil, List.range_zero, List.length_map, List.getElem?_map, List.size_toArray, List.getElem?_toArray, List.toList_toArray, Option.map_some, Option.map_none, Option.bind_some, Option.bind_none, Option.isSome_some, Option.isSome_none, Option.some.injEq, Nat.reduceLT, Int.reduceSub, Nat.reduceAdd, Nat.reduceSub, Nat.reduceMul, Nat.reduceLeDiff, Nat.reduceEqDiff, Nat.reduceBEq, Nat.reduceBNe, Nat.zero_add, Nat.add_zero, Nat.le_refl, Nat.add_one_ne_zero, Int.reduceNeg, Int.reduceAdd, Int.reduceSub, Int.reduceMul, Int.reduceLE, Int.reduceLT, Int.reduceEq, Int.reduceToNat, Int.toNat_natCast, Int.natCast_nonneg, reduceIte, reduceCtorEq, ne_eq, not_true_eq_false, not_false_eq_true, if_true, if_false, and_true, true_and, and_false, false_and, or_true, true_or, or_false, false_or, Bool.and_true, Bool.true_and, Bool.and_false, Bool.false_and, Bool.false_eq_true, Bool.true_eq_false, Bool.not_true, Bool.not_false, beq_self_eq_true, decide_true, decide_false, decide_eq_true_eq, List.contains_cons, List.contains_nil, Bool.or_true, Bool.true_or, Bool.or_false, Bool.false_or, cWrites, opsWrites, List.filterMap_cons, List.filterMap_nil, exists_eq_left', forall_const, forall_eq, List.range_succ, List.append_eq, tf3, tf4, tf5, tf9, tf22, tf23, tf25, tf27, tf31, tf45, tf46, tf60, Node.flat_enc, Node.isv_enc, Node.fold_enc, isv_encs, flat_encs, len_encs, ix_encs, ix_encs', *])
  all_goals simp [bodyW, *]
theorem clause_pure (t : Node) (h : Its G it t.bulk) (hb : t.bulk ≤ 1000000000) : Pure Tryd.prog G 43 [t.enc] (.bool (clauseW it t)) := by
  intro σ
  have hk := fun i (hi : i < t.kids.length) => bulk_kid (kid_mem hi)
  have hkk := fun i (hi : i < t.kids.length) => fun x (hx : x ∈ (kid t.kids i).kids) => Nat.lt_trans (bulk_kid hx) (hk i hi)
  refine Tri.of_awp mixed Tryd.func43 rfl (by kernel_rfl) (by kernel_rfl) (by simp [Tryd.ntmps43]) Tryd.results43 ?_
  repeat' (first
    | with_reducible refine condW_both (fun _ _ => ?_) (fun _ _ => ?_)
    | with_reducible refine gW_both (fun _ _ => ?_) (fun _ _ => ?_)
    | with_reducible refine condW_split (fun _ => ?_) (fun _ => ?_)
    | with_reducible refine gW_split (fun _ => ?_) (fun _ => ?_)
    | with_reducible refine pickW_split (fun _ => ?_) (fun _ => ?_)
    | (refine newW_intro ?_; intro bx hbx; try simp only [fresh_box, fresh_tip] at hbx)
    | (rw [kid_get]; rotate_left; omega)
    | refine Pure.use (by apply plain_pure <;> (first | assumption | omega | (simp only [*]; done))) ?_
    | refine Pure.use (all_pure G it _ (by have := len_kids (kid t.kids 0); have := hk 0 (by omega); omega) (fun x hx => h x (hkk 0 (by omega) x hx))) ?_
    | refine Pure.head (all_pure G it _ (by have := len_kids (kid t.kids 0); have := hk 0 (by omega); omega) (fun x hx => h x (hkk 0 (by omega) x hx))) ?_
    | refine Pure.use (all_pure G (bodyW it) _ (by have := len_kids (kid t.kids 1); have := hk 1 (by omega); omega) (fun x hx => body_pure G x (h x (hkk 1 (by omega) x hx)))) ?_
    | refine Pure.head (all_pure G (bodyW it) _ (by have := len_kids (kid t.kids 1); have := hk 1 (by omega); omega) (fun x hx => body_pure G x (h x (hkk 1 (by omega) x hx)))) ?_
    | refine Pure.use (body_pure G (kid t.kids 2) (h _ (hk 2 (by omega)))) ?_
    | refine Pure.head (body_pure G (kid t.kids 2) (h _ (hk 2 (by omega)))) ?_
    | ((with_reducible refine And.intro ?_ ?_); omega)
    | refine bo_buildSlice (d' := ⟨⟩) ?_
    | (refine draw_all (by kernel_rfl) ?_)
    | refine finish_pure ?_ (by repeat' (first | exact AS.le.refl _ | assumption | (refine le_set (by first | assumption | (simp only [*]; done) | exact AS.le.fresh (by assumption) (by simp only [*])) ?_)))
    | simp -dsimp only [↓w_seq, ↓w_region, ↓w_draw, ↓w_cond, ↓w_block, ↓w_loop, ↓w_exit, ↓w_ret, ↓w_skip, ↓w_nil, ↓w_cons, ↓h_nil, ↓h_cons, ↓o_store, ↓o_append, ↓fin_normal, ↓fin_ret, ↓fin_exit, ↓ev_tmp, ↓ev_const, ↓ev_global, ↓ev_func, ↓upd_some, ↓upd_none, ↓mrg_at, ↓argEnv_at, ↓box_set, ↓box_tip, ↓box_del, ↓tip_box, ↓tip_set, ↓tip_del, ↓o_move, ↓o_assign, ↓o_pick, ↓o_alloc, ↓o_box, ↓o_build, ↓o_buildSlice, ↓o_makeSlice, ↓o_load, ↓o_nilCheck, ↓o_binOp, ↓o_unOp, ↓o_convert, ↓o_makeFunc, ↓o_slice, ↓o_fieldAddr, ↓o_field, ↓o_indexAddr, ↓o_index, ↓o_extract, ↓o_len, ↓o_max, ↓o_min, ↓o_call, ↓h_move, ↓h_assign, ↓h_pick, ↓h_alloc, ↓h_box, ↓h_build, ↓h_buildSlice, ↓h_load, ↓h_nilCheck, ↓h_binOp, ↓h_unOp, ↓h_convert, ↓h_makeFunc, ↓h_slice, ↓h_fieldAddr, ↓h_field, ↓h_indexAddr, ↓h_index, ↓h_extract, ↓h_len, ↓h_max, ↓h_min, ↓h_call, ↓ht_nil, ↓ht_cons, ↓iw_move, ↓iw_assign, ↓iw_pick, ↓iw_alloc, ↓iw_box, ↓iw_build, ↓iw_buildSlice, ↓iw_makeSlice, ↓iw_load, ↓iw_nilCheck, ↓iw_binOp, ↓iw_unOp, ↓iw_convert, ↓iw_makeFunc, ↓iw_slice, ↓iw_fieldAddr, ↓iw_field, ↓iw_indexAddr, ↓iw_index, ↓iw_extract, ↓iw_len, ↓iw_max, ↓iw_min, ↓iw_call, ↓iw_call, ↓iw_store, ↓iw_append, htW_true, htW_false, aw_none, aw_some, awo_some, awk_true, awk_false, awk_skip, gW_true, gW_false, gW_not, condW_not, bo_some, bo_none, bo_ite, bo_ite', st_eq, condW_true, condW_false, pickW_true, pickW_false, boxW_eq, nilW_ptr, nilW_rp, nilW_fn, callW_nocaps, callW_fn, c_bool, c_int, c_str, c_nil, c_nilptr, c_nilfn, aload_ptr, ldk_some, aload_rp, ldr_some, rd_true, rd_false, afield_eq, fdk_ptr, fdk_rp, afieldv_agg, fvk_some, aindexA_sl, ixk_some, aindex_str, aextract_tup, abin_int, abin_str, abin_bool, abin_nil_nil, abin_nil_sl, abin_sl_nil, abin_fn_nil, isNil_full, isNil_own, isNil_cons, i_add, i_sub, i_mul, i_quo, i_rem, i_eql, i_neq, i_lss, i_leq, i_gtr, i_geq, i_and, i_or, i_xor, i_shl, i_shr, s_eql, s_neq, s_add, s_lss, aeq_eql, aeq_neq, aun_not, aun_neg, aconvW_int, cvk_int, aconvW_str, cvw_str, cvw_bytes, set_set, aindexA_rp, aindexA_ptr, iak_some, abuild_eq, bdk_some, afill_nil, afill_cons, flk_some, bsk, l_str, l_nil, l_sl, l_max, l_min, astore_ptr, stk_some, pairs_nil, pairs_cons, ares_nil, ares_tmp, ares_cell, ares_two, afin, abnd_none, abnd_int, aslice_str, slks_some, pieceGh, flat_agg, flat_bool, flat_int, flat_str, flat_nil, flat_sl, flat_ptr, flat_rp, flat_fn, flat_nilptr, flat_nilfn, isv_agg, isv_bool, isv_int, isv_str, isv_nil, isv_sl, isv_ptr, isv_rp, isv_fn, isv_nilptr, isv_nilfn, List.getD_cons_zero, List.getD_cons_succ, List.getD_nil, List.map_cons, List.map_nil, List.getElem?_cons_zero, List.getElem?_cons_succ, List.getElem?_nil, List.take_zero, List.take_length, List.take_succ_cons, List.take_nil, List.drop_zero, List.drop_succ_cons, List.drop_nil, List.length_cons, List.length_nil, List.head?_cons, List.head?_nil, List.cons_append, List.nil_append, List.append_nil, List.all_cons, List.all_nil, List.range_zero, List.length_map, List.getElem?_map, List.size_toArray, List.getElem?_toArray, List.toList_toArray, Option.map_some, Option.map_none, Option.bind_some, Option.bind_none, Option.isSome_some, Option.isSome_none, Option.some.injEq, Nat.reduceLT, Int.reduceSub, Nat.reduceAdd, Nat.reduceSub, Nat.reduceMul, Nat.reduceLeDiff, Nat.reduceEqDiff, Nat.reduceBEq, Nat.reduceBNe, Nat.zero_add, Nat.add_zero, Nat.le_refl, Nat.add_one_ne_zero, Int.reduceNeg, Int.reduceAdd, Int.reduceSub, Int.reduceMul, Int.reduceLE, Int.reduceLT, Int.reduceEq, Int.reduceToNat, Int.toNat_natCast, Int.natCast_nonneg, reduceIte, reduceCtorEq, ne_eq, not_true_eq_false, not_false_eq_true, if_true, if_false, and_true, true_and, and_false, false_and, or_true, true_or, or_false, false_or, Bool.and_true, Bool.true_and, Bool.and_false, Bool.false_and, Bool.false_eq_true, Bool.true_eq_false, Bool.not_true, Bool.not_false, beq_self_eq_true, decide_true, decide_false, decide_eq_true_eq, List.contains_cons, List.contains_nil, Bool.or_true, Bool.true_or, Bool.or_false, Bool.false_or, cWrites, opsWrites, List.filterMap_cons, List.filterMap_nil, exists_eq_left', forall_const, forall_eq, List.range_succ, List.append_eq, tf3, tf4, tf5, tf9, tf22, tf23, tf25, tf27, tf31, tf45, tf46, tf60, Node.flat_enc, Node.isv_enc, Node.fold_enc, isv_encs, flat_encs, len_encs, ix_encs, ix_encs', *])
  all_goals simp [clauseW, *]
end Go.Proofs.YtchakddenojhdaaDoor
