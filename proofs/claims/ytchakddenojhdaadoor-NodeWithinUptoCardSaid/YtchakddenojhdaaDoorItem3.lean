/- Items, joined: the table of shapes, and what is an item. -/
import Derived.Test.YtchakddenojhdaaDoorWord
set_option linter.unusedVariables false
set_option linter.unusedSimpArgs false
-- TF: 3 4 5 9 22 23 25 27 31 45 46 60
-- EX: Node.flat_enc Node.isv_enc Node.fold_enc isv_encs flat_encs len_encs ix_encs ix_encs'
namespace Go.Proofs.YtchakddenojhdaaDoor
open Go Go.Av Go.RowKit
variable (G : Nat → AV)

/-- text, kids, num, least, most -/
structure Shape where
  text : Int
  kids : Int
  num : Int
  least : Int
  most : Int
def shapes : List Shape := [⟨0,0,0,0,0⟩, ⟨100,0,0,0,0⟩, ⟨110,0,0,0,0⟩, ⟨118,0,0,0,0⟩, ⟨115,0,0,0,0⟩, ⟨0,105,0,0,-1⟩, ⟨0,105,1,0,-1⟩, ⟨111,105,0,1,2⟩, ⟨0,105,0,2,2⟩, ⟨0,105,0,1,-1⟩, ⟨0,99,0,1,-1⟩, ⟨110,0,255,0,0⟩, ⟨0,101,0,2,-1⟩, ⟨0,103,0,1,-1⟩, ⟨0,114,1,1,-1⟩, ⟨0,0,0,0,0⟩, ⟨0,116,0,2,-1⟩, ⟨0,113,0,2,-1⟩, ⟨0,0,0,0,0⟩, ⟨0,105,0,1,-1⟩]
def Shape.cells (s : Shape) : List AV := [.int .u8 s.text, .int .u8 s.kids, .int .i64 s.num, .int .i64 s.least, .int .i64 s.most]
def shapeOf (k : Int) : Shape := shapes.getD k.toNat ⟨0,0,0,0,0⟩
def shapeCells : List AV := shapes.flatMap Shape.cells
theorem shape_row {k : Int} (h0 : 0 ≤ k) (h : k < 20) : (shapeCells.drop (k.toNat * 5)).take 5 = (shapeOf k).cells := by
  obtain ⟨n, rfl⟩ := Int.eq_ofNat_of_zero_le h0
  have hn : n < 20 := by omega
  have : ∀ n, n < 20 → (shapeCells.drop (((n : Nat) : Int).toNat * 5)).take 5 = (shapeOf (n : Nat)).cells := by
    intro n hn
    match n, hn with
    | 0, _ | 1, _ | 2, _ | 3, _ | 4, _ | 5, _ | 6, _ | 7, _ | 8, _ | 9, _ | 10, _ | 11, _ | 12, _ | 13, _ | 14, _ | 15, _ | 16, _ | 17, _ | 18, _ | 19, _ => rfl
    | n + 20, h => omega
  exact this n hn
def itemStep (it : Node → Bool) (t : Node) : Bool :=
  if decide (20 ≤ t.knd) || decide (t.knd = 0) || decide (t.knd = 15) || decide (t.knd = 18) || decide (t.at_ < 0) then false
  else if decide (t.num < 0) || decide ((shapeOf t.knd).num < t.num) || decide ((t.kids.length : Int) < (shapeOf t.knd).least) ||
    (decide (0 ≤ (shapeOf t.knd).most) && decide ((shapeOf t.knd).most < (t.kids.length : Int))) || (decide (t.knd = 6) && decide (t.num = 1) && decide ((t.kids.length : Int) < 2)) then false
  else wordedW t (shapeOf t.knd).text && kidsW it t (shapeOf t.knd).kids
theorem wants_of {t : Node} {k : Int} (h0 : 0 ≤ t.num) (h1 : t.num ≤ (shapeOf k).num) (h2 : (shapeOf k).least ≤ (t.kids.length : Int)) (hk0 : 0 ≤ k) (hk : k < 20) : Wants t (shapeOf k).kids := by
  have : ∀ n, n < 20 → ((shapeOf ((n : Nat) : Int)).kids = 101 ∨ (shapeOf (n : Nat)).kids = 116 ∨ (shapeOf (n : Nat)).kids = 113 → 0 < (shapeOf (n : Nat)).least) ∧ ((shapeOf (n : Nat)).kids = 114 → (shapeOf (n : Nat)).num ≤ (shapeOf (n : Nat)).least) := by decide
  obtain ⟨n, rfl⟩ := Int.eq_ofNat_of_zero_le hk0
  obtain ⟨g1, g2⟩ := this n (by omega)
  exact ⟨fun h => by have := g1 h; omega, fun h => by have := g2 h; omega⟩
set_option maxHeartbeats 2000000 in
theorem item_step (hs : G 0 = .rp shapeCells) (m : Int) (hm : G 1 = .rp [.int .i64 m]) {it : Node → Bool} (t : Node) (h : Its G it t.bulk) (hb : t.bulk ≤ 1000000000) : Pure Tryd.prog G 35 [t.enc] (.bool (itemStep it t)) := by
  intro σ
  have h1 := t.knd_nn
  have h2 := t.knd_lt
  have hw : IntKind.i64.wrap t.knd = t.knd := wrap_nat (by omega) (by omega)
  have htl : t.text.length ≤ 1000000000 := by have := t.bulk_eq; omega
  have hwd := worded_pure G m hm t (shapeOf t.knd).text htl
  have hkd := fun hww => kids_pure G t (shapeOf t.knd).kids h hb hww
  have hll : shapeCells.length = 100 := rfl
  clear h
  by_cases h20 : 20 ≤ t.knd
  · refine Tri.of_awp mixed Tryd.func35 rfl (by kernel_rfl) (by kernel_rfl) (by simp [Tryd.ntmps35]) Tryd.results35 ?_
    repeat' (first
    | with_reducible refine condW_both (fun _ _ => ?_) (fun _ _ => ?_)
    | with_reducible refine gW_both (fun _ _ => ?_) (fun _ _ => ?_)
    | with_reducible refine condW_split (fun _ => ?_) (fun _ => ?_)
    | with_reducible refine gW_split (fun _ => ?_) (fun _ => ?_)
    | with_reducible refine pickW_split (fun _ => ?_) (fun _ => ?_)
    | (refine newW_intro ?_; intro bx hbx; try simp only [fresh_box, fresh_tip] at hbx)
    | ((with_reducible refine And.intro ?_ ?_); omega)
    | refine bo_buildSlice (d' := ⟨⟩) ?_
    | (refine draw_all (by kernel_rfl) ?_)
    | refine finish_pure ?_ (by repeat' (first | exact AS.le.refl _ | assumption | (refine le_set (by first | assumption | (simp only [*]; done) | exact AS.le.fresh (by assumption) (by simp only [*])) ?_)))
    | simp -dsimp only [↓w_seq, ↓w_region, ↓w_draw, ↓w_cond, ↓w_block, ↓w_loop, ↓w_exit, ↓w_ret, ↓w_skip, ↓w_nil, ↓w_cons, ↓h_nil, ↓h_cons, ↓o_store, ↓o_append, ↓fin_normal, ↓fin_ret, ↓fin_exit, ↓ev_tmp, ↓ev_const, ↓ev_global, ↓ev_func, ↓upd_some, ↓upd_none, ↓mrg_at, ↓argEnv_at, ↓box_set, ↓box_tip, ↓box_del, ↓tip_box, ↓tip_set, ↓tip_del, ↓o_move, ↓o_assign, ↓o_pick, ↓o_alloc, ↓o_box, ↓o_build, ↓o_buildSlice, ↓o_makeSlice, ↓o_load, ↓o_nilCheck, ↓o_binOp, ↓o_unOp, ↓o_convert, ↓o_makeFunc, ↓o_slice, ↓o_fieldAddr, ↓o_field, ↓o_indexAddr, ↓o_index, ↓o_extract, ↓o_len, ↓o_max, ↓o_min, ↓o_call, ↓h_move, ↓h_assign, ↓h_pick, ↓h_alloc, ↓h_box, ↓h_build, ↓h_buildSlice, ↓h_load, ↓h_nilCheck, ↓h_binOp, ↓h_unOp, ↓h_convert, ↓h_makeFunc, ↓h_slice, ↓h_fieldAddr, ↓h_field, ↓h_indexAddr, ↓h_index, ↓h_extract, ↓h_len, ↓h_max, ↓h_min, ↓h_call, ↓ht_nil, ↓ht_cons, ↓iw_move, ↓iw_assign, ↓iw_pick, ↓iw_alloc, ↓iw_box, ↓iw_build, ↓iw_buildSlice, ↓iw_makeSlice, ↓iw_load, ↓iw_nilCheck, ↓iw_binOp, ↓iw_unOp, ↓iw_convert, ↓iw_makeFunc, ↓iw_slice, ↓iw_fieldAddr, ↓iw_field, ↓iw_indexAddr, ↓iw_index, ↓iw_extract, ↓iw_len, ↓iw_max, ↓iw_min, ↓iw_call, ↓iw_call, ↓iw_store, ↓iw_append, htW_true, htW_false, aw_none, aw_some, awo_some, awk_true, awk_false, awk_skip, gW_true, gW_false, gW_not, condW_not, bo_some, bo_none, bo_ite, bo_ite', st_eq, condW_true, condW_false, pickW_true, pickW_false, boxW_eq, nilW_ptr, nilW_rp, nilW_fn, callW_nocaps, callW_fn, c_bool, c_int, c_str, c_nil, c_nilptr, c_nilfn, aload_ptr, ldk_some, aload_rp, ldr_some, rd_true, rd_false, afield_eq, fdk_ptr, fdk_rp, afieldv_agg, fvk_some, aindexA_sl, ixk_some, aindex_str, aextract_tup, abin_int, abin_str, abin_bool, abin_nil_nil, abin_nil_sl, abin_sl_nil, abin_fn_nil, isNil_full, isNil_own, isNil_cons, i_add, i_sub, i_mul, i_quo, i_rem, i_eql, i_neq, i_lss, i_leq, i_gtr, i_geq, i_and, i_or, i_xor, i_shl, i_shr, s_eql, s_neq, s_add, s_lss, aeq_eql, aeq_neq, aun_not, aun_neg, aconvW_int, cvk_int, aconvW_str, cvw_str, cvw_bytes, set_set, aindexA_rp, aindexA_ptr, iak_some, abuild_eq, bdk_some, afill_nil, afill_cons, flk_some, bsk, l_str, l_nil, l_sl, l_max, l_min, astore_ptr, stk_some, pairs_nil, pairs_cons, ares_nil, ares_tmp, ares_cell, ares_two, afin, abnd_none, abnd_int, aslice_str, slks_some, pieceGh, flat_agg, flat_bool, flat_int, flat_str, flat_nil, flat_sl, flat_ptr, flat_rp, flat_fn, flat_nilptr, flat_nilfn, isv_agg, isv_bool, isv_int, isv_str, isv_nil, isv_sl, isv_ptr, isv_rp, isv_fn, isv_nilptr, isv_nilfn, List.getD_cons_zero, List.getD_cons_succ, List.getD_nil, List.map_cons, List.map_nil, List.getElem?_cons_zero, List.getElem?_cons_succ, List.getElem?_nil, List.take_zero, List.take_length, List.take_succ_cons, List.take_nil, List.drop_zero, List.drop_succ_cons, List.drop_nil, List.length_cons, List.length_nil, List.head?_cons, List.head?_nil, List.cons_append, List.nil_append, List.append_nil, List.all_cons, List.all_nil, List.range_zero, List.length_map, List.getElem?_map, List.size_toArray, List.getElem?_toArray, List.toList_toArray, Option.map_some, Option.map_none, Option.bind_some, Option.bind_none, Option.isSome_some, Option.isSome_none, Option.some.injEq, Nat.reduceLT, Int.reduceSub, Nat.reduceAdd, Nat.reduceSub, Nat.reduceMul, Nat.reduceLeDiff, Nat.reduceEqDiff, Nat.reduceBEq, Nat.reduceBNe, Nat.zero_add, Nat.add_zero, Nat.le_refl, Nat.add_one_ne_zero, Int.reduceNeg, Int.reduceAdd, Int.reduceSub, Int.reduceMul, Int.reduceLE, Int.reduceLT, Int.reduceEq, Int.reduceToNat, Int.toNat_natCast, Int.natCast_nonneg, reduceIte, reduceCtorEq, ne_eq, not_true_eq_false, not_false_eq_true, if_true, if_false, and_true, true_and, and_false, false_and, or_true, true_or, or_false, false_or, Bool.and_true, Bool.true_and, Bool.and_false, Bool.false_and, Bool.false_eq_true, Bool.true_eq_false, Bool.not_true, Bool.not_false, beq_self_eq_true, decide_true, decide_false, decide_eq_true_eq, List.contains_cons, List.contains_nil, Bool.or_true, Bool.true_or, Bool.or_false, Bool.false_or, cWrites, opsWrites, List.filterMap_cons, List.filterMap_nil, exists_eq_left', forall_const, forall_eq, List.range_succ, List.append_eq, tf3, tf4, tf5, tf9, tf22, tf23, tf25, tf27, tf31, tf45, tf46, tf60, Node.flat_enc, Node.isv_enc, Node.fold_enc, isv_encs, flat_encs, len_encs, ix_encs, ix_encs', hs, *])
    all_goals (first | (simp only [itemStep, *, Bool.and_true, Bool.true_and, Bool.and_false, Bool.false_and, Bool.or_true, Bool.true_or, Bool.or_false, Bool.false_or, Bool.not_true, Bool.not_false, if_true, if_false, Bool.and_self, Bool.or_self]; done) | (simp [itemStep, *]; done) | (simp_all [itemStep]; done))
  · have hsr := shape_row h1 (Int.not_le.1 h20)
    have hdl : 5 ≤ (shapeCells.drop (t.knd.toNat * 5)).length := by rw [List.length_drop, hll]; omega
    have hl2 : t.knd.toNat < 20 := by omega
    refine Tri.of_awp mixed Tryd.func35 rfl (by kernel_rfl) (by kernel_rfl) (by simp [Tryd.ntmps35]) Tryd.results35 ?_
    repeat' (first
    | with_reducible refine condW_both (fun _ _ => ?_) (fun _ _ => ?_)
    | with_reducible refine gW_both (fun _ _ => ?_) (fun _ _ => ?_)
    | with_reducible refine condW_split (fun _ => ?_) (fun _ => ?_)
    | with_reducible refine gW_split (fun _ => ?_) (fun _ => ?_)
    | with_reducible refine pickW_split (fun _ => ?_) (fun _ => ?_)
    | (refine newW_intro ?_; intro bx hbx; try simp only [fresh_box, fresh_tip] at hbx)
    | refine Pure.use (hwd) ?_
    | refine Pure.head (hwd) ?_
    | refine Pure.use (hkd (wants_of (by omega) (by omega) (by omega) (by omega) (by omega))) ?_
    | refine Pure.head (hkd (wants_of (by omega) (by omega) (by omega) (by omega) (by omega))) ?_
    | ((with_reducible refine And.intro ?_ ?_); omega)
    | refine bo_buildSlice (d' := ⟨⟩) ?_
    | (refine draw_all (by kernel_rfl) ?_)
    | refine finish_pure ?_ (by repeat' (first | exact AS.le.refl _ | assumption | (refine le_set (by first | assumption | (simp only [*]; done) | exact AS.le.fresh (by assumption) (by simp only [*])) ?_)))
    | simp -dsimp only [↓w_seq, ↓w_region, ↓w_draw, ↓w_cond, ↓w_block, ↓w_loop, ↓w_exit, ↓w_ret, ↓w_skip, ↓w_nil, ↓w_cons, ↓h_nil, ↓h_cons, ↓o_store, ↓o_append, ↓fin_normal, ↓fin_ret, ↓fin_exit, ↓ev_tmp, ↓ev_const, ↓ev_global, ↓ev_func, ↓upd_some, ↓upd_none, ↓mrg_at, ↓argEnv_at, ↓box_set, ↓box_tip, ↓box_del, ↓tip_box, ↓tip_set, ↓tip_del, ↓o_move, ↓o_assign, ↓o_pick, ↓o_alloc, ↓o_box, ↓o_build, ↓o_buildSlice, ↓o_makeSlice, ↓o_load, ↓o_nilCheck, ↓o_binOp, ↓o_unOp, ↓o_convert, ↓o_makeFunc, ↓o_slice, ↓o_fieldAddr, ↓o_field, ↓o_indexAddr, ↓o_index, ↓o_extract, ↓o_len, ↓o_max, ↓o_min, ↓o_call, ↓h_move, ↓h_assign, ↓h_pick, ↓h_alloc, ↓h_box, ↓h_build, ↓h_buildSlice, ↓h_load, ↓h_nilCheck, ↓h_binOp, ↓h_unOp, ↓h_convert, ↓h_makeFunc, ↓h_slice, ↓h_fieldAddr, ↓h_field, ↓h_indexAddr, ↓h_index, ↓h_extract, ↓h_len, ↓h_max, ↓h_min, ↓h_call, ↓ht_nil, ↓ht_cons, ↓iw_move, ↓iw_assign, ↓iw_pick, ↓iw_alloc, ↓iw_box, ↓iw_build, ↓iw_buildSlice, ↓iw_makeSlice, ↓iw_load, ↓iw_nilCheck, ↓iw_binOp, ↓iw_unOp, ↓iw_convert, ↓iw_makeFunc, ↓iw_slice, ↓iw_fieldAddr, ↓iw_field, ↓iw_indexAddr, ↓iw_index, ↓iw_extract, ↓iw_len, ↓iw_max, ↓iw_min, ↓iw_call, ↓iw_call, ↓iw_store, ↓iw_append, htW_true, htW_false, aw_none, aw_some, awo_some, awk_true, awk_false, awk_skip, gW_true, gW_false, gW_not, condW_not, bo_some, bo_none, bo_ite, bo_ite', st_eq, condW_true, condW_false, pickW_true, pickW_false, boxW_eq, nilW_ptr, nilW_rp, nilW_fn, callW_nocaps, callW_fn, c_bool, c_int, c_str, c_nil, c_nilptr, c_nilfn, aload_ptr, ldk_some, aload_rp, ldr_some, rd_true, rd_false, afield_eq, fdk_ptr, fdk_rp, afieldv_agg, fvk_some, aindexA_sl, ixk_some, aindex_str, aextract_tup, abin_int, abin_str, abin_bool, abin_nil_nil, abin_nil_sl, abin_sl_nil, abin_fn_nil, isNil_full, isNil_own, isNil_cons, i_add, i_sub, i_mul, i_quo, i_rem, i_eql, i_neq, i_lss, i_leq, i_gtr, i_geq, i_and, i_or, i_xor, i_shl, i_shr, s_eql, s_neq, s_add, s_lss, aeq_eql, aeq_neq, aun_not, aun_neg, aconvW_int, cvk_int, aconvW_str, cvw_str, cvw_bytes, set_set, aindexA_rp, aindexA_ptr, iak_some, abuild_eq, bdk_some, afill_nil, afill_cons, flk_some, bsk, l_str, l_nil, l_sl, l_max, l_min, astore_ptr, stk_some, pairs_nil, pairs_cons, ares_nil, ares_tmp, ares_cell, ares_two, afin, abnd_none, abnd_int, aslice_str, slks_some, pieceGh, flat_agg, flat_bool, flat_int, flat_str, flat_nil, flat_sl, flat_ptr, flat_rp, flat_fn, flat_nilptr, flat_nilfn, isv_agg, isv_bool, isv_int, isv_str, isv_nil, isv_sl, isv_ptr, isv_rp, isv_fn, isv_nilptr, isv_nilfn, List.getD_cons_zero, List.getD_cons_succ, List.getD_nil, List.map_cons, List.map_nil, List.getElem?_cons_zero, List.getElem?_cons_succ, List.getElem?_nil, List.take_zero, List.take_length, List.take_succ_cons, List.take_nil, List.drop_zero, List.drop_succ_cons, List.drop_nil, List.length_cons, List.length_nil, List.head?_cons, List.head?_nil, List.cons_append, List.nil_append, List.append_nil, List.all_cons, List.all_nil, List.range_zero, List.length_map, List.getElem?_map, List.size_toArray, List.getElem?_toArray, List.toList_toArray, Option.map_some, Option.map_none, Option.bind_some, Option.bind_none, Option.isSome_some, Option.isSome_none, Option.some.injEq, Nat.reduceLT, Int.reduceSub, Nat.reduceAdd, Nat.reduceSub, Nat.reduceMul, Nat.reduceLeDiff, Nat.reduceEqDiff, Nat.reduceBEq, Nat.reduceBNe, Nat.zero_add, Nat.add_zero, Nat.le_refl, Nat.add_one_ne_zero, Int.reduceNeg, Int.reduceAdd, Int.reduceSub, Int.reduceMul, Int.reduceLE, Int.reduceLT, Int.reduceEq, Int.reduceToNat, Int.toNat_natCast, Int.natCast_nonneg, reduceIte, reduceCtorEq, ne_eq, not_true_eq_false, not_false_eq_true, if_true, if_false, and_true, true_and, and_false, false_and, or_true, true_or, or_false, false_or, Bool.and_true, Bool.true_and, Bool.and_false, Bool.false_and, Bool.false_eq_true, Bool.true_eq_false, Bool.not_true, Bool.not_false, beq_self_eq_true, decide_true, decide_false, decide_eq_true_eq, List.contains_cons, List.contains_nil, Bool.or_true, Bool.true_or, Bool.or_false, Bool.false_or, cWrites, opsWrites, List.filterMap_cons, List.filterMap_nil, exists_eq_left', forall_const, forall_eq, List.range_succ, List.append_eq, tf3, tf4, tf5, tf9, tf22, tf23, tf25, tf27, tf31, tf45, tf46, tf60, Node.flat_enc, Node.isv_enc, Node.fold_enc, isv_encs, flat_encs, len_encs, ix_encs, ix_encs', hs, Shape.cells, *])
    all_goals (first | (simp only [itemStep, *, Bool.and_true, Bool.true_and, Bool.and_false, Bool.false_and, Bool.or_true, Bool.true_or, Bool.or_false, Bool.false_or, Bool.not_true, Bool.not_false, if_true, if_false, Bool.and_self, Bool.or_self]; done) | (simp [itemStep, *]; done) | (simp_all [itemStep]; done))
end Go.Proofs.YtchakddenojhdaaDoor
