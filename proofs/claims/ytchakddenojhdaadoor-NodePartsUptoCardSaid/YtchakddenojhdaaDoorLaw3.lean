/- NodeParts on abstract values. -/
import Derived.Test.YtchakddenojhdaaDoorPlain4
set_option linter.unusedVariables false
set_option linter.unusedSimpArgs false
-- TYPES: int|bool|uint8|string|api.NodeKind|[]api.Node|api.Node
-- EX: Node.flat_enc Node.isv_enc Node.fold_enc isv_encs flat_encs len_encs ix_encs ix_encs'
namespace Go.Proofs.YtchakddenojhdaaDoor
open Go Go.Av
variable {G : Nat → AV}
theorem bulk_two (a b : Node) : (twoN a b).bulk = a.bulk + b.bulk + 1 := by simp [twoN, Node.bulk, bulks]
theorem bulk_mat (a b : Node) : (matN a b).bulk = a.bulk + b.bulk + 1 := by simp [matN, Node.bulk, bulks]
theorem bulk_cal (a b : Node) : (calN a b).bulk = a.bulk + b.bulk + 3 := by simp [calN, Node.bulk, bulks, fN]; omega
set_option maxHeartbeats 4000000 in
theorem parts_law (hg : Glob G) (a b : Node) (ha : a.bulk ≤ 100000000) (hb : b.bulk ≤ 100000000) : Pure Tryd.prog G 3 [a.enc, b.enc] (.bool true) := by
  have g1 := great_pure G a (by omega)
  have g2 := great_pure G b (by omega)
  have w := awake_pure hg
  have o1 : Pure Tryd.prog G 8 [.int .u8 5, .str [], .sl .full [a.enc, b.enc] []] (twoN a b).enc := (of_pure G 5 [] [a, b]).lessArgs (les_of (.int .u8 5) (.str []) [a, b])
  have o2 : Pure Tryd.prog G 8 [.int .u8 8, .str [], .sl .full [a.enc, b.enc] []] (matN a b).enc := (of_pure G 8 [] [a, b]).lessArgs (les_of (.int .u8 8) (.str []) [a, b])
  have o3 : Pure Tryd.prog G 8 [.int .u8 9, .str [], .sl .full [fN.enc, a.enc, b.enc] []] (calN a b).enc := (of_pure G 9 [] [fN, a, b]).lessArgs (les_of (.int .u8 9) (.str []) [fN, a, b])
  have o4 : Pure Tryd.prog G 9 [.int .u8 2, .str [102]] fN.enc := leaf_pure G 2 [102]
  have d1 := deep_pure G (twoN a b) (by rw [bulk_two]; omega)
  have m1 := lawmany_pure G (twoN a b) (by rw [bulk_two]; omega)
  have m3 := lawmany_pure G (calN a b) (by rw [bulk_cal]; omega)
  have p1 := pattern_pure hg (twoN a b) (by rw [bulk_two]; omega)
  have p2 := pattern_pure hg (matN a b) (by rw [bulk_mat]; omega)
  have p3 := pattern_pure hg (calN a b) (by rw [bulk_cal]; omega)
  have p4 := pattern_pure hg a (by omega)
  have p5 := pattern_pure hg b (by omega)
  have q1 := guard_pure hg (twoN a b) (by rw [bulk_two]; omega)
  have q2 := guard_pure hg (matN a b) (by rw [bulk_mat]; omega)
  have q3 := guard_pure hg (calN a b) (by rw [bulk_cal]; omega)
  have q4 := guard_pure hg a (by omega)
  have q5 := guard_pure hg b (by omega)
  have f1 := pattern_two a b
  have f2 := pattern_mat a b
  have f4 := guard_two a b
  have f5 := guard_cal a b
  rw [guard_mat] at q2
  rw [pattern_cal] at p3
  rw [f2] at p2
  clear f2 ha hb
  simp only [fits] at f1 f4
  generalize pattern (twoN a b) = pt at *
  generalize pattern a = pa at *
  generalize pattern b = pb at *
  generalize guard (twoN a b) = gt at *
  generalize guard (calN a b) = gc at *
  generalize guard a = ga at *
  generalize guard b = gb at *
  generalize (deep (twoN a b) : Int) = dd at *
  generalize (many (twoN a b) : Int) = mm at *
  generalize (many (calN a b) : Int) = mc at *
  intro σ
  refine Tri.of_awp mixed Tryd.func3 rfl (by kernel_rfl) (by kernel_rfl) (by simp [Tryd.ntmps3]) Tryd.results3 ?_
  repeat' (first
    | with_reducible refine condW_both (fun _ _ => ?_) (fun _ _ => ?_)
    | with_reducible refine gW_both (fun _ _ => ?_) (fun _ _ => ?_)
    | with_reducible refine condW_split (fun _ => ?_) (fun _ => ?_)
    | with_reducible refine gW_split (fun _ => ?_) (fun _ => ?_)
    | with_reducible refine pickW_split (fun _ => ?_) (fun _ => ?_)
    | (refine newW_intro ?_; intro bx hbx; try simp only [fresh_box, fresh_tip] at hbx)
    | refine Pure.use (g1) ?_
    | refine Pure.head (g1) ?_
    | refine Pure.use (g2) ?_
    | refine Pure.head (g2) ?_
    | refine Pure.use (w) ?_
    | refine Pure.head (w) ?_
    | refine Pure.use (o1) ?_
    | refine Pure.head (o1) ?_
    | refine Pure.use (o2) ?_
    | refine Pure.head (o2) ?_
    | refine Pure.use (o3) ?_
    | refine Pure.head (o3) ?_
    | refine Pure.use (o4) ?_
    | refine Pure.head (o4) ?_
    | refine Pure.use (d1) ?_
    | refine Pure.head (d1) ?_
    | refine Pure.use (m1) ?_
    | refine Pure.head (m1) ?_
    | refine Pure.use (m3) ?_
    | refine Pure.head (m3) ?_
    | refine Pure.use (p1) ?_
    | refine Pure.head (p1) ?_
    | refine Pure.use (p2) ?_
    | refine Pure.head (p2) ?_
    | refine Pure.use (p3) ?_
    | refine Pure.head (p3) ?_
    | refine Pure.use (p4) ?_
    | refine Pure.head (p4) ?_
    | refine Pure.use (p5) ?_
    | refine Pure.head (p5) ?_
    | refine Pure.use (q1) ?_
    | refine Pure.head (q1) ?_
    | refine Pure.use (q2) ?_
    | refine Pure.head (q2) ?_
    | refine Pure.use (q3) ?_
    | refine Pure.head (q3) ?_
    | refine Pure.use (q4) ?_
    | refine Pure.head (q4) ?_
    | refine Pure.use (q5) ?_
    | refine Pure.head (q5) ?_
    | ((with_reducible refine And.intro ?_ ?_); omega)
    | refine bo_buildSlice (d' := ⟨⟩) ?_
    | (refine draw_all (by kernel_rfl) ?_)
    | refine finish_pure ?_ (by repeat' (first | exact AS.le.refl _ | assumption | (refine le_set (by first | assumption | (simp only [*]; done) | exact AS.le.fresh (by assumption) (by simp only [*])) ?_)))
    | simp -dsimp only [↓w_seq, ↓w_region, ↓w_draw, ↓w_cond, ↓w_block, ↓w_loop, ↓w_exit, ↓w_ret, ↓w_skip, ↓w_nil, ↓w_cons, ↓h_nil, ↓h_cons, ↓o_store, ↓o_append, ↓fin_normal, ↓fin_ret, ↓fin_exit, ↓ev_tmp, ↓ev_const, ↓ev_global, ↓ev_func, ↓upd_some, ↓upd_none, ↓mrg_at, ↓argEnv_at, ↓box_set, ↓box_tip, ↓box_del, ↓tip_box, ↓tip_set, ↓tip_del, ↓o_move, ↓o_assign, ↓o_pick, ↓o_alloc, ↓o_box, ↓o_build, ↓o_buildSlice, ↓o_makeSlice, ↓o_load, ↓o_nilCheck, ↓o_binOp, ↓o_unOp, ↓o_convert, ↓o_makeFunc, ↓o_slice, ↓o_fieldAddr, ↓o_field, ↓o_indexAddr, ↓o_index, ↓o_extract, ↓o_len, ↓o_max, ↓o_min, ↓o_call, ↓h_move, ↓h_assign, ↓h_pick, ↓h_alloc, ↓h_box, ↓h_build, ↓h_buildSlice, ↓h_load, ↓h_nilCheck, ↓h_binOp, ↓h_unOp, ↓h_convert, ↓h_makeFunc, ↓h_slice, ↓h_fieldAddr, ↓h_field, ↓h_indexAddr, ↓h_index, ↓h_extract, ↓h_len, ↓h_max, ↓h_min, ↓h_call, ↓ht_nil, ↓ht_cons, ↓iw_move, ↓iw_assign, ↓iw_pick, ↓iw_alloc, ↓iw_box, ↓iw_build, ↓iw_buildSlice, ↓iw_makeSlice, ↓iw_load, ↓iw_nilCheck, ↓iw_binOp, ↓iw_unOp, ↓iw_convert, ↓iw_makeFunc, ↓iw_slice, ↓iw_fieldAddr, ↓iw_field, ↓iw_indexAddr, ↓iw_index, ↓iw_extract, ↓iw_len, ↓iw_max, ↓iw_min, ↓iw_call, ↓iw_call, ↓iw_store, ↓iw_append, htW_true, htW_false, aw_none, aw_some, awo_some, awk_true, awk_false, awk_skip, gW_true, gW_false, gW_not, condW_not, bo_some, bo_none, bo_ite, bo_ite', st_eq, condW_true, condW_false, pickW_true, pickW_false, boxW_eq, nilW_ptr, nilW_rp, nilW_fn, callW_nocaps, callW_fn, c_bool, c_int, c_str, c_nil, c_nilptr, c_nilfn, aload_ptr, ldk_some, aload_rp, ldr_some, rd_true, rd_false, afield_eq, fdk_ptr, fdk_rp, afieldv_agg, fvk_some, aindexA_sl, ixk_some, aindex_str, aextract_tup, abin_int, abin_str, abin_bool, abin_nil_nil, abin_nil_sl, abin_sl_nil, abin_fn_nil, isNil_full, isNil_own, isNil_cons, i_add, i_sub, i_mul, i_quo, i_rem, i_eql, i_neq, i_lss, i_leq, i_gtr, i_geq, i_and, i_or, i_xor, i_shl, i_shr, s_eql, s_neq, s_add, s_lss, aeq_eql, aeq_neq, aun_not, aun_neg, aconvW_int, cvk_int, aconvW_str, cvw_str, cvw_bytes, set_set, aindexA_rp, aindexA_ptr, iak_some, abuild_eq, bdk_some, afill_nil, afill_cons, flk_some, bsk, l_str, l_nil, l_sl, l_max, l_min, astore_ptr, stk_some, pairs_nil, pairs_cons, ares_nil, ares_tmp, ares_cell, ares_two, afin, abnd_none, abnd_int, aslice_str, slks_some, pieceGh, flat_agg, flat_bool, flat_int, flat_str, flat_nil, flat_sl, flat_ptr, flat_rp, flat_fn, flat_nilptr, flat_nilfn, isv_agg, isv_bool, isv_int, isv_str, isv_nil, isv_sl, isv_ptr, isv_rp, isv_fn, isv_nilptr, isv_nilfn, List.getD_cons_zero, List.getD_cons_succ, List.getD_nil, List.map_cons, List.map_nil, List.getElem?_cons_zero, List.getElem?_cons_succ, List.getElem?_nil, List.take_zero, List.take_length, List.take_succ_cons, List.take_nil, List.drop_zero, List.drop_succ_cons, List.drop_nil, List.length_cons, List.length_nil, List.head?_cons, List.head?_nil, List.cons_append, List.nil_append, List.append_nil, List.all_cons, List.all_nil, List.range_zero, List.length_map, List.getElem?_map, List.size_toArray, List.getElem?_toArray, List.toList_toArray, Option.map_some, Option.map_none, Option.bind_some, Option.bind_none, Option.isSome_some, Option.isSome_none, Option.some.injEq, Nat.reduceLT, Int.reduceSub, Nat.reduceAdd, Nat.reduceSub, Nat.reduceMul, Nat.reduceLeDiff, Nat.reduceEqDiff, Nat.reduceBEq, Nat.reduceBNe, Nat.zero_add, Nat.add_zero, Nat.le_refl, Nat.add_one_ne_zero, Int.reduceNeg, Int.reduceAdd, Int.reduceSub, Int.reduceMul, Int.reduceLE, Int.reduceLT, Int.reduceEq, Int.reduceToNat, Int.toNat_natCast, Int.natCast_nonneg, reduceIte, reduceCtorEq, ne_eq, not_true_eq_false, not_false_eq_true, if_true, if_false, and_true, true_and, and_false, false_and, or_true, true_or, or_false, false_or, Bool.and_true, Bool.true_and, Bool.and_false, Bool.false_and, Bool.false_eq_true, Bool.true_eq_false, Bool.not_true, Bool.not_false, beq_self_eq_true, decide_true, decide_false, decide_eq_true_eq, List.contains_cons, List.contains_nil, Bool.or_true, Bool.true_or, Bool.or_false, Bool.false_or, cWrites, opsWrites, List.filterMap_cons, List.filterMap_nil, exists_eq_left', forall_const, forall_eq, List.range_succ, List.append_eq, tf3, tf4, tf5, tf9, tf22, tf23, tf25, Node.flat_enc, Node.isv_enc, Node.fold_enc, isv_encs, flat_encs, len_encs, ix_encs, ix_encs', *])
  all_goals by_cases h : mc ≤ 16384
  all_goals first
    | (have := f5 h; simp_all; done)
    | (have h' : 16384 < mc := Int.not_le.1 h; simp [h']; done)
end Go.Proofs.YtchakddenojhdaaDoor
