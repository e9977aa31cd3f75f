/- The chapter's examples. -/
import Derived.Test.YtchakddenojhdaaDoorKit
set_option linter.unusedVariables false
set_option linter.unusedSimpArgs false
-- TF: 3 4 5 9 22 23 25 27 31 45 46 60
-- EX: Node.flat_enc Node.isv_enc Node.fold_enc isv_encs flat_encs len_encs ix_encs ix_encs'
namespace Go.Proofs.YtchakddenojhdaaDoor
open Go Go.Av
variable {G : Nat → AV}
def fN : Node := .mk 2 [102] 0 0 []
def pairN : Node := .mk 5 [] 0 0 [oneN, xN]
def callN : Node := .mk 9 [] 0 0 [fN, xN]
def matchN : Node := .mk 8 [] 0 0 [xN, oneN]
def minusN : Node := .mk 7 [45] 0 0 [oneN]
def ccN : Node := .mk 9 [] 0 0 [callN, xN]
def caseN : Node := .mk 12 [] 0 0 [oneN]
def lowN : Node := .mk 3 [120] 0 0 []
theorem small (t : Node) (h : t.bulk ≤ 100) : t.bulk ≤ 1000000000 := by omega
def fulls (l : List Node) : AV := .sl .full (l.map Node.enc) []
theorem les_of (k : AV) (s : AV) (l : List Node) : Les [k, s, .sl .full (l.map Node.enc) []] [k, s, encs l] := .cons (Le.refl _) (.cons (Le.refl _) (.cons le_full .nil))
set_option maxHeartbeats 4000000 in
theorem awake_pure (hg : Glob G) : Pure Tryd.prog G 6 [] (.bool true) := by
  intro σ
  have p1 := right_pure hg pairN (by decide)
  have p2 := pattern_pure hg pairN (by decide)
  have p3 := guard_pure hg pairN (by decide)
  have p4 := pattern_pure hg matchN (by decide)
  have p5 := guard_pure hg matchN (by decide)
  have p6 := guard_pure hg callN (by decide)
  have p7 := pattern_pure hg callN (by decide)
  have p8 := pattern_pure hg minusN (by decide)
  have p9 := guard_pure hg minusN (by decide)
  have pa := right_pure hg ccN (by decide)
  have pb := guard_pure hg ccN (by decide)
  have pc := right_pure hg (bodyN []) (by decide)
  have pd := right_pure hg caseN (by decide)
  have pe := right_pure hg lowN (by decide)
  have pf := deep_pure G pairN (by decide)
  rw [show right pairN = true by decide +kernel] at p1
  rw [show pattern pairN = true by decide +kernel] at p2
  rw [show guard pairN = true by decide +kernel] at p3
  rw [show pattern matchN = true by decide +kernel] at p4
  rw [show guard matchN = false by decide +kernel] at p5
  rw [show guard callN = true by decide +kernel] at p6
  rw [show pattern callN = false by decide +kernel] at p7
  rw [show pattern minusN = true by decide +kernel] at p8
  rw [show guard minusN = true by decide +kernel] at p9
  rw [show right ccN = true by decide +kernel] at pa
  rw [show guard ccN = false by decide +kernel] at pb
  rw [show right (bodyN []) = false by decide +kernel] at pc
  rw [show right caseN = false by decide +kernel] at pd
  rw [show right lowN = false by decide +kernel] at pe
  rw [show deep pairN = 2 by decide +kernel] at pf
  have b1 : Pure Tryd.prog G 20 [] oneN.enc := one_pure G
  have b2 : Pure Tryd.prog G 21 [] xN.enc := x_pure G
  have b3 : Pure Tryd.prog G 9 [.int .u8 2, .str [102]] fN.enc := leaf_pure G 2 [102]
  have b4 : Pure Tryd.prog G 9 [.int .u8 3, .str [120]] lowN.enc := leaf_pure G 3 [120]
  have c1 : Pure Tryd.prog G 8 [.int .u8 5, .str [], encs [oneN, xN]] pairN.enc := of_pure G 5 [] [oneN, xN]
  have c2 : Pure Tryd.prog G 8 [.int .u8 9, .str [], encs [fN, xN]] callN.enc := of_pure G 9 [] [fN, xN]
  have c3 : Pure Tryd.prog G 8 [.int .u8 8, .str [], encs [xN, oneN]] matchN.enc := of_pure G 8 [] [xN, oneN]
  have c4 : Pure Tryd.prog G 8 [.int .u8 7, .str [45], encs [oneN]] minusN.enc := of_pure G 7 [45] [oneN]
  have c5 : Pure Tryd.prog G 8 [.int .u8 9, .str [], encs [callN, xN]] ccN.enc := of_pure G 9 [] [callN, xN]
  have c6 : Pure Tryd.prog G 8 [.int .u8 12, .str [], encs [oneN]] caseN.enc := of_pure G 12 [] [oneN]
  have c7 : Pure Tryd.prog G 22 [encs []] (bodyN []).enc := body_pure' G []
  have c1' := c1.lessArgs (les_of (.int .u8 5) (.str []) [oneN, xN])
  have c2' := c2.lessArgs (les_of (.int .u8 9) (.str []) [fN, xN])
  have c3' := c3.lessArgs (les_of (.int .u8 8) (.str []) [xN, oneN])
  have c4' := c4.lessArgs (les_of (.int .u8 7) (.str [45]) [oneN])
  have c5' := c5.lessArgs (les_of (.int .u8 9) (.str []) [callN, xN])
  have c6' := c6.lessArgs (les_of (.int .u8 12) (.str []) [oneN])
  have c7' : Pure Tryd.prog G 22 [.nil] (bodyN []).enc := c7.lessArgs (.cons Le.nil .nil)
  simp only [List.map_cons, List.map_nil] at c1' c2' c3' c4' c5' c6'
  clear c1 c2 c3 c4 c5 c6 c7
  refine Tri.of_awp mixed Tryd.func6 rfl (by kernel_rfl) (by kernel_rfl) (by simp [Tryd.ntmps6]) Tryd.results6 ?_
  repeat' (first
    | with_reducible refine condW_both (fun _ _ => ?_) (fun _ _ => ?_)
    | with_reducible refine gW_both (fun _ _ => ?_) (fun _ _ => ?_)
    | with_reducible refine condW_split (fun _ => ?_) (fun _ => ?_)
    | with_reducible refine gW_split (fun _ => ?_) (fun _ => ?_)
    | with_reducible refine pickW_split (fun _ => ?_) (fun _ => ?_)
    | (refine newW_intro ?_; intro bx hbx; try simp only [fresh_box, fresh_tip] at hbx)
    | refine Pure.use (p1) ?_
    | refine Pure.head (p1) ?_
    | refine Pure.use (p2) ?_
    | refine Pure.head (p2) ?_
    | refine Pure.use (p3) ?_
    | refine Pure.head (p3) ?_
    | refine Pure.use (p4) ?_
    | refine Pure.head (p4) ?_
    | refine Pure.use (p5) ?_
    | refine Pure.head (p5) ?_
    | refine Pure.use (p6) ?_
    | refine Pure.head (p6) ?_
    | refine Pure.use (p7) ?_
    | refine Pure.head (p7) ?_
    | refine Pure.use (p8) ?_
    | refine Pure.head (p8) ?_
    | refine Pure.use (p9) ?_
    | refine Pure.head (p9) ?_
    | refine Pure.use (pa) ?_
    | refine Pure.head (pa) ?_
    | refine Pure.use (pb) ?_
    | refine Pure.head (pb) ?_
    | refine Pure.use (pc) ?_
    | refine Pure.head (pc) ?_
    | refine Pure.use (pd) ?_
    | refine Pure.head (pd) ?_
    | refine Pure.use (pe) ?_
    | refine Pure.head (pe) ?_
    | refine Pure.use (pf) ?_
    | refine Pure.head (pf) ?_
    | refine Pure.use (b1) ?_
    | refine Pure.head (b1) ?_
    | refine Pure.use (b2) ?_
    | refine Pure.head (b2) ?_
    | refine Pure.use (b3) ?_
    | refine Pure.head (b3) ?_
    | refine Pure.use (b4) ?_
    | refine Pure.head (b4) ?_
    | refine Pure.use (c1') ?_
    | refine Pure.head (c1') ?_
    | refine Pure.use (c2') ?_
    | refine Pure.head (c2') ?_
    | refine Pure.use (c3') ?_
    | refine Pure.head (c3') ?_
    | refine Pure.use (c4') ?_
    | refine Pure.head (c4') ?_
    | refine Pure.use (c5') ?_
    | refine Pure.head (c5') ?_
    | refine Pure.use (c6') ?_
    | refine Pure.head (c6') ?_
    | refine Pure.use (c7') ?_
    | refine Pure.head (c7') ?_
    | ((with_reducible refine And.intro ?_ ?_); omega)
    | refine bo_buildSlice (d' := ⟨⟩) ?_
    | (refine draw_all (by kernel_rfl) ?_)
    | refine finish_pure ?_ (by repeat' (first | exact AS.le.refl _ | assumption | (refine le_set (by first | assumption | (simp only [*]; done) | exact AS.le.fresh (by assumption) (by simp only [*])) ?_)))
    | simp -dsimp only [↓w_seq, ↓w_region, ↓w_draw, ↓w_cond, ↓w_block, ↓w_loop, ↓w_exit, ↓w_ret, ↓w_skip, ↓w_nil, ↓w_cons, ↓h_nil, ↓h_cons, ↓o_store, ↓o_append, ↓fin_normal, ↓fin_ret, ↓fin_exit, ↓ev_tmp, ↓ev_const, ↓ev_global, ↓ev_func, ↓upd_some, ↓upd_none, ↓mrg_at, ↓argEnv_at, ↓box_set, ↓box_tip, ↓box_del, ↓tip_box, ↓tip_set, ↓tip_del, ↓o_move, ↓o_assign, ↓o_pick, ↓o_alloc, ↓o_box, ↓o_build, ↓o_buildSlice, ↓o_makeSlice, ↓o_load, ↓o_nilCheck, ↓o_binOp, ↓o_unOp, ↓o_convert, ↓o_makeFunc, ↓o_slice, ↓o_fieldAddr, ↓o_field, ↓o_indexAddr, ↓o_index, ↓o_extract, ↓o_len, ↓o_max, ↓o_min, ↓o_call, ↓h_move, ↓h_assign, ↓h_pick, ↓h_alloc, ↓h_box, ↓h_build, ↓h_buildSlice, ↓h_load, ↓h_nilCheck, ↓h_binOp, ↓h_unOp, ↓h_convert, ↓h_makeFunc, ↓h_slice, ↓h_fieldAddr, ↓h_field, ↓h_indexAddr, ↓h_index, ↓h_extract, ↓h_len, ↓h_max, ↓h_min, ↓h_call, ↓ht_nil, ↓ht_cons, ↓iw_move, ↓iw_assign, ↓iw_pick, ↓iw_alloc, ↓iw_box, ↓iw_build, ↓iw_buildSlice, ↓iw_makeSlice, ↓iw_load, ↓iw_nilCheck, ↓iw_binOp, ↓iw_unOp, ↓iw_convert, ↓iw_makeFunc, ↓iw_slice, ↓iw_fieldAddr, ↓iw_field, ↓iw_indexAddr, ↓iw_index, ↓iw_extract, ↓iw_len, ↓iw_max, ↓iw_min, ↓iw_call, ↓iw_call, ↓iw_store, ↓iw_append, htW_true, htW_false, aw_none, aw_some, awo_some, awk_true, awk_false, awk_skip, gW_true, gW_false, gW_not, condW_not, bo_some, bo_none, bo_ite, bo_ite', st_eq, condW_true, condW_false, pickW_true, pickW_false, boxW_eq, nilW_ptr, nilW_rp, nilW_fn, callW_nocaps, callW_fn, c_bool, c_int, c_str, c_nil, c_nilptr, c_nilfn, aload_ptr, ldk_some, aload_rp, ldr_some, rd_true, rd_false, afield_eq, fdk_ptr, fdk_rp, afieldv_agg, fvk_some, aindexA_sl, ixk_some, aindex_str, aextract_tup, abin_int, abin_str, abin_bool, abin_nil_nil, abin_nil_sl, abin_sl_nil, abin_fn_nil, isNil_full, isNil_own, isNil_cons, i_add, i_sub, i_mul, i_quo, i_rem, i_eql, i_neq, i_lss, i_leq, i_gtr, i_geq, i_and, i_or, i_xor, i_shl, i_shr, s_eql, s_neq, s_add, s_lss, aeq_eql, aeq_neq, aun_not, aun_neg, aconvW_int, cvk_int, aconvW_str, cvw_str, cvw_bytes, set_set, aindexA_rp, aindexA_ptr, iak_some, abuild_eq, bdk_some, afill_nil, afill_cons, flk_some, bsk, l_str, l_nil, l_sl, l_max, l_min, astore_ptr, stk_some, pairs_nil, pairs_cons, ares_nil, ares_tmp, ares_cell, ares_two, afin, abnd_none, abnd_int, aslice_str, slks_some, pieceGh, flat_agg, flat_bool, flat_int, flat_str, flat_nil, flat_sl, flat_ptr, flat_rp, flat_fn, flat_nilptr, flat_nilfn, isv_agg, isv_bool, isv_int, isv_str, isv_nil, isv_sl, isv_ptr, isv_rp, isv_fn, isv_nilptr, isv_nilfn, List.getD_cons_zero, List.getD_cons_succ, List.getD_nil, List.map_cons, List.map_nil, List.getElem?_cons_zero, List.getElem?_cons_succ, List.getElem?_nil, List.take_zero, List.take_length, List.take_succ_cons, List.take_nil, List.drop_zero, List.drop_succ_cons, List.drop_nil, List.length_cons, List.length_nil, List.head?_cons, List.head?_nil, List.cons_append, List.nil_append, List.append_nil, List.all_cons, List.all_nil, List.range_zero, List.length_map, List.getElem?_map, List.size_toArray, List.getElem?_toArray, List.toList_toArray, Option.map_some, Option.map_none, Option.bind_some, Option.bind_none, Option.isSome_some, Option.isSome_none, Option.some.injEq, Nat.reduceLT, Int.reduceSub, Nat.reduceAdd, Nat.reduceSub, Nat.reduceMul, Nat.reduceLeDiff, Nat.reduceEqDiff, Nat.reduceBEq, Nat.reduceBNe, Nat.zero_add, Nat.add_zero, Nat.le_refl, Nat.add_one_ne_zero, Int.reduceNeg, Int.reduceAdd, Int.reduceSub, Int.reduceMul, Int.reduceLE, Int.reduceLT, Int.reduceEq, Int.reduceToNat, Int.toNat_natCast, Int.natCast_nonneg, reduceIte, reduceCtorEq, ne_eq, not_true_eq_false, not_false_eq_true, if_true, if_false, and_true, true_and, and_false, false_and, or_true, true_or, or_false, false_or, Bool.and_true, Bool.true_and, Bool.and_false, Bool.false_and, Bool.false_eq_true, Bool.true_eq_false, Bool.not_true, Bool.not_false, beq_self_eq_true, decide_true, decide_false, decide_eq_true_eq, List.contains_cons, List.contains_nil, Bool.or_true, Bool.true_or, Bool.or_false, Bool.false_or, cWrites, opsWrites, List.filterMap_cons, List.filterMap_nil, exists_eq_left', forall_const, forall_eq, List.range_succ, List.append_eq, tf3, tf4, tf5, tf9, tf22, tf23, tf25, tf27, tf31, tf45, tf46, tf60, Node.flat_enc, Node.isv_enc, Node.fold_enc, isv_encs, flat_encs, len_encs, ix_encs, ix_encs', *])
  all_goals rfl
end Go.Proofs.YtchakddenojhdaaDoor
