/- Which texts a node may have; items. -/
import Derived.Test.YtchakddenojhdaaDoorText
set_option linter.unusedVariables false
set_option linter.unusedSimpArgs false
-- TF: 3 4 5 9 22 23 25 27 31 45 46 60
-- EX: Node.flat_enc Node.isv_enc Node.fold_enc isv_encs flat_encs len_encs ix_encs ix_encs'
namespace Go.Proofs.YtchakddenojhdaaDoor
open Go Go.Av Go.RowKit
variable (G : Nat → AV)

def ops1 : List UInt8 := [32, 45, 32, 43, 32, 110, 111, 116, 32]
def digits : List UInt8 := [48, 49, 50, 51, 52, 53, 54, 55, 56, 57]
def ops2 : List UInt8 := [32, 33, 32, 111, 114, 101, 108, 115, 101, 32, 97, 110, 100, 97, 108, 115, 111, 32, 61, 61, 32, 47, 61, 32, 61, 58, 61, 32, 61, 47, 61, 32, 60, 32, 61, 60, 32, 62, 32, 62, 61, 32, 43, 43, 32, 45, 45, 32, 43, 32, 45, 32, 111, 114, 32, 120, 111, 114, 32, 42, 32, 100, 105, 118, 32, 114, 101, 109, 32, 97, 110, 100, 32]
/-- the first byte of a text, or none -/
def head0 (s : List UInt8) : Int := (s.getD 0 0).toNat
def wordedW (t : Node) (k : Int) : Bool :=
  if k = 110 then decide ((t.text.length : Int) ≤ 40)
  else if k = 115 then decide ((t.text.length : Int) ≤ 400)
  else if k = 100 then decide (¬ t.text = []) && decide ((t.text.length : Int) ≤ 400) && decide (Lib.trimS t.text digits = [])
  else if k = 118 then decide (¬ t.text = []) && decide ((t.text.length : Int) ≤ 40) && (decide (65 ≤ head0 t.text) && decide (head0 t.text ≤ 90) || decide (head0 t.text = 95)) && among (t.text.drop 1)
  else if k = 111 then decide (¬ t.text = []) && !Lib.contains t.text [32] && Lib.contains (if (t.kids.length : Int) = 2 then ops2 else ops1) ([32] ++ t.text ++ [32])
  else decide (t.text = [])
theorem head_get {s : List UInt8} (h : decide (¬ s = []) = true) : (s[0]?).map (fun c => AV.int .u8 c.toNat) = some (.int .u8 (head0 s)) := by
  cases s with
  | nil => simp at h
  | cons c s => simp [head0]
set_option maxHeartbeats 2000000 in
theorem worded_pure (m : Int) (hm : G 1 = .rp [.int .i64 m]) (t : Node) (k : Int) (hb : t.text.length ≤ 1000000000) : Pure Tryd.prog G 44 [t.enc, .int .u8 k] (.bool (wordedW t k)) := by
  intro σ
  have h1 : (∀ c : List UInt8, c.length ≤ 1000 → Pure Tryd.prog G 51 [.str t.text, .str c] (.bool (Lib.contains t.text c))) := fun c hc => contains_pure G m hm t.text c (by omega)
  have h2 : ∀ l c : List UInt8, l.length ≤ 1000 → Pure Tryd.prog G 51 [.str l, .str c] (.bool (Lib.contains l c)) := fun l c hc => contains_pure G m hm l c (by omega)
  have h3 : Pure Tryd.prog G 49 [.str t.text, .str digits] (.str (Lib.trimS t.text digits)) := trim_pure G t.text digits (by omega) (by decide) (by decide)
  have h4 : Pure Tryd.prog G 50 [.str (t.text.drop 1)] (.bool (among (t.text.drop 1))) := among_pure G _ (by rw [List.length_drop]; omega)
  have hmx : 1000000010 ≤ maxLen := by unfold maxLen; omega
  have hne : decide (¬ t.text = []) = true → 1 ≤ t.text.length := fun h => by
    simp only [decide_eq_true_eq] at h
    exact List.length_pos_iff.2 h
  refine Tri.of_awp mixed Tryd.func44 rfl (by kernel_rfl) (by kernel_rfl) (by simp [Tryd.ntmps44]) Tryd.results44 ?_
  repeat' (first
    | with_reducible refine condW_both (fun _ _ => ?_) (fun _ _ => ?_)
    | with_reducible refine gW_both (fun _ _ => ?_) (fun _ _ => ?_)
    | with_reducible refine condW_split (fun _ => ?_) (fun _ => ?_)
    | with_reducible refine gW_split (fun _ => ?_) (fun _ => ?_)
    | with_reducible refine pickW_split (fun _ => ?_) (fun _ => ?_)
    | (refine newW_intro ?_; intro bx hbx; try simp only [fresh_box, fresh_tip] at hbx)
    | (((with_reducible refine And.intro ?_ ?_); exact hne (by assumption)))
    | refine Pure.use (h1 [32] (by decide)) ?_
    | refine Pure.head (h1 [32] (by decide)) ?_
    | refine Pure.use (h3) ?_
    | refine Pure.head (h3) ?_
    | refine Pure.use (h4) ?_
    | refine Pure.head (h4) ?_
    | (rw [head_get]; rotate_left; assumption)
    | refine Pure.use (h2 ops1 _ (by decide)) ?_
    | refine Pure.head (h2 ops1 _ (by decide)) ?_
    | refine Pure.use (h2 ops2 _ (by decide)) ?_
    | refine Pure.head (h2 ops2 _ (by decide)) ?_
    | ((with_reducible refine And.intro ?_ ?_); omega)
    | refine bo_buildSlice (d' := ⟨⟩) ?_
    | (refine draw_all (by kernel_rfl) ?_)
    | refine finish_pure ?_ (by repeat' (first | exact AS.le.refl _ | assumption | (refine le_set (by first | assumption | (simp only [*]; done) | exact AS.le.fresh (by assumption) (by simp only [*])) ?_)))
    | simp -dsimp only [↓w_seq, ↓w_region, ↓w_draw, ↓w_cond, ↓w_block, ↓w_loop, ↓w_exit, ↓w_ret, ↓w_skip, ↓w_nil, ↓w_cons, ↓h_nil, ↓h_cons, ↓o_store, ↓o_append, ↓fin_normal, ↓fin_ret, ↓fin_exit, ↓ev_tmp, ↓ev_const, ↓ev_global, ↓ev_func, ↓upd_some, ↓upd_none, ↓mrg_at, ↓argEnv_at, ↓box_set, ↓box_tip, ↓box_del, ↓tip_box, ↓tip_set, ↓tip_del, ↓o_move, ↓o_assign, ↓o_pick, ↓o_alloc, ↓o_box, ↓o_build, ↓o_buildSlice, ↓o_makeSlice, ↓o_load, ↓o_nilCheck, ↓o_binOp, ↓o_unOp, ↓o_convert, ↓o_makeFunc, ↓o_slice, ↓o_fieldAddr, ↓o_field, ↓o_indexAddr, ↓o_index, ↓o_extract, ↓o_len, ↓o_max, ↓o_min, ↓o_call, ↓h_move, ↓h_assign, ↓h_pick, ↓h_alloc, ↓h_box, ↓h_build, ↓h_buildSlice, ↓h_load, ↓h_nilCheck, ↓h_binOp, ↓h_unOp, ↓h_convert, ↓h_makeFunc, ↓h_slice, ↓h_fieldAddr, ↓h_field, ↓h_indexAddr, ↓h_index, ↓h_extract, ↓h_len, ↓h_max, ↓h_min, ↓h_call, ↓ht_nil, ↓ht_cons, ↓iw_move, ↓iw_assign, ↓iw_pick, ↓iw_alloc, ↓iw_box, ↓iw_build, ↓iw_buildSlice, ↓iw_makeSlice, ↓iw_load, ↓iw_nilCheck, ↓iw_binOp, ↓iw_unOp, ↓iw_convert, ↓iw_makeFunc, ↓iw_slice, ↓iw_fieldAddr, ↓iw_field, ↓iw_indexAddr, ↓iw_index, ↓iw_extract, ↓iw_len, ↓iw_max, ↓iw_min, ↓iw_call, ↓iw_call, ↓iw_store, ↓iw_append, htW_true, htW_false, aw_none, aw_some, awo_some, awk_true, awk_false, awk_skip, gW_true, gW_false, gW_not, condW_not, bo_some, bo_none, bo_ite, bo_ite', st_eq, condW_true, condW_false, pickW_true, pickW_false, boxW_eq, nilW_ptr, nilW_rp, nilW_fn, callW_nocaps, callW_fn, c_bool, c_int, c_str, c_nil, c_nilptr, c_nilfn, aload_ptr, ldk_some, aload_rp, ldr_some, rd_true, rd_false, afield_eq, fdk_ptr, fdk_rp, afieldv_agg, fvk_some, aindexA_sl, ixk_some, aindex_str, aextract_tup, abin_int, abin_str, abin_bool, abin_nil_nil, abin_nil_sl, abin_sl_nil, abin_fn_nil, isNil_full, isNil_own, isNil_cons, i_add, i_sub, i_mul, i_quo, i_rem, i_eql, i_neq, i_lss, i_leq, i_gtr, i_geq, i_and, i_or, i_xor, i_shl, i_shr, s_eql, s_neq, s_add, s_lss, aeq_eql, aeq_neq, aun_not, aun_neg, aconvW_int, cvk_int, aconvW_str, cvw_str, cvw_bytes, set_set, aindexA_rp, aindexA_ptr, iak_some, abuild_eq, bdk_some, afill_nil, afill_cons, flk_some, bsk, l_str, l_nil, l_sl, l_max, l_min, astore_ptr, stk_some, pairs_nil, pairs_cons, ares_nil, ares_tmp, ares_cell, ares_two, afin, abnd_none, abnd_int, aslice_str, slks_some, pieceGh, flat_agg, flat_bool, flat_int, flat_str, flat_nil, flat_sl, flat_ptr, flat_rp, flat_fn, flat_nilptr, flat_nilfn, isv_agg, isv_bool, isv_int, isv_str, isv_nil, isv_sl, isv_ptr, isv_rp, isv_fn, isv_nilptr, isv_nilfn, List.getD_cons_zero, List.getD_cons_succ, List.getD_nil, List.map_cons, List.map_nil, List.getElem?_cons_zero, List.getElem?_cons_succ, List.getElem?_nil, List.take_zero, List.take_length, List.take_succ_cons, List.take_nil, List.drop_zero, List.drop_succ_cons, List.drop_nil, List.length_cons, List.length_nil, List.head?_cons, List.head?_nil, List.cons_append, List.nil_append, List.append_nil, List.all_cons, List.all_nil, List.range_zero, List.length_map, List.getElem?_map, List.size_toArray, List.getElem?_toArray, List.toList_toArray, Option.map_some, Option.map_none, Option.bind_some, Option.bind_none, Option.isSome_some, Option.isSome_none, Option.some.injEq, Nat.reduceLT, Int.reduceSub, Nat.reduceAdd, Nat.reduceSub, Nat.reduceMul, Nat.reduceLeDiff, Nat.reduceEqDiff, Nat.reduceBEq, Nat.reduceBNe, Nat.zero_add, Nat.add_zero, Nat.le_refl, Nat.add_one_ne_zero, Int.reduceNeg, Int.reduceAdd, Int.reduceSub, Int.reduceMul, Int.reduceLE, Int.reduceLT, Int.reduceEq, Int.reduceToNat, Int.toNat_natCast, Int.natCast_nonneg, reduceIte, reduceCtorEq, ne_eq, not_true_eq_false, not_false_eq_true, if_true, if_false, and_true, true_and, and_false, false_and, or_true, true_or, or_false, false_or, Bool.and_true, Bool.true_and, Bool.and_false, Bool.false_and, Bool.false_eq_true, Bool.true_eq_false, Bool.not_true, Bool.not_false, beq_self_eq_true, decide_true, decide_false, decide_eq_true_eq, List.contains_cons, List.contains_nil, Bool.or_true, Bool.true_or, Bool.or_false, Bool.false_or, cWrites, opsWrites, List.filterMap_cons, List.filterMap_nil, exists_eq_left', forall_const, forall_eq, List.range_succ, List.append_eq, tf3, tf4, tf5, tf9, tf22, tf23, tf25, tf27, tf31, tf45, tf46, tf60, Node.flat_enc, Node.isv_enc, Node.fold_enc, isv_encs, flat_encs, len_encs, ix_encs, ix_encs', *])
  all_goals (first | (simp only [wordedW, *, Bool.and_true, Bool.true_and, Bool.and_false, Bool.false_and, Bool.or_true, Bool.true_or, Bool.or_false, Bool.false_or, Bool.not_true, Bool.not_false, if_true, if_false, Bool.and_self, Bool.or_self]; done) | (simp [wordedW, *]; done) | (simp_all [wordedW]; done))
end Go.Proofs.YtchakddenojhdaaDoor
