/- The rules for working out, in bundles. Written by a program of ours (bundles.py). -/
import Derived.Test.YtjmdaeabllkgnaaGreatDoorY10
import Derived.Test.YtjmdaeabllkgnaaGreatDoorChecked
import Derived.KernelRfl
import Derived.Shelf.Strings.BuilderX
import Derived.Lib.Strings
import Derived.Lib.Slices
import Derived.Lib.Walk
import Derived.Lib.Builder
import Derived.Lib.AppendStr
import Derived.Lib.UnsafeStr
import Derived.Lib.MakeNoZero
import Derived.Laws.Externs
set_option linter.unusedVariables false
set_option linter.defProp false
namespace Go.Av
open Go
theorem cw_skip : cWrites .skip = [] := nr rfl
theorem cw_exit {i : Nat} : cWrites (.exit i) = [] := nr rfl
theorem cw_ret : cWrites .ret = [] := nr rfl
theorem cw_refuse {w : String} : cWrites (.refuse w) = [] := nr rfl
theorem cw_range {f : Operand} {ps : Array Tmp} {a b : Code} : cWrites (.rangeFunc f ps a b) = [] := nr rfl
theorem afin_none : afin [] = .tup [] := nr rfl
theorem afin_two {a b : AV} {l : List AV} : afin (a :: b :: l) = .tup (a :: b :: l) := nr rfl
def bp0 := And.intro (And.intro (And.intro (And.intro @w_seq @w_region) (And.intro @w_draw @w_cond)) (And.intro (And.intro @w_block @w_loop) (And.intro @w_exit @w_ret))) (And.intro (And.intro (And.intro @w_skip @w_nil) (And.intro @w_cons @h_nil)) (And.intro (And.intro @h_cons @o_store) (And.intro @o_append @fin_normal)))
def bp1 := And.intro (And.intro (And.intro (And.intro @fin_ret @fin_exit) (And.intro @ev_tmp @ev_const)) (And.intro (And.intro @ev_global @ev_func) (And.intro @upd_some @upd_none))) (And.intro (And.intro (And.intro @mrg_at @argEnv_at) (And.intro @box_set @box_tip)) (And.intro (And.intro @box_del @tip_box) (And.intro @tip_set @tip_del)))
def bp2 := And.intro (And.intro (And.intro (And.intro @o_move @o_assign) (And.intro @o_pick @o_alloc)) (And.intro (And.intro @o_box @o_build) (And.intro @o_buildSlice @o_makeSlice))) (And.intro (And.intro (And.intro @o_load @o_nilCheck) (And.intro @o_binOp @o_unOp)) (And.intro (And.intro @o_convert @o_makeFunc) (And.intro @o_slice @o_fieldAddr)))
def bp3 := And.intro (And.intro (And.intro (And.intro @o_field @o_indexAddr) (And.intro @o_index @o_extract)) (And.intro (And.intro @o_len @o_max) (And.intro @o_min @o_call))) (And.intro (And.intro (And.intro @h_move @h_assign) (And.intro @h_pick @h_alloc)) (And.intro (And.intro @h_box @h_build) (And.intro @h_buildSlice @h_load)))
def bp4 := And.intro (And.intro (And.intro (And.intro @h_nilCheck @h_binOp) (And.intro @h_unOp @h_convert)) (And.intro (And.intro @h_makeFunc @h_slice) (And.intro @h_fieldAddr @h_field))) (And.intro (And.intro (And.intro @h_indexAddr @h_index) (And.intro @h_extract @h_len)) (And.intro (And.intro @h_max @h_min) (And.intro @h_call @ht_nil)))
def bp5 := And.intro (And.intro (And.intro (And.intro @ht_cons @iw_move) (And.intro @iw_assign @iw_pick)) (And.intro (And.intro @iw_alloc @iw_box) (And.intro @iw_build @iw_buildSlice))) (And.intro (And.intro (And.intro @iw_makeSlice @iw_load) (And.intro @iw_nilCheck @iw_binOp)) (And.intro (And.intro @iw_unOp @iw_convert) (And.intro @iw_makeFunc @iw_slice)))
def bp6 := And.intro (And.intro (And.intro (And.intro @iw_fieldAddr @iw_field) (And.intro @iw_indexAddr @iw_index)) (And.intro (And.intro @iw_extract @iw_len) (And.intro @iw_max @iw_min))) (And.intro (And.intro (And.intro @iw_call @iw_store) (And.intro @iw_append @ty_box)) (And.intro (And.intro @ty_tip @ty_del) (And.intro @ty_set @box_ty)))
def bp7 := And.intro (And.intro (And.intro (And.intro @tip_ty @box_delB) (And.intro @tip_delB @ty_delB)) (And.intro (And.intro @o_range @o_next) (And.intro @tyset_set @o_cap))) (And.intro (And.intro (And.intro @o_usd @o_ustr) (And.intro @h_cap @h_usd)) (And.intro (And.intro @iw_cap @iw_usd) (And.intro @iw_ustr @hs_nil)))
def bp8 := And.intro (And.intro (And.intro (And.intro @hs_cons @hs_store) (And.intro @h_store @hs_move)) (And.intro (And.intro @hs_assign @hs_pick) (And.intro @hs_alloc @hs_box))) (And.intro (And.intro (And.intro @hs_build @hs_buildSlice) (And.intro @hs_makeSlice @hs_load)) (And.intro (And.intro @hs_nilCheck @hs_binOp) (And.intro @hs_unOp @hs_convert)))
def bp9 := And.intro (And.intro (And.intro (And.intro @hs_makeFunc @hs_slice) (And.intro @hs_fieldAddr @hs_field)) (And.intro (And.intro @hs_indexAddr @hs_index) (And.intro @hs_extract @hs_len))) (And.intro (And.intro (And.intro @hs_max @hs_min) (And.intro @hs_call @hs_cap)) (And.intro (And.intro @hs_usd @pl_done) (And.intro @pl_bad @pl_none)))
def bp10 := And.intro (And.intro (And.intro (And.intro @pl_more @sq_some) (And.intro @hq_store @hq_move)) (And.intro (And.intro @hq_assign @hq_pick) (And.intro @hq_alloc @hq_box))) (And.intro (And.intro (And.intro @hq_build @hq_buildSlice) (And.intro @hq_makeSlice @hq_load)) (And.intro (And.intro @hq_nilCheck @hq_binOp) (And.intro @hq_unOp @hq_convert)))
def bp11 := And.intro (And.intro (And.intro (@hq_makeFunc) (And.intro @hq_slice @hq_fieldAddr)) (And.intro (@hq_field) (And.intro @hq_indexAddr @hq_index))) (And.intro (And.intro (@hq_extract) (And.intro @hq_len @hq_max)) (And.intro (And.intro @hq_min @hq_call) (And.intro @hq_cap @hq_usd)))
def bp := And.intro (And.intro (And.intro (@bp0) (And.intro @bp1 @bp2)) (And.intro (@bp3) (And.intro @bp4 @bp5))) (And.intro (And.intro (@bp6) (And.intro @bp7 @bp8)) (And.intro (@bp9) (And.intro @bp10 @bp11)))
def bq0 := And.intro (And.intro (And.intro (And.intro @htW_true @htW_false) (And.intro @aw_none @aw_some)) (And.intro (And.intro @awo_some @awk_true) (And.intro @awk_false @awk_skip))) (And.intro (And.intro (And.intro @gW_true @gW_false) (And.intro @gW_not @condW_not)) (And.intro (And.intro @bo_some @bo_none) (And.intro @bo_ite @bo_ite')))
def bq1 := And.intro (And.intro (And.intro (And.intro @st_eq @condW_true) (And.intro @condW_false @pickW_true)) (And.intro (And.intro @pickW_false @boxW_eq) (And.intro @nilW_ptr @nilW_rp))) (And.intro (And.intro (And.intro @nilW_fn @callW_nocaps) (And.intro @callW_fn @c_bool)) (And.intro (And.intro @c_int @c_str) (And.intro @c_nil @c_nilptr)))
def bq2 := And.intro (And.intro (And.intro (And.intro @c_nilfn @c_nilif) (And.intro @aload_ptr @ldk_some)) (And.intro (And.intro @aload_rp @ldr_some) (And.intro @rd_true @rd_false))) (And.intro (And.intro (And.intro @afield_eq @fdk_ptr) (And.intro @fdk_rp @afieldv_agg)) (And.intro (And.intro @fvk_some @aindexA_sl) (And.intro @ixk_some @aindex_str)))
def bq3 := And.intro (And.intro (And.intro (And.intro @aextract_tup @abin_int) (And.intro @abin_str @abin_bool)) (And.intro (And.intro @abin_nil_nil @abin_nil_sl) (And.intro @abin_sl_nil @abin_fn_nil))) (And.intro (And.intro (And.intro @isNil_full @isNil_own) (And.intro @isNil_cons @i_add)) (And.intro (And.intro @i_sub @i_mul) (And.intro @i_quo @i_rem)))
def bq4 := And.intro (And.intro (And.intro (And.intro @i_eql @i_neq) (And.intro @i_lss @i_leq)) (And.intro (And.intro @i_gtr @i_geq) (And.intro @i_and @i_or))) (And.intro (And.intro (And.intro @i_xor @i_shl) (And.intro @i_shr @s_eql)) (And.intro (And.intro @s_neq @s_add) (And.intro @s_lss @aeq_eql)))
def bq5 := And.intro (And.intro (And.intro (And.intro @aeq_neq @aun_not) (And.intro @aun_neg @cvk_int)) (And.intro (And.intro @cvw_str @cvw_bytes) (And.intro @set_set @aindexA_rp))) (And.intro (And.intro (And.intro @aindexA_ptr @iak_some) (And.intro @abuild_eq @bdk_some)) (And.intro (And.intro @afill_nil @afill_cons) (And.intro @flk_some @l_str)))
def bq6 := And.intro (And.intro (And.intro (And.intro @l_nil @l_sl) (And.intro @l_max @l_min)) (And.intro (And.intro @astore_ptr @stk_some) (And.intro @pairs_nil @pairs_cons))) (And.intro (And.intro (And.intro @ares_nil @ares_tmp) (And.intro @ares_cell @ares_two)) (And.intro (And.intro @abnd_none @abnd_int) (And.intro @aslice_str @slks_some)))
def bq7 := And.intro (And.intro (And.intro (And.intro @flat_agg @flat_bool) (And.intro @flat_int @flat_str)) (And.intro (And.intro @flat_nil @flat_sl) (And.intro @flat_ptr @flat_rp))) (And.intro (And.intro (And.intro @flat_fn @flat_nilptr) (And.intro @flat_nilfn @isv_agg)) (And.intro (And.intro @isv_bool @isv_int) (And.intro @isv_str @isv_nil)))
def bq8 := And.intro (And.intro (And.intro (And.intro @isv_sl @isv_ptr) (And.intro @isv_rp @isv_fn)) (And.intro (And.intro @isv_nilptr @isv_nilfn) (And.intro @aconvZ_int @aconvZ_str))) (And.intro (And.intro (And.intro @aconvZ_nil @aconvZ_sl) (And.intro @aconvZ_bs @cvb_some)) (And.intro (And.intro @cvm_some @l_cap) (And.intro @l_bs @l_usd_nil)))
def bq9 := And.intro (And.intro (And.intro (And.intro @l_usd @isv_bs) (And.intro @flat_bs @isv_raws)) (And.intro (And.intro @flat_raw @abin_raw_nil) (And.intro @abin_nil_bs @abin_bs_nil))) (And.intro (And.intro (And.intro @aindexA_bs @ibk_some) (And.intro @aslice_bs @sbk_some)) (And.intro (And.intro @aslice_nil @nbk_some) (And.intro @aslice_rp @ustrW_nil)))
def bq10 := And.intro (And.intro (And.intro (And.intro @storeW_eq @stw_some) (And.intro @binK_tmp @binK_glob)) (And.intro (And.intro @binK_func @binK_int) (And.intro @binK_str @binK_bool))) (And.intro (And.intro (And.intro @binK_sl @binK_ptr) (And.intro @binK_nilf @binK_agg)) (And.intro (And.intro @binK_nil @abinN_nil) (And.intro @abinN_if @aindex_agg)))
def bq11 := And.intro (And.intro (And.intro (@axk_some) (And.intro @slW_plain @slW_bs)) (And.intro (@sbS_some) (And.intro @sbx_some @cvW_int))) (And.intro (And.intro (@cvW_nil) (And.intro @cvW_sl @cvW_bs)) (And.intro (@cvW_bool) (And.intro @cvW_str @cvT_none)))
def bq := And.intro (And.intro (And.intro (@bq0) (And.intro @bq1 @bq2)) (And.intro (@bq3) (And.intro @bq4 @bq5))) (And.intro (And.intro (@bq6) (And.intro @bq7 @bq8)) (And.intro (@bq9) (And.intro @bq10 @bq11)))
def br0 := And.intro (And.intro (And.intro (And.intro @List.getD_cons_zero.{0} @List.getD_cons_succ.{0}) (And.intro @List.getD_nil.{0} @List.map_cons.{0, 0})) (And.intro (And.intro @List.map_nil.{0, 0} @List.getElem?_cons_zero.{0}) (And.intro @List.getElem?_cons_succ.{0} @List.getElem?_nil.{0}))) (And.intro (And.intro (And.intro @List.take_zero.{0} @List.take_length.{0}) (And.intro @List.take_succ_cons.{0} @List.take_nil.{0})) (And.intro (And.intro @List.drop_zero.{0} @List.drop_succ_cons.{0}) (And.intro @List.drop_nil.{0} @List.length_cons.{0})))
def br1 := And.intro (And.intro (And.intro (And.intro @List.length_nil.{0} @List.head?_cons.{0}) (And.intro @List.head?_nil.{0} @List.cons_append.{0})) (And.intro (And.intro @List.nil_append.{0} @List.append_nil.{0}) (And.intro @List.all_cons.{0} @List.all_nil.{0}))) (And.intro (And.intro (And.intro @List.range_zero @List.length_map.{0, 0}) (And.intro @List.getElem?_map.{0, 0} @List.size_toArray.{0})) (And.intro (And.intro @List.getElem?_toArray.{0} @List.toList_toArray.{0}) (And.intro @Option.map_some.{0, 0} @Option.map_none.{0, 0})))
def br2 := And.intro (And.intro (And.intro (And.intro @Option.bind_some.{0, 0} @Option.bind_none.{0, 0}) (And.intro @Option.isSome_some.{0} @Option.isSome_none.{0})) (And.intro (And.intro @Option.some.injEq.{0} @Nat.zero_add) (And.intro @Nat.add_zero @Nat.le_refl))) (And.intro (And.intro (And.intro @Nat.add_one_ne_zero @Int.toNat_natCast) (And.intro @Int.natCast_nonneg @not_true_eq_false)) (And.intro (And.intro @not_false_eq_true @and_true) (And.intro @true_and @and_false)))
def br3 := And.intro (And.intro (And.intro (And.intro @false_and @or_true) (And.intro @true_or @or_false)) (And.intro (And.intro @false_or @Bool.and_true) (And.intro @Bool.true_and @Bool.and_false))) (And.intro (And.intro (And.intro @Bool.false_and @Bool.false_eq_true) (And.intro @Bool.true_eq_false @Bool.not_true)) (And.intro (And.intro @Bool.not_false @beq_self_eq_true.{0}) (And.intro @decide_true @decide_false)))
def br4 := And.intro (And.intro (And.intro (And.intro @decide_eq_true_eq @List.contains_cons.{0}) (And.intro @List.contains_nil.{0} @Bool.or_true)) (And.intro (And.intro @Bool.true_or @Bool.or_false) (And.intro @Bool.false_or @List.filterMap_cons.{0, 0}))) (And.intro (And.intro (And.intro @List.filterMap_nil.{0, 0} @List.range_succ) (And.intro @List.append_eq.{0} @List.mem_cons.{0})) (And.intro (And.intro @List.not_mem_nil.{0} @List.filter_cons.{0}) (And.intro @List.filter_nil.{0} @afin.eq_1)))
def br5 := And.intro (And.intro (And.intro (And.intro @afin_none @afin_two) (And.intro @bsk.eq_1 @bsk.eq_2)) (And.intro (And.intro @cWrites.eq_1 @cWrites.eq_2) (And.intro @cWrites.eq_3 @cWrites.eq_4))) (And.intro (And.intro (And.intro @cWrites.eq_5 @cw_skip) (And.intro @cw_exit @cw_ret)) (And.intro (And.intro @cw_refuse @cw_range) (And.intro @opsWrites.eq_1 @pieceGh.eq_1)))
def br6 := And.intro (And.intro (And.intro (@pieceGh.eq_2) (And.intro @pieceGh.eq_3 @rsk.eq_1)) (And.intro (@ne_eq.{1}) (And.intro @if_true.{1} @if_false.{1}))) (And.intro (And.intro (@exists_eq_left'.{1}) (And.intro @forall_const.{0} @forall_const.{1})) (And.intro (And.intro @forall_eq.{1} @ne_eq.{0}) (And.intro @if_true.{0} @if_false.{0})))
def br := And.intro (And.intro (@br0) (And.intro @br1 @br2)) (And.intro (And.intro @br3 @br4) (And.intro @br5 @br6))
class Spl (X : Prop) (A B : outParam Prop) : Prop where
 go : A -> B -> X
instance (priority := 2000) {p : Prop} [Decidable p] {A B : Prop} {d : Dum A} {d' : Dum B} : Spl (condW (.bool (decide p)) A B d d') (decide p = true -> ¬ ¬ p -> A) (decide p = false -> ¬ p -> B) := ⟨condW_both⟩
instance (priority := 2000) {p : Prop} [Decidable p] {A B : Prop} {d : Dum A} {d' : Dum B} : Spl (gW (some (decide p)) A B d d') (decide p = true -> ¬ ¬ p -> A) (decide p = false -> ¬ p -> B) := ⟨gW_both⟩
instance {t : Bool} {A B : Prop} {d : Dum A} {d' : Dum B} : Spl (condW (.bool t) A B d d') (t = true -> A) (t = false -> B) := ⟨condW_split⟩
instance {t : Bool} {A B : Prop} {d : Dum A} {d' : Dum B} : Spl (gW (some t) A B d d') (t = true -> A) (t = false -> B) := ⟨gW_split⟩
instance {t : Bool} {a b : AV} {F : AV -> Prop} {d : Dum a} {d' : Dum b} {d2 : Dum F} : Spl (pickW (.bool t) a b F d d' d2) (t = true -> F a) (t = false -> F b) := ⟨pickW_split⟩
theorem xs {X A B : Prop} [h : Spl X A B] (a : A) (b : B) : X := h.go a b
def lr := @AS.le.refl
def xf := @finish_pure
def xh := @newW_intro
def xi := @newT_plain
def xj := @storeX_w
def xk := @draw_all
def ls := @le_set
def lt := @le_ty
def lf := @AS.le.fresh
def fb := And.intro @fresh_box (And.intro @fresh_tip @fresh_ty)
structure Hid (Q : Prop) : Prop where
 out : Q
theorem wj {P Q : Prop} (k : Q) (h : Hid Q -> P := by (intro hq; first | refine xj ?_ | refine cv_plain ?_ | ((with_reducible refine And.intro ?_ ?_); omega) | refine bo_buildSlice (d' := ⟨⟩) ?_ | refine xk (by kernel_rfl) ?_ | refine xf ?_ (by repeat' first | exact lr _ | assumption | refine ls ?_ ?_ | refine lt ?_ ?_ | simp only [*]; done | simp only [fb, *, not_false_eq_true, and_self]; done | exact lf ‹_› (by simp only [*])) | refine finish_two ?_ (by repeat' first | exact lr _ | assumption | refine ls ?_ ?_ | refine lt ?_ ?_ | simp only [*]; done | simp only [fb, *, not_false_eq_true, and_self]; done | exact lf ‹_› (by simp only [*])) | fail); exact hq.out) : P := h ⟨k⟩
theorem wi {P Q : Prop} (k : Q) (h : Hid Q -> P := by (intro hq; first | refine xj ?_ | refine cv_plain ?_ | ((with_reducible refine And.intro ?_ ?_); omega) | refine bo_buildSlice (d' := ⟨⟩) ?_ | refine xf ?_ (by repeat' first | exact lr _ | assumption | refine ls ?_ ?_ | refine lt ?_ ?_ | simp only [*]; done | simp only [fb, *, not_false_eq_true, and_self]; done | exact lf ‹_› (by simp only [*])) | refine finish_two ?_ (by repeat' first | exact lr _ | assumption | refine ls ?_ ?_ | refine lt ?_ ?_ | simp only [*]; done | simp only [fb, *, not_false_eq_true, and_self]; done | exact lf ‹_› (by simp only [*])) | fail); exact hq.out) : P := h ⟨k⟩
theorem wn {P Q : Prop} (k : Q) (h : Hid Q -> P := by (intro hq; first | refine xh ?_ | refine xi ?_ | fail); exact hq.out) : P := h ⟨k⟩
theorem wz {P Q : Prop} (k : Q) (h : Hid Q -> P := by (intro hq; first | refine slW_bo ?_ | refine cv_any ?_ | fail); exact hq.out) : P := h ⟨k⟩
theorem wp {A P Q : Prop} (c : A) (k : Q) (h : A -> Hid Q -> P := by (intro hc hq; first | refine Pure.use hc ?_ | refine Pure.head hc ?_ | fail); exact hq.out) : P := h c ⟨k⟩
end Go.Av
set_option maxRecDepth 100000
namespace Go.Proofs.YtjmdaeabllkgnaaGreatDoor
open Go Go.Av
theorem tf3 : tk Tryz.prog 3 = some (false, 1) /\ sk Tryz.prog 3 = .int .i64 /\ (Tryz.prog.underlying 3).isSome = true /\ el Tryz.prog 3 = none /\ zc Tryz.prog 3 = some [.int .i64 0] /\ by_ Tryz.prog 3 = some 8 := ⟨by kernel_rfl, by kernel_rfl, by kernel_rfl, by kernel_rfl, by kernel_rfl, by kernel_rfl⟩
theorem tf4 : tk Tryz.prog 4 = some (false, 1) /\ sk Tryz.prog 4 = .bool /\ (Tryz.prog.underlying 4).isSome = true /\ el Tryz.prog 4 = none /\ zc Tryz.prog 4 = some [.bool false] /\ by_ Tryz.prog 4 = some 1 := ⟨by kernel_rfl, by kernel_rfl, by kernel_rfl, by kernel_rfl, by kernel_rfl, by kernel_rfl⟩
theorem tf5 : tk Tryz.prog 5 = some (false, 1) /\ sk Tryz.prog 5 = .int .u8 /\ (Tryz.prog.underlying 5).isSome = true /\ el Tryz.prog 5 = none /\ zc Tryz.prog 5 = some [.int .u8 0] /\ by_ Tryz.prog 5 = some 1 := ⟨by kernel_rfl, by kernel_rfl, by kernel_rfl, by kernel_rfl, by kernel_rfl, by kernel_rfl⟩
theorem tf9 : tk Tryz.prog 9 = some (false, 1) /\ sk Tryz.prog 9 = .str /\ (Tryz.prog.underlying 9).isSome = true /\ el Tryz.prog 9 = none /\ zc Tryz.prog 9 = some [.str []] /\ by_ Tryz.prog 9 = some 16 := ⟨by kernel_rfl, by kernel_rfl, by kernel_rfl, by kernel_rfl, by kernel_rfl, by kernel_rfl⟩
theorem tf21 : tk Tryz.prog 21 = some (false, 1) /\ sk Tryz.prog 21 = .int .i32 /\ (Tryz.prog.underlying 21).isSome = true /\ el Tryz.prog 21 = none /\ zc Tryz.prog 21 = some [.int .i32 0] /\ by_ Tryz.prog 21 = some 4 := ⟨by kernel_rfl, by kernel_rfl, by kernel_rfl, by kernel_rfl, by kernel_rfl, by kernel_rfl⟩
theorem tf22 : tk Tryz.prog 22 = some (false, 1) /\ sk Tryz.prog 22 = .sl 53 /\ (Tryz.prog.underlying 22).isSome = true /\ el Tryz.prog 22 = some 53 /\ zc Tryz.prog 22 = some [.nil] /\ by_ Tryz.prog 22 = some 24 /\ aelt Tryz.prog 22 = some (53, 5, 48) := ⟨by kernel_rfl, by kernel_rfl, by kernel_rfl, by kernel_rfl, by kernel_rfl, by kernel_rfl, by kernel_rfl⟩
theorem tf23 : tk Tryz.prog 23 = some (false, 1) /\ sk Tryz.prog 23 = .sl 39 /\ (Tryz.prog.underlying 23).isSome = true /\ el Tryz.prog 23 = some 39 /\ zc Tryz.prog 23 = some [.nil] /\ by_ Tryz.prog 23 = some 24 /\ aelt Tryz.prog 23 = some (39, 8, 88) := ⟨by kernel_rfl, by kernel_rfl, by kernel_rfl, by kernel_rfl, by kernel_rfl, by kernel_rfl, by kernel_rfl⟩
theorem tf24 : tk Tryz.prog 24 = some (false, 1) /\ sk Tryz.prog 24 = .sl 58 /\ (Tryz.prog.underlying 24).isSome = true /\ el Tryz.prog 24 = some 58 /\ zc Tryz.prog 24 = some [.nil] /\ by_ Tryz.prog 24 = some 24 /\ aelt Tryz.prog 24 = some (58, 7, 104) := ⟨by kernel_rfl, by kernel_rfl, by kernel_rfl, by kernel_rfl, by kernel_rfl, by kernel_rfl, by kernel_rfl⟩
theorem tf26 : tk Tryz.prog 26 = some (true, 3) /\ sk Tryz.prog 26 = .st /\ (Tryz.prog.underlying 26).isSome = true /\ el Tryz.prog 26 = none /\ zc Tryz.prog 26 = some [.nil, .nil, .nil] /\ by_ Tryz.prog 26 = some 72 /\ places Tryz.prog 26 = some [(0, 1), (1, 1), (2, 1)] /\ fld Tryz.prog 26 0 = some (0, false, 1) /\ fld Tryz.prog 26 1 = some (1, false, 1) /\ fld Tryz.prog 26 2 = some (2, false, 1) := ⟨by kernel_rfl, by kernel_rfl, by kernel_rfl, by kernel_rfl, by kernel_rfl, by kernel_rfl, by kernel_rfl, by kernel_rfl, by kernel_rfl, by kernel_rfl⟩
theorem tf30 : tk Tryz.prog 30 = some (false, 1) /\ sk Tryz.prog 30 = .sl 3 /\ (Tryz.prog.underlying 30).isSome = true /\ el Tryz.prog 30 = some 3 /\ zc Tryz.prog 30 = some [.nil] /\ by_ Tryz.prog 30 = some 24 /\ aelt Tryz.prog 30 = some (3, 1, 8) := ⟨by kernel_rfl, by kernel_rfl, by kernel_rfl, by kernel_rfl, by kernel_rfl, by kernel_rfl, by kernel_rfl⟩
theorem tf37 : tk Tryz.prog 37 = some (false, 1) /\ sk Tryz.prog 37 = .int .u8 /\ (Tryz.prog.underlying 37).isSome = true /\ el Tryz.prog 37 = none /\ zc Tryz.prog 37 = some [.int .u8 0] /\ by_ Tryz.prog 37 = some 1 := ⟨by kernel_rfl, by kernel_rfl, by kernel_rfl, by kernel_rfl, by kernel_rfl, by kernel_rfl⟩
theorem tf39 : tk Tryz.prog 39 = some (true, 8) /\ sk Tryz.prog 39 = .st /\ (Tryz.prog.underlying 39).isSome = true /\ el Tryz.prog 39 = none /\ zc Tryz.prog 39 = some [.int .u8 0, .int .i64 0, .int .i64 0, .int .i64 0, .int .i64 0, .int .i64 0, .str [], .nil] /\ by_ Tryz.prog 39 = some 88 /\ places Tryz.prog 39 = some [(0, 1), (1, 1), (2, 1), (3, 1), (4, 1), (5, 1), (6, 1), (7, 1)] /\ fld Tryz.prog 39 0 = some (0, false, 1) /\ fld Tryz.prog 39 1 = some (1, false, 1) /\ fld Tryz.prog 39 2 = some (2, false, 1) /\ fld Tryz.prog 39 3 = some (3, false, 1) /\ fld Tryz.prog 39 4 = some (4, false, 1) /\ fld Tryz.prog 39 5 = some (5, false, 1) /\ fld Tryz.prog 39 6 = some (6, false, 1) /\ fld Tryz.prog 39 7 = some (7, false, 1) := ⟨by kernel_rfl, by kernel_rfl, by kernel_rfl, by kernel_rfl, by kernel_rfl, by kernel_rfl, by kernel_rfl, by kernel_rfl, by kernel_rfl, by kernel_rfl, by kernel_rfl, by kernel_rfl, by kernel_rfl, by kernel_rfl, by kernel_rfl⟩
theorem tf53 : tk Tryz.prog 53 = some (true, 5) /\ sk Tryz.prog 53 = .st /\ (Tryz.prog.underlying 53).isSome = true /\ el Tryz.prog 53 = none /\ zc Tryz.prog 53 = some [.str [], .int .i64 0, .int .i64 0, .int .i64 0, .int .i64 0] /\ by_ Tryz.prog 53 = some 48 /\ places Tryz.prog 53 = some [(0, 1), (1, 1), (2, 1), (3, 1), (4, 1)] /\ fld Tryz.prog 53 0 = some (0, false, 1) /\ fld Tryz.prog 53 1 = some (1, false, 1) /\ fld Tryz.prog 53 2 = some (2, false, 1) /\ fld Tryz.prog 53 3 = some (3, false, 1) /\ fld Tryz.prog 53 4 = some (4, false, 1) := ⟨by kernel_rfl, by kernel_rfl, by kernel_rfl, by kernel_rfl, by kernel_rfl, by kernel_rfl, by kernel_rfl, by kernel_rfl, by kernel_rfl, by kernel_rfl, by kernel_rfl, by kernel_rfl⟩
theorem tf54 : tk Tryz.prog 54 = some (false, 1) /\ sk Tryz.prog 54 = .sl 5 /\ (Tryz.prog.underlying 54).isSome = true /\ el Tryz.prog 54 = some 5 /\ zc Tryz.prog 54 = some [.nil] /\ by_ Tryz.prog 54 = some 24 /\ aelt Tryz.prog 54 = some (5, 1, 1) := ⟨by kernel_rfl, by kernel_rfl, by kernel_rfl, by kernel_rfl, by kernel_rfl, by kernel_rfl, by kernel_rfl⟩
theorem tf55 : tk Tryz.prog 55 = some (false, 1) /\ sk Tryz.prog 55 = .int .u8 /\ (Tryz.prog.underlying 55).isSome = true /\ el Tryz.prog 55 = none /\ zc Tryz.prog 55 = some [.int .u8 0] /\ by_ Tryz.prog 55 = some 1 := ⟨by kernel_rfl, by kernel_rfl, by kernel_rfl, by kernel_rfl, by kernel_rfl, by kernel_rfl⟩
theorem tf56 : tk Tryz.prog 56 = some (false, 1) /\ sk Tryz.prog 56 = .sl 169 /\ (Tryz.prog.underlying 56).isSome = true /\ el Tryz.prog 56 = some 169 /\ zc Tryz.prog 56 = some [.nil] /\ by_ Tryz.prog 56 = some 24 /\ aelt Tryz.prog 56 = some (169, 1, 4) := ⟨by kernel_rfl, by kernel_rfl, by kernel_rfl, by kernel_rfl, by kernel_rfl, by kernel_rfl, by kernel_rfl⟩
theorem tf58 : tk Tryz.prog 58 = some (true, 7) /\ sk Tryz.prog 58 = .st /\ (Tryz.prog.underlying 58).isSome = true /\ el Tryz.prog 58 = none /\ zc Tryz.prog 58 = some [.int .u8 0, .bool false, .nil, .str [], .int .i64 0, .nil, .nil] /\ by_ Tryz.prog 58 = some 104 /\ places Tryz.prog 58 = some [(0, 1), (1, 1), (2, 1), (3, 1), (4, 1), (5, 1), (6, 1)] /\ fld Tryz.prog 58 0 = some (0, false, 1) /\ fld Tryz.prog 58 1 = some (1, false, 1) /\ fld Tryz.prog 58 2 = some (2, false, 1) /\ fld Tryz.prog 58 3 = some (3, false, 1) /\ fld Tryz.prog 58 4 = some (4, false, 1) /\ fld Tryz.prog 58 5 = some (5, false, 1) /\ fld Tryz.prog 58 6 = some (6, false, 1) := ⟨by kernel_rfl, by kernel_rfl, by kernel_rfl, by kernel_rfl, by kernel_rfl, by kernel_rfl, by kernel_rfl, by kernel_rfl, by kernel_rfl, by kernel_rfl, by kernel_rfl, by kernel_rfl, by kernel_rfl, by kernel_rfl⟩
theorem tf66 : tk Tryz.prog 66 = some (true, 3) /\ sk Tryz.prog 66 = .st /\ (Tryz.prog.underlying 66).isSome = true /\ el Tryz.prog 66 = none /\ zc Tryz.prog 66 = some [.str [], .str [], .bool false] /\ by_ Tryz.prog 66 = some 40 /\ places Tryz.prog 66 = some [(0, 1), (1, 1), (2, 1)] /\ fld Tryz.prog 66 0 = some (0, false, 1) /\ fld Tryz.prog 66 1 = some (1, false, 1) /\ fld Tryz.prog 66 2 = some (2, false, 1) := ⟨by kernel_rfl, by kernel_rfl, by kernel_rfl, by kernel_rfl, by kernel_rfl, by kernel_rfl, by kernel_rfl, by kernel_rfl, by kernel_rfl, by kernel_rfl⟩
theorem tf74 : tk Tryz.prog 74 = some (true, 10) /\ sk Tryz.prog 74 = .st /\ (Tryz.prog.underlying 74).isSome = true /\ el Tryz.prog 74 = none /\ zc Tryz.prog 74 = some [.nil, .nil, .nil, .str [], .int .i64 0, .int .i64 0, .int .i64 0, .int .i64 0, .int .i64 0, .int .i64 0] /\ by_ Tryz.prog 74 = some 136 /\ places Tryz.prog 74 = some [(0, 3), (3, 5), (8, 1), (9, 1)] /\ fld Tryz.prog 74 0 = some (0, true, 3) /\ fld Tryz.prog 74 1 = some (3, true, 5) /\ fld Tryz.prog 74 2 = some (8, false, 1) /\ fld Tryz.prog 74 3 = some (9, false, 1) := ⟨by kernel_rfl, by kernel_rfl, by kernel_rfl, by kernel_rfl, by kernel_rfl, by kernel_rfl, by kernel_rfl, by kernel_rfl, by kernel_rfl, by kernel_rfl, by kernel_rfl⟩
theorem tf90 : tk Tryz.prog 90 = some (false, 1) /\ sk Tryz.prog 90 = .sl 24 /\ (Tryz.prog.underlying 90).isSome = true /\ el Tryz.prog 90 = some 24 /\ zc Tryz.prog 90 = some [.nil] /\ by_ Tryz.prog 90 = some 24 /\ aelt Tryz.prog 90 = some (24, 1, 24) := ⟨by kernel_rfl, by kernel_rfl, by kernel_rfl, by kernel_rfl, by kernel_rfl, by kernel_rfl, by kernel_rfl⟩
theorem tf112 : tk Tryz.prog 112 = some (true, 90) /\ sk Tryz.prog 112 = .arr 30 66 /\ (Tryz.prog.underlying 112).isSome = true /\ el Tryz.prog 112 = none /\ by_ Tryz.prog 112 = some 1200 /\ arrT Tryz.prog 112 = some (30, 3) /\ arrX Tryz.prog 112 = some (30, true, 3) := ⟨by kernel_rfl, by kernel_rfl, by kernel_rfl, by kernel_rfl, by kernel_rfl, by kernel_rfl, by kernel_rfl⟩
theorem tf116 : tk Tryz.prog 116 = some (false, 1) /\ sk Tryz.prog 116 = .int .u64 /\ (Tryz.prog.underlying 116).isSome = true /\ el Tryz.prog 116 = none /\ zc Tryz.prog 116 = some [.int .u64 0] /\ by_ Tryz.prog 116 = some 8 := ⟨by kernel_rfl, by kernel_rfl, by kernel_rfl, by kernel_rfl, by kernel_rfl, by kernel_rfl⟩
theorem tf120 : tk Tryz.prog 120 = some (false, 1) /\ sk Tryz.prog 120 = .fn /\ (Tryz.prog.underlying 120).isSome = true /\ el Tryz.prog 120 = none /\ zc Tryz.prog 120 = some [.nilfn] /\ by_ Tryz.prog 120 = some 8 := ⟨by kernel_rfl, by kernel_rfl, by kernel_rfl, by kernel_rfl, by kernel_rfl, by kernel_rfl⟩
theorem tf124 : tk Tryz.prog 124 = some (false, 1) /\ sk Tryz.prog 124 = .sl 9 /\ (Tryz.prog.underlying 124).isSome = true /\ el Tryz.prog 124 = some 9 /\ zc Tryz.prog 124 = some [.nil] /\ by_ Tryz.prog 124 = some 24 /\ aelt Tryz.prog 124 = some (9, 1, 16) := ⟨by kernel_rfl, by kernel_rfl, by kernel_rfl, by kernel_rfl, by kernel_rfl, by kernel_rfl, by kernel_rfl⟩
theorem tf145 : tk Tryz.prog 145 = some (false, 1) /\ sk Tryz.prog 145 = .ptr 147 /\ (Tryz.prog.underlying 145).isSome = true /\ el Tryz.prog 145 = none /\ zc Tryz.prog 145 = some [.nilptr] /\ by_ Tryz.prog 145 = some 8 := ⟨by kernel_rfl, by kernel_rfl, by kernel_rfl, by kernel_rfl, by kernel_rfl, by kernel_rfl⟩
theorem tf147 : tk Tryz.prog 147 = some (true, 2) /\ sk Tryz.prog 147 = .st /\ (Tryz.prog.underlying 147).isSome = true /\ el Tryz.prog 147 = none /\ zc Tryz.prog 147 = some [.nilptr, .nil] /\ by_ Tryz.prog 147 = some 32 /\ places Tryz.prog 147 = some [(0, 1), (1, 1)] /\ fld Tryz.prog 147 0 = some (0, false, 1) /\ fld Tryz.prog 147 1 = some (1, false, 1) := ⟨by kernel_rfl, by kernel_rfl, by kernel_rfl, by kernel_rfl, by kernel_rfl, by kernel_rfl, by kernel_rfl, by kernel_rfl, by kernel_rfl⟩
theorem tf148 : tk Tryz.prog 148 = some (false, 1) /\ sk Tryz.prog 148 = .fn /\ (Tryz.prog.underlying 148).isSome = true /\ el Tryz.prog 148 = none /\ zc Tryz.prog 148 = some [.nilfn] /\ by_ Tryz.prog 148 = some 8 := ⟨by kernel_rfl, by kernel_rfl, by kernel_rfl, by kernel_rfl, by kernel_rfl, by kernel_rfl⟩
theorem tf154 : tk Tryz.prog 154 = some (false, 1) /\ sk Tryz.prog 154 = .fn /\ (Tryz.prog.underlying 154).isSome = true /\ el Tryz.prog 154 = none /\ zc Tryz.prog 154 = some [.nilfn] /\ by_ Tryz.prog 154 = some 8 := ⟨by kernel_rfl, by kernel_rfl, by kernel_rfl, by kernel_rfl, by kernel_rfl, by kernel_rfl⟩
theorem tf169 : tk Tryz.prog 169 = some (false, 1) /\ sk Tryz.prog 169 = .int .u32 /\ (Tryz.prog.underlying 169).isSome = true /\ el Tryz.prog 169 = none /\ zc Tryz.prog 169 = some [.int .u32 0] /\ by_ Tryz.prog 169 = some 4 := ⟨by kernel_rfl, by kernel_rfl, by kernel_rfl, by kernel_rfl, by kernel_rfl, by kernel_rfl⟩
theorem tf171 : tk Tryz.prog 171 = some (false, 1) /\ sk Tryz.prog 171 = .int .u64 /\ (Tryz.prog.underlying 171).isSome = true /\ el Tryz.prog 171 = none /\ zc Tryz.prog 171 = some [.int .u64 0] /\ by_ Tryz.prog 171 = some 8 := ⟨by kernel_rfl, by kernel_rfl, by kernel_rfl, by kernel_rfl, by kernel_rfl, by kernel_rfl⟩
theorem tf214 : tk Tryz.prog 214 = some (false, 1) /\ sk Tryz.prog 214 = .sl 26 /\ (Tryz.prog.underlying 214).isSome = true /\ el Tryz.prog 214 = some 26 /\ zc Tryz.prog 214 = some [.nil] /\ by_ Tryz.prog 214 = some 24 /\ aelt Tryz.prog 214 = some (26, 3, 72) := ⟨by kernel_rfl, by kernel_rfl, by kernel_rfl, by kernel_rfl, by kernel_rfl, by kernel_rfl, by kernel_rfl⟩
theorem tf244 : tk Tryz.prog 244 = some (false, 1) /\ sk Tryz.prog 244 = .sl 4 /\ (Tryz.prog.underlying 244).isSome = true /\ el Tryz.prog 244 = some 4 /\ zc Tryz.prog 244 = some [.nil] /\ by_ Tryz.prog 244 = some 24 /\ aelt Tryz.prog 244 = some (4, 1, 1) := ⟨by kernel_rfl, by kernel_rfl, by kernel_rfl, by kernel_rfl, by kernel_rfl, by kernel_rfl, by kernel_rfl⟩
theorem tf257 : tk Tryz.prog 257 = some (true, 4) /\ sk Tryz.prog 257 = .arr 4 9 /\ (Tryz.prog.underlying 257).isSome = true /\ el Tryz.prog 257 = none /\ zc Tryz.prog 257 = some [.str [], .str [], .str [], .str []] /\ by_ Tryz.prog 257 = some 64 /\ arrT Tryz.prog 257 = some (4, 1) /\ arrX Tryz.prog 257 = some (4, false, 1) := ⟨by kernel_rfl, by kernel_rfl, by kernel_rfl, by kernel_rfl, by kernel_rfl, by kernel_rfl, by kernel_rfl, by kernel_rfl⟩
theorem tf258 : tk Tryz.prog 258 = some (true, 16) /\ sk Tryz.prog 258 = .arr 4 257 /\ (Tryz.prog.underlying 258).isSome = true /\ el Tryz.prog 258 = none /\ zc Tryz.prog 258 = some [.str [], .str [], .str [], .str [], .str [], .str [], .str [], .str [], .str [], .str [], .str [], .str [], .str [], .str [], .str [], .str []] /\ by_ Tryz.prog 258 = some 256 /\ arrT Tryz.prog 258 = some (4, 4) /\ arrX Tryz.prog 258 = some (4, true, 4) := ⟨by kernel_rfl, by kernel_rfl, by kernel_rfl, by kernel_rfl, by kernel_rfl, by kernel_rfl, by kernel_rfl, by kernel_rfl⟩
theorem mixed : Tryz.prog.follows .mixedOrders = true := by kernel_rfl
end Go.Proofs.YtjmdaeabllkgnaaGreatDoor
set_option linter.unusedSimpArgs false
namespace Go.Proofs.YtjmdaeabllkgnaaGreatDoor
open Go Go.RowKit
set_option maxHeartbeats 1000000 in
set_option maxRecDepth 100000 in
theorem copyCheck_used (b : Nat) (w : World) (h0 : w.cell? ⟨b, 0, none⟩ = some (.pointer (some ⟨b, 0, none⟩))) :
  Calls Tryz.prog 175 #[.pointer (some ⟨b, 0, none⟩)] w fun e w' => e = .returned (.tuple #[]) /\ w' = w := by
 have mixed : Tryz.prog.follows .mixedOrders = true := by kernel_rfl
 have t72 := Tryz.underlying147; have a72 := Tryz.isAgg147; have z72 := Tryz.sizeOf147; have v72 := Tryz.zeroValue147; have u72 := run_underlying Tryz.underlying147
 have t70 := Tryz.underlying145; have a70 := Tryz.isAgg145; have z70 := Tryz.sizeOf145; have v70 := Tryz.zeroValue145; have u70 := run_underlying Tryz.underlying145
 have t4 := Tryz.underlying4; have a4 := Tryz.isAgg4; have z4 := Tryz.sizeOf4; have v4 := Tryz.zeroValue4; have u4 := run_underlying Tryz.underlying4
 obtain ⟨j, hj, _⟩ : ∃ j, Tryz.prog.info? 147 = some j /\ j.size = 2 := ⟨_, rfl, by kernel_rfl⟩
 go_enter Tryz.func175, Tryz.ntmps175
 go_wp2
 rw [Lib.run_neq_ptr_same w _ Tryz.underlying145 hj]
 go_wp2
 go_end0
 exact ⟨rfl, rfl⟩
set_option maxHeartbeats 1000000 in
set_option maxRecDepth 100000 in
theorem copyCheck_fresh (b : Nat) (w : World) (h0 : w.cell? ⟨b, 0, none⟩ = some (.pointer none)) (hsh : w.shape? b = some (147, 2)) (hfz : w.frozen? ⟨b, 0, none⟩ = false) :
  Calls Tryz.prog 175 #[.pointer (some ⟨b, 0, none⟩)] w fun e w' => e = .returned (.tuple #[]) /\ w' = w.setCell ⟨b, 0, none⟩ (.pointer (some ⟨b, 0, none⟩)) := by
 have mixed : Tryz.prog.follows .mixedOrders = true := by kernel_rfl
 have t72 := Tryz.underlying147; have a72 := Tryz.isAgg147; have z72 := Tryz.sizeOf147; have v72 := Tryz.zeroValue147; have u72 := run_underlying Tryz.underlying147
 have t70 := Tryz.underlying145; have a70 := Tryz.isAgg145; have z70 := Tryz.sizeOf145; have v70 := Tryz.zeroValue145; have u70 := run_underlying Tryz.underlying145
 have t4 := Tryz.underlying4; have a4 := Tryz.isAgg4; have z4 := Tryz.sizeOf4; have v4 := Tryz.zeroValue4; have u4 := run_underlying Tryz.underlying4
 have t164 := Tryz.underlying269; have a164 := Tryz.isAgg269; have z164 := Tryz.sizeOf269; have v164 := Tryz.zeroValue269; have u164 := run_underlying Tryz.underlying269
 obtain ⟨j, hj, hjs⟩ : ∃ j, Tryz.prog.info? 147 = some j /\ j.size = 2 := ⟨_, rfl, by kernel_rfl⟩
 go_enter Tryz.func175, Tryz.ntmps175
 go_wp2
 rw [Lib.run_to_unsafe w ⟨b, 0, none⟩ t70 t164 hj (by rw [hjs]; decide) hsh (Nat.zero_lt_succ 1)]
 simp only [Result.andThen]
 rw [Oper.upon_value]
 go_wp2
 rw [run_callFunc_extern Tryz.func207 (by kernel_rfl) (by kernel_rfl) (by kernel_rfl) (e := Extern.AbiNoEscape.same) (by kernel_rfl)]
 rw [Lib.run_noEscape]
 simp only [Result.andThen]
 rw [Oper.upon_value]
 go_wp2
 rw [Lib.run_from_unsafe w ⟨b, 0, none⟩ t164 t70 hj hsh (by kernel_rfl)]
 simp only [Result.andThen]
 rw [Oper.upon_value]
 go_wp2
 go_end0
 exact ⟨rfl, rfl⟩
end Go.Proofs.YtjmdaeabllkgnaaGreatDoor
namespace Go.Av
open Go Go.RowKit
theorem fresh_ne {σ : AS} {b c : Nat} {z : List AV} (h : σ.box b = some z) (hc : σ.fresh c) : ¬ b = c /\ ¬ c = b := by
 have : ¬ b = c := fun e => by subst e; rw [hc.1] at h; cases h
 exact ⟨this, fun e => this e.symm⟩
theorem Tri.back {P : Program} {G : Nat -> AV} {f : FuncId} {args : List AV} {σ : AS} {Q : AV -> Prop} (h : Tri P G f args σ fun r σ' => Q r /\ σ.le σ') : Tri P G f args σ fun r σ' => Q r /\ σ' = σ :=
 ⟨h.1, fun K w vals hr hv => (h.2 K w vals hr hv).mono fun e w' ⟨v, r, σ', K', he, ⟨hQ, hl⟩, h1, h2, h3⟩ => ⟨v, r, σ, K', he, ⟨hQ, rfl⟩, h1, h2.weaken hl, h3⟩⟩
inductive WBuf (n : Nat) (E : TypeId) (σ0 σ : AS) : AV -> List AV -> Prop
 | nil (h : σ0.le σ) : WBuf n E σ0 σ .nil []
 | row (b : Nat) (xs : List AV) (h : σ0.le σ) (h0 : σ0.box b = none) (h1 : σ0.tip b = none) (hb : σ.box b = some (xs.flatMap flat)) (hx : ∀ a, a ∈ xs -> (flat a).length = n /\ isv a = true) : WBuf n E σ0 σ (.bs b xs.length n E) xs
theorem WBuf.le {n : Nat} {E : TypeId} {σ0 σ : AS} {v : AV} {xs : List AV} (h : WBuf n E σ0 σ v xs) : σ0.le σ := by cases h <;> assumption
theorem flatMap_len {n : Nat} : ∀ (xs : List AV), (∀ a, a ∈ xs -> (flat a).length = n) -> (xs.flatMap flat).length = xs.length * n
 | [], _ => by simp
 | x :: xs, h => by
  rw [List.flatMap_cons, List.length_append, h x (by simp), flatMap_len xs fun a ha => h a (by simp [ha]), List.length_cons, Nat.succ_mul, Nat.add_comm]
theorem AS.le.delSet {σ0 σ : AS} (h : σ0.le σ) {b b' : Nat} (hb : σ0.box b = none) (hb' : σ0.box b' = none) (z : List AV) : σ0.le ((σ.delBox b).setBox b' z) := by
 refine ⟨fun i cs hi => ?_, fun i m hi => h.tip _ _ hi, h.ty⟩
 have h1 : i ≠ b := fun e => by subst e; rw [hb] at hi; cases hi
 have h2 : i ≠ b' := fun e => by subst e; rw [hb'] at hi; cases hi
 show (if i = b' then _ else if i = b then none else σ.box i) = some cs
 rw [if_neg h2, if_neg h1]; exact h.box _ _ hi
theorem Tri.wbuf {P : Program} {G : Nat -> AV} {f : FuncId} {args : List AV} {σ : AS} {n : Nat} {E : TypeId} {xs : List AV} (h : Tri P G f args σ fun r σ' => WBuf n E σ σ' r xs) : Tri P G f args σ fun r σ' => Le r (.sl .none xs []) /\ σ' = σ := by
 refine Tri.back ⟨h.1, fun K w vals hr hv => (h.2 K w vals hr hv).mono fun e w' ⟨v, r, σ', K', he, hQ, h1, h2, h3⟩ => ?_⟩
 cases hQ with
 | nil hl => exact ⟨v, .nil, σ', K', he, ⟨Le.nil, hl⟩, h1, h2, h3⟩
 | row b xs hl h0 ht hb hx =>
  obtain ⟨cap, F, g1, g2, g3⟩ := (Has.bs (b := b) (n := xs.length) (s := n) (E := E)) K' v h1
  obtain ⟨K2, k1, k2, k3⟩ := freeze_world h2 hb ⟨rfl, rfl, hx⟩ g1 g2 g3
  exact ⟨v, _, _, K2, he, ⟨Le.gh, AS.froze_le hl h0 ht⟩, k3 _ _ _ (.here E) h1, k2, h3.trans k1⟩
end Go.Av
namespace Go.Av
open Go Go.RowKit
variable {P : Program} {e : Env} {σ : AS}
end Go.Av
namespace Go.Av
open Go Go.RowKit
def notRow : AV -> Nat -> Prop
 | .bs r _ _ _, c => c ≠ r
 | _, _ => True
structure WApp (n : Nat) (E : TypeId) (σ0 σ : AS) (v : AV) (xs : List AV) (v' : AV) (σ' : AS) : Prop where
 buf : WBuf n E σ0 σ' v' xs
 keep : ∀ c z, σ.box c = some z -> notRow v c -> σ'.box c = some z /\ notRow v' c
 ty : σ'.ty = σ.ty
 ne : v' ≠ .nil -> v = .nil -> xs ≠ []
theorem app_wb {P : Program} {n by_ : Nat} {σ0 σ : AS} {v x : AV} {xs ys : List AV} {t tx E : TypeId} {K : AV -> AS -> Prop} {d : Dum σ} {d' : Dum K} (hB : WBuf n E σ0 σ v xs) (he : aelt P t = some (E, n, by_)) (hs : asrc P tx x = some ys)
  (hys : ∀ a, a ∈ ys -> (Av.flat a).length = n /\ isv a = true) (hb : (xs.length + ys.length) * by_ <= 140737488355328) (hK : ∀ v' σ', WApp n E σ0 σ v (xs ++ ys) v' σ' -> K v' σ') : appW P σ t tx v x K d d' := by
 cases hB with
 | nil h =>
  by_cases hy : ys = []
  ·subst hy
   refine .inl ?_
   unfold aappend
   rw [he, hs]
   refine ⟨fun a ha => (by cases ha), by simp, fun _ => hK _ _ ⟨.nil h, fun c z hc _ => ⟨hc, trivial⟩, rfl, fun hn => absurd rfl hn⟩, fun hy => absurd rfl hy⟩
  ·refine .inr (.inl ?_)
   unfold aappendM
   rw [he, hs]
   refine ⟨fun a ha => (hys a ha).1, hy, by simpa using hb, fun b hf => hK _ _ ⟨?_, fun c z hc _ => ?_, rfl, fun _ _ => by simpa using hy⟩⟩
   ·have hf0 := h.fresh hf
    exact .row b ys (h.setBox hf0.1 _) hf0.1 hf0.2.1 (by simp [AS.setBox]) hys
   ·have := fresh_ne hc hf
    exact ⟨by simp only [AS.setBox, if_neg this.1]; exact hc, this.1⟩
 | row b xs h h0 h1 hbx hx =>
  refine .inr (.inl ?_)
  unfold aappendM
  rw [he, hs]
  have hl := flatMap_len xs fun a ha => (hx a ha).1
  refine ⟨fun a ha => (hys a ha).1, ⟨rfl, rfl⟩, _, hbx, by rw [hl]; exact Nat.le_refl _, hb, fun b' hb' => ?_⟩
  have h0' : σ0.box b' = none /\ σ0.tip b' = none := by
   rcases hb' with rfl | hf
   ·exact ⟨h0, h1⟩
   ·exact ⟨(h.fresh hf).1, (h.fresh hf).2.1⟩
  have e1 : (xs.flatMap flat).take (xs.length * n) ++ ys.flatMap flat = (xs ++ ys).flatMap flat := by
   rw [List.take_of_length_le (by rw [hl]; exact Nat.le_refl _), List.flatMap_append]
  have hK' := hK (.bs b' (xs ++ ys).length n E) ((σ.delBox b).setBox b' ((xs ++ ys).flatMap flat)) ⟨.row b' (xs ++ ys) (h.delSet h0 h0'.1 _) h0'.1 h0'.2 (by simp [AS.setBox]) fun a ha => by
   rcases List.mem_append.1 ha with ha | ha
   ·exact hx a ha
   ·exact hys a ha, fun c z hc hn => by
    have h2 : c ≠ b' := by
     rcases hb' with rfl | hf
     ·exact hn
     ·exact (fresh_ne hc hf).1
    refine ⟨?_, h2⟩
    show (if c = b' then _ else if c = b then none else σ.box c) = some z
    rw [if_neg h2, if_neg hn]; exact hc, rfl, fun _ hn => by cases hn⟩
  rw [<- e1, List.length_append] at hK'
  exact hK'
theorem WBuf.setOther {n : Nat} {E : TypeId} {σ0 σ : AS} {v : AV} {xs : List AV} (h : WBuf n E σ0 σ v xs) {b : Nat} (hb : σ0.box b = none) (hn : notRow v b) (z : List AV) : WBuf n E σ0 (σ.setBox b z) v xs := by
 cases h with
 | nil h => exact .nil (h.setBox hb z)
 | row r xs h h0 h1 hbx hx => exact .row r xs (h.setBox hb z) h0 h1 (by simp only [AS.setBox, if_neg (Ne.symm hn)]; exact hbx) hx
theorem WBuf.newBox {n : Nat} {E : TypeId} {σ0 σ : AS} {v : AV} {xs : List AV} (h : WBuf n E σ0 σ v xs) {c : Nat} (hc : σ.fresh c) (z : List AV) : WBuf n E σ0 (σ.setBox c z) v xs /\ notRow v c := by
 have hc0 := h.le.fresh hc
 have hn : notRow v c := by
  cases h with
  | nil _ => trivial
  | row r xs h h0 h1 hbx hx => exact (fresh_ne hbx hc).2
 exact ⟨h.setOther hc0.1 hn z, hn⟩
theorem WBuf.len {P : Program} {n : Nat} {E : TypeId} {σ0 σ : AS} {v : AV} {xs : List AV} (h : WBuf n E σ0 σ v xs) {t : TypeId} : ablt P .len #[t] [v] = if (el P t).isSome then some (.int .i64 xs.length) else none := by
 cases h with
 | nil _ => rw [l_nil]; rfl
 | row r xs h h0 h1 hbx hx => rw [l_bs]
theorem WBuf.form {n : Nat} {E : TypeId} {σ0 σ : AS} {v : AV} {xs : List AV} (h : WBuf n E σ0 σ v xs) (hne : xs ≠ []) : ∃ r, v = .bs r xs.length n E /\ σ.box r = some (xs.flatMap flat) /\ σ0.box r = none /\ σ0.tip r = none := by
 cases h with
 | nil _ => exact absurd rfl hne
 | row r xs h h0 h1 hbx hx => exact ⟨r, rfl, hbx, h0, h1⟩
def byteA (c : UInt8) : AV := .int .u8 c.toNat
def bytesA (s : List UInt8) : List AV := s.map byteA
theorem bytes_ok (s : List UInt8) : ∀ a, a ∈ bytesA s -> (flat a).length = 1 /\ isv a = true := fun a ha => by
 obtain ⟨c, _, rfl⟩ := List.mem_map.1 ha
 exact ⟨rfl, rfl⟩
structure Bld (T E : TypeId) (σ0 σ : AS) (b : Nat) (xs : List UInt8) : Prop where
 le : σ0.le σ
 out : σ0.box b = none
 ty : σ.ty b = some ((T : TyE), 2)
 box : ∃ p v, σ.box b = some [p, v] /\ (p = .nilptr \/ p = .ptr b 0) /\ WBuf 1 E σ0 σ v (bytesA xs) /\ notRow v b /\ (v ≠ .nil -> xs ≠ [])
theorem AS.le.newBase {σ0 σ : AS} (h : σ0.le σ) (c : Nat) (z : List AV) : (σ0.setBox c z).le (σ.setBox c z) := by
 refine ⟨fun i cs hi => ?_, h.tip, h.ty⟩
 simp only [AS.setBox] at hi ⊢
 split
 ·rename_i e; rw [if_pos e] at hi; exact hi
 ·rename_i e; rw [if_neg e] at hi; exact h.box _ _ hi
theorem Bld.newBox {T E : TypeId} {σ0 σ : AS} {b : Nat} {xs : List UInt8} (h : Bld T E σ0 σ b xs) {c : Nat} (hc : σ.fresh c) (z : List AV) : Bld T E (σ0.setBox c z) (σ.setBox c z) b xs := by
 obtain ⟨p, v, h1, h2, h3, h4, h5⟩ := h.box
 have hbc := fresh_ne h1 hc
 refine ⟨h.le.newBase c z, by simp only [AS.setBox, if_neg hbc.1]; exact h.out, h.ty, p, v, by simp only [AS.setBox, if_neg hbc.1]; exact h1, h2, ?_, h4, h5⟩
 revert h3
 generalize bytesA xs = l
 intro h3
 cases h3 with
 | nil _ => exact .nil (h.le.newBase c z)
 | row r xs' h' g0 g1 gb gx =>
  have hrc := fresh_ne gb hc
  exact .row r _ (h.le.newBase c z) (by simp only [AS.setBox, if_neg hrc.1]; exact g0) g1 (by simp only [AS.setBox, if_neg hrc.1]; exact gb) gx
theorem Bld.weaken {T E : TypeId} {σ0 σ1 σ : AS} {b : Nat} {xs : List UInt8} (h : Bld T E σ1 σ b xs) (hl : σ0.le σ1) : Bld T E σ0 σ b xs := by
 obtain ⟨p, v, h1, h2, h3, h4, h5⟩ := h.box
 have none_of : ∀ i, σ1.box i = none -> σ0.box i = none := fun i hi => by
  cases e : σ0.box i with
  | none => rfl
  | some z => rw [hl.box _ _ e] at hi; cases hi
 have none_tip : ∀ i, σ1.tip i = none -> σ0.tip i = none := fun i hi => by
  cases e : σ0.tip i with
  | none => rfl
  | some z => rw [hl.tip _ _ e] at hi; cases hi
 refine ⟨hl.trans h.le, none_of _ h.out, h.ty, p, v, h1, h2, ?_, h4, h5⟩
 revert h3
 generalize bytesA xs = l
 intro h3
 cases h3 with
 | nil _ => exact .nil (hl.trans h.le)
 | row r xs' h' g0 g1 gb gx => exact .row r _ (hl.trans h.le) (none_of _ g0) (none_tip _ g1) gb gx
theorem Bld.push {T E : TypeId} {σ0 σ σ' : AS} {b : Nat} {xs ys : List UInt8} {v v' : AV} (h : Bld T E σ0 σ b xs) (hb : σ.box b = some [.ptr b 0, v]) (hn : notRow v b) (ha : WApp 1 E σ0 σ v (bytesA xs ++ bytesA ys) v' σ') (hx : v ≠ .nil -> xs ≠ []) : Bld T E σ0 (σ'.setBox b [.ptr b 0, v']) b (xs ++ ys) := by
 obtain ⟨h1, h2⟩ := ha.keep b _ hb hn
 have e : bytesA xs ++ bytesA ys = bytesA (xs ++ ys) := by simp [bytesA]
 refine ⟨ha.buf.le.setBox h.out _, h.out, by show σ'.ty b = _; rw [ha.ty]; exact h.ty, .ptr b 0, v', by simp [AS.setBox], .inr rfl, ?_, h2, fun hv' => ?_⟩
 ·rw [<- e]; exact ha.buf.setOther h.out h2 _
 ·by_cases hv : v = .nil
  ·have := ha.ne hv' hv
   intro hh
   rw [e, hh] at this
   exact this rfl
  ·intro hh
   exact hx hv (List.append_eq_nil_iff.1 hh).1
end Go.Av
set_option maxRecDepth 100000
namespace Go.Proofs.YtjmdaeabllkgnaaGreatDoor
open Go Go.Av
theorem tf150 : tk Tryz.prog 150 = some (false, 1) /\ sk Tryz.prog 150 = .oth /\ (Tryz.prog.underlying 150).isSome = true /\ el Tryz.prog 150 = none /\ by_ Tryz.prog 150 = some 16 /\ ifc Tryz.prog 150 = true := ⟨by kernel_rfl, by kernel_rfl, by kernel_rfl, by kernel_rfl, by kernel_rfl, by kernel_rfl⟩
theorem tf243 : tk Tryz.prog 243 = some (false, 1) /\ sk Tryz.prog 243 = .ptr 5 /\ (Tryz.prog.underlying 243).isSome = true /\ el Tryz.prog 243 = none /\ zc Tryz.prog 243 = some [.nilptr] /\ by_ Tryz.prog 243 = some 8 := ⟨by kernel_rfl, by kernel_rfl, by kernel_rfl, by kernel_rfl, by kernel_rfl, by kernel_rfl⟩
end Go.Proofs.YtjmdaeabllkgnaaGreatDoor
