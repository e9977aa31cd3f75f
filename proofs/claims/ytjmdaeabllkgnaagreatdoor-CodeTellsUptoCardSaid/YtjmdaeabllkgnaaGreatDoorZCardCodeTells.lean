/- CodeTells holds of every instruction up to the said bulk. -/
import Derived.Test.YtjmdaeabllkgnaaGreatDoorZ44
import Derived.Test.YtjmdaeabllkgnaaGreatDoorCards
import Derived.Test.YtjmdaeabllkgnaaGreatDoorTie
set_option linter.unusedVariables false
set_option linter.unusedSimpArgs false
set_option maxRecDepth 100000
namespace Go.Proofs.YtjmdaeabllkgnaaGreatDoor
open Go Go.Av Go.RowKit Go.WideShapes Go.ChangeShapes
theorem codeTells_own : ownKnob Tryz.prog.godebug = none := by kernel_rfl
theorem codeTells_contract (H : Type) (enc : TypeId × Value → H) (W : World) (base : Nat) (args : Array Value) (ds gs : List (DataW H)) (before : List MemPlace)
  (hval : ∀ (j : Nat) t v, Tryz.f4.params[j]? = some t → args[j]? = some v → Value.okWide Tryz.prog W .any base t v)
  (hW : DataW.Whole enc Tryz.prog Tryz.f4.params.toList Rows.codeTellsSpec.vars false W args.toList ds gs before) (hcond : Rows.uptoSmall H (ds ++ gs) = true)
  (hL : laidMetH Tryz.prog Rows.codeTellsUptoRow.laid W) (hsh : W.ShapedOpen Tryz.prog) :
  Calls Tryz.prog 4 args W fun e W' => ∃ v, e = .returned v ∧ Rows.codeTellsSpec.post enc Tryz.prog Tryz.f4 false true false false W args v W' := by
 have hW0 := hW
 obtain ⟨p, q, hA, hV, rfl, hfz, hnd⟩ := hW
 obtain ⟨rfl, rfl⟩ := trodVars_none hV
 rw [Tryz.params4] at hA hval
 obtain ⟨v0, d0, rfl, rfl, h0⟩ := trodAll_one hA
 skip
 obtain ⟨m, hG⟩ := entry_globC (laid := Rows.codeTellsUptoRow.laid) hL (by simp [Rows.codeTellsUptoRow, Rows.codeTellsRow]) (by simp [Rows.codeTellsUptoRow, Rows.codeTellsRow]) (by simp [Rows.codeTellsUptoRow, Rows.codeTellsRow]) (by simp [Rows.codeTellsUptoRow, Rows.codeTellsRow]) hsh
 obtain ⟨n0, t0, r0⟩ := read_arg (K := entryK W) closedSC (fun b o v h => h) (by decide) (hval 0 39 v0 rfl rfl) h0
 obtain ⟨a0, e0, b0, q0⟩ := read_ins n0 d0 t0
 rw [e0] at r0
 have hk := of_decide_eq_true hcond
 simp only [List.append_nil, Rows.uptoBulkAll] at hk
 have hc := Pure.calls (ctells_law (globGvC m) a0 (by omega) q0) hG (vals := [v0]) ⟨r0, trivial⟩
 refine hc.mono fun e W' ⟨he, hbl⟩ => ⟨_, he, ?_⟩
 exact law_post closedSC (by rw [Tryz.params4]; decide) rfl rfl Tryz.underlying4 rfl hW0 hbl
mutual
def valsW : DataW Unit → List Value
 | .lit (.bool b) => [.bool b]
 | .lit (.int k n) => [.int k n]
 | .lit (.string s) => [.string ⟨⟨s⟩⟩]
 | .agg parts => valsWs parts
 | _ => []
def valsWs : List (DataW Unit) → List Value
 | [] => []
 | d :: r => valsW d ++ valsWs r
end
def putW (d : DataW Unit) : Obj → Obj
 | .cells _ t frozen => .cells (valsW d).toArray t frozen
 | o => o
noncomputable def laidWorld (os : Os) : World :=
 { World.holding Tryz.prog os ⟨#[], #[], []⟩ with heap := (((((((World.holding Tryz.prog os ⟨#[], #[], []⟩).heap.modify 6 (putW Rows.laid_math_bits_deBruijn32tab)).modify 7 (putW Rows.laid_math_bits_deBruijn64tab)).modify 4 (putW Rows.laid_internal_strconv_uint64pow10)).modify 3 (putW Rows.laid_pigeonhole_lint_builtin)).modify 1 (putW Rows.laid_pigeonhole_term_words)).modify 0 (putW Rows.laid_pigeonhole_code_shapes)) }
theorem laid_met (os : Os) : laidMet Tryz.prog Rows.codeTellsRow.laid ((laidWorld os).forCall (fun _ _ => 0) ⟨#[], #[(.agg #[.int .u8 0, .int .i64 0, .int .i64 0, .int .i64 0, .int .i64 0, .int .i64 0, .string ⟨#[]⟩, .slice none 0 0])], []⟩).memory :=
 laidMet_of_run' 8 (by kernel_rfl) (by kernel_rfl)
theorem wreads (os : Os) {H : Type} (enc : TypeId × Value → H) : ∃ places, DataW.whole enc Tryz.prog ((laidWorld os).forCall (fun _ _ => 0) ⟨#[], #[(.agg #[.int .u8 0, .int .i64 0, .int .i64 0, .int .i64 0, .int .i64 0, .int .i64 0, .string ⟨#[]⟩, .slice none 0 0])], []⟩).memory Tryz.f4.params.toList Rows.codeTellsSpec.vars false #[(.agg #[.int .u8 0, .int .i64 0, .int .i64 0, .int .i64 0, .int .i64 0, .int .i64 0, .string ⟨#[]⟩, .slice none 0 0])].toList 8 = some ([.agg [.lit (.int .u8 0), .lit (.int .i64 0), .lit (.int .i64 0), .lit (.int .i64 0), .lit (.int .i64 0), .lit (.int .i64 0), .lit (.string []), .nil]], [], places) :=
 ⟨[], by kernel_rfl⟩
theorem codeTells_lifted (os : Os) (started : os.Started) (H : Type) (enc : TypeId × Value → H) (F : Stop.Interp) :
  ReturnsInHanded {} Tryz.checked os 4 .any ((Rows.OpenSpec.upto Rows.codeTellsSpec).preRow enc Tryz.prog Tryz.f4 Rows.codeTellsUptoRow.domain false Rows.codeTellsUptoRow.laid) (((Rows.OpenSpec.upto Rows.codeTellsSpec).at F).post enc Tryz.prog Tryz.f4 false true false false) := by
 obtain ⟨places, hx⟩ := wreads os enc
 refine returnsInHanded_of_row (C := Tryz.checked) (s := Rows.OpenSpec.upto Rows.codeTellsSpec) codeTells_own started (by kernel_rfl) Tryz.func4
  (witness_row_at (enc := enc) (C := Tryz.checked) false (laidWorld os) #[(.agg #[.int .u8 0, .int .i64 0, .int .i64 0, .int .i64 0, .int .i64 0, .int .i64 0, .string ⟨#[]⟩, .slice none 0 0])] rfl (by kernel_rfl) (by kernel_rfl) (by kernel_rfl)
    (OpenSpec.preRow_of_cond 8 hx (by kernel_rfl) (fun k hk => by cases hk; kernel_rfl) (by kernel_rfl) (laid_met os))) ?_
 intro W base args ds gs before hval hW _ hcond _ hL hsh _
 exact codeTells_contract H enc W base args ds gs before hval hW (hcond _ rfl) hL hsh
theorem codeTells_said : Rows.CodeTellsUptoSaid :=
 OpenClaim.holds_of_cond 4 Tryz.f4 rfl rfl rfl rfl rfl rfl rfl ⟨rfl, rfl, rfl, rfl, rfl⟩ rfl rfl rfl rfl rfl (by kernel_rfl) Tryz.func4 (by kernel_rfl)
  (of_decide_eq_true (by kernel_rfl)) (by unfold Func.isWrapper; first | (rw [if_pos (by decide +kernel)]; kernel_rfl) | (rw [if_neg (by decide +kernel)]; exact ⟨rfl, rfl⟩))
  (fun os started H enc _ F => by rw [OpenClaim.pre_eq_preRow]; exact codeTells_lifted os started H enc F)
theorem codeTells_plain (f : FuncId) (fn : Func) (hf : Tryz.pinned.checked.prog.funcNamed "pigeonhole/pigeonholelaw18.CodeTells" = some f) (hfn : Tryz.pinned.checked.prog.funcs[f]? = some fn) :
  false = Tryz.pinned.checked.prog.looks [] ∧ ∀ (j : Nat) t, fn.params[j]? = some t → Tryz.pinned.checked.prog.wantsStandIn t = false := by
 obtain rfl : f = 4 := Option.some.inj ((show Tryz.prog.funcNamed "pigeonhole/pigeonholelaw18.CodeTells" = some 4 by kernel_rfl).symm.trans hf) |>.symm
 obtain rfl : fn = Tryz.f4 := (Option.some.inj (Tryz.func4.symm.trans hfn)).symm
 refine ⟨by kernel_rfl, fun j t ht => ?_⟩
 rw [Tryz.params4] at ht
 have hm := Array.mem_of_getElem? ht
 simp only [List.mem_toArray, List.mem_cons, List.mem_nil_iff, or_false] at hm
 subst hm; exact (show Tryz.prog.wantsStandIn _ = false by kernel_rfl)
theorem codeTells_card : Rows.CodeTellsUptoCardSaid :=
 Claim7.holds_tied_plain_at .later [] _ _ _ _ codeTells_said (fun _ h => by cases h) (by kernel_rfl) (fun _ h => by cases h) codeTellsUpto_row_tie rfl ⟨rfl, rfl⟩ (by kernel_rfl) rfl codeTells_plain (by kernel_rfl)
end Go.Proofs.YtjmdaeabllkgnaaGreatDoor
