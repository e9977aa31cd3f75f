/- TermTells answers true for every term whose data, with the program's listed variables, are together of bulk at most 1048576; the term reads afterwards as before. Conditions: the bound; the listed variables hold what the program's text lays, which the card ties. -/
import Derived.Test.YtdhbdhopnpmboaaGreatDoorZ19
import Derived.Test.YtdhbdhopnpmboaaGreatDoorCards
import Derived.Test.YtdhbdhopnpmboaaGreatDoorTie
set_option linter.unusedVariables false
set_option linter.unusedSimpArgs false
set_option maxRecDepth 100000
namespace Go.Proofs.YtdhbdhopnpmboaaGreatDoor
open Go Go.Av Go.RowKit Go.WideShapes Go.ChangeShapes
theorem termTells_own : ownKnob Tryz.prog.godebug = none := by kernel_rfl
theorem termTells_contract (H : Type) (enc : TypeId × Value -> H) (W : World) (base : Nat) (args : Array Value) (ds gs : List (DataW H)) (before : List MemPlace)
  (hval : ∀ (j : Nat) t v, Tryz.f3.params[j]? = some t -> args[j]? = some v -> Value.okWide Tryz.prog W .any base t v)
  (hW : DataW.Whole enc Tryz.prog Tryz.f3.params.toList Rows.termTellsSpec.vars false W args.toList ds gs before) (hcond : Rows.uptoSmall H (ds ++ gs) = true)
  (hL : laidMetH Tryz.prog Rows.termTellsUptoRow.laid W) (hsh : W.ShapedOpen Tryz.prog) :
  Calls Tryz.prog 3 args W fun e W' => ∃ v, e = .returned v /\ Rows.termTellsSpec.post enc Tryz.prog Tryz.f3 false true false false W args v W' := by
 have hW0 := hW
 obtain ⟨p, q, hA, hV, rfl, hfz, hnd⟩ := hW
 obtain ⟨rfl, rfl⟩ := trodVars_none hV
 rw [Tryz.params3] at hA hval
 obtain ⟨v0, d0, rfl, rfl, h0⟩ := trodAll_one hA
 skip
 have hG := entry_glob hL rfl
 obtain ⟨n0, t0, r0⟩ := read_arg (K := entryK W) closedS (fun b o v h => h) (by decide) (hval 0 26 v0 rfl rfl) h0
 obtain ⟨a0, e0, b0⟩ := read_term n0 d0 t0
 rw [e0] at r0
 have hk := of_decide_eq_true hcond
 simp only [List.append_nil, Rows.uptoBulkAll] at hk
 have hc := Pure.calls (ttells_law globGv a0 (by omega) ) hG (vals := [v0]) ⟨r0, trivial⟩
 refine hc.mono fun e W' ⟨he, hbl⟩ => ⟨_, he, ?_⟩
 exact law_post closedS (by rw [Tryz.params3]; decide) rfl rfl Tryz.underlying4 rfl hW0 hbl
mutual
def valsW : DataW Unit -> List Value
 | .lit (.bool b) => [.bool b]
 | .lit (.int k n) => [.int k n]
 | .lit (.string s) => [.string ⟨⟨s⟩⟩]
 | .agg parts => valsWs parts
 | _ => []
def valsWs : List (DataW Unit) -> List Value
 | [] => []
 | d :: r => valsW d ++ valsWs r
end
def putW (d : DataW Unit) : Obj -> Obj
 | .cells _ t frozen => .cells (valsW d).toArray t frozen
 | o => o
noncomputable def laidWorld (os : Os) : World :=
 { World.holding Tryz.prog os ⟨#[], #[], []⟩ with heap := (((((World.holding Tryz.prog os ⟨#[], #[], []⟩).heap.modify 3 (putW Rows.laid_math_bits_deBruijn32tab)).modify 4 (putW Rows.laid_math_bits_deBruijn64tab)).modify 2 (putW Rows.laid_internal_strconv_uint64pow10)).modify 0 (putW Rows.laid_pigeonhole_term_words)) }
def zeroN : Value := .agg #[.int .u8 0, .bool false, .slice none 0 0, .string ⟨#[]⟩, .int .i64 0, .slice none 0 0, .slice none 0 0]
def zeroD {H : Type} : DataW H := .agg [.lit (.int .u8 0), .lit (.bool false), .nil, .lit (.string []), .lit (.int .i64 0), .nil, .nil]
theorem laid_met (os : Os) : laidMet Tryz.prog Rows.termTellsRow.laid ((laidWorld os).forCall (fun _ _ => 0) ⟨#[], #[zeroN], []⟩).memory :=
 laidMet_of_run' 8 (by kernel_rfl) (by kernel_rfl)
theorem reads (os : Os) {H : Type} (enc : TypeId × Value -> H) : ∃ places, DataW.whole enc Tryz.prog ((laidWorld os).forCall (fun _ _ => 0) ⟨#[], #[zeroN], []⟩).memory Tryz.f3.params.toList Rows.termTellsSpec.vars false #[zeroN].toList 8 = some ([zeroD], [], places) :=
 ⟨[], by kernel_rfl⟩
theorem termTells_lifted (os : Os) (started : os.Started) (H : Type) (enc : TypeId × Value -> H) (F : Stop.Interp) :
  ReturnsInHanded {} Tryz.checked os 3 .any ((Rows.OpenSpec.upto Rows.termTellsSpec).preRow enc Tryz.prog Tryz.f3 Rows.termTellsUptoRow.domain false Rows.termTellsUptoRow.laid) (((Rows.OpenSpec.upto Rows.termTellsSpec).at F).post enc Tryz.prog Tryz.f3 false true false false) := by
 obtain ⟨places, hx⟩ := reads os enc
 refine returnsInHanded_of_row (C := Tryz.checked) (s := Rows.OpenSpec.upto Rows.termTellsSpec) termTells_own started (by kernel_rfl) Tryz.func3
  (witness_row_at (enc := enc) (C := Tryz.checked) false (laidWorld os) #[zeroN] rfl (by kernel_rfl) (by kernel_rfl) (by kernel_rfl)
    (OpenSpec.preRow_of_cond 8 hx (by kernel_rfl) (fun k hk => by cases hk; kernel_rfl) (by kernel_rfl) (laid_met os))) ?_
 intro W base args ds gs before hval hW _ hcond _ hL hsh _
 exact termTells_contract H enc W base args ds gs before hval hW (hcond _ rfl) hL hsh
theorem termTells_said : Rows.TermTellsUptoSaid :=
 OpenClaim.holds_of_cond 3 Tryz.f3 rfl rfl rfl rfl rfl rfl rfl ⟨rfl, rfl, rfl, rfl, rfl⟩ rfl rfl rfl rfl rfl (by kernel_rfl) Tryz.func3 (by kernel_rfl)
  (of_decide_eq_true (by kernel_rfl)) (by unfold Func.isWrapper; first | (rw [if_pos (by decide +kernel)]; kernel_rfl) | (rw [if_neg (by decide +kernel)]; exact ⟨rfl, rfl⟩))
  (fun os started H enc _ F => by rw [OpenClaim.pre_eq_preRow]; exact termTells_lifted os started H enc F)
theorem termTells_plain (f : FuncId) (fn : Func) (hf : Tryz.pinned.checked.prog.funcNamed "pigeonhole/pigeonholelaw02.TermTells" = some f) (hfn : Tryz.pinned.checked.prog.funcs[f]? = some fn) :
  false = Tryz.pinned.checked.prog.looks [] /\ ∀ (j : Nat) t, fn.params[j]? = some t -> Tryz.pinned.checked.prog.wantsStandIn t = false := by
 obtain rfl : f = 3 := Option.some.inj ((show Tryz.prog.funcNamed "pigeonhole/pigeonholelaw02.TermTells" = some 3 by kernel_rfl).symm.trans hf) |>.symm
 obtain rfl : fn = Tryz.f3 := (Option.some.inj (Tryz.func3.symm.trans hfn)).symm
 refine ⟨by kernel_rfl, fun j t ht => ?_⟩
 rw [Tryz.params3] at ht
 have hm := Array.mem_of_getElem? ht
 simp only [List.mem_toArray, List.mem_cons, List.mem_nil_iff, or_false] at hm
 subst hm; exact (show Tryz.prog.wantsStandIn _ = false by kernel_rfl)
theorem termTells_card : Rows.TermTellsUptoCardSaid :=
 Claim7.holds_tied_plain_at .later [] _ _ _ _ termTells_said (fun _ h => by cases h) (by kernel_rfl) (fun _ h => by cases h) termTellsUpto_row_tie rfl ⟨rfl, rfl⟩ (by kernel_rfl) rfl termTells_plain (by kernel_rfl)
end Go.Proofs.YtdhbdhopnpmboaaGreatDoor
