/- TermLists answers true for every two terms and every text whose data, with the program's listed variables, are together of bulk at most 1048576; they read afterwards as before. Conditions: the bound; the listed variables hold what the program's text lays, which the card ties. -/
import Derived.Test.YtdhbdhopnpmboaaGreatDoorZ22
import Derived.Test.YtdhbdhopnpmboaaGreatDoorCards
import Derived.Test.YtdhbdhopnpmboaaGreatDoorTie
set_option linter.unusedVariables false
set_option linter.unusedSimpArgs false
set_option maxRecDepth 100000
namespace Go.Proofs.YtdhbdhopnpmboaaGreatDoor
open Go Go.Av Go.RowKit Go.WideShapes Go.ChangeShapes
theorem termLists_own : ownKnob Tryz.prog.godebug = none := by kernel_rfl
theorem termLists_contract (H : Type) (enc : TypeId × Value -> H) (W : World) (base : Nat) (args : Array Value) (ds gs : List (DataW H)) (before : List MemPlace)
  (hval : ∀ (j : Nat) t v, Tryz.f4.params[j]? = some t -> args[j]? = some v -> Value.okWide Tryz.prog W .any base t v)
  (hW : DataW.Whole enc Tryz.prog Tryz.f4.params.toList Rows.termListsSpec.vars false W args.toList ds gs before) (hcond : Rows.uptoSmall H (ds ++ gs) = true)
  (hL : laidMetH Tryz.prog Rows.termListsUptoRow.laid W) (hsh : W.ShapedOpen Tryz.prog) :
  Calls Tryz.prog 4 args W fun e W' => ∃ v, e = .returned v /\ Rows.termListsSpec.post enc Tryz.prog Tryz.f4 false true false false W args v W' := by
 have hW0 := hW
 obtain ⟨p, q, hA, hV, rfl, hfz, hnd⟩ := hW
 obtain ⟨rfl, rfl⟩ := trodVars_none hV
 rw [Tryz.params4] at hA hval
 obtain ⟨v0, v1, v2, d0, d1, d2, p0, p1, p2, hargs, rfl, rfl, h0, h1, h2⟩ := trodAll_three hA
 obtain rfl : args = #[v0, v1, v2] := by cases args; simp_all
 have hG := entry_glob hL rfl
 obtain ⟨n0, t0, r0⟩ := read_arg (K := entryK W) closedS (fun b o v h => h) (by decide) (hval 0 26 v0 rfl rfl) h0
 obtain ⟨n1, t1, r1⟩ := read_arg (K := entryK W) closedS (fun b o v h => h) (by decide) (hval 1 26 v1 rfl rfl) h1
 obtain ⟨n2, t2, r2⟩ := read_arg (K := entryK W) closedS (fun b o v h => h) (by decide) (hval 2 9 v2 rfl rfl) h2
 obtain ⟨a0, e0, b0⟩ := read_term n0 d0 t0
 obtain ⟨a1, e1, b1⟩ := read_term n1 d1 t1
 obtain ⟨a2, e2, b2⟩ := read_str n2 d2 t2
 rw [e0] at r0
 rw [e1] at r1
 rw [e2] at r2
 have hk := of_decide_eq_true hcond
 simp only [List.append_nil, Rows.uptoBulkAll] at hk
 have hc := Pure.calls (tlists_law globGv a0 a1 a2 (by omega) (by omega) (by omega) ) hG (vals := [v0, v1, v2]) ⟨r0, r1, r2, trivial⟩
 refine hc.mono fun e W' ⟨he, hbl⟩ => ⟨_, he, ?_⟩
 exact law_post closedS (by rw [Tryz.params4]; decide) rfl rfl Tryz.underlying4 rfl hW0 hbl
mutual
def valsW : DataW Unit -> List Value
 | .lit (.bool b) => [.bool b]
 | .lit (.int k n) => [.int k n]
 | .lit (.string s) => [.string ⟨⟨s⟩⟩]
 | .agg parts => valsWs parts
 | _ => []
def valsWs : List (DataW Unit) -> List Value
 | [] => []
 | d :: r => valsW d ++ valsWs r
end
def putW (d : DataW Unit) : Obj -> Obj
 | .cells _ t frozen => .cells (valsW d).toArray t frozen
 | o => o
noncomputable def laidWorld (os : Os) : World :=
 { World.holding Tryz.prog os ⟨#[], #[], []⟩ with heap := (((((World.holding Tryz.prog os ⟨#[], #[], []⟩).heap.modify 3 (putW Rows.laid_math_bits_deBruijn32tab)).modify 4 (putW Rows.laid_math_bits_deBruijn64tab)).modify 2 (putW Rows.laid_internal_strconv_uint64pow10)).modify 0 (putW Rows.laid_pigeonhole_term_words)) }
def zeroN : Value := .agg #[.int .u8 0, .bool false, .slice none 0 0, .string ⟨#[]⟩, .int .i64 0, .slice none 0 0, .slice none 0 0]
def zeroD {H : Type} : DataW H := .agg [.lit (.int .u8 0), .lit (.bool false), .nil, .lit (.string []), .lit (.int .i64 0), .nil, .nil]
theorem laid_met (os : Os) : laidMet Tryz.prog Rows.termListsRow.laid ((laidWorld os).forCall (fun _ _ => 0) ⟨#[], #[zeroN, zeroN, (.string ⟨#[]⟩)], []⟩).memory :=
 laidMet_of_run' 8 (by kernel_rfl) (by kernel_rfl)
theorem reads (os : Os) {H : Type} (enc : TypeId × Value -> H) : ∃ places, DataW.whole enc Tryz.prog ((laidWorld os).forCall (fun _ _ => 0) ⟨#[], #[zeroN, zeroN, (.string ⟨#[]⟩)], []⟩).memory Tryz.f4.params.toList Rows.termListsSpec.vars false #[zeroN, zeroN, (.string ⟨#[]⟩)].toList 8 = some ([zeroD, zeroD, .lit (.string [])], [], places) :=
 ⟨[], by kernel_rfl⟩
theorem termLists_lifted (os : Os) (started : os.Started) (H : Type) (enc : TypeId × Value -> H) (F : Stop.Interp) :
  ReturnsInHanded {} Tryz.checked os 4 .any ((Rows.OpenSpec.upto Rows.termListsSpec).preRow enc Tryz.prog Tryz.f4 Rows.termListsUptoRow.domain false Rows.termListsUptoRow.laid) (((Rows.OpenSpec.upto Rows.termListsSpec).at F).post enc Tryz.prog Tryz.f4 false true false false) := by
 obtain ⟨places, hx⟩ := reads os enc
 refine returnsInHanded_of_row (C := Tryz.checked) (s := Rows.OpenSpec.upto Rows.termListsSpec) termLists_own started (by kernel_rfl) Tryz.func4
  (witness_row_at (enc := enc) (C := Tryz.checked) false (laidWorld os) #[zeroN, zeroN, (.string ⟨#[]⟩)] rfl (by kernel_rfl) (by kernel_rfl) (by kernel_rfl)
    (OpenSpec.preRow_of_cond 8 hx (by kernel_rfl) (fun k hk => by cases hk; kernel_rfl) (by kernel_rfl) (laid_met os))) ?_
 intro W base args ds gs before hval hW _ hcond _ hL hsh _
 exact termLists_contract H enc W base args ds gs before hval hW (hcond _ rfl) hL hsh
theorem termLists_said : Rows.TermListsUptoSaid :=
 OpenClaim.holds_of_cond 4 Tryz.f4 rfl rfl rfl rfl rfl rfl rfl ⟨rfl, rfl, rfl, rfl, rfl⟩ rfl rfl rfl rfl rfl (by kernel_rfl) Tryz.func4 (by kernel_rfl)
  (of_decide_eq_true (by kernel_rfl)) (by unfold Func.isWrapper; first | (rw [if_pos (by decide +kernel)]; kernel_rfl) | (rw [if_neg (by decide +kernel)]; exact ⟨rfl, rfl⟩))
  (fun os started H enc _ F => by rw [OpenClaim.pre_eq_preRow]; exact termLists_lifted os started H enc F)
theorem termLists_plain (f : FuncId) (fn : Func) (hf : Tryz.pinned.checked.prog.funcNamed "pigeonhole/pigeonholelaw02.TermLists" = some f) (hfn : Tryz.pinned.checked.prog.funcs[f]? = some fn) :
  false = Tryz.pinned.checked.prog.looks [] /\ ∀ (j : Nat) t, fn.params[j]? = some t -> Tryz.pinned.checked.prog.wantsStandIn t = false := by
 obtain rfl : f = 4 := Option.some.inj ((show Tryz.prog.funcNamed "pigeonhole/pigeonholelaw02.TermLists" = some 4 by kernel_rfl).symm.trans hf) |>.symm
 obtain rfl : fn = Tryz.f4 := (Option.some.inj (Tryz.func4.symm.trans hfn)).symm
 refine ⟨by kernel_rfl, fun j t ht => ?_⟩
 rw [Tryz.params4] at ht
 have hm := Array.mem_of_getElem? ht
 simp only [List.mem_toArray, List.mem_cons, List.mem_nil_iff, or_false] at hm
 rcases hm with rfl | rfl | rfl <;> exact (show Tryz.prog.wantsStandIn _ = false by kernel_rfl)
theorem termLists_card : Rows.TermListsUptoCardSaid :=
 Claim7.holds_tied_plain_at .later [] _ _ _ _ termLists_said (fun _ h => by cases h) (by kernel_rfl) (fun _ h => by cases h) termListsUpto_row_tie rfl ⟨rfl, rfl⟩ (by kernel_rfl) rfl termLists_plain (by kernel_rfl)
end Go.Proofs.YtdhbdhopnpmboaaGreatDoor
