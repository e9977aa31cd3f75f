/- TermSplits answers true for every two terms whose data, with the program's listed variables, are together of bulk at most 1048576; the terms read afterwards as before. Conditions: the bound; the listed variables hold what the program's text lays, which the card ties. -/
import Derived.Test.YtjnhalmeddafdaaDoorZLawSplits
import Derived.Test.YtjnhalmeddafdaaDoorZRead2
import Derived.Test.YtjnhalmeddafdaaDoorCards
import Derived.Test.YtjnhalmeddafdaaDoorTie
set_option linter.unusedVariables false
set_option linter.unusedSimpArgs false
set_option maxRecDepth 100000
namespace Go.Proofs.YtjnhalmeddafdaaDoor
open Go Go.Av Go.RowKit Go.WideShapes Go.ChangeShapes
theorem termSplits_own : ownKnob Tryd.prog.godebug = none := by kernel_rfl
theorem termSplits_contract (H : Type) (enc : TypeId × Value → H) (W : World) (base : Nat) (args : Array Value) (ds gs : List (DataW H)) (before : List MemPlace)
    (hval : ∀ (j : Nat) t v, Tryd.f5.params[j]? = some t → args[j]? = some v → Value.okWide Tryd.prog W .any base t v)
    (hW : DataW.Whole enc Tryd.prog Tryd.f5.params.toList Rows.termSplitsSpec.vars false W args.toList ds gs before) (hcond : Rows.uptoSmall H (ds ++ gs) = true)
    (hL : laidMetH Tryd.prog Rows.termSplitsUptoRow.laid W) (hsh : W.ShapedOpen Tryd.prog) :
    Calls Tryd.prog 5 args W fun e W' => ∃ v, e = .returned v ∧ Rows.termSplitsSpec.post enc Tryd.prog Tryd.f5 false true false false W args v W' := by
  have hW0 := hW
  obtain ⟨p, q, hA, hV, rfl, hfz, hnd⟩ := hW
  obtain ⟨rfl, rfl⟩ := trodVars_none hV
  rw [Tryd.params5] at hA hval
  obtain ⟨v0, v1, d0, d1, p0, p1, hargs, rfl, rfl, h0, h1⟩ := trodAll_two hA
  obtain rfl : args = #[v0, v1] := by cases args; simp_all
  have hG := entry_glob hL rfl
  obtain ⟨n0, t0, r0⟩ := read_arg (K := entryK W) closedS (fun b o v h => h) (by decide) (hval 0 26 v0 rfl rfl) h0
  obtain ⟨n1, t1, r1⟩ := read_arg (K := entryK W) closedS (fun b o v h => h) (by decide) (hval 1 26 v1 rfl rfl) h1
  obtain ⟨a, e0, b0⟩ := read_term n0 d0 t0
  obtain ⟨b, e1, b1⟩ := read_term n1 d1 t1
  rw [e0] at r0
  rw [e1] at r1
  have hk := of_decide_eq_true hcond
  simp only [List.append_nil, Rows.uptoBulkAll] at hk
  have hc := Pure.calls (splits_law globGv a b (by omega) (by omega)) hG (vals := [v0, v1]) ⟨r0, r1, trivial⟩
  refine hc.mono fun e W' ⟨he, hbl⟩ => ⟨_, he, ?_⟩
  exact law_post closedS (by rw [Tryd.params5]; decide) rfl rfl Tryd.underlying4 rfl hW0 hbl

mutual
def valsW : DataW Unit → List Value
  | .lit (.bool b) => [.bool b]
  | .lit (.int k n) => [.int k n]
  | .lit (.string s) => [.string ⟨⟨s⟩⟩]
  | .agg parts => valsWs parts
  | _ => []
def valsWs : List (DataW Unit) → List Value
  | [] => []
  | d :: r => valsW d ++ valsWs r
end
def putW (d : DataW Unit) : Obj → Obj
  | .cells _ t frozen => .cells (valsW d).toArray t frozen
  | o => o
/-- a world for the witness: the listed variables hold what they are said to hold -/
noncomputable def laidWorld (os : Os) : World :=
  { World.holding Tryd.prog os ⟨#[], #[], []⟩ with heap := (((((World.holding Tryd.prog os ⟨#[], #[], []⟩).heap.modify 3 (putW Rows.laid_math_bits_deBruijn32tab)).modify 4 (putW Rows.laid_math_bits_deBruijn64tab)).modify 2 (putW Rows.laid_internal_strconv_uint64pow10)).modify 0 (putW Rows.laid_pigeonhole_term_words)) }
def zeroN : Value := .agg #[.int .u8 0, .bool false, .slice none 0 0, .string ⟨#[]⟩, .int .i64 0, .slice none 0 0, .slice none 0 0]
def zeroD {H : Type} : DataW H := .agg [.lit (.int .u8 0), .lit (.bool false), .nil, .lit (.string []), .lit (.int .i64 0), .nil, .nil]
theorem laid_met (os : Os) : laidMet Tryd.prog Rows.termSplitsRow.laid ((laidWorld os).forCall (fun _ _ => 0) ⟨#[], #[zeroN, zeroN], []⟩).memory :=
  laidMet_of_run' 8 (by kernel_rfl) (by kernel_rfl)
theorem reads (os : Os) {H : Type} (enc : TypeId × Value → H) : ∃ places, DataW.whole enc Tryd.prog ((laidWorld os).forCall (fun _ _ => 0) ⟨#[], #[zeroN, zeroN], []⟩).memory Tryd.f5.params.toList Rows.termSplitsSpec.vars false #[zeroN, zeroN].toList 8 = some ([zeroD, zeroD], [], places) :=
  ⟨[], by kernel_rfl⟩
theorem termSplits_lifted (os : Os) (started : os.Started) (H : Type) (enc : TypeId × Value → H) (F : Stop.Interp) :
    ReturnsInHanded {} Tryd.checked os 5 .any ((Rows.OpenSpec.upto Rows.termSplitsSpec).preRow enc Tryd.prog Tryd.f5 Rows.termSplitsUptoRow.domain false Rows.termSplitsUptoRow.laid) (((Rows.OpenSpec.upto Rows.termSplitsSpec).at F).post enc Tryd.prog Tryd.f5 false true false false) := by
  obtain ⟨places, hx⟩ := reads os enc
  refine returnsInHanded_of_row (C := Tryd.checked) (s := Rows.OpenSpec.upto Rows.termSplitsSpec) termSplits_own started (by kernel_rfl) Tryd.func5
    (witness_row_at (enc := enc) (C := Tryd.checked) false (laidWorld os) #[zeroN, zeroN] rfl (by kernel_rfl) (by kernel_rfl) (by kernel_rfl)
      (OpenSpec.preRow_of_cond 8 hx (by kernel_rfl) (fun k hk => by cases hk; kernel_rfl) (by kernel_rfl) (laid_met os))) ?_
  intro W base args ds gs before hval hW _ hcond _ hL hsh _
  exact termSplits_contract H enc W base args ds gs before hval hW (hcond _ rfl) hL hsh
theorem termSplits_said : Rows.TermSplitsUptoSaid :=
  OpenClaim.holds_of_cond 5 Tryd.f5 rfl rfl rfl rfl rfl rfl rfl ⟨rfl, rfl, rfl, rfl, rfl⟩ rfl rfl rfl rfl rfl (by kernel_rfl) Tryd.func5 (by kernel_rfl)
    (of_decide_eq_true (by kernel_rfl)) (by unfold Func.isWrapper; first | (rw [if_pos (by decide +kernel)]; kernel_rfl) | (rw [if_neg (by decide +kernel)]; exact ⟨rfl, rfl⟩))
    (fun os started H enc _ F => by rw [OpenClaim.pre_eq_preRow]; exact termSplits_lifted os started H enc F)
/-- no parameter wants a stand-in; the program's own looks are off -/
theorem termSplits_plain (f : FuncId) (fn : Func) (hf : Tryd.pinned.checked.prog.funcNamed "pigeonhole/pigeonholelaw02.TermSplits" = some f) (hfn : Tryd.pinned.checked.prog.funcs[f]? = some fn) :
    false = Tryd.pinned.checked.prog.looks [] ∧ ∀ (j : Nat) t, fn.params[j]? = some t → Tryd.pinned.checked.prog.wantsStandIn t = false := by
  obtain rfl : f = 5 := Option.some.inj ((show Tryd.prog.funcNamed "pigeonhole/pigeonholelaw02.TermSplits" = some 5 by kernel_rfl).symm.trans hf) |>.symm
  obtain rfl : fn = Tryd.f5 := (Option.some.inj (Tryd.func5.symm.trans hfn)).symm
  refine ⟨by kernel_rfl, fun j t ht => ?_⟩
  rw [Tryd.params5] at ht
  have hm := Array.mem_of_getElem? ht
  simp only [List.mem_toArray, List.mem_cons, List.mem_nil_iff, or_false] at hm
  rcases hm with rfl | rfl <;> exact (show Tryd.prog.wantsStandIn _ = false by kernel_rfl)
theorem termSplits_card : Rows.TermSplitsUptoCardSaid :=
  Claim7.holds_tied_plain_at .later [] _ _ _ _ termSplits_said (fun _ h => by cases h) (by kernel_rfl) (fun _ h => by cases h) termSplitsUpto_row_tie rfl ⟨rfl, rfl⟩ (by kernel_rfl) rfl termSplits_plain (by kernel_rfl)
end Go.Proofs.YtjnhalmeddafdaaDoor
