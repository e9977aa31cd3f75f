/- ScanNumbers answers true. Conditions: the listed variables hold what the program's text lays, which the card ties. -/
import Derived.Test.YtldmniappliepaaGreatDoorY27
import Derived.Test.YtldmniappliepaaGreatDoorCards
import Derived.Test.YtldmniappliepaaGreatDoorTie
import Derived.Lib.LaidIn
import Derived.Deep.DeepWitnessRowRef
set_option linter.unusedVariables false
set_option linter.unusedSimpArgs false
set_option maxRecDepth 100000
namespace Go.Proofs.YtldmniappliepaaGreatDoor
open Go Go.Av Go.RowKit Go.WideShapes Go.ChangeShapes
theorem scanNumbers_own : ownKnob Tryz.prog.godebug = none := by kernel_rfl
theorem scanNumbers_contract (H : Type) (enc : TypeId × Value → H) (W : World) (base : Nat) (args : Array Value) (ds gs : List (DataW H)) (before : List MemPlace)
    (hval : ∀ (j : Nat) t v, Tryz.f4.params[j]? = some t → args[j]? = some v → Value.okWide Tryz.prog W .any base t v)
    (hW : DataW.Whole enc Tryz.prog Tryz.f4.params.toList Rows.scanNumbersSpec.vars false W args.toList ds gs before) (hcond : Rows.uptoSmall H (ds ++ gs) = true)
    (hL : laidMetH Tryz.prog Rows.scanNumbersUptoRow.laid W) (hsh : W.ShapedOpen Tryz.prog) :
    Calls Tryz.prog 4 args W fun e W' => ∃ v, e = .returned v ∧ Rows.scanNumbersSpec.post enc Tryz.prog Tryz.f4 false true false false W args v W' := by
  have hW0 := hW
  obtain ⟨p, q, hA, hV, rfl, hfz, hnd⟩ := hW
  obtain ⟨rfl, rfl⟩ := trodVars_none hV
  rw [Tryz.params4] at hA hval
  obtain ⟨hargs, rfl, rfl⟩ := trodAll_nil hA
  obtain rfl : args = #[] := by cases args; simp_all
  obtain ⟨m, hG⟩ := entry_globN (laid := Rows.scanNumbersUptoRow.laid) hL (by simp [Rows.scanNumbersUptoRow, Rows.scanNumbersRow]) (by simp [Rows.scanNumbersUptoRow, Rows.scanNumbersRow]) (by simp [Rows.scanNumbersUptoRow, Rows.scanNumbersRow]) hsh
  have hc := Pure.calls (scanNumbers_pure (globGvN m)   ) hG (vals := []) trivial
  refine hc.mono fun e W' ⟨he, hbl⟩ => ⟨_, he, ?_⟩
  exact law_post closedSS (by rw [Tryz.params4]; decide) rfl rfl Tryz.underlying4 rfl hW0 hbl
mutual
def valsW : DataW Unit → List Value
  | .lit (.bool b) => [.bool b]
  | .lit (.int k n) => [.int k n]
  | .lit (.string s) => [.string ⟨⟨s⟩⟩]
  | .agg parts => valsWs parts
  | _ => []
def valsWs : List (DataW Unit) → List Value
  | [] => []
  | d :: r => valsW d ++ valsWs r
end
def putW (d : DataW Unit) : Obj → Obj
  | .cells _ t frozen => .cells (valsW d).toArray t frozen
  | o => o
def putV (v : Value) : Obj → Obj
  | .cells _ t frozen => .cells #[v] t frozen
  | o => o
noncomputable def low : Nat := (World.holding Tryz.prog default ⟨#[], #[], []⟩).heap.size
noncomputable def laidWorld (os : Os) : World :=
  { World.holding Tryz.prog os ⟨#[], #[], []⟩ with heap := ((((((((((((World.holding Tryz.prog os ⟨#[.cells #[.string ⟨#[118, 97, 108, 117, 101, 32, 111, 117, 116, 32, 111, 102, 32, 114, 97, 110, 103, 101]⟩] 268, .cells #[.string ⟨#[105, 110, 118, 97, 108, 105, 100, 32, 115, 121, 110, 116, 97, 120]⟩] 268, .cells #[.int .u16 9, .int .u16 13, .int .u16 1, .int .u16 32, .int .u16 133, .int .u16 101, .int .u16 160, .int .u16 5760, .int .u16 5600, .int .u16 8192, .int .u16 8202, .int .u16 1, .int .u16 8232, .int .u16 8233, .int .u16 1, .int .u16 8239, .int .u16 8287, .int .u16 48, .int .u16 12288, .int .u16 12288, .int .u16 1] 218, .cells #[.slice (some ⟨low + 2, 0, none⟩) 7 7, .slice none 0 0, .int .i64 2] 215], #[], []⟩).heap.modify 10 (putW Rows.laid_math_bits_deBruijn32tab)).modify 11 (putW Rows.laid_math_bits_deBruijn64tab)).modify 9 (putW Rows.laid_internal_strconv_uint64pow10)).modify 8 (putW Rows.laid_unicode_utf8_acceptRanges)).modify 6 (putV (.iface 266 (.pointer (some ⟨low + 0, 0, none⟩))))).modify 5 (putV (.iface 266 (.pointer (some ⟨low + 1, 0, none⟩))))).modify 3 (putV (.pointer (some ⟨low + 3, 0, none⟩)))).modify 1 (putW Rows.laid_strings_asciiSpace)).modify 0 (putW Rows.laid_pigeonhole_scan_words)).modify 2 (putW Rows.laid_pigeonhole_scan_signs)).modify 7 (putW Rows.laid_unicode_utf8_first)) }
theorem laid_met (os : Os) : laidMet Tryz.prog Rows.scanNumbersRow.laid ((laidWorld os).forCall (fun _ _ => 0) ⟨#[], #[], []⟩).memory :=
  (LaidIn.of_run (l := Rows.scanNumbersRow.laid) (List.range 300) 10 (by kernel_rfl) (by kernel_rfl) (by kernel_rfl) (by kernel_rfl)).met
theorem reads (os : Os) {H : Type} (enc : TypeId × Value → H) : ∃ places, DataW.whole enc Tryz.prog ((laidWorld os).forCall (fun _ _ => 0) ⟨#[], #[], []⟩).memory Tryz.f4.params.toList Rows.scanNumbersSpec.vars false #[].toList 8 = some ([], [], places) :=
  ⟨[], by kernel_rfl⟩
theorem scanNumbers_lifted (os : Os) (started : os.Started) (H : Type) (enc : TypeId × Value → H) (F : Stop.Interp) :
    ReturnsInHanded {} Tryz.checked os 4 .any ((Rows.OpenSpec.upto Rows.scanNumbersSpec).preRow enc Tryz.prog Tryz.f4 Rows.scanNumbersUptoRow.domain false Rows.scanNumbersUptoRow.laid) (((Rows.OpenSpec.upto Rows.scanNumbersSpec).at F).post enc Tryz.prog Tryz.f4 false true false false) := by
  obtain ⟨places, hx⟩ := reads os enc
  refine returnsInHanded_of_row (C := Tryz.checked) (s := Rows.OpenSpec.upto Rows.scanNumbersSpec) scanNumbers_own started (by kernel_rfl) Tryz.func4
    (witness_row_atRef (enc := enc) (C := Tryz.checked) false (laidWorld os) #[] rfl (by kernel_rfl) (by kernel_rfl) (by kernel_rfl)
      (OpenSpec.preRow_of_cond 8 hx (by kernel_rfl) (fun k hk => by cases hk; kernel_rfl) (by kernel_rfl) (laid_met os))) ?_
  intro W base args ds gs before hval hW _ hcond _ hL hsh _
  exact scanNumbers_contract H enc W base args ds gs before hval hW (hcond _ rfl) hL hsh
theorem scanNumbers_said : Rows.ScanNumbersUptoSaid :=
  OpenClaim.holds_of_cond 4 Tryz.f4 rfl rfl rfl rfl rfl rfl rfl ⟨rfl, rfl, rfl, rfl, rfl⟩ rfl rfl rfl rfl rfl (by kernel_rfl) Tryz.func4 (by kernel_rfl)
    (of_decide_eq_true (by kernel_rfl)) (by unfold Func.isWrapper; first | (rw [if_pos (by decide +kernel)]; kernel_rfl) | (rw [if_neg (by decide +kernel)]; exact ⟨rfl, rfl⟩))
    (fun os started H enc _ F => by rw [OpenClaim.pre_eq_preRow]; exact scanNumbers_lifted os started H enc F)
theorem scanNumbers_plain (f : FuncId) (fn : Func) (hf : Tryz.pinned.checked.prog.funcNamed "pigeonhole/pigeonholelaw03.ScanNumbers" = some f) (hfn : Tryz.pinned.checked.prog.funcs[f]? = some fn) :
    true = Tryz.pinned.checked.prog.looks [] ∧ ∀ (j : Nat) t, fn.params[j]? = some t → Tryz.pinned.checked.prog.wantsStandIn t = false := by
  obtain rfl : f = 4 := Option.some.inj ((show Tryz.prog.funcNamed "pigeonhole/pigeonholelaw03.ScanNumbers" = some 4 by kernel_rfl).symm.trans hf) |>.symm
  obtain rfl : fn = Tryz.f4 := (Option.some.inj (Tryz.func4.symm.trans hfn)).symm
  refine ⟨by kernel_rfl, fun j t ht => ?_⟩
  rw [Tryz.params4] at ht
  simp at ht
theorem scanNumbers_card : Rows.ScanNumbersUptoCardSaid :=
  Claim7.holds_tied_plain_at .later [] _ _ _ _ scanNumbers_said (fun _ h => by cases h) (by kernel_rfl) (fun _ h => by cases h) scanNumbersUpto_row_tie rfl ⟨rfl, rfl⟩ (by kernel_rfl) rfl scanNumbers_plain (by kernel_rfl)
end Go.Proofs.YtldmniappliepaaGreatDoor
