/- ScanBack answers true for every source whose bytes, with the program's listed variables, are together of bulk at most 1048576; what is handed in reads afterwards as before. Conditions: the bound; the listed variables hold what the program's text lays, which the card ties. -/
import Derived.Test.YtldmniappliepaaDoorX19
import Derived.Test.YtldmniappliepaaDoorCards
import Derived.Test.YtldmniappliepaaDoorTie
set_option linter.unusedVariables false
set_option linter.unusedSimpArgs false
set_option maxRecDepth 100000
namespace Go.Proofs.YtldmniappliepaaDoor
open Go Go.Av Go.RowKit Go.WideShapes Go.ChangeShapes
theorem scanBack_own : ownKnob Tryd.prog.godebug = none := by kernel_rfl
theorem scanBack_contract (H : Type) (enc : TypeId × Value → H) (W : World) (base : Nat) (args : Array Value) (ds gs : List (DataW H)) (before : List MemPlace)
    (hval : ∀ (j : Nat) t v, Tryd.f3.params[j]? = some t → args[j]? = some v → Value.okWide Tryd.prog W .any base t v)
    (hW : DataW.Whole enc Tryd.prog Tryd.f3.params.toList Rows.scanBackSpec.vars false W args.toList ds gs before) (hcond : Rows.uptoSmall H (ds ++ gs) = true)
    (hL : laidMetH Tryd.prog Rows.scanBackUptoRow.laid W) (hsh : W.ShapedOpen Tryd.prog) :
    Calls Tryd.prog 3 args W fun e W' => ∃ v, e = .returned v ∧ Rows.scanBackSpec.post enc Tryd.prog Tryd.f3 false true false false W args v W' := by
  have hW0 := hW
  obtain ⟨p, q, hA, hV, rfl, hfz, hnd⟩ := hW
  obtain ⟨rfl, rfl⟩ := trodVars_none hV
  rw [Tryd.params3] at hA hval
  obtain ⟨v0, d0, rfl, rfl, h0⟩ := trodAll_one hA
  skip
  obtain ⟨m, hG⟩ := entry_globS (laid := Rows.scanBackUptoRow.laid) hL (by simp [Rows.scanBackUptoRow, Rows.scanBackRow]) (by simp [Rows.scanBackUptoRow, Rows.scanBackRow]) hsh
  obtain ⟨n0, t0, r0⟩ := read_arg (K := entryK W) closedSS (fun b o v h => h) (by decide) (hval 0 9 v0 rfl rfl) h0
  obtain ⟨a0, e0, b0⟩ := read_str n0 d0 t0
  rw [e0] at r0
  have hk := of_decide_eq_true hcond
  simp only [List.append_nil, Rows.uptoBulkAll] at hk
  have hc := Pure.calls (scanBack_pure (globGvS m) a0 (by omega) ) hG (vals := [v0]) ⟨r0, trivial⟩
  refine hc.mono fun e W' ⟨he, hbl⟩ => ⟨_, he, ?_⟩
  exact law_post closedSS (by rw [Tryd.params3]; decide) rfl rfl Tryd.underlying4 rfl hW0 hbl
mutual
def valsW : DataW Unit → List Value
  | .lit (.bool b) => [.bool b]
  | .lit (.int k n) => [.int k n]
  | .lit (.string s) => [.string ⟨⟨s⟩⟩]
  | .agg parts => valsWs parts
  | _ => []
def valsWs : List (DataW Unit) → List Value
  | [] => []
  | d :: r => valsW d ++ valsWs r
end
def putW (d : DataW Unit) : Obj → Obj
  | .cells _ t frozen => .cells (valsW d).toArray t frozen
  | o => o
def putV (v : Value) : Obj → Obj
  | .cells _ t frozen => .cells #[v] t frozen
  | o => o
noncomputable def low : Nat := (World.holding Tryd.prog default ⟨#[], #[], []⟩).heap.size
noncomputable def laidWorld (os : Os) : World :=
  { World.holding Tryd.prog os ⟨#[], #[], []⟩ with heap := ((((((((((World.holding Tryd.prog os ⟨#[.cells #[.string ⟨#[118, 97, 108, 117, 101, 32, 111, 117, 116, 32, 111, 102, 32, 114, 97, 110, 103, 101]⟩] 96, .cells #[.string ⟨#[105, 110, 118, 97, 108, 105, 100, 32, 115, 121, 110, 116, 97, 120]⟩] 96], #[], []⟩).heap.modify 8 (putW Rows.laid_math_bits_deBruijn32tab)).modify 9 (putW Rows.laid_math_bits_deBruijn64tab)).modify 7 (putW Rows.laid_internal_strconv_uint64pow10)).modify 6 (putW Rows.laid_unicode_utf8_acceptRanges)).modify 4 (putV (.iface 94 (.pointer (some ⟨low + 0, 0, none⟩))))).modify 3 (putV (.iface 94 (.pointer (some ⟨low + 1, 0, none⟩))))).modify 0 (putW Rows.laid_pigeonhole_scan_words)).modify 1 (putW Rows.laid_pigeonhole_scan_signs)).modify 5 (putW Rows.laid_unicode_utf8_first)) }
theorem laid_met (os : Os) : laidMet Tryd.prog Rows.scanBackRow.laid ((laidWorld os).forCall (fun _ _ => 0) ⟨#[], #[(.string ⟨#[]⟩)], []⟩).memory :=
  laidMet_of_run' 8 (by kernel_rfl) (by kernel_rfl)
theorem reads (os : Os) {H : Type} (enc : TypeId × Value → H) : ∃ places, DataW.whole enc Tryd.prog ((laidWorld os).forCall (fun _ _ => 0) ⟨#[], #[(.string ⟨#[]⟩)], []⟩).memory Tryd.f3.params.toList Rows.scanBackSpec.vars false #[(.string ⟨#[]⟩)].toList 8 = some ([.lit (.string [])], [], places) :=
  ⟨[], by kernel_rfl⟩
theorem scanBack_lifted (os : Os) (started : os.Started) (H : Type) (enc : TypeId × Value → H) (F : Stop.Interp) :
    ReturnsInHanded {} Tryd.checked os 3 .any ((Rows.OpenSpec.upto Rows.scanBackSpec).preRow enc Tryd.prog Tryd.f3 Rows.scanBackUptoRow.domain false Rows.scanBackUptoRow.laid) (((Rows.OpenSpec.upto Rows.scanBackSpec).at F).post enc Tryd.prog Tryd.f3 false true false false) := by
  obtain ⟨places, hx⟩ := reads os enc
  refine returnsInHanded_of_row (C := Tryd.checked) (s := Rows.OpenSpec.upto Rows.scanBackSpec) scanBack_own started (by kernel_rfl) Tryd.func3
    (witness_row_at (enc := enc) (C := Tryd.checked) false (laidWorld os) #[(.string ⟨#[]⟩)] rfl (by kernel_rfl) (by kernel_rfl) (by kernel_rfl)
      (OpenSpec.preRow_of_cond 8 hx (by kernel_rfl) (fun k hk => by cases hk; kernel_rfl) (by kernel_rfl) (laid_met os))) ?_
  intro W base args ds gs before hval hW _ hcond _ hL hsh _
  exact scanBack_contract H enc W base args ds gs before hval hW (hcond _ rfl) hL hsh
theorem scanBack_said : Rows.ScanBackUptoSaid :=
  OpenClaim.holds_of_cond 3 Tryd.f3 rfl rfl rfl rfl rfl rfl rfl ⟨rfl, rfl, rfl, rfl, rfl⟩ rfl rfl rfl rfl rfl (by kernel_rfl) Tryd.func3 (by kernel_rfl)
    (of_decide_eq_true (by kernel_rfl)) (by unfold Func.isWrapper; first | (rw [if_pos (by decide +kernel)]; kernel_rfl) | (rw [if_neg (by decide +kernel)]; exact ⟨rfl, rfl⟩))
    (fun os started H enc _ F => by rw [OpenClaim.pre_eq_preRow]; exact scanBack_lifted os started H enc F)
theorem scanBack_plain (f : FuncId) (fn : Func) (hf : Tryd.pinned.checked.prog.funcNamed "pigeonhole/pigeonholelaw03.ScanBack" = some f) (hfn : Tryd.pinned.checked.prog.funcs[f]? = some fn) :
    true = Tryd.pinned.checked.prog.looks [] ∧ ∀ (j : Nat) t, fn.params[j]? = some t → Tryd.pinned.checked.prog.wantsStandIn t = false := by
  obtain rfl : f = 3 := Option.some.inj ((show Tryd.prog.funcNamed "pigeonhole/pigeonholelaw03.ScanBack" = some 3 by kernel_rfl).symm.trans hf) |>.symm
  obtain rfl : fn = Tryd.f3 := (Option.some.inj (Tryd.func3.symm.trans hfn)).symm
  refine ⟨by kernel_rfl, fun j t ht => ?_⟩
  rw [Tryd.params3] at ht
  have hm := Array.mem_of_getElem? ht
  simp only [List.mem_toArray, List.mem_cons, List.mem_nil_iff, or_false] at hm
  subst hm; exact (show Tryd.prog.wantsStandIn _ = false by kernel_rfl)
theorem scanBack_card : Rows.ScanBackUptoCardSaid :=
  Claim7.holds_tied_plain_at .later [] _ _ _ _ scanBack_said (fun _ h => by cases h) (by kernel_rfl) (fun _ h => by cases h) scanBackUpto_row_tie rfl ⟨rfl, rfl⟩ (by kernel_rfl) rfl scanBack_plain (by kernel_rfl)
end Go.Proofs.YtldmniappliepaaDoor
