/- ScanTells answers true for every source whose bytes, with the program's listed variables, are of bulk at most 1048576; what is handed in reads afterwards as before. Conditions: the bound; the listed variables hold what the program's text lays, which the card ties. -/
import Derived.Test.YtldmniappliepaaGreatDoorZ13
import Derived.Test.YtldmniappliepaaGreatDoorCards
import Derived.Test.YtldmniappliepaaGreatDoorTie
set_option linter.unusedVariables false
set_option linter.unusedSimpArgs false
set_option maxRecDepth 100000
namespace Go.Proofs.YtldmniappliepaaGreatDoor
open Go Go.Av Go.RowKit Go.WideShapes Go.ChangeShapes
theorem scanTells_own : ownKnob Tryz.prog.godebug = none := by kernel_rfl
theorem scanTells_contract (H : Type) (enc : TypeId × Value → H) (W : World) (base : Nat) (args : Array Value) (ds gs : List (DataW H)) (before : List MemPlace)
    (hval : ∀ (j : Nat) t v, Tryz.f3.params[j]? = some t → args[j]? = some v → Value.okWide Tryz.prog W .any base t v)
    (hW : DataW.Whole enc Tryz.prog Tryz.f3.params.toList Rows.scanTellsSpec.vars false W args.toList ds gs before) (hcond : Rows.uptoSmall H (ds ++ gs) = true)
    (hL : laidMetH Tryz.prog Rows.scanTellsUptoRow.laid W) (hsh : W.ShapedOpen Tryz.prog) :
    Calls Tryz.prog 3 args W fun e W' => ∃ v, e = .returned v ∧ Rows.scanTellsSpec.post enc Tryz.prog Tryz.f3 false true false false W args v W' := by
  have hW0 := hW
  obtain ⟨p, q, hA, hV, rfl, hfz, hnd⟩ := hW
  obtain ⟨rfl, rfl⟩ := trodVars_none hV
  rw [Tryz.params3] at hA hval
  obtain ⟨v0, d0, rfl, rfl, h0⟩ := trodAll_one hA
  skip
  obtain ⟨m, hG⟩ := entry_globS (laid := Rows.scanTellsUptoRow.laid) hL (by simp [Rows.scanTellsUptoRow, Rows.scanTellsRow]) (by simp [Rows.scanTellsUptoRow, Rows.scanTellsRow]) hsh
  obtain ⟨n0, t0, r0⟩ := read_arg (K := entryK W) closedSS (fun b o v h => h) (by decide) (hval 0 9 v0 rfl rfl) h0
  obtain ⟨a0, e0, b0⟩ := read_str n0 d0 t0
  rw [e0] at r0
  have hk := of_decide_eq_true hcond
  simp only [List.append_nil, Rows.uptoBulkAll] at hk
  have hc := Pure.calls (scanTells_pure (globGvS m) a0  ) hG (vals := [v0]) ⟨r0, trivial⟩
  refine hc.mono fun e W' ⟨he, hbl⟩ => ⟨_, he, ?_⟩
  exact law_post closedSS (by rw [Tryz.params3]; decide) rfl rfl Tryz.underlying4 rfl hW0 hbl
mutual
def valsW : DataW Unit → List Value
  | .lit (.bool b) => [.bool b]
  | .lit (.int k n) => [.int k n]
  | .lit (.string s) => [.string ⟨⟨s⟩⟩]
  | .agg parts => valsWs parts
  | _ => []
def valsWs : List (DataW Unit) → List Value
  | [] => []
  | d :: r => valsW d ++ valsWs r
end
def putW (d : DataW Unit) : Obj → Obj
  | .cells _ t frozen => .cells (valsW d).toArray t frozen
  | o => o
def putV (v : Value) : Obj → Obj
  | .cells _ t frozen => .cells #[v] t frozen
  | o => o
noncomputable def low : Nat := (World.holding Tryz.prog default ⟨#[], #[], []⟩).heap.size
noncomputable def laidWorld (os : Os) : World :=
  { World.holding Tryz.prog os ⟨#[], #[], []⟩ with heap := ((((((((((World.holding Tryz.prog os ⟨#[.cells #[.string ⟨#[118, 97, 108, 117, 101, 32, 111, 117, 116, 32, 111, 102, 32, 114, 97, 110, 103, 101]⟩] 268, .cells #[.string ⟨#[105, 110, 118, 97, 108, 105, 100, 32, 115, 121, 110, 116, 97, 120]⟩] 268], #[], []⟩).heap.modify 10 (putW Rows.laid_math_bits_deBruijn32tab)).modify 11 (putW Rows.laid_math_bits_deBruijn64tab)).modify 9 (putW Rows.laid_internal_strconv_uint64pow10)).modify 8 (putW Rows.laid_unicode_utf8_acceptRanges)).modify 6 (putV (.iface 266 (.pointer (some ⟨low + 0, 0, none⟩))))).modify 5 (putV (.iface 266 (.pointer (some ⟨low + 1, 0, none⟩))))).modify 0 (putW Rows.laid_pigeonhole_scan_words)).modify 2 (putW Rows.laid_pigeonhole_scan_signs)).modify 7 (putW Rows.laid_unicode_utf8_first)) }
theorem laid_met (os : Os) : laidMet Tryz.prog Rows.scanTellsRow.laid ((laidWorld os).forCall (fun _ _ => 0) ⟨#[], #[(.string ⟨#[]⟩)], []⟩).memory :=
  laidMet_of_run' 8 (by kernel_rfl) (by kernel_rfl)
theorem reads (os : Os) {H : Type} (enc : TypeId × Value → H) : ∃ places, DataW.whole enc Tryz.prog ((laidWorld os).forCall (fun _ _ => 0) ⟨#[], #[(.string ⟨#[]⟩)], []⟩).memory Tryz.f3.params.toList Rows.scanTellsSpec.vars false #[(.string ⟨#[]⟩)].toList 8 = some ([.lit (.string [])], [], places) :=
  ⟨[], by kernel_rfl⟩
theorem scanTells_lifted (os : Os) (started : os.Started) (H : Type) (enc : TypeId × Value → H) (F : Stop.Interp) :
    ReturnsInHanded {} Tryz.checked os 3 .any ((Rows.OpenSpec.upto Rows.scanTellsSpec).preRow enc Tryz.prog Tryz.f3 Rows.scanTellsUptoRow.domain false Rows.scanTellsUptoRow.laid) (((Rows.OpenSpec.upto Rows.scanTellsSpec).at F).post enc Tryz.prog Tryz.f3 false true false false) := by
  obtain ⟨places, hx⟩ := reads os enc
  refine returnsInHanded_of_row (C := Tryz.checked) (s := Rows.OpenSpec.upto Rows.scanTellsSpec) scanTells_own started (by kernel_rfl) Tryz.func3
    (witness_row_at (enc := enc) (C := Tryz.checked) false (laidWorld os) #[(.string ⟨#[]⟩)] rfl (by kernel_rfl) (by kernel_rfl) (by kernel_rfl)
      (OpenSpec.preRow_of_cond 8 hx (by kernel_rfl) (fun k hk => by cases hk; kernel_rfl) (by kernel_rfl) (laid_met os))) ?_
  intro W base args ds gs before hval hW _ hcond _ hL hsh _
  exact scanTells_contract H enc W base args ds gs before hval hW (hcond _ rfl) hL hsh
theorem scanTells_said : Rows.ScanTellsUptoSaid :=
  OpenClaim.holds_of_cond 3 Tryz.f3 rfl rfl rfl rfl rfl rfl rfl ⟨rfl, rfl, rfl, rfl, rfl⟩ rfl rfl rfl rfl rfl (by kernel_rfl) Tryz.func3 (by kernel_rfl)
    (of_decide_eq_true (by kernel_rfl)) (by unfold Func.isWrapper; first | (rw [if_pos (by decide +kernel)]; kernel_rfl) | (rw [if_neg (by decide +kernel)]; exact ⟨rfl, rfl⟩))
    (fun os started H enc _ F => by rw [OpenClaim.pre_eq_preRow]; exact scanTells_lifted os started H enc F)
theorem scanTells_plain (f : FuncId) (fn : Func) (hf : Tryz.pinned.checked.prog.funcNamed "pigeonhole/pigeonholelaw03.ScanTells" = some f) (hfn : Tryz.pinned.checked.prog.funcs[f]? = some fn) :
    true = Tryz.pinned.checked.prog.looks [] ∧ ∀ (j : Nat) t, fn.params[j]? = some t → Tryz.pinned.checked.prog.wantsStandIn t = false := by
  obtain rfl : f = 3 := Option.some.inj ((show Tryz.prog.funcNamed "pigeonhole/pigeonholelaw03.ScanTells" = some 3 by kernel_rfl).symm.trans hf) |>.symm
  obtain rfl : fn = Tryz.f3 := (Option.some.inj (Tryz.func3.symm.trans hfn)).symm
  refine ⟨by kernel_rfl, fun j t ht => ?_⟩
  rw [Tryz.params3] at ht
  have hm := Array.mem_of_getElem? ht
  simp only [List.mem_toArray, List.mem_cons, List.mem_nil_iff, or_false] at hm
  subst hm; exact (show Tryz.prog.wantsStandIn _ = false by kernel_rfl)
theorem scanTells_card : Rows.ScanTellsUptoCardSaid :=
  Claim7.holds_tied_plain_at .later [] _ _ _ _ scanTells_said (fun _ h => by cases h) (by kernel_rfl) (fun _ h => by cases h) scanTellsUpto_row_tie rfl ⟨rfl, rfl⟩ (by kernel_rfl) rfl scanTells_plain (by kernel_rfl)
end Go.Proofs.YtldmniappliepaaGreatDoor
