/- CodeGoes holds of every code up to the said bulk. -/
import Derived.Test.YtjmdaeabllkgnaaGreatDoorY33
import Derived.Test.YtjmdaeabllkgnaaGreatDoorCards
import Derived.Test.YtjmdaeabllkgnaaGreatDoorTie
set_option linter.unusedVariables false
set_option linter.unusedSimpArgs false
set_option maxRecDepth 100000
namespace Go.Proofs.YtjmdaeabllkgnaaGreatDoor
open Go Go.Av Go.RowKit Go.WideShapes Go.ChangeShapes
theorem codeGoes_own : ownKnob Tryz.prog.godebug = none := by kernel_rfl
theorem codeGoes_contract (H : Type) (enc : TypeId × Value → H) (W : World) (base : Nat) (args : Array Value) (ds gs : List (DataW H)) (before : List MemPlace)
    (hval : ∀ (j : Nat) t v, Tryz.f6.params[j]? = some t → args[j]? = some v → Value.okWide Tryz.prog W .any base t v)
    (hW : DataW.Whole enc Tryz.prog Tryz.f6.params.toList Rows.codeGoesSpec.vars false W args.toList ds gs before) (hcond : Rows.uptoSmall H (ds ++ gs) = true)
    (hL : laidMetH Tryz.prog Rows.codeGoesUptoRow.laid W) (hsh : W.ShapedOpen Tryz.prog) :
    Calls Tryz.prog 6 args W fun e W' => ∃ v, e = .returned v ∧ Rows.codeGoesSpec.post enc Tryz.prog Tryz.f6 false true false false W args v W' := by
  have hW0 := hW
  obtain ⟨p, q, hA, hV, rfl, hfz, hnd⟩ := hW
  obtain ⟨rfl, rfl⟩ := trodVars_none hV
  rw [Tryz.params6] at hA hval
  obtain ⟨v0, d0, rfl, rfl, h0⟩ := trodAll_one hA
  skip
  obtain ⟨m, hG⟩ := entry_globC (laid := Rows.codeGoesUptoRow.laid) hL (by simp [Rows.codeGoesUptoRow, Rows.codeGoesRow]) (by simp [Rows.codeGoesUptoRow, Rows.codeGoesRow]) (by simp [Rows.codeGoesUptoRow, Rows.codeGoesRow]) (by simp [Rows.codeGoesUptoRow, Rows.codeGoesRow]) hsh
  obtain ⟨n0, t0, r0⟩ := read_arg (K := entryK W) closedSC (fun b o v h => h) (by decide) (hval 0 26 v0 rfl rfl) h0
  obtain ⟨a0, e0, b0, q0⟩ := read_cod n0 d0 t0
  rw [e0] at r0
  have hk := of_decide_eq_true hcond
  simp only [List.append_nil, Rows.uptoBulkAll] at hk
  have hc := Pure.calls (goes_law (globGvC m) a0 (by omega)) hG (vals := [v0]) ⟨r0, trivial⟩
  refine hc.mono fun e W' ⟨he, hbl⟩ => ⟨_, he, ?_⟩
  exact law_post closedSC (by rw [Tryz.params6]; decide) rfl rfl Tryz.underlying4 rfl hW0 hbl
mutual
def valsW : DataW Unit → List Value
  | .lit (.bool b) => [.bool b]
  | .lit (.int k n) => [.int k n]
  | .lit (.string s) => [.string ⟨⟨s⟩⟩]
  | .agg parts => valsWs parts
  | _ => []
def valsWs : List (DataW Unit) → List Value
  | [] => []
  | d :: r => valsW d ++ valsWs r
end
def putW (d : DataW Unit) : Obj → Obj
  | .cells _ t frozen => .cells (valsW d).toArray t frozen
  | o => o
noncomputable def laidWorld (os : Os) : World :=
  { World.holding Tryz.prog os ⟨#[], #[], []⟩ with heap := (((((((World.holding Tryz.prog os ⟨#[], #[], []⟩).heap.modify 6 (putW Rows.laid_math_bits_deBruijn32tab)).modify 7 (putW Rows.laid_math_bits_deBruijn64tab)).modify 4 (putW Rows.laid_internal_strconv_uint64pow10)).modify 3 (putW Rows.laid_pigeonhole_lint_builtin)).modify 1 (putW Rows.laid_pigeonhole_term_words)).modify 0 (putW Rows.laid_pigeonhole_code_shapes)) }
theorem laid_met (os : Os) : laidMet Tryz.prog Rows.codeGoesRow.laid ((laidWorld os).forCall (fun _ _ => 0) ⟨#[], #[(.agg #[.slice none 0 0, .slice none 0 0, .slice none 0 0])], []⟩).memory :=
  laidMet_of_run' 8 (by kernel_rfl) (by kernel_rfl)
theorem wreads (os : Os) {H : Type} (enc : TypeId × Value → H) : ∃ places, DataW.whole enc Tryz.prog ((laidWorld os).forCall (fun _ _ => 0) ⟨#[], #[(.agg #[.slice none 0 0, .slice none 0 0, .slice none 0 0])], []⟩).memory Tryz.f6.params.toList Rows.codeGoesSpec.vars false #[(.agg #[.slice none 0 0, .slice none 0 0, .slice none 0 0])].toList 8 = some ([.agg [.nil, .nil, .nil]], [], places) :=
  ⟨[], by kernel_rfl⟩
theorem codeGoes_lifted (os : Os) (started : os.Started) (H : Type) (enc : TypeId × Value → H) (F : Stop.Interp) :
    ReturnsInHanded {} Tryz.checked os 6 .any ((Rows.OpenSpec.upto Rows.codeGoesSpec).preRow enc Tryz.prog Tryz.f6 Rows.codeGoesUptoRow.domain false Rows.codeGoesUptoRow.laid) (((Rows.OpenSpec.upto Rows.codeGoesSpec).at F).post enc Tryz.prog Tryz.f6 false true false false) := by
  obtain ⟨places, hx⟩ := wreads os enc
  refine returnsInHanded_of_row (C := Tryz.checked) (s := Rows.OpenSpec.upto Rows.codeGoesSpec) codeGoes_own started (by kernel_rfl) Tryz.func6
    (witness_row_at (enc := enc) (C := Tryz.checked) false (laidWorld os) #[(.agg #[.slice none 0 0, .slice none 0 0, .slice none 0 0])] rfl (by kernel_rfl) (by kernel_rfl) (by kernel_rfl)
      (OpenSpec.preRow_of_cond 8 hx (by kernel_rfl) (fun k hk => by cases hk; kernel_rfl) (by kernel_rfl) (laid_met os))) ?_
  intro W base args ds gs before hval hW _ hcond _ hL hsh _
  exact codeGoes_contract H enc W base args ds gs before hval hW (hcond _ rfl) hL hsh
theorem codeGoes_said : Rows.CodeGoesUptoSaid :=
  OpenClaim.holds_of_cond 6 Tryz.f6 rfl rfl rfl rfl rfl rfl rfl ⟨rfl, rfl, rfl, rfl, rfl⟩ rfl rfl rfl rfl rfl (by kernel_rfl) Tryz.func6 (by kernel_rfl)
    (of_decide_eq_true (by kernel_rfl)) (by unfold Func.isWrapper; first | (rw [if_pos (by decide +kernel)]; kernel_rfl) | (rw [if_neg (by decide +kernel)]; exact ⟨rfl, rfl⟩))
    (fun os started H enc _ F => by rw [OpenClaim.pre_eq_preRow]; exact codeGoes_lifted os started H enc F)
theorem codeGoes_plain (f : FuncId) (fn : Func) (hf : Tryz.pinned.checked.prog.funcNamed "pigeonhole/pigeonholelaw18.CodeGoes" = some f) (hfn : Tryz.pinned.checked.prog.funcs[f]? = some fn) :
    false = Tryz.pinned.checked.prog.looks [] ∧ ∀ (j : Nat) t, fn.params[j]? = some t → Tryz.pinned.checked.prog.wantsStandIn t = false := by
  obtain rfl : f = 6 := Option.some.inj ((show Tryz.prog.funcNamed "pigeonhole/pigeonholelaw18.CodeGoes" = some 6 by kernel_rfl).symm.trans hf) |>.symm
  obtain rfl : fn = Tryz.f6 := (Option.some.inj (Tryz.func6.symm.trans hfn)).symm
  refine ⟨by kernel_rfl, fun j t ht => ?_⟩
  rw [Tryz.params6] at ht
  have hm := Array.mem_of_getElem? ht
  simp only [List.mem_toArray, List.mem_cons, List.mem_nil_iff, or_false] at hm
  subst hm; exact (show Tryz.prog.wantsStandIn _ = false by kernel_rfl)
theorem codeGoes_card : Rows.CodeGoesUptoCardSaid :=
  Claim7.holds_tied_plain_at .later [] _ _ _ _ codeGoes_said (fun _ h => by cases h) (by kernel_rfl) (fun _ h => by cases h) codeGoesUpto_row_tie rfl ⟨rfl, rfl⟩ (by kernel_rfl) rfl codeGoes_plain (by kernel_rfl)
end Go.Proofs.YtjmdaeabllkgnaaGreatDoor
