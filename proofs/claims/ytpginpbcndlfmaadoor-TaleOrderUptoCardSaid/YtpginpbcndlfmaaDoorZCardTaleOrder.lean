/- TaleOrder answers true for every three of what is seen and every two numbers whose data, with the program's listed variables, are together of bulk at most 1048576; what is handed in reads afterwards as before. Conditions: the bound; the listed variables hold what the program's text lays, which the card ties. -/
import Derived.Test.YtpginpbcndlfmaaDoorZLawTaleO
import Derived.Test.YtpginpbcndlfmaaDoorZReadSeen
import Derived.Test.YtpginpbcndlfmaaDoorCards
import Derived.Test.YtpginpbcndlfmaaDoorTie
set_option linter.unusedVariables false
set_option linter.unusedSimpArgs false
set_option maxRecDepth 100000
namespace Go.Proofs.YtpginpbcndlfmaaDoor
open Go Go.Av Go.RowKit Go.WideShapes Go.ChangeShapes
theorem taleOrder_own : ownKnob Tryd.prog.godebug = none := by kernel_rfl
theorem taleOrder_contract (H : Type) (enc : TypeId × Value → H) (W : World) (base : Nat) (args : Array Value) (ds gs : List (DataW H)) (before : List MemPlace)
    (hval : ∀ (j : Nat) t v, Tryd.f3.params[j]? = some t → args[j]? = some v → Value.okWide Tryd.prog W .any base t v)
    (hW : DataW.Whole enc Tryd.prog Tryd.f3.params.toList Rows.taleOrderSpec.vars false W args.toList ds gs before) (hcond : Rows.uptoSmall H (ds ++ gs) = true)
    (hL : laidMetH Tryd.prog Rows.taleOrderUptoRow.laid W) (hsh : W.ShapedOpen Tryd.prog) :
    Calls Tryd.prog 3 args W fun e W' => ∃ v, e = .returned v ∧ Rows.taleOrderSpec.post enc Tryd.prog Tryd.f3 false true false false W args v W' := by
  have hW0 := hW
  obtain ⟨p, q, hA, hV, rfl, hfz, hnd⟩ := hW
  obtain ⟨rfl, rfl⟩ := trodVars_none hV
  rw [Tryd.params3] at hA hval
  obtain ⟨v0, v1, v2, v3, v4, d0, d1, d2, d3, d4, p0, p1, p2, p3, p4, hargs, rfl, rfl, h0, h1, h2, h3, h4⟩ := trodAll_five hA
  obtain rfl : args = #[v0, v1, v2, v3, v4] := by cases args; simp_all
  have hG := entry_glob hL rfl
  obtain ⟨n0, t0, r0⟩ := read_arg (K := entryK W) closedS2 (fun b o v h => h) (by decide) (hval 0 26 v0 rfl rfl) h0
  obtain ⟨n1, t1, r1⟩ := read_arg (K := entryK W) closedS2 (fun b o v h => h) (by decide) (hval 1 26 v1 rfl rfl) h1
  obtain ⟨n2, t2, r2⟩ := read_arg (K := entryK W) closedS2 (fun b o v h => h) (by decide) (hval 2 26 v2 rfl rfl) h2
  obtain ⟨n3, t3, r3⟩ := read_arg (K := entryK W) closedS2 (fun b o v h => h) (by decide) (hval 3 3 v3 rfl rfl) h3
  obtain ⟨n4, t4, r4⟩ := read_arg (K := entryK W) closedS2 (fun b o v h => h) (by decide) (hval 4 3 v4 rfl rfl) h4
  obtain ⟨a0, e0, b0, q0⟩ := read_seen n0 d0 t0
  obtain ⟨a1, e1, b1, q1⟩ := read_seen n1 d1 t1
  obtain ⟨a2, e2, b2, q2⟩ := read_seen n2 d2 t2
  obtain ⟨a3, e3⟩ := read_int n3 d3 t3
  obtain ⟨a4, e4⟩ := read_int n4 d4 t4
  rw [e0] at r0
  rw [e1] at r1
  rw [e2] at r2
  rw [e3] at r3
  rw [e4] at r4
  have hk := of_decide_eq_true hcond
  simp only [List.append_nil, Rows.uptoBulkAll] at hk
  have hc := Pure.calls (tale_law globGv a0 a1 a2 a3 a4 (by omega) (by omega) (by omega) q0 q1) hG (vals := [v0, v1, v2, v3, v4]) ⟨r0, r1, r2, r3, r4, trivial⟩
  refine hc.mono fun e W' ⟨he, hbl⟩ => ⟨_, he, ?_⟩
  exact law_post closedS2 (by rw [Tryd.params3]; decide) rfl rfl Tryd.underlying4 rfl hW0 hbl

mutual
def valsW : DataW Unit → List Value
  | .lit (.bool b) => [.bool b]
  | .lit (.int k n) => [.int k n]
  | .lit (.string s) => [.string ⟨⟨s⟩⟩]
  | .agg parts => valsWs parts
  | _ => []
def valsWs : List (DataW Unit) → List Value
  | [] => []
  | d :: r => valsW d ++ valsWs r
end
def putW (d : DataW Unit) : Obj → Obj
  | .cells _ t frozen => .cells (valsW d).toArray t frozen
  | o => o
/-- a world for the witness: the listed variables hold what they are said to hold -/
noncomputable def laidWorld (os : Os) : World :=
  { World.holding Tryd.prog os ⟨#[], #[], []⟩ with heap := (((((World.holding Tryd.prog os ⟨#[], #[], []⟩).heap.modify 4 (putW Rows.laid_math_bits_deBruijn32tab)).modify 5 (putW Rows.laid_math_bits_deBruijn64tab)).modify 2 (putW Rows.laid_internal_strconv_uint64pow10)).modify 0 (putW Rows.laid_pigeonhole_term_words)) }
def zeroN : Value := .agg #[.int .u8 0, .bool false, .slice none 0 0, .string ⟨#[]⟩, .int .i64 0, .slice none 0 0, .slice none 0 0]
def zeroD {H : Type} : DataW H := .agg [.lit (.int .u8 0), .lit (.bool false), .nil, .lit (.string []), .lit (.int .i64 0), .nil, .nil]
def zeroSN : Value := .agg #[.slice none 0 0, .slice none 0 0, .slice none 0 0, .int .i64 0, .int .i64 0, .int .i64 0]
def zeroSD {H : Type} : DataW H := .agg [.nil, .nil, .nil, .lit (.int .i64 0), .lit (.int .i64 0), .lit (.int .i64 0)]
theorem laid_met (os : Os) : laidMet Tryd.prog Rows.taleOrderRow.laid ((laidWorld os).forCall (fun _ _ => 0) ⟨#[], #[zeroSN, zeroSN, zeroSN, (.int .i64 0), (.int .i64 0)], []⟩).memory :=
  laidMet_of_run' 8 (by kernel_rfl) (by kernel_rfl)
theorem reads (os : Os) {H : Type} (enc : TypeId × Value → H) : ∃ places, DataW.whole enc Tryd.prog ((laidWorld os).forCall (fun _ _ => 0) ⟨#[], #[zeroSN, zeroSN, zeroSN, (.int .i64 0), (.int .i64 0)], []⟩).memory Tryd.f3.params.toList Rows.taleOrderSpec.vars false #[zeroSN, zeroSN, zeroSN, (.int .i64 0), (.int .i64 0)].toList 8 = some ([zeroSD, zeroSD, zeroSD, .lit (.int .i64 0), .lit (.int .i64 0)], [], places) :=
  ⟨[], by kernel_rfl⟩
theorem taleOrder_lifted (os : Os) (started : os.Started) (H : Type) (enc : TypeId × Value → H) (F : Stop.Interp) :
    ReturnsInHanded {} Tryd.checked os 3 .any ((Rows.OpenSpec.upto Rows.taleOrderSpec).preRow enc Tryd.prog Tryd.f3 Rows.taleOrderUptoRow.domain false Rows.taleOrderUptoRow.laid) (((Rows.OpenSpec.upto Rows.taleOrderSpec).at F).post enc Tryd.prog Tryd.f3 false true false false) := by
  obtain ⟨places, hx⟩ := reads os enc
  refine returnsInHanded_of_row (C := Tryd.checked) (s := Rows.OpenSpec.upto Rows.taleOrderSpec) taleOrder_own started (by kernel_rfl) Tryd.func3
    (witness_row_at (enc := enc) (C := Tryd.checked) false (laidWorld os) #[zeroSN, zeroSN, zeroSN, (.int .i64 0), (.int .i64 0)] rfl (by kernel_rfl) (by kernel_rfl) (by kernel_rfl)
      (OpenSpec.preRow_of_cond 8 hx (by kernel_rfl) (fun k hk => by cases hk; kernel_rfl) (by kernel_rfl) (laid_met os))) ?_
  intro W base args ds gs before hval hW _ hcond _ hL hsh _
  exact taleOrder_contract H enc W base args ds gs before hval hW (hcond _ rfl) hL hsh
theorem taleOrder_said : Rows.TaleOrderUptoSaid :=
  OpenClaim.holds_of_cond 3 Tryd.f3 rfl rfl rfl rfl rfl rfl rfl ⟨rfl, rfl, rfl, rfl, rfl⟩ rfl rfl rfl rfl rfl (by kernel_rfl) Tryd.func3 (by kernel_rfl)
    (of_decide_eq_true (by kernel_rfl)) (by unfold Func.isWrapper; first | (rw [if_pos (by decide +kernel)]; kernel_rfl) | (rw [if_neg (by decide +kernel)]; exact ⟨rfl, rfl⟩))
    (fun os started H enc _ F => by rw [OpenClaim.pre_eq_preRow]; exact taleOrder_lifted os started H enc F)
/-- no parameter wants a stand-in; the program's own looks are off -/
theorem taleOrder_plain (f : FuncId) (fn : Func) (hf : Tryd.pinned.checked.prog.funcNamed "pigeonhole/pigeonholelaw30.TaleOrder" = some f) (hfn : Tryd.pinned.checked.prog.funcs[f]? = some fn) :
    false = Tryd.pinned.checked.prog.looks [] ∧ ∀ (j : Nat) t, fn.params[j]? = some t → Tryd.pinned.checked.prog.wantsStandIn t = false := by
  obtain rfl : f = 3 := Option.some.inj ((show Tryd.prog.funcNamed "pigeonhole/pigeonholelaw30.TaleOrder" = some 3 by kernel_rfl).symm.trans hf) |>.symm
  obtain rfl : fn = Tryd.f3 := (Option.some.inj (Tryd.func3.symm.trans hfn)).symm
  refine ⟨by kernel_rfl, fun j t ht => ?_⟩
  rw [Tryd.params3] at ht
  have hm := Array.mem_of_getElem? ht
  simp only [List.mem_toArray, List.mem_cons, List.mem_nil_iff, or_false] at hm
  rcases hm with rfl | rfl | rfl | rfl | rfl <;> exact (show Tryd.prog.wantsStandIn _ = false by kernel_rfl)
theorem taleOrder_card : Rows.TaleOrderUptoCardSaid :=
  Claim7.holds_tied_plain_at .later [] _ _ _ _ taleOrder_said (fun _ h => by cases h) (by kernel_rfl) (fun _ h => by cases h) taleOrderUpto_row_tie rfl ⟨rfl, rfl⟩ (by kernel_rfl) rfl taleOrder_plain (by kernel_rfl)
end Go.Proofs.YtpginpbcndlfmaaDoor
