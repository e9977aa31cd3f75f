/- TermNumbers answers true, called alone; the program's listed variables read afterwards as before. Conditions: the bound on their data; the listed variables hold what the program's text lays, which the card ties. -/
import Derived.Test.YtdhbdhopnpmboaaGreatDoorZ23
import Derived.Test.YtdhbdhopnpmboaaGreatDoorCards
import Derived.Test.YtdhbdhopnpmboaaGreatDoorTie
set_option linter.unusedVariables false
set_option linter.unusedSimpArgs false
set_option maxRecDepth 100000
namespace Go.Proofs.YtdhbdhopnpmboaaGreatDoor
open Go Go.Av Go.RowKit Go.WideShapes Go.ChangeShapes
theorem A2q:ownKnob Tryz.prog.godebug=none:=by kernel_rfl
theorem vQ (H:Type) (enc:TypeId × Value ->H) (W:World) (base:Nat) (args:Array Value) (ds gs:List (DataW H)) (before:List MemPlace)
  (hval:∀ (j:Nat) t v,Tryz.f5.params[j]? =some t ->args[j]? =some v ->Value.okWide Tryz.prog W .any base t v)
  (hW:DataW.Whole enc Tryz.prog Tryz.f5.params.toList Rows.termNumbersSpec.vars false W args.toList ds gs before) (hcond:Rows.uptoSmall H (ds++gs)=true)
  (hL:laidMetH Tryz.prog Rows.termNumbersUptoRow.laid W) (hsh:W.ShapedOpen Tryz.prog):
  Calls Tryz.prog 5 args W fun e W'=>∃ v,e= .returned v /\ Rows.termNumbersSpec.post enc Tryz.prog Tryz.f5 false true false false W args v W':=by
 have hW0:=hW
 obtain⟨p,q,hA,hV,rfl,hfz,hnd⟩:=hW
 obtain⟨rfl,rfl⟩:=trodVars_none hV
 rw[Tryz.params5]at hA hval
 obtain⟨hargs,rfl,rfl⟩:=trodAll_nil hA
 obtain rfl:args= #[]:=by cases args;simp_all
 have hG:=B9a hL rfl
 have hc:=aB.calls (D4n E3d   ) hG (vals:=[]) trivial
 refine hc.mono fun e W' ⟨he,hbl⟩=> ⟨_,he,?_⟩
 exact D1w B1l (by rw[Tryz.params5];decide) rfl rfl Tryz.underlying4 rfl hW0 hbl
mutual
def E1w:DataW Unit ->List Value
 | .lit (.bool b)=> [.bool b]
 | .lit (.int k n)=> [.int k n]
 | .lit (.string s)=> [.string ⟨⟨s⟩⟩]
 | .agg parts=>D4v parts
 |_=> []
def D4v:List (DataW Unit) ->List Value
 |[]=> []
 |d::r=>E1w d++D4v r
end
def D9q(d:DataW Unit):Obj ->Obj
 | .cells _ t frozen=> .cells (E1w d).toArray t frozen
 |o=>o
noncomputable def A0m(os:Os):World:=
 {World.holding Tryz.prog os ⟨#[],#[],[]⟩with heap:=(((((World.holding Tryz.prog os ⟨#[],#[],[]⟩).heap.modify 3 (D9q Rows.laid_math_bits_deBruijn32tab)).modify 4 (D9q Rows.laid_math_bits_deBruijn64tab)).modify 2 (D9q Rows.laid_internal_strconv_uint64pow10)).modify 0 (D9q Rows.laid_pigeonhole_term_words))}
def F1x:Value:= .agg #[.int .u8 0, .bool false, .slice none 0 0, .string ⟨#[]⟩, .int .i64 0, .slice none 0 0, .slice none 0 0]
theorem D1u(os:Os):laidMet Tryz.prog Rows.termNumbersRow.laid ((A0m os).forCall (fun _ _=>0) ⟨#[],#[],[]⟩).memory:=
 laidMet_of_run' 8 (by kernel_rfl) (by kernel_rfl)
theorem E9a(os:Os){H:Type}(enc:TypeId × Value ->H):∃ tH,DataW.whole enc Tryz.prog ((A0m os).forCall (fun _ _=>0) ⟨#[],#[],[]⟩).memory Tryz.f5.params.toList Rows.termNumbersSpec.vars false #[].toList 8=some ([],[],tH):=
 ⟨[],by kernel_rfl⟩
theorem xV(os:Os)(started:os.Started)(H:Type)(enc:TypeId × Value ->H)(F:Stop.Interp):
  ReturnsInHanded {} Tryz.checked os 5 .any ((Rows.OpenSpec.upto Rows.termNumbersSpec).preRow enc Tryz.prog Tryz.f5 Rows.termNumbersUptoRow.domain false Rows.termNumbersUptoRow.laid) (((Rows.OpenSpec.upto Rows.termNumbersSpec).at F).post enc Tryz.prog Tryz.f5 false true false false):=by
 obtain⟨tH,hx⟩:=E9a os enc
 refine returnsInHanded_of_row (C:=Tryz.checked) (s:=Rows.OpenSpec.upto Rows.termNumbersSpec) A2q started (by kernel_rfl) Tryz.func5
  (witness_row_at (enc:=enc) (C:=Tryz.checked) false (A0m os) #[] rfl (by kernel_rfl) (by kernel_rfl) (by kernel_rfl)
    (OpenSpec.preRow_of_cond 8 hx (by kernel_rfl) (fun k hk=>by cases hk;kernel_rfl) (by kernel_rfl) (D1u os))) ?_
 intro W base args ds gs before hval hW _ hcond _ hL hsh _
 exact vQ H enc W base args ds gs before hval hW (hcond _ rfl) hL hsh
theorem A1e:Rows.TermNumbersUptoSaid:=
 OpenClaim.holds_of_cond 5 Tryz.f5 rfl rfl rfl rfl rfl rfl rfl ⟨rfl,rfl,rfl,rfl,rfl⟩ rfl rfl rfl rfl rfl (by kernel_rfl) Tryz.func5 (by kernel_rfl)
  (of_decide_eq_true (by kernel_rfl)) (by unfold Func.isWrapper;first|(rw[if_pos (by decide+kernel)];kernel_rfl)|(rw[if_neg (by decide+kernel)];exact⟨rfl,rfl⟩))
  (fun os started H enc _ F=>by rw[OpenClaim.pre_eq_preRow];exact xV os started H enc F)
theorem zL(f:FuncId)(fn:Func)(hf:Tryz.pinned.checked.prog.funcNamed "pigeonhole/pigeonholelaw02.TermNumbers" =some f)(hfn:Tryz.pinned.checked.prog.funcs[f]? =some fn):
  false=Tryz.pinned.checked.prog.looks [] /\ ∀ (j:Nat) t,fn.params[j]? =some t ->Tryz.pinned.checked.prog.wantsStandIn t=false:=by
 obtain rfl:f=5:=Option.some.inj ((show Tryz.prog.funcNamed "pigeonhole/pigeonholelaw02.TermNumbers" =some 5 by kernel_rfl).symm.trans hf)|>.symm
 obtain rfl:fn=Tryz.f5:=(Option.some.inj (Tryz.func5.symm.trans hfn)).symm
 refine⟨by kernel_rfl,fun j t ht=> ?_⟩
 rw[Tryz.params5]at ht
 simp at ht
theorem termNumbers_card:Rows.TermNumbersUptoCardSaid:=
 Claim7.holds_tied_plain_at .later [] _ _ _ _ A1e (fun _ h=>by cases h) (by kernel_rfl) (fun _ h=>by cases h) termNumbersUpto_row_tie rfl ⟨rfl,rfl⟩ (by kernel_rfl) rfl zL (by kernel_rfl)
end Go.Proofs.YtdhbdhopnpmboaaGreatDoor
