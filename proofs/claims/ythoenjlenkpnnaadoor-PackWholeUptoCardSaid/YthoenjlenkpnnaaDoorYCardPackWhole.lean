/- PackWhole holds of all bytes up to the said bulk. -/
import Derived.Test.YthoenjlenkpnnaaDoorY18
import Derived.Test.YthoenjlenkpnnaaDoorCards
import Derived.Test.YthoenjlenkpnnaaDoorTie
set_option linter.unusedVariables false
set_option linter.unusedSimpArgs false
set_option maxRecDepth 100000
namespace Go.Proofs.YthoenjlenkpnnaaDoor
open Go Go.Av Go.RowKit Go.WideShapes Go.ChangeShapes
theorem yC:ownKnob Tryd.prog.godebug=none:=by kernel_rfl
theorem pW (H:Type) (enc:TypeId × Value ->H) (W:World) (base:Nat) (args:Array Value) (ds gs:List (DataW H)) (before:List MemPlace)
  (hval:∀ (j:Nat) t v,Tryd.f4.params[j]? =some t ->args[j]? =some v ->Value.okWide Tryd.prog W .any base t v)
  (hW:DataW.Whole enc Tryd.prog Tryd.f4.params.toList Rows.packWholeSpec.vars false W args.toList ds gs before) (hcond:Rows.uptoSmall H (ds++gs)=true)
  (hL:laidMetH Tryd.prog Rows.packWholeUptoRow.laid W) (hsh:W.ShapedOpen Tryd.prog):
  Calls Tryd.prog 4 args W fun e W'=>∃ v,e= .returned v /\ Rows.packWholeSpec.post enc Tryd.prog Tryd.f4 false true false false W args v W':=by
 have hW0:=hW
 obtain⟨p,q,hA,hV,rfl,hfz,hnd⟩:=hW
 obtain⟨rfl,rfl⟩:=trodVars_none hV
 rw[Tryd.params4]at hA hval
 obtain⟨v0,d0,rfl,rfl,h0⟩:=trodAll_one hA
 skip
 obtain⟨m,hG⟩:=A3z (laid:=Rows.packWholeUptoRow.laid) hL (by simp[Rows.packWholeUptoRow,Rows.packWholeRow]) (by simp[Rows.packWholeUptoRow,Rows.packWholeRow]) (by simp[Rows.packWholeUptoRow,Rows.packWholeRow]) hsh
 obtain⟨n0,t0,r0⟩:=C1m (K:=iP W) oE (fun b o v h=>h) (by decide) (hval 0 27 v0 rfl rfl) h0
 obtain⟨a0,e0,b0⟩:=A9b n0 d0 t0
 rw[e0]at r0
 have hk:=of_decide_eq_true hcond
 simp only[List.append_nil,Rows.uptoBulkAll]at hk
 have hc:=aN.calls (yB (C5g m) (B8t m) a0) hG (vals:=[v0]) ⟨r0,trivial⟩
 refine hc.mono fun e W' ⟨he,hbl⟩=> ⟨_,he,?_⟩
 exact C0m oE (by rw[Tryd.params4];decide) rfl rfl Tryd.underlying4 rfl hW0 hbl
mutual
def C9u:DataW Unit ->List Value
 | .lit (.bool b)=> [.bool b]
 | .lit (.int k n)=> [.int k n]
 | .lit (.string s)=> [.string ⟨⟨s⟩⟩]
 | .agg parts=>C3d parts
 |_=> []
def C3d:List (DataW Unit) ->List Value
 |[]=> []
 |d::r=>C9u d++C3d r
end
def D2t(d:DataW Unit):Obj ->Obj
 | .cells _ t frozen=> .cells (C9u d).toArray t frozen
 |o=>o
def D8t(v:Value):Obj ->Obj
 | .cells _ t frozen=> .cells #[v] t frozen
 |o=>o
noncomputable def low:Nat:=(World.holding Tryd.prog default ⟨#[],#[],[]⟩).heap.size
noncomputable def sE(os:Os):World:=
 {World.holding Tryd.prog os ⟨#[],#[],[]⟩with heap:=(((((World.holding Tryd.prog os ⟨#[.cells #[.string ⟨#[98,121,116,101,115,46,66,117,102,102,101,114,58,32,116,111,111,32,108,97,114,103,101]⟩] 142],#[],[]⟩).heap.modify 1 (D8t (.iface 127 (.pointer (some ⟨low+0,0,none⟩))))).modify 3 (D2t Rows.laid_pigeonhole_lint_builtin)).modify 2 (D2t Rows.laid_pigeonhole_code_shapes)).modify 0 (D2t Rows.laid_pigeonhole_pack_fields))}
theorem C0l(os:Os):laidMet Tryd.prog Rows.packWholeRow.laid ((sE os).forCall (fun _ _=>0) ⟨#[],#[(.slice none 0 0)],[]⟩).memory:=
 laidMet_of_run' 8 (by kernel_rfl) (by kernel_rfl)
theorem D3t(os:Os){H:Type}(enc:TypeId × Value ->H):∃ gV,DataW.whole enc Tryd.prog ((sE os).forCall (fun _ _=>0) ⟨#[],#[(.slice none 0 0)],[]⟩).memory Tryd.f4.params.toList Rows.packWholeSpec.vars false #[(.slice none 0 0)].toList 8=some ([.nil],[],gV):=
 ⟨[],by kernel_rfl⟩
theorem sN(os:Os)(started:os.Started)(H:Type)(enc:TypeId × Value ->H)(F:Stop.Interp):
  ReturnsInHanded {} Tryd.checked os 4 .any ((Rows.OpenSpec.upto Rows.packWholeSpec).preRow enc Tryd.prog Tryd.f4 Rows.packWholeUptoRow.domain false Rows.packWholeUptoRow.laid) (((Rows.OpenSpec.upto Rows.packWholeSpec).at F).post enc Tryd.prog Tryd.f4 false true false false):=by
 obtain⟨gV,hx⟩:=D3t os enc
 refine returnsInHanded_of_row (C:=Tryd.checked) (s:=Rows.OpenSpec.upto Rows.packWholeSpec) yC started (by kernel_rfl) Tryd.func4
  (witness_row_at (enc:=enc) (C:=Tryd.checked) false (sE os) #[(.slice none 0 0)] rfl (by kernel_rfl) (by kernel_rfl) (by kernel_rfl)
    (OpenSpec.preRow_of_cond 8 hx (by kernel_rfl) (fun k hk=>by cases hk;kernel_rfl) (by kernel_rfl) (C0l os))) ?_
 intro W base args ds gs before hval hW _ hcond _ hL hsh _
 exact pW H enc W base args ds gs before hval hW (hcond _ rfl) hL hsh
theorem wL:Rows.PackWholeUptoSaid:=
 OpenClaim.holds_of_cond 4 Tryd.f4 rfl rfl rfl rfl rfl rfl rfl ⟨rfl,rfl,rfl,rfl,rfl⟩ rfl rfl rfl rfl rfl (by kernel_rfl) Tryd.func4 (by kernel_rfl)
  (of_decide_eq_true (by kernel_rfl)) (by unfold Func.isWrapper;first|(rw[if_pos (by decide+kernel)];kernel_rfl)|(rw[if_neg (by decide+kernel)];exact⟨rfl,rfl⟩))
  (fun os started H enc _ F=>by rw[OpenClaim.pre_eq_preRow];exact sN os started H enc F)
theorem uG(f:FuncId)(fn:Func)(hf:Tryd.pinned.checked.prog.funcNamed "pigeonhole/pigeonholelaw21.PackWhole" =some f)(hfn:Tryd.pinned.checked.prog.funcs[f]? =some fn):
  false=Tryd.pinned.checked.prog.looks [] /\ ∀ (j:Nat) t,fn.params[j]? =some t ->Tryd.pinned.checked.prog.wantsStandIn t=false:=by
 obtain rfl:f=4:=Option.some.inj ((show Tryd.prog.funcNamed "pigeonhole/pigeonholelaw21.PackWhole" =some 4 by kernel_rfl).symm.trans hf)|>.symm
 obtain rfl:fn=Tryd.f4:=(Option.some.inj (Tryd.func4.symm.trans hfn)).symm
 refine⟨by kernel_rfl,fun j t ht=> ?_⟩
 rw[Tryd.params4]at ht
 have hm:=Array.mem_of_getElem? ht
 simp only[List.mem_toArray,List.mem_cons,List.mem_nil_iff,or_false]at hm
 subst hm;exact(show Tryd.prog.wantsStandIn _=false by kernel_rfl)
theorem packWhole_card:Rows.PackWholeUptoCardSaid:=
 Claim7.holds_tied_plain_at .later [] _ _ _ _ wL (fun _ h=>by cases h) (by kernel_rfl) (fun _ h=>by cases h) packWholeUpto_row_tie rfl ⟨rfl,rfl⟩ (by kernel_rfl) rfl uG (by kernel_rfl)
end Go.Proofs.YthoenjlenkpnnaaDoor
