/- PackBack holds of every code, bytes and place up to the said bulk. -/
import Derived.Test.YthoenjlenkpnnaaDoorZ18
import Derived.Test.YthoenjlenkpnnaaDoorCards
import Derived.Test.YthoenjlenkpnnaaDoorTie
set_option linter.unusedVariables false
set_option linter.unusedSimpArgs false
set_option maxRecDepth 100000
namespace Go.Proofs.YthoenjlenkpnnaaDoor
open Go Go.Av Go.RowKit Go.WideShapes Go.ChangeShapes
theorem A2z:ownKnob Tryd.prog.godebug=none:=by kernel_rfl
theorem sA (H:Type) (enc:TypeId × Value ->H) (W:World) (base:Nat) (args:Array Value) (ds gs:List (DataW H)) (before:List MemPlace)
  (hval:∀ (j:Nat) t v,Tryd.f3.params[j]? =some t ->args[j]? =some v ->Value.okWide Tryd.prog W .any base t v)
  (hW:DataW.Whole enc Tryd.prog Tryd.f3.params.toList Rows.packBackSpec.vars false W args.toList ds gs before) (hcond:Rows.uptoSmall H (ds++gs)=true)
  (hL:laidMetH Tryd.prog Rows.packBackUptoRow.laid W) (hsh:W.ShapedOpen Tryd.prog):
  Calls Tryd.prog 3 args W fun e W'=>∃ v,e= .returned v /\ Rows.packBackSpec.post enc Tryd.prog Tryd.f3 false true false false W args v W':=by
 have hW0:=hW
 obtain⟨p,q,hA,hV,rfl,hfz,hnd⟩:=hW
 obtain⟨rfl,rfl⟩:=trodVars_none hV
 rw[Tryd.params3]at hA hval
 obtain⟨v0,v1,v2,d0,d1,d2,p0,p1,p2,hargs,rfl,rfl,h0,h1,h2⟩:=trodAll_three hA
 obtain rfl:args= #[v0,v1,v2]:=by cases args;simp_all
 obtain⟨m,hG⟩:=A5h (laid:=Rows.packBackUptoRow.laid) hL (by simp[Rows.packBackUptoRow,Rows.packBackRow]) (by simp[Rows.packBackUptoRow,Rows.packBackRow]) (by simp[Rows.packBackUptoRow,Rows.packBackRow]) hsh
 obtain⟨n0,t0,r0⟩:=xM (K:=iL W) kV (fun b o v h=>h) (by decide) (hval 0 26 v0 rfl rfl) h0
 obtain⟨n1,t1,r1⟩:=xM (K:=iL W) kV (fun b o v h=>h) (by decide) (hval 1 27 v1 rfl rfl) h1
 obtain⟨n2,t2,r2⟩:=xM (K:=iL W) kV (fun b o v h=>h) (by decide) (hval 2 3 v2 rfl rfl) h2
 obtain⟨a0,e0,b0,q0⟩:=C3b n0 d0 t0
 obtain⟨a1,e1,b1⟩:=B0o n1 d1 t1
 obtain⟨a2,e2,b2,q2⟩:=A0e n2 d2 t2
 rw[e0]at r0
 rw[e1]at r1
 rw[e2]at r2
 have hk:=of_decide_eq_true hcond
 simp only[List.append_nil,Rows.uptoBulkAll]at hk
 have hc:=aN.calls (A2y (C6z m) (C0i m) a0 a1 a2 (by omega)) hG (vals:=[v0,v1,v2]) ⟨r0,r1,r2,trivial⟩
 refine hc.mono fun e W' ⟨he,hbl⟩=> ⟨_,he,?_⟩
 exact C2a kV (by rw[Tryd.params3];decide) rfl rfl Tryd.underlying4 rfl hW0 hbl
mutual
def D1m:DataW Unit ->List Value
 | .lit (.bool b)=> [.bool b]
 | .lit (.int k n)=> [.int k n]
 | .lit (.string s)=> [.string ⟨⟨s⟩⟩]
 | .agg parts=>C4w parts
 |_=> []
def C4w:List (DataW Unit) ->List Value
 |[]=> []
 |d::r=>D1m d++C4w r
end
def D4k(d:DataW Unit):Obj ->Obj
 | .cells _ t frozen=> .cells (D1m d).toArray t frozen
 |o=>o
def E0l(v:Value):Obj ->Obj
 | .cells _ t frozen=> .cells #[v] t frozen
 |o=>o
noncomputable def low:Nat:=(World.holding Tryd.prog default ⟨#[],#[],[]⟩).heap.size
noncomputable def tB(os:Os):World:=
 {World.holding Tryd.prog os ⟨#[],#[],[]⟩with heap:=(((((World.holding Tryd.prog os ⟨#[.cells #[.string ⟨#[98,121,116,101,115,46,66,117,102,102,101,114,58,32,116,111,111,32,108,97,114,103,101]⟩] 142],#[],[]⟩).heap.modify 1 (E0l (.iface 127 (.pointer (some ⟨low+0,0,none⟩))))).modify 3 (D4k Rows.laid_pigeonhole_lint_builtin)).modify 2 (D4k Rows.laid_pigeonhole_code_shapes)).modify 0 (D4k Rows.laid_pigeonhole_pack_fields))}
theorem C1z(os:Os):laidMet Tryd.prog Rows.packBackRow.laid ((tB os).forCall (fun _ _=>0) ⟨#[],#[(.agg #[.slice none 0 0, .slice none 0 0, .slice none 0 0]),(.slice none 0 0),(.int .i64 0)],[]⟩).memory:=
 laidMet_of_run' 8 (by kernel_rfl) (by kernel_rfl)
theorem D5m(os:Os){H:Type}(enc:TypeId × Value ->H):∃ iN,DataW.whole enc Tryd.prog ((tB os).forCall (fun _ _=>0) ⟨#[],#[(.agg #[.slice none 0 0, .slice none 0 0, .slice none 0 0]),(.slice none 0 0),(.int .i64 0)],[]⟩).memory Tryd.f3.params.toList Rows.packBackSpec.vars false #[(.agg #[.slice none 0 0, .slice none 0 0, .slice none 0 0]),(.slice none 0 0),(.int .i64 0)].toList 8=some ([.agg [.nil, .nil, .nil], .nil, .lit (.int .i64 0)],[],iN):=
 ⟨[],by kernel_rfl⟩
theorem vE(os:Os)(started:os.Started)(H:Type)(enc:TypeId × Value ->H)(F:Stop.Interp):
  ReturnsInHanded {} Tryd.checked os 3 .any ((Rows.OpenSpec.upto Rows.packBackSpec).preRow enc Tryd.prog Tryd.f3 Rows.packBackUptoRow.domain false Rows.packBackUptoRow.laid) (((Rows.OpenSpec.upto Rows.packBackSpec).at F).post enc Tryd.prog Tryd.f3 false true false false):=by
 obtain⟨iN,hx⟩:=D5m os enc
 refine returnsInHanded_of_row (C:=Tryd.checked) (s:=Rows.OpenSpec.upto Rows.packBackSpec) A2z started (by kernel_rfl) Tryd.func3
  (witness_row_at (enc:=enc) (C:=Tryd.checked) false (tB os) #[(.agg #[.slice none 0 0, .slice none 0 0, .slice none 0 0]),(.slice none 0 0),(.int .i64 0)] rfl (by kernel_rfl) (by kernel_rfl) (by kernel_rfl)
    (OpenSpec.preRow_of_cond 8 hx (by kernel_rfl) (fun k hk=>by cases hk;kernel_rfl) (by kernel_rfl) (C1z os))) ?_
 intro W base args ds gs before hval hW _ hcond _ hL hsh _
 exact sA H enc W base args ds gs before hval hW (hcond _ rfl) hL hsh
theorem zC:Rows.PackBackUptoSaid:=
 OpenClaim.holds_of_cond 3 Tryd.f3 rfl rfl rfl rfl rfl rfl rfl ⟨rfl,rfl,rfl,rfl,rfl⟩ rfl rfl rfl rfl rfl (by kernel_rfl) Tryd.func3 (by kernel_rfl)
  (of_decide_eq_true (by kernel_rfl)) (by unfold Func.isWrapper;first|(rw[if_pos (by decide+kernel)];kernel_rfl)|(rw[if_neg (by decide+kernel)];exact⟨rfl,rfl⟩))
  (fun os started H enc _ F=>by rw[OpenClaim.pre_eq_preRow];exact vE os started H enc F)
theorem xJ(f:FuncId)(fn:Func)(hf:Tryd.pinned.checked.prog.funcNamed "pigeonhole/pigeonholelaw21.PackBack" =some f)(hfn:Tryd.pinned.checked.prog.funcs[f]? =some fn):
  false=Tryd.pinned.checked.prog.looks [] /\ ∀ (j:Nat) t,fn.params[j]? =some t ->Tryd.pinned.checked.prog.wantsStandIn t=false:=by
 obtain rfl:f=3:=Option.some.inj ((show Tryd.prog.funcNamed "pigeonhole/pigeonholelaw21.PackBack" =some 3 by kernel_rfl).symm.trans hf)|>.symm
 obtain rfl:fn=Tryd.f3:=(Option.some.inj (Tryd.func3.symm.trans hfn)).symm
 refine⟨by kernel_rfl,fun j t ht=> ?_⟩
 rw[Tryd.params3]at ht
 have hm:=Array.mem_of_getElem? ht
 simp only[List.mem_toArray,List.mem_cons,List.mem_nil_iff,or_false]at hm
 rcases hm with rfl|rfl|rfl <;>exact(show Tryd.prog.wantsStandIn _=false by kernel_rfl)
theorem packBack_card:Rows.PackBackUptoCardSaid:=
 Claim7.holds_tied_plain_at .later [] _ _ _ _ zC (fun _ h=>by cases h) (by kernel_rfl) (fun _ h=>by cases h) packBackUpto_row_tie rfl ⟨rfl,rfl⟩ (by kernel_rfl) rfl xJ (by kernel_rfl)
end Go.Proofs.YthoenjlenkpnnaaDoor
