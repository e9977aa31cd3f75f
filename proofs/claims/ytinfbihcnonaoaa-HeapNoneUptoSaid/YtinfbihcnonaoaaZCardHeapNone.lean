/- HeapNone answers true for every term and every word whose data are together of bulk at most 1048576; the term reads afterwards as before. -/
import Derived.Test.YtinfbihcnonaoaaZ14
import Derived.LaidLaws
set_option linter.unusedVariables false
set_option linter.unusedSimpArgs false
set_option maxRecDepth 100000
namespace Go.Proofs.Ytinfbihcnonaoaa
open Go Go.Av Go.RowKit Go.WideShapes Go.ChangeShapes
def SH:List TypeId:=[34,30,4,31,87,9,3,32,5,39]
theorem sG:mK Try.prog SH=true:=by kernel_rfl
theorem wY:ownKnob Try.prog.godebug=none:=by kernel_rfl
theorem oI (H:Type) (enc:TypeId × Value ->H) (W:World) (base:Nat) (args:Array Value) (ds gs:List (DataW H)) (before:List MemPlace)
  (hval:∀ (j:Nat) t v,Try.f6.params[j]? =some t ->args[j]? =some v ->Value.okWide Try.prog W .any base t v)
  (hW:DataW.Whole enc Try.prog Try.f6.params.toList Rows.heapNoneSpec.vars false W args.toList ds gs before) (hcond:Rows.uptoSmall H (ds++gs)=true) (hsh:W.ShapedOpen Try.prog):
  Calls Try.prog 6 args W fun e W'=>∃ v,e= .returned v /\ Rows.heapNoneSpec.post enc Try.prog Try.f6 false true false false W args v W':=by
 have hW0:=hW
 obtain⟨p,q,hA,hV,rfl,hfz,hnd⟩:=hW
 obtain⟨rfl,rfl⟩:=trodVars_none hV
 rw[Try.params6]at hA hval
 obtain⟨v0,v1,d0,d1,p0,p1,hargs,rfl,rfl,h0,h1⟩:=trodAll_two hA
 obtain rfl:args= #[v0,v1]:=by cases args;simp_all
 have hG:∀ g,VR (lX W) ((fun _=>AV.undef:Nat ->AV) g) (.pointer (some ⟨g,0,none⟩)):=fun g=>VR.undef _
 obtain⟨n0,t0,r0⟩:=A0l (K:=lX W) sG (fun b o v h=>h) (by decide) (hval 0 34 v0 rfl rfl) h0
 obtain⟨n1,t1,r1⟩:=A0l (K:=lX W) sG (fun b o v h=>h) (by decide) (hval 1 39 v1 rfl rfl) h1
 obtain⟨a,ha,hab⟩:=A8f n0 d0 t0
 obtain⟨k,rfl,_⟩:=rB t1 Try.underlying39
 rw[ha]at r0
 have hk:=of_decide_eq_true hcond
 simp only[List.append_nil,Rows.uptoBulkAll]at hk
 have hc:=aN.calls (uD a k (by omega)) hG (vals:=[v0,v1]) ⟨r0,r1,trivial⟩
 refine hc.mono fun e W' ⟨he,hbl⟩=> ⟨_,he,?_⟩
 exact B3g sG (by rw[Try.params6];decide) rfl rfl Try.underlying4 rfl hW0 hbl
def A5f:Value:= .agg #[.int .u8 0, .bool false, .slice none 0 0, .string ⟨#[]⟩, .int .i64 0, .slice none 0 0, .slice none 0 0]
def D0k{H:Type} :DataW H:= .agg [.lit (.int .u8 0), .lit (.bool false), .nil, .lit (.string []), .lit (.int .i64 0), .nil, .nil]
noncomputable def pP(os:Os):World:=World.holding Try.prog os ⟨#[],#[],[]⟩
theorem B3f(os:Os):laidMet Try.prog Rows.heapNoneUptoRow.laid ((pP os).forCall (fun _ _=>0) ⟨#[],#[A5f, .int .u64 0],[]⟩).memory:=
 laidMet_of_run' 8 (by kernel_rfl) (by kernel_rfl)
theorem C6p(os:Os){H:Type}(enc:TypeId × Value ->H):∃ jR,DataW.whole enc Try.prog ((pP os).forCall (fun _ _=>0) ⟨#[],#[A5f, .int .u64 0],[]⟩).memory Try.f6.params.toList Rows.heapNoneSpec.vars false #[A5f, .int .u64 0].toList 8=some ([D0k, .lit (.int .u64 0)],[],jR):=
 ⟨[],by kernel_rfl⟩
theorem qS(os:Os)(started:os.Started)(H:Type)(enc:TypeId × Value ->H)(F:Stop.Interp):
  ReturnsInHanded {} Try.checked os 6 .any ((Rows.OpenSpec.upto Rows.heapNoneSpec).preRow enc Try.prog Try.f6 Rows.heapNoneUptoRow.domain false Rows.heapNoneUptoRow.laid) (((Rows.OpenSpec.upto Rows.heapNoneSpec).at F).post enc Try.prog Try.f6 false true false false):=by
 obtain⟨jR,hx⟩:=C6p os enc
 refine returnsInHanded_of_row (C:=Try.checked) (s:=Rows.OpenSpec.upto Rows.heapNoneSpec) wY started (by kernel_rfl) Try.func6
  (witness_row_at (enc:=enc) (C:=Try.checked) false (pP os) #[A5f, .int .u64 0] rfl (by kernel_rfl) (by kernel_rfl) (by kernel_rfl)
    (OpenSpec.preRow_of_cond 8 hx (by kernel_rfl) (fun k hk=>by cases hk;kernel_rfl) (by kernel_rfl) (B3f os))) ?_
 intro W base args ds gs before hval hW _ hcond _ hL hsh _
 exact oI H enc W base args ds gs before hval hW (hcond _ rfl) hsh
theorem heapNone_said:Rows.HeapNoneUptoSaid:=
 OpenClaim.holds_of_cond 6 Try.f6 rfl rfl rfl rfl rfl rfl rfl ⟨rfl,rfl,rfl,rfl,rfl⟩ rfl rfl rfl rfl rfl (by kernel_rfl) Try.func6 (by kernel_rfl)
  (of_decide_eq_true (by kernel_rfl)) (by unfold Func.isWrapper;first|(rw[if_pos (by decide+kernel)];kernel_rfl)|(rw[if_neg (by decide+kernel)];exact⟨rfl,rfl⟩))
  (fun os started H enc _ F=>by rw[OpenClaim.pre_eq_preRow];exact qS os started H enc F)
end Go.Proofs.Ytinfbihcnonaoaa
