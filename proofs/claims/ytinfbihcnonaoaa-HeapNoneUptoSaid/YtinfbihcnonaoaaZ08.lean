/- Atoms: none, a text's number, a number's text. -/
import Derived.Test.YtinfbihcnonaoaaZ07
import Derived.RangeFuncBox
import Derived.RangeFuncLeaves
import Derived.Shelf.Abstract
import Derived.WalkKit
import Derived.OwnWalkIn
import Derived.TacticsInMore
import Derived.LoopNIn
import Derived.LoopIn
import Derived.ProofKit
import Derived.OpenShut
import Derived.Deep.DeepHandedRow
import Derived.Below
import Derived.ChangeSame
import Derived.DataShut
import Derived.HandedShaped
set_option linter.unusedVariables false
set_option linter.unusedSimpArgs false
set_option maxRecDepth 20000
set_option linter.defProp false
namespace Go.Proofs.Ytinfbihcnonaoaa
open Go Go.Av
def A5a:=And.intro (And.intro (And.intro (And.intro @jN @rA) (And.intro @kI @gT)) (And.intro (And.intro @eC @kJ) (And.intro @jO (And.intro @gX @gC)))) (And.intro (And.intro (And.intro @gY @fP) (And.intro @jF @jC)) (And.intro (And.intro @jE @jD) (And.intro @cQ (And.intro @cP @cD))))
variable {G:Nat ->AV}
structure AtS(σ0 σ:AS)(ab mb:Nat)(o:Option Nat)(X:AV)(l:List (List UInt8)):Prop where
 le:σ0.le σ
 box:σ.box ab=some [.raw (.map (some mb)),X]
 b0:σ0.box ab=none
 ty:∃ k,σ.ty mb=some (.ob (.map (sB l)),k)
 m0:σ0.ty mb=none
 row:Rw σ0.tip σ.tip o X (l.map AV.str)
def qR(s:List UInt8)(l:List (List UInt8)):Nat:=(oD s l 0).getD l.length
def oC(s:List UInt8)(l:List (List UInt8)):List (List UInt8):=if(oD s l 0).isSome then l else l++[s]
theorem D1o:eI Try.prog 71=some (9,1,16):=gY.2.2.2.2.2.2
theorem A0p:el Try.prog 71=some 9:=gY.2.2.2.1
set_option maxHeartbeats 1000000 in
theorem oO(σ:AS):aH Try.prog G 10 [] σ fun r s=>∃ ab mb,r= .ptr ab 0 /\ AtS σ s ab mb none .nil []:=by
 refine aH.of_awp aG Try.func10 rfl (by kernel_rfl) (by kernel_rfl) (by simp[Try.ntmps10]) Try.results10 ?_
 repeat'(first|refine xs ?_ ?_ <;>intros|(refine wn ?_;intro bx hbx;try simp only[fb]at hbx)|refine bE ?_|(refine aB ?_;intro bx hbx;(try simp only[fb]at hbx))|refine aD ?_|((with_reducible refine And.intro ?_ ?_);omega)|refine aA (d':=⟨⟩) ?_|refine bG (by kernel_rfl) ?_|refine bD ?_ (by repeat' first|exact lr _|assumption|refine ls ?_ ?_|refine lt ?_ ?_|simp only[*];done|simp only[fb, *,not_false_eq_true,and_self];done|exact lf ‹_› (by simp only[*]))|refine aC ?_ (by repeat' first|exact lr _|assumption|refine ls ?_ ?_|refine lt ?_ ?_|simp only[*];done|simp only[fb, *,not_false_eq_true,and_self];done|exact lf ‹_› (by simp only[*]))|simp -dsimp only[↓bp,bq,br,seval,A5a, *]|refine wz ?_|fail)
 rename_i b hb
 obtain⟨hx1,hne,hne2⟩:=hbx
 refine⟨_,_,rfl,AS.le.refl _,bx,b,rfl,(((AS.le.refl σ).setTy hb.2.2 _).setBox hx1.1 _),AS.set_get,hx1.1,⟨0,?_⟩,hb.2.2, .nil⟩
 simp[AS.setBox,AS.setTy,sB]
set_option maxHeartbeats 1000000 in
theorem A3p{σ0 σ:AS}{ab mb:Nat}{o:Option Nat}{X:AV}{l:List (List UInt8)}(h:AtS σ0 σ ab mb o X l){s:List UInt8}{j:Nat}(hix:oD s l 0=some j):aH Try.prog G 35 [.ptr ab 0, .str s] σ fun r s'=>r= .int .i64 j /\ s'=σ:=by
 obtain⟨hle,hbx,hb0,⟨k,hty⟩,hm0,hrow⟩:=h
 have hf:=zI s l
 rw[hix]at hf
 simp only[Option.map_some]at hf
 clear hle hb0 hm0 hrow hix
 have q1:nU Try.prog .eql 70 (.raw (.map (some mb)))=some (.bool false):=mG fP.2.1
 have q2:gL Try.prog σ 70 (.raw (.map (some mb))) (.str s) true=some (.tup [.int .i64 j, .bool true]):=by rw[A3l fP.2.1 jO.2.1 fP.2.2.2.2.2.2 hty,hf];rfl
 clear hf hty
 refine aH.of_awp aG Try.func35 rfl (by kernel_rfl) (by kernel_rfl) (by simp[Try.ntmps35]) Try.results35 ?_
 repeat'(first|refine xs ?_ ?_ <;>intros|(refine wn ?_;intro bx hbx;try simp only[fb]at hbx)|refine bE ?_|(refine aB ?_;intro bx hbx;(try simp only[fb]at hbx))|refine aD ?_|((with_reducible refine And.intro ?_ ?_);omega)|refine aA (d':=⟨⟩) ?_|refine bG (by kernel_rfl) ?_|refine bD ?_ (by repeat' first|exact lr _|assumption|refine ls ?_ ?_|refine lt ?_ ?_|simp only[*];done|simp only[fb, *,not_false_eq_true,and_self];done|exact lf ‹_› (by simp only[*]))|refine aC ?_ (by repeat' first|exact lr _|assumption|refine ls ?_ ?_|refine lt ?_ ?_|simp only[*];done|simp only[fb, *,not_false_eq_true,and_self];done|exact lf ‹_› (by simp only[*]))|simp -dsimp only[↓bp,bq,br,seval,A5a,q1,q2, *]|refine wz ?_|fail)
 all_goals skip
set_option maxHeartbeats 1000000 in
theorem A3q{σ0 σ:AS}{ab mb:Nat}{o:Option Nat}{X:AV}{l:List (List UInt8)}(h:AtS σ0 σ ab mb o X l){s:List UInt8}(hix:oD s l 0=none)(hs:s.length <=40)(hl:l.length <=1048576):
  aH Try.prog G 35 [.ptr ab 0, .str s] σ fun r s'=>r= .int .i64 l.length /\ ∃ o' X',AtS σ0 s' ab mb o' X' (l++[s]):=by
 obtain⟨hle,hbx,hb0,⟨k,hty⟩,hm0,hrow⟩:=h
 have hf:=zI s l
 rw[hix]at hf
 simp only[Option.map_none]at hf
 have c1:((40:Int) < s.length)=False:=eq_false (by omega)
 have c2:((1048576:Int) < l.length)=False:=eq_false (by omega)
 have hln:=hrow.len (P:=Try.prog) (ty:=71)
 rw[A0p]at hln
 simp only[List.length_map,Option.isSome_some,if_true]at hln
 have q1:nU Try.prog .eql 70 (.raw (.map (some mb)))=some (.bool false):=mG fP.2.1
 have q2:gL Try.prog σ 70 (.raw (.map (some mb))) (.str s) true=some (.tup [.int .i64 0, .bool false]):=by rw[A3l fP.2.1 jO.2.1 fP.2.2.2.2.2.2 hty,hf];rfl
 have q3:∀ v,A2e Try.prog σ 70 (.raw (.map (some mb))) (.str s) v=some (σ.setTy mb (.ob (.map (sB l++[(.str s,v)])),k)):=fun v=>B5x fP.2.1 jO.2.1 hty hf
 refine aH.of_awp aG Try.func35 rfl (by kernel_rfl) (by kernel_rfl) (by simp[Try.ntmps35]) Try.results35 ?_
 repeat'(first|refine xs ?_ ?_ <;>intros|(refine wn ?_;intro bx hbx;try simp only[fb]at hbx)|(refine sI 10 (by kernel_rfl) rfl rfl ?_)|((refine wD hrow rfl (hle.setTy hm0 _) D1o (iC A0p) (fun a ha=>by simp at ha;subst ha;exact⟨rfl,rfl⟩) (by simp only[List.length_map,List.length_cons,List.length_nil];omega) (fun v2 σ2 o2 hR hC=> ?_);have hb2:σ2.box ab=some [.raw (.map (some mb)),X]:=(congrFun hC.box ab).trans hbx;have hi2:=hR.isv;have hfl2:=hR.flat;have ho2:=hR.one;have hln2:=hR.len (P:=Try.prog) (ty:=71);rw[A0p]at hln2;simp only[List.length_append,List.length_map,List.length_cons,List.length_nil,Option.isSome_some,if_true]at hln2))|refine bE ?_|(refine aB ?_;intro bx hbx;(try simp only[fb]at hbx))|refine aD ?_|((with_reducible refine And.intro ?_ ?_);omega)|refine aA (d':=⟨⟩) ?_|refine bG (by kernel_rfl) ?_|refine bD ?_ (by repeat' first|exact lr _|assumption|refine ls ?_ ?_|refine lt ?_ ?_|simp only[*];done|simp only[fb, *,not_false_eq_true,and_self];done|exact lf ‹_› (by simp only[*]))|refine aC ?_ (by repeat' first|exact lr _|assumption|refine ls ?_ ?_|refine lt ?_ ?_|simp only[*];done|simp only[fb, *,not_false_eq_true,and_self];done|exact lf ‹_› (by simp only[*]))|simp -dsimp only[↓bp,bq,br,seval,A5a,q1,q2,q3,hln, *]|refine wz ?_|fail)
 have hw:IntKind.i64.wrap (((l.length+1:Nat):Int) - 1)=(l.length:Int):=by
  have:(((l.length+1:Nat):Int) - 1)=(l.length:Int):=by omega
  rw[this,aF (by omega) (by omega)]
 rw[hw]
 have hle2:=hC.le (hle.setTy hm0 (.ob (.map (sB l++[(.str s, .int .i64 l.length)])),k)) hrow.free
 refine⟨_,_,rfl,AS.le.refl _,rfl,o2,v2,hle2.setBox hb0 _,AS.set_get,hb0,⟨k,?_⟩,hm0,?_⟩
 ·rw[A5y]
  show(σ2.setBox ab _).ty mb=_
  have:(σ2.setBox ab [.raw (.map (some mb)),v2]).ty=σ2.ty:=rfl
  rw[this,hC.ty]
  simp[AS.setTy]
 ·rw[List.map_append];exact hR
theorem nL{σ0 σ:AS}{ab mb:Nat}{o:Option Nat}{X:AV}{l:List (List UInt8)}(h:AtS σ0 σ ab mb o X l){s:List UInt8}(hs:s.length <=40)(hl:l.length <=1048576):
  aH Try.prog G 35 [.ptr ab 0, .str s] σ fun r s'=>r= .int .i64 (qR s l) /\ ∃ o' X',AtS σ0 s' ab mb o' X' (oC s l):=by
 cases hix:oD s l 0 with
 | some j=>
  refine(A3p h hix).mono ?_
  rintro r s' ⟨rfl,rfl⟩
  refine⟨by unfold qR;rw[hix];rfl,o,X,?_⟩
  unfold oC;rw[hix];exact h
 | none=>
  refine(A3q h hix hs hl).mono ?_
  rintro r s' ⟨rfl,h2⟩
  refine⟨by unfold qR;rw[hix];rfl,?_⟩
  unfold oC;rw[hix];exact h2
theorem B0z(l:List (List UInt8))(j:Nat):(l.map AV.str)[j]? =(l[j]?).map AV.str:=by simp
set_option maxHeartbeats 1000000 in
theorem A2b{σ0 σ:AS}{ab mb:Nat}{o:Option Nat}{X:AV}{l:List (List UInt8)}(h:AtS σ0 σ ab mb o X l){j:Nat}{s:List UInt8}(hj:l[j]? =some s):aH Try.prog G 68 [.ptr ab 0, .int .i64 j] σ fun r s'=>r= .tup [.str s, .bool true] /\ s'=σ:=by
 obtain⟨hle,hbx,hb0,⟨k,hty⟩,hm0,hrow⟩:=h
 have hlt:=(List.getElem?_eq_some_iff.1 hj).1
 have c1:((j:Int) < 0)=False:=eq_false (by omega)
 have c2:((l.length:Int) <=(j:Int))=False:=eq_false (by omega)
 have hln:=hrow.len (P:=Try.prog) (ty:=71)
 rw[A0p]at hln
 simp only[List.length_map,Option.isSome_some,if_true]at hln
 have hq:cR Try.prog 71 X (.int .i64 j)=some (.rp [.str s]):=hrow.ix (by omega) (x:= .str s) (by rw[B0z,Int.toNat_natCast,hj];rfl) (ag:=false) (by rw[A0p];exact jO.1)
 refine aH.of_awp aG Try.func68 rfl (by kernel_rfl) (by kernel_rfl) (by simp[Try.ntmps68]) Try.results68 ?_
 repeat'(first|refine xs ?_ ?_ <;>intros|(refine wn ?_;intro bx hbx;try simp only[fb]at hbx)|refine bE ?_|(refine aB ?_;intro bx hbx;(try simp only[fb]at hbx))|refine aD ?_|((with_reducible refine And.intro ?_ ?_);omega)|refine aA (d':=⟨⟩) ?_|refine bG (by kernel_rfl) ?_|refine bD ?_ (by repeat' first|exact lr _|assumption|refine ls ?_ ?_|refine lt ?_ ?_|simp only[*];done|simp only[fb, *,not_false_eq_true,and_self];done|exact lf ‹_› (by simp only[*]))|refine aC ?_ (by repeat' first|exact lr _|assumption|refine ls ?_ ?_|refine lt ?_ ?_|simp only[*];done|simp only[fb, *,not_false_eq_true,and_self];done|exact lf ‹_› (by simp only[*]))|simp -dsimp only[↓bp,bq,br,seval,A5a,hln,hq, *]|refine wz ?_|fail)
 all_goals skip
end Go.Proofs.Ytinfbihcnonaoaa
set_option maxRecDepth 20000
namespace Go.Proofs.Ytinfbihcnonaoaa
open Go Go.Av
def B5m:=And.intro (And.intro (And.intro (And.intro @jN @rA) (And.intro @kI @gT)) (And.intro (And.intro @eC @kJ) (And.intro @jO (And.intro @gX @gC)))) (And.intro (And.intro (And.intro @gY @fP) (And.intro @jF @jC)) (And.intro (And.intro @jE @jD) (And.intro @cQ (And.intro @cP @cD))))
variable {G:Nat ->AV}
structure PH where
 words:List Int
 tags:List Int
 atoms:List (List UInt8)
 room:Int
def PH.lay(p:PH)(tag:Int)(l:List Int):PH:= {p with words:=p.words++l,tags:=p.tags++tag::List.replicate (l.length - 1) 0}
structure HpF(σ0 σ:AS)(hb ab mb:Nat)(oX oW oT:Option Nat)(X W T:AV)(p:PH):Prop where
 le:σ0.le σ
 hbx:σ.box hb=some [.ptr ab 0,W,T, .int .i64 p.room, .int .i64 0]
 abx:σ.box ab=some [.raw (.map (some mb)),X]
 h0:σ0.box hb=none
 a0:σ0.box ab=none
 ne:hb ≠ ab
 ty:∃ k,σ.ty mb=some (.ob (.map (sB p.atoms)),k)
 m0:σ0.ty mb=none
 rX:Rw σ0.tip σ.tip oX X (p.atoms.map AV.str)
 rW:Rw σ0.tip σ.tip oW W (p.words.map eR)
 rT:Rw σ0.tip σ.tip oT T (p.tags.map fun x=> .int .i64 x)
 d1:dj oX oW
 d2:dj oX oT
 d3:dj oW oT
 tl:p.tags.length=p.words.length
 room: -1048576 <=p.room /\ p.room <=1048576
theorem C5w:eI Try.prog 50=some (39,1,8):=gX.2.2.2.2.2.2
theorem qJ:el Try.prog 50=some 39:=gX.2.2.2.1
theorem C9p:eI Try.prog 35=some (3,1,8):=gC.2.2.2.2.2.2
theorem B4t:el Try.prog 35=some 3:=gC.2.2.2.1
def dU(tag n:Int):Int:=if iH tag n=true then xX tag n else 0
theorem B3s{tag n:Int}(h:iH tag n=true):dU tag n=xX tag n:=if_pos h
set_option maxHeartbeats 1000000 in
theorem iT(tag n:Int)(h0:0 <=tag)(h1:tag < 8):aN Try.prog G 52 [.int .i64 tag, .int .i64 n] (.int .u64 (dU tag n)):=by
 intro σ
 have hm:=uX (G:=G) tag n h0 h1
 unfold mkV at hm
 unfold dU
 cases hk:iH tag n with
 | true=>
  rw[if_pos hk]at hm
  rw[if_pos rfl]
  clear hk
  refine aH.of_awp aG Try.func52 rfl (by kernel_rfl) (by kernel_rfl) (by simp[Try.ntmps52]) Try.results52 ?_
  repeat'(first|refine xs ?_ ?_ <;>intros|(refine wn ?_;intro bx hbx;try simp only[fb]at hbx)|refine wp hm ?_|refine bE ?_|(refine aB ?_;intro bx hbx;(try simp only[fb]at hbx))|refine aD ?_|((with_reducible refine And.intro ?_ ?_);omega)|refine aA (d':=⟨⟩) ?_|refine bG (by kernel_rfl) ?_|refine bD ?_ (by repeat' first|exact lr _|assumption|refine ls ?_ ?_|refine lt ?_ ?_|simp only[*];done|simp only[fb, *,not_false_eq_true,and_self];done|exact lf ‹_› (by simp only[*]))|refine aC ?_ (by repeat' first|exact lr _|assumption|refine ls ?_ ?_|refine lt ?_ ?_|simp only[*];done|simp only[fb, *,not_false_eq_true,and_self];done|exact lf ‹_› (by simp only[*]))|simp -dsimp only[↓bp,bq,br,seval,B5m, *]|refine wz ?_|fail)
  all_goals skip
 | false=>
  rw[if_neg (by rw[hk];decide)]at hm
  rw[if_neg (by decide)]
  clear hk
  refine aH.of_awp aG Try.func52 rfl (by kernel_rfl) (by kernel_rfl) (by simp[Try.ntmps52]) Try.results52 ?_
  repeat'(first|refine xs ?_ ?_ <;>intros|(refine wn ?_;intro bx hbx;try simp only[fb]at hbx)|refine wp hm ?_|refine bE ?_|(refine aB ?_;intro bx hbx;(try simp only[fb]at hbx))|refine aD ?_|((with_reducible refine And.intro ?_ ?_);omega)|refine aA (d':=⟨⟩) ?_|refine bG (by kernel_rfl) ?_|refine bD ?_ (by repeat' first|exact lr _|assumption|refine ls ?_ ?_|refine lt ?_ ?_|simp only[*];done|simp only[fb, *,not_false_eq_true,and_self];done|exact lf ‹_› (by simp only[*]))|refine aC ?_ (by repeat' first|exact lr _|assumption|refine ls ?_ ?_|refine lt ?_ ?_|simp only[*];done|simp only[fb, *,not_false_eq_true,and_self];done|exact lf ‹_› (by simp only[*]))|simp -dsimp only[↓bp,bq,br,seval,B5m, *]|refine wz ?_|fail)
  all_goals skip
theorem C7y(kind size:Int)(h0:0 <=kind)(h1:kind < 32)(h2:0 <=size)(h3:size <=1048576):IntKind.u64.wrap ↑(BitVec.ofInt IntKind.u64.bits (IntKind.u64.wrap (IntKind.u64.wrap size*2 ^ min 8 IntKind.u64.bits))|||BitVec.ofInt IntKind.u64.bits (IntKind.u64.wrap (IntKind.u64.wrap kind*2 ^ min 3 IntKind.u64.bits))).toNat=wZ kind size:=by
 have e0:(2:Int) ^ min 3 IntKind.u64.bits=8:=rfl
 have e1:(2:Int) ^ min 8 IntKind.u64.bits=256:=rfl
 rw[e0,e1]
 have e2:IntKind.u64.wrap (IntKind.u64.wrap size*256)=size*256:=by rw[lC,lC];omega
 have e3:IntKind.u64.wrap (IntKind.u64.wrap kind*8)=kind*8:=by rw[lC,lC];omega
 rw[e2,e3,xP _ (kind*8) 8 (by decide) (by omega) (by omega) (by omega) ⟨size.toNat,by omega,by omega⟩]
 rfl
set_option maxHeartbeats 1000000 in
theorem uU(kind size:Int)(h0:1 <=kind)(h1:kind <=3)(h2:0 <=size)(h3:size <=1048576):aN Try.prog G 79 [.int .i64 kind, .int .i64 size] (.tup [.int .u64 (wZ kind size), .bool true]):=by
 intro σ
 have hor:=C7y kind size (by omega) (by omega) h2 h3
 have c1:(kind < 1)=False:=eq_false (by omega)
 have c2:(3 < kind)=False:=eq_false (by omega)
 have c3:(size < 0)=False:=eq_false (by omega)
 have c4:(1048576 < size)=False:=eq_false (by omega)
 clear h0 h1 h2 h3
 refine aH.of_awp aG Try.func79 rfl (by kernel_rfl) (by kernel_rfl) (by simp[Try.ntmps79]) Try.results79 ?_
 repeat'(first|refine xs ?_ ?_ <;>intros|(refine wn ?_;intro bx hbx;try simp only[fb]at hbx)|refine bE ?_|(refine aB ?_;intro bx hbx;(try simp only[fb]at hbx))|refine aD ?_|((with_reducible refine And.intro ?_ ?_);omega)|refine aA (d':=⟨⟩) ?_|refine bG (by kernel_rfl) ?_|refine bD ?_ (by repeat' first|exact lr _|assumption|refine ls ?_ ?_|refine lt ?_ ?_|simp only[*];done|simp only[fb, *,not_false_eq_true,and_self];done|exact lf ‹_› (by simp only[*]))|refine aC ?_ (by repeat' first|exact lr _|assumption|refine ls ?_ ?_|refine lt ?_ ?_|simp only[*];done|simp only[fb, *,not_false_eq_true,and_self];done|exact lf ‹_› (by simp only[*]))|simp -dsimp only[↓bp,bq,br,seval,B5m,hor, *]|refine wz ?_|fail)
 all_goals skip
theorem B8u(l:List Int):∀ a,a ∈ l.map (fun x=>AV.int .i64 x) -> (flat a).length=1 /\ isv a=true:=fun a ha=>by
 obtain⟨x,_,rfl⟩:=List.mem_map.1 ha;exact⟨rfl,rfl⟩
theorem xV(l:List Int):∀ a,a ∈ l.map eR -> (flat a).length=1 /\ isv a=true:=fun a ha=>by
 obtain⟨x,_,rfl⟩:=List.mem_map.1 ha;exact⟨rfl,rfl⟩
end Go.Proofs.Ytinfbihcnonaoaa
set_option maxRecDepth 20000
namespace Go.Proofs.Ytinfbihcnonaoaa
open Go Go.Av
def C9z:=And.intro (And.intro (And.intro (And.intro @jN @rA) (And.intro @kI @gT)) (And.intro (And.intro @eC @kJ) (And.intro @jO (And.intro @gX @gC)))) (And.intro (And.intro (And.intro @gY @fP) (And.intro @jF @jC)) (And.intro (And.intro @jE @jD) (And.intro @cQ (And.intro @cP @cD))))
variable {G:Nat ->AV}
theorem Chg.keepW{σ σ':AS}{o o' o2:Option Nat}(h:Chg σ o σ' o')(hd:dj o o2){t0:Nat ->Option (Nat × Nat)}{v:AV}{xs:List AV}(hr:Rw t0 σ.tip o2 v xs):Rw t0 σ'.tip o2 v xs:=
 hr.keep hr.free fun b x hb hx=>h.tip b x (fun e=>hd b e hb) hx
theorem Chg.djR{σ σ':AS}{o o' o2:Option Nat}(h:Chg σ o σ' o')(hd:dj o o2){t0:Nat ->Option (Nat × Nat)}{v:AV}{xs:List AV}(hr:Rw t0 σ.tip o2 v xs):dj o' o2:=
 h.sep (x:=(0,0)) hd fun b hb=> ⟨_,hr.tip b hb⟩
set_option maxHeartbeats 2000000 in
theorem A4r{σ0 σ:AS}{hb ab mb:Nat}{oX oW oT:Option Nat}{X W T:AV}{p:PH}(h:HpF σ0 σ hb ab mb oX oW oT X W T p)(tag:Int)(l:List Int)(hl:0 < l.length)(hbd:p.words.length+l.length <=2000000):
  aH Try.prog G 53 [.ptr hb 0, .int .i64 tag, .sl .none (l.map eR) []] σ fun r s=>r= .int .i64 p.words.length /\ ∃ oW' oT' W' T',HpF σ0 s hb ab mb oX oW' oT' X W' T' (p.lay tag l):=by
 obtain⟨hle,hbx,abx,h0,a0,hne,⟨k,hty⟩,m0,rX,rW,rT,d1,d2,d3,tl,hroom⟩:=h
 have hlW:=rW.len (P:=Try.prog) (ty:=50)
 rw[qJ]at hlW
 simp only[List.length_map,Option.isSome_some,if_true]at hlW
 have hlm:(l.map eR).length=l.length:=by simp
 have hw1:IntKind.i64.wrap ((l.length:Int) - 1)=(l.length:Int) - 1:=aF (by omega) (by omega)
 have hiT:=rT.isv
 refine aH.of_awp aG Try.func53 rfl (by kernel_rfl) (by kernel_rfl) (by simp[Try.ntmps53]) Try.results53 ?_
 repeat'(first|refine xs ?_ ?_ <;>intros|(refine wn ?_;intro bx hbx;try simp only[fb]at hbx)|((refine wD rW rfl hle C5w (iC qJ) (xV l) (by simp only[List.length_map];omega) (fun W2 σ2 oW2 hR2 hC2=> ?_);have hb2:σ2.box hb=some [.ptr ab 0,W,T, .int .i64 p.room, .int .i64 0]:=(congrFun hC2.box hb).trans hbx;have hi2:=hR2.isv;have hf2:=hR2.flat;have hle2:=hC2.le hle rW.free;have rT2:=hC2.keepW d3 rT;have rX2:=hC2.keepW d1.symm rX;have e3:=hC2.djR d3 rT;have e1:=(hC2.djR d1.symm rX).symm;have ha2:σ2.box ab=some [.raw (.map (some mb)),X]:=(congrFun hC2.box ab).trans abx;have ty2:=hC2.ty;clear hC2))|((refine wD rT2 rfl (hle2.setBox h0 _) C9p (iC B4t) (B8u [tag]) (by simp only[List.length_map,List.length_cons,List.length_nil];omega) (fun T2 σ4 oT2 hR4 hC4=> ?_);have hb4:σ4.box hb=some [.ptr ab 0,W2,T, .int .i64 p.room, .int .i64 0]:=(congrFun hC4.box hb).trans AS.set_get;have hi4:=hR4.isv;have hf4:=hR4.flat;have hle4:=hC4.le (hle2.setBox h0 _) rT2.free;have rW4:=hC4.keepW e3.symm hR2;have rX4:=hC4.keepW d2.symm rX2;have e4:=hC4.djR e3.symm hR2;have e5:=hC4.djR d2.symm rX2;have ha4:σ4.box ab=some [.raw (.map (some mb)),X]:=(congrFun hC4.box ab).trans ((if_neg (Ne.symm hne)).trans ha2);have ty4:σ4.ty=σ.ty:=hC4.ty.trans ty2;clear hC4))|((refine B6r hR4 (by simp) rfl (hle4.setBox h0 _) C9p jN.2.1 jN.2.2.2.2.1 rfl (by omega) (by simp only[List.length_append,List.length_map,List.length_cons,List.length_nil];omega) (fun T3 σ6 oT3 hR6 hC6=> ?_);have hb6:σ6.box hb=some [.ptr ab 0,W2,T2, .int .i64 p.room, .int .i64 0]:=(congrFun hC6.box hb).trans AS.set_get;have hi6:=hR6.isv;have hf6:=hR6.flat;have hle6:=hC6.le (hle4.setBox h0 _) hR4.free;have rW6:=hC6.keepW e4 rW4;have rX6:=hC6.keepW e5 rX4;have e6:=hC6.djR e4 rW4;have e7:=hC6.djR e5 rX4;have ha6:σ6.box ab=some [.raw (.map (some mb)),X]:=(congrFun hC6.box ab).trans ((if_neg (Ne.symm hne)).trans ha4);have ty6:σ6.ty=σ.ty:=hC6.ty.trans ty4;clear hC6))|refine bE ?_|(refine aB ?_;intro bx hbx;(try simp only[fb]at hbx))|refine aD ?_|((with_reducible refine And.intro ?_ ?_);omega)|refine aA (d':=⟨⟩) ?_|refine bG (by kernel_rfl) ?_|refine bD ?_ (by repeat' first|exact lr _|assumption|refine ls ?_ ?_|refine lt ?_ ?_|simp only[*];done|simp only[fb, *,not_false_eq_true,and_self];done|exact lf ‹_› (by simp only[*]))|refine aC ?_ (by repeat' first|exact lr _|assumption|refine ls ?_ ?_|refine lt ?_ ?_|simp only[*];done|simp only[fb, *,not_false_eq_true,and_self];done|exact lf ‹_› (by simp only[*]))|simp -dsimp only[↓bp,bq,br,seval,C9z,hlW,hlm,hw1, *]|refine wz ?_|fail)
 refine⟨_,_,rfl,AS.le.refl _,rfl,oW2,oT3,W2,T3,hle6.setBox h0 _,AS.set_get,?_,h0,a0,hne,⟨k,?_⟩,m0,rX6,?_,?_,e1,e7.symm,e6.symm,?_,hroom⟩
 ·exact(if_neg (Ne.symm hne)).trans ha6
 ·show σ6.ty mb=_
  rw[ty6];exact hty
 ·show Rw σ0.tip σ6.tip oW2 W2 ((p.words++l).map eR)
  rw[List.map_append];exact rW6
 ·show Rw σ0.tip σ6.tip oT3 T3 ((p.tags++tag::List.replicate (l.length - 1) 0).map fun x=> .int .i64 x)
  have:((p.tags++tag::List.replicate (l.length - 1) 0).map fun x=>AV.int .i64 x)=(p.tags.map (fun x=>AV.int .i64 x)++[AV.int .i64 tag])++List.replicate ((l.length:Int) - 1).toNat (.int .i64 0):=by
   have e:((l.length:Int) - 1).toNat=l.length - 1:=by omega
   rw[e];simp
  rw[this];exact hR6
 ·show(p.tags++tag::List.replicate (l.length - 1) 0).length=(p.words++l).length
  simp;omega
end Go.Proofs.Ytinfbihcnonaoaa
set_option maxRecDepth 20000
namespace Go.Proofs.Ytinfbihcnonaoaa
open Go Go.Av
def D0a:=And.intro (And.intro (And.intro (And.intro @jN @rA) (And.intro @kI @gT)) (And.intro (And.intro @eC @kJ) (And.intro @jO (And.intro @gX @gC)))) (And.intro (And.intro (And.intro @gY @fP) (And.intro @jF @jC)) (And.intro (And.intro @jE @jD) (And.intro @cQ (And.intro @cP @cD))))
variable {G:Nat ->AV}
theorem B6q {P:Program} {n cM:Nat} {σ:AS} {x:AV} {xs ys:List AV} {t tx e:TypeId} {K:AV ->AS ->Prop} {d:Dum σ} {d':Dum K} (hxs:∀ a,a ∈ xs -> (Av.flat a).length=n) (he:eI P t=some (e,n,cM)) (hs:nB P tx x=some ys) (hys:∀ a,a ∈ ys -> (Av.flat a).length=n)
  (hb:(xs.length+ys.length)*cM <=140737488355328) (hK:∀ g σ' o',Chg σ none σ' o' ->K (.sl g (xs++ys) []) σ'):A1x P σ t tx (.sl .full xs []) x K d d':=by
 refine .inl ?_
 unfold gK
 rw[he,hs]
 refine⟨hys,hxs,hb,fun hy=> ?_,fun hy b hf=> ?_⟩
 ·subst hy
  have:=hK .full σ none ⟨rfl,rfl,fun _ _ _ h=>h,fun c hc=>by cases hc⟩
  simpa using this
 ·refine hK (.own b) _ (some b) ⟨rfl,rfl,fun c x _ hc=> ?_,fun c hc=>by cases hc;exact .inr hf⟩
  have:c ≠ b:=fun e=>by subst e;rw[hf.2.1]at hc;cases hc
  simp[AS.setTip,this,hc]
def Hp(σ0 σ:AS)(hb ab mb:Nat)(p:PH):Prop:=∃ oX oW oT X W T,HpF σ0 σ hb ab mb oX oW oT X W T p
theorem HpF.chg{σ0 σ σ':AS}{hb ab mb:Nat}{oX oW oT o':Option Nat}{X W T:AV}{p:PH}(h:HpF σ0 σ hb ab mb oX oW oT X W T p)(hc:Chg σ none σ' o'):HpF σ0 σ' hb ab mb oX oW oT X W T p:=by
 obtain⟨hle,hbx,abx,h0,a0,hne,⟨k,hty⟩,m0,rX,rW,rT,d1,d2,d3,tl,hroom⟩:=h
 have dn:∀ o:Option Nat,dj none o:=fun o c e=>by cases e
 exact⟨hc.le hle (fun b e=>by cases e),(congrFun hc.box hb).trans hbx,(congrFun hc.box ab).trans abx,h0,a0,hne,⟨k,(congrFun hc.ty mb).trans hty⟩,m0,hc.keepW (dn _) rX,hc.keepW (dn _) rW,hc.keepW (dn _) rT,d1,d2,d3,tl,hroom⟩
theorem mL{σ0 s:AS}{hb ab mb:Nat}{p:PH}{v:AV}{d:Dum s}{d':Dum fun r s'=>r=v /\ Hp σ0 s' hb ab mb p}(h:Hp σ0 s hb ab mb p):jK (some [v]) s (fun r s'=>r=v /\ Hp σ0 s' hb ab mb p) d d':=⟨[v],s,rfl,AS.le.refl _,rfl,h⟩
def nE(kind:Int)(l:List Int)(p:PH):PH × Int:=(p.lay 5 (wZ kind l.length::l),dU 5 p.words.length)
set_option maxHeartbeats 2000000 in
theorem B7c{σ0 σ:AS}{hb ab mb:Nat}{p:PH}(h:Hp σ0 σ hb ab mb p)(kind:Int)(l:List Int)(hk1:1 <=kind)(hk3:kind <=3)(hbd:p.words.length+l.length <=1000000):
  aH Try.prog G 51 [.ptr hb 0, .int .i64 kind, .sl .none (l.map eR) []] σ fun r s=>r= .int .u64 (nE kind l p).2 /\ Hp σ0 s hb ab mb (nE kind l p).1:=by
 obtain⟨oX,oW,oT,X,W,T,h⟩:=h
 have hh:=uU (G:=G) kind l.length hk1 hk3 (by omega) (by omega)
 have hlm:(l.map eR).length=l.length:=by simp
 have hmd:=iT (G:=G) 5 p.words.length (by omega) (by omega)
 have hly:∀ (g:Gh) (s:AS),HpF σ0 s hb ab mb oX oW oT X W T p ->aH Try.prog G 53 [.ptr hb 0, .int .i64 5, .sl g ([AV.int .u64 (wZ kind l.length)]++l.map eR) []] s fun r s'=>r= .int .i64 p.words.length /\ Hp σ0 s' hb ab mb (p.lay 5 (wZ kind l.length::l)):=fun g s hs=>by
  refine aH.weaken (.cons (Le.refl _) (.cons (Le.refl _) (.cons Le.gh .nil))) ((A4r hs 5 (wZ kind l.length::l) (by simp) (by simp only[List.length_cons];omega)).mono ?_)
  rintro r s' ⟨h1,oW',oT',W',T',h2⟩
  exact⟨h1,_,_,_,_,_,_,h2⟩
 clear hk1 hk3
 refine aH.of_awp aG Try.func51 rfl (by kernel_rfl) (by kernel_rfl) (by simp[Try.ntmps51]) Try.results51 ?_
 repeat'(first|refine xs ?_ ?_ <;>intros|(refine wn ?_;intro bx hbx;try simp only[fb]at hbx)|refine wp hh ?_|refine wp hmd ?_|((refine B6q (n:=1) (fun a ha=>by simp at ha;subst ha;rfl) C5w (iC qJ) (fun a ha=> (xV l a ha).1) (by simp only[List.length_cons,List.length_nil,List.length_map];omega) (fun g2 σ2 o2 hC2=> ?_);have h2:=h.chg hC2;clear hC2))|((refine aH.mono (hly _ _ h2) ?_;rintro r s ⟨rfl,hs⟩;clear hly h2))|refine bE ?_|(refine aB ?_;intro bx hbx;(try simp only[fb]at hbx))|refine aD ?_|((with_reducible refine And.intro ?_ ?_);omega)|refine aA (d':=⟨⟩) ?_|refine bG (by kernel_rfl) ?_|refine bD ?_ (by repeat' first|exact lr _|assumption|refine ls ?_ ?_|refine lt ?_ ?_|simp only[*];done|simp only[fb, *,not_false_eq_true,and_self];done|exact lf ‹_› (by simp only[*]))|refine aC ?_ (by repeat' first|exact lr _|assumption|refine ls ?_ ?_|refine lt ?_ ?_|simp only[*];done|simp only[fb, *,not_false_eq_true,and_self];done|exact lf ‹_› (by simp only[*]))|simp -dsimp only[↓bp,bq,br,seval,D0a,hlm, *]|refine wz ?_|fail)
 dsimp only[nE]
 exact mL hs
end Go.Proofs.Ytinfbihcnonaoaa
namespace Go.Proofs.Ytinfbihcnonaoaa
open Go Go.Av Go.RowKit Go.Shelf
attribute [local go_sem] Oper.semAt_some
set_option maxRecDepth 100000 in
set_option maxHeartbeats 2000000 in
theorem A9w (l cb co b off len cap:Nat) (zs:List Int) (hreach:len*8 <=140737488351232) (J Jx:Nat ->World ->Prop)
  (hJ1:∀ k W,J k W ->W.cell? ⟨cb,co,none⟩=some (.slice (some ⟨b,off,none⟩) len cap)) (hJ2:∀ k W j,J k W ->j < len ->W.cell? ⟨b,off+j,none⟩=some (.int .u64 (zs[j]?.getD 0)))
  (hY:∀ k W,k < len ->J k W ->∃ fn tmps assign body,(Instr.yield l #[.int .i64 ((len - 1 - k:Nat):Int), .int .u64 (zs[len - 1 - k]?.getD 0)]).run Try.prog W= .ok (.round l fn tmps assign body) W /\ RoundIn Fence.wide 3 Try.prog l fn tmps assign body W fun e W'=> (e= .returned (.bool true) /\ J (k+1) W') \/ (e= .returned (.bool false) /\ Jx (k+1) W'))
  (W:World) (h0:J 0 W):
  CallsIn Fence.wide 4 Try.prog 95 #[.func (.yield l) #[] #[], .pointer (some ⟨cb,co,none⟩)] W fun e W'=> (∃ v,e= .returned v) /\ (J len W' \/ ∃ k,Jx k W'):=by
 refine callsIn_of_wp Try.func95 rfl trivial ?_ rfl
 simp only[Try.ntmps95,List.size_toArray,List.length_cons,List.length_nil,Nat.reduceAdd,Nat.reduceSub,Array.replicate_succ,Array.replicate_zero,List.push_toArray,List.append_toArray,List.nil_append,List.cons_append]
 have hcb:=hJ1 0 W h0
 gi_wp2
 gi_loopw [3] (fun i wr=>∃ k:Nat,k <=len /\ i= .int .i64 ((len:Int) - 1 - k) /\ J k wr) (fun i _=> ((intOf i)+1).toNat)
 case atStart=>exact⟨0,Nat.zero_le _,by simp,h0⟩
 case round=>
  obtain⟨k,hk,rfl,hJs⟩:=hrel
  have hcb':=hJ1 k wr hJs
  by_cases hlt:k < len
  ·have hcx:=hJ2 k wr (len - 1 - k) hJs (by omega)
   obtain⟨fn,tmps,assign,body,hy,hR⟩:=hY k wr hlt hJs
   have hii:(len:Int) - 1 - k=((len - 1 - k:Nat):Int):=by omega
   rw[hii]at*
   generalize hm:len - 1 - k=m at*
   gi_wp2
   refine hR.mono ?_
   rintro e W3 (⟨rfl,hJ3⟩|⟨rfl,hJx3⟩)
   ·gi_wp2
    go_roundw
    case rel=>exact⟨k+1,by omega,by simp;omega,hJ3⟩
    case measure=>simp[intOf]
   ·gi_wp2
    refine bodyPost_ret (results_none rfl _ _ _) rfl ?_
    exact⟨⟨_,rfl⟩, .inr ⟨_,hJx3⟩⟩
  ·obtain rfl:k=len:=by omega
   have hii:(k:Int) - 1 - k= -1:=by omega
   rw[hii]at*
   gi_wp2
   go_end0
   exact⟨⟨_,rfl⟩, .inl hJs⟩
set_option maxRecDepth 100000 in
set_option maxHeartbeats 2000000 in
theorem A9v(l cb co:Nat)(a:Option Addr)(cap:Nat)(J Jx:Nat ->World ->Prop)(W:World)(hcb:W.cell? ⟨cb,co,none⟩=some (.slice a 0 cap))(h0:J 0 W):
  CallsIn Fence.wide 4 Try.prog 95 #[.func (.yield l) #[] #[], .pointer (some ⟨cb,co,none⟩)] W fun e W'=> (∃ v,e= .returned v) /\ (J 0 W' \/ ∃ k,Jx k W'):=by
 refine callsIn_of_wp Try.func95 rfl trivial ?_ rfl
 simp only[Try.ntmps95,List.size_toArray,List.length_cons,List.length_nil,Nat.reduceAdd,Nat.reduceSub,Array.replicate_succ,Array.replicate_zero,List.push_toArray,List.append_toArray,List.nil_append,List.cons_append]
 gi_wp2
 gi_loopw [3] (fun i wr=>i= .int .i64 (-1) /\ J 0 wr) (fun _ _=>0)
 case atStart=>exact⟨rfl,h0⟩
 case round=>
  obtain⟨rfl,hJs⟩:=hrel
  gi_wp2
  go_end0
  exact⟨⟨_,rfl⟩, .inl hJs⟩
def lT(ws:List Int):List (List AV):=(List.range ws.length).map fun k=> [.int .i64 ((ws.length - 1 - k:Nat):Int),eR (ws[ws.length - 1 - k]?.getD 0)]
theorem A7n{g:Gh}(ws:List Int)(hlen:ws.length <=1000000):C2n Try.prog 95 [.rp [.sl g (ws.map eR) []]] (lT ws):=by
 refine⟨by kernel_rfl,fun l J Jx K w vals hv hJ hD hY h0=> ?_⟩
 have hlI:(lT ws).length=ws.length:=by simp[lT]
 match vals,hv with
 | [v],⟨hv,_⟩=>
  cases hv with
  | rp _ cb co f h1 himm hvv=>
   have hc0:=himm 0 (by simp)
   have hs0:=hvv 0 (by simp)
   simp only[List.getElem_cons_zero]at hs0
   generalize hf0:f 0=sv at hs0 hc0
   have hfl:(ws.map eR).flatMap flat=ws.map eR:=mM _ (fun c hc=>by obtain⟨x,_,rfl⟩:=List.mem_map.1 hc;rfl)
   rw[hlI]
   generalize hxs:ws.map eR=xs at hs0 hfl
   cases hs0 with
   | sl0 a=>
    have:ws=[]:=by cases ws with|nil=>rfl|cons x r=>simp at hxs
    subst this
    exact A9v l cb co a 0 J Jx w (hJ 0 w _ _ _ h0 hc0) h0
   | sl _ _ _ sz b off cap f2 hsz hcap hml himm2 hvv2 hg=>
    simp only[List.append_nil]at hsz himm2 hvv2
    have hxl:xs.length=ws.length:=by rw[<- hxs];simp
    have hcell:∀ j,j < ws.length ->f2 j= .int .u64 (ws[j]?.getD 0):=fun j hj=>by
     have hj':j < (xs.flatMap flat).length:=by rw[hfl];omega
     have h2:=hvv2 j hj'
     have e:(xs.flatMap flat)[j]=eR (ws[j]?.getD 0):=by
      have e1:(xs.flatMap flat)[j]? =xs[j]? :=by rw[hfl]
      have e2:xs[j]? =some (eR (ws[j]?.getD 0)):=by rw[<- hxs];simp[hj]
      rw[List.getElem?_eq_getElem hj',e2]at e1
      exact Option.some.inj e1
     rw[e]at h2
     exact VR.int_iff.1 h2
    have hJ1:∀ k W,J k W ->W.cell? ⟨cb,co,none⟩=some (.slice (some ⟨b,off,none⟩) xs.length cap):=fun k W hk=>hJ k W _ _ _ hk hc0
    rw[hxl]at hJ1
    refine A9w l cb co b off ws.length cap ws (by omega) J Jx hJ1 (fun k W j hk hj=> ?_) (fun k W hk hJk=> ?_) w h0
    ·rw[<- hcell j hj]
     exact hJ k W _ _ _ hk (himm2 j (by rw[hfl];omega))
    ·have hi:(lT ws)[k]'(by omega)=[.int .i64 ((ws.length - 1 - k:Nat):Int),eR (ws[ws.length - 1 - k]?.getD 0)]:=by simp[lT]
     exact hY k (by omega) W #[.int .i64 ((ws.length - 1 - k:Nat):Int), .int .u64 (ws[ws.length - 1 - k]?.getD 0)] hJk (by rw[hi];exact⟨.int _ _, .int _ _,trivial⟩)
 |[],hv=>exact hv.elim
 |_::_::_,hv=>exact hv.2.elim
end Go.Proofs.Ytinfbihcnonaoaa
namespace Go.Av
open Go Go.RowKit
theorem fresh_ne{σ:AS}{b c:Nat}{z:List AV}(h:σ.box b=some z)(hc:σ.fresh c): ¬ b=c /\ ¬ c=b:=by
 have: ¬ b=c:=fun e=>by subst e;rw[hc.1]at h;cases h
 exact⟨this,fun e=>this e.symm⟩
theorem aH.back{P:Program}{G:Nat ->AV}{f:FuncId}{args:List AV}{σ:AS}{Q:AV ->Prop}(h:aH P G f args σ fun r σ'=>Q r /\ σ.le σ'):aH P G f args σ fun r σ'=>Q r /\ σ'=σ:=
 ⟨h.1,fun K w vals hr hv=> (h.2 K w vals hr hv).mono fun e w' ⟨v,r,σ',K',he,⟨hQ,hl⟩,h1,h2,h3⟩=> ⟨v,r,σ,K',he,⟨hQ,rfl⟩,h1,h2.weaken hl,h3⟩⟩
inductive pC(n:Nat)(E:TypeId)(σ0 σ:AS):AV ->List AV ->Prop
 |nil (h:σ0.le σ):pC n E σ0 σ .nil []
 |row (b:Nat) (xs:List AV) (h:σ0.le σ) (h0:σ0.box b=none) (h1:σ0.tip b=none) (hb:σ.box b=some (xs.flatMap flat)) (hx:∀ a,a ∈ xs -> (flat a).length=n /\ isv a=true):pC n E σ0 σ (.bs b xs.length n E) xs
theorem pC.le{n:Nat}{E:TypeId}{σ0 σ:AS}{v:AV}{xs:List AV}(h:pC n E σ0 σ v xs):σ0.le σ:=by cases h <;>assumption
theorem qD{n:Nat} :∀ (xs:List AV),(∀ a,a ∈ xs -> (flat a).length=n) -> (xs.flatMap flat).length=xs.length*n
 |[],_=>by simp
 | x::xs,h=>by
  rw[List.flatMap_cons,List.length_append,h x (by simp),qD xs fun a ha=>h a (by simp[ha]),List.length_cons,Nat.succ_mul,Nat.add_comm]
theorem AS.le.delSet{σ0 σ:AS}(h:σ0.le σ){b b':Nat}(hb:σ0.box b=none)(hb':σ0.box b'=none)(z:List AV):σ0.le ((σ.delBox b).setBox b' z):=by
 refine⟨fun i cs hi=> ?_,fun i m hi=>h.tip _ _ hi,h.ty⟩
 have h1:i ≠ b:=fun e=>by subst e;rw[hb]at hi;cases hi
 have h2:i ≠ b':=fun e=>by subst e;rw[hb']at hi;cases hi
 show(if i=b' then _ else if i=b then none else σ.box i)=some cs
 rw[if_neg h2,if_neg h1];exact h.box _ _ hi
theorem A9k {P:Program} {n cM:Nat} {σ0 σ:AS} {v x:AV} {xs ys:List AV} {t tx E:TypeId} {K:AV ->AS ->Prop} {d:Dum σ} {d':Dum K} (hB:pC n E σ0 σ v xs) (he:eI P t=some (E,n,cM)) (hs:nB P tx x=some ys)
  (hys:∀ a,a ∈ ys -> (Av.flat a).length=n /\ isv a=true) (hnil:v= .nil ->ys=[]) (hb:(xs.length+ys.length)*cM <=140737488355328) (hK:∀ v' σ',pC n E σ0 σ' v' (xs++ys) -> (v'= .nil ->v= .nil) ->K v' σ'):A1x P σ t tx v x K d d':=by
 cases hB with
 | nil h=>
  have hy:=hnil rfl
  subst hy
  refine .inl ?_
  unfold gK
  rw[he,hs]
  refine⟨fun a ha=> (by cases ha),by simp,fun _=>hK _ _ (.nil h) (fun _=>rfl),fun hy=>absurd rfl hy⟩
 | row b xs h h0 h1 hbx hx=>
  refine .inr (.inl ?_)
  unfold lI
  rw[he,hs]
  have hl:=qD xs fun a ha=> (hx a ha).1
  refine⟨fun a ha=> (hys a ha).1,⟨rfl,rfl⟩,_,hbx,by rw[hl];exact Nat.le_refl _,hb,fun b' hb'=> ?_⟩
  have h0':σ0.box b'=none /\ σ0.tip b'=none:=by
   rcases hb' with rfl|hf
   ·exact⟨h0,h1⟩
   ·exact⟨(h.fresh hf).1,(h.fresh hf).2.1⟩
  have e1:(xs.flatMap flat).take (xs.length*n)++ys.flatMap flat=(xs++ys).flatMap flat:=by
   rw[List.take_of_length_le (by rw[hl];exact Nat.le_refl _),List.flatMap_append]
  have hK':=hK (.bs b' (xs++ys).length n E) ((σ.delBox b).setBox b' ((xs++ys).flatMap flat)) (.row b' (xs++ys) (h.delSet h0 h0'.1 _) h0'.1 h0'.2 (by simp[AS.setBox]) fun a ha=>by
   rcases List.mem_append.1 ha with ha|ha
   ·exact hx a ha
   ·exact hys a ha) (fun h=>by cases h)
  rw[<- e1,List.length_append]at hK'
  exact hK'
theorem aH.wbuf{P:Program}{G:Nat ->AV}{f:FuncId}{args:List AV}{σ:AS}{n:Nat}{E:TypeId}{xs:List AV}(h:aH P G f args σ fun r σ'=>pC n E σ σ' r xs):aH P G f args σ fun r σ'=>Le r (.sl .none xs []) /\ σ'=σ:=by
 refine aH.back ⟨h.1,fun K w vals hr hv=> (h.2 K w vals hr hv).mono fun e w' ⟨v,r,σ',K',he,hQ,h1,h2,h3⟩=> ?_⟩
 cases hQ with
 |nil hl=>exact⟨v, .nil,σ',K',he,⟨Le.nil,hl⟩,h1,h2,h3⟩
 | row b xs hl h0 ht hb hx=>
  obtain⟨cap,F,g1,g2,g3⟩:=(Has.bs (b:=b) (n:=xs.length) (s:=n) (E:=E)) K' v h1
  obtain⟨K2,k1,k2,k3⟩:=wU h2 hb ⟨rfl,rfl,hx⟩ g1 g2 g3
  exact⟨v,_,_,K2,he,⟨Le.gh,AS.froze_le hl h0 ht⟩,k3 _ _ _ (.here E) h1,k2,h3.trans k1⟩
end Go.Av
namespace Go.Av
open Go Go.RowKit
variable {P:Program} {e:aK} {σ:AS}
def A9o:Option AV ->Option (List AV) ->Option (List AV)
 |some x,some xs=>some (x::xs)
 |_,_=>none
theorem cZ{r s:ResultVar}{rs:List ResultVar} :kO P e σ (r::s::rs)=A9o (uN P e σ r) (kO P e σ (s::rs)):=by
 rw[kO];unfold A9o;rfl
theorem dL{t:Tmp} :uN P e σ (.tmp t)=some (e t):=nr rfl
theorem cY{t:Tmp}{ty:TypeId} :uN P e σ (.cell t ty)=fR P σ ty (e t):=nr rfl
theorem dA{x:AV}{xs:List AV} :A9o (some x) (some xs)=some (x::xs):=nr rfl
end Go.Av
namespace Go.Av
open Go Go.RowKit
def A3o:AV ->Nat ->Prop
 | .bs r _ _ _,c=>c ≠ r
 |_,_=>True
structure D2d(n:Nat)(E:TypeId)(σ0 σ:AS)(v:AV)(xs:List AV)(v':AV)(σ':AS):Prop where
 buf:pC n E σ0 σ' v' xs
 keep:∀ c z,σ.box c=some z ->A3o v c ->σ'.box c=some z /\ A3o v' c
 ty:σ'.ty=σ.ty
 ne:v' ≠ .nil ->v= .nil ->xs ≠ []
theorem pC.len{P:Program}{n:Nat}{E:TypeId}{σ0 σ:AS}{v:AV}{xs:List AV}(h:pC n E σ0 σ v xs){t:TypeId} :eK P .len #[t] [v]=if(el P t).isSome then some (.int .i64 xs.length)else none:=by
 cases h with
 |nil _=>rw[A4q];rfl
 |row r xs h h0 h1 hbx hx=>rw[C8q]
def C6z(c:UInt8):AV:= .int .u8 c.toNat
def C2v(s:List UInt8):List AV:=s.map C6z
structure Bld(T E:TypeId)(σ0 σ:AS)(b:Nat)(xs:List UInt8):Prop where
 le:σ0.le σ
 out:σ0.box b=none
 ty:σ.ty b=some ((T:mR),2)
 box:∃ p v,σ.box b=some [p,v] /\ (p= .nilptr \/ p= .ptr b 0) /\ pC 1 E σ0 σ v (C2v xs) /\ A3o v b /\ (v ≠ .nil ->xs ≠ [])
end Go.Av
namespace Go.Proofs.Ytinfbihcnonaoaa
open Go Go.Av
def tG:=And.intro (And.intro (And.intro @jN (And.intro @kI @kJ)) (And.intro @eW (And.intro @jO @eJ))) (And.intro (And.intro @aP (And.intro @aM @aQ)) (And.intro @bJ (And.intro @dD @cJ)))
variable (G:Nat ->AV)
def C2b(k i:Int):Int:=IntKind.i64.wrap (IntKind.i64.wrap (1000003*IntKind.i64.wrap (k+7))+i)
def lmk(i:Int):AV:= .int .u32 (IntKind.u32.wrap (C2b 1 i))
def B3n(i:Nat):List AV:=(List.range i).map fun(i:Nat)=>lmk (i:Int)
def C5a:List AV:=B3n 12
def sS(l:List UInt32):AV:= .sl .none (l.map kV) C5a
theorem tfL:eI Try.prog 31=some (87,1,4):=eJ.2.2.2.2.2.2
theorem C6g:el Try.prog 31=some 87:=eJ.2.2.2.1
theorem A6k(l:List UInt32)(hl:l.length <=1000000000)(σ:AS):aH Try.prog G 104 [cO l] σ fun r σ'=>Le r (cO l) /\ σ'=σ:=by
 have key:∀ x,(∀ op t,(el Try.prog t).isSome=true ->fQ Try.prog op t x .nil=lH op false) ->nB Try.prog 31 x=some (l.map kV) ->aH Try.prog G 104 [x] σ fun r σ'=>Le r (cO l) /\ σ'=σ:=by
  intro x h1 h2
  have h3:=h1 .eql 31 (by rw[C6g];rfl)
  refine aH.of_awp aG Try.func104 rfl (by kernel_rfl) (by kernel_rfl) (by simp[Try.ntmps104]) Try.results104 ?_
  simp -dsimp only[↓bp,bq,br,seval,tG,h3]
  refine A2i tfL ?_
  simp -dsimp only[↓bp,bq,br,seval,tG]
  refine A9j (σ0:=σ) (AS.le.refl σ) (fun a ha=>by cases ha) tfL h2 C1v (by simp;omega) (fun he=> ?_) (fun v σ1 hB hx=> ?_)
  ·simp -dsimp only[↓bp,bq,br,seval,tG]
   have e:cO l= .sl .none [] []:=by unfold cO;rw[he]
   rw[e]
   exact jZ Le.gh (AS.le.refl σ)
  ·simp -dsimp only[↓bp,bq,br,seval,tG]
   exact jZ hB.told hB.le
 cases l with
 | nil=>
  refine aH.nil_or ?_ fun a c=> ?_
  ·refine aH.of_awp aG Try.func104 rfl (by kernel_rfl) (by kernel_rfl) (by simp[Try.ntmps104]) Try.results104 ?_
   simp -dsimp only[↓bp,bq,br,seval,tG]
   exact jZ Le.nil (AS.le.refl σ)
  ·exact key _ (fun op t h=>by rw[nV,if_pos h]) (by simp[nB,C6g])
 |cons x l=>exact key _ (fun op t h=>by simp[cO,fQ,qG,h]) (iC C6g)
end Go.Proofs.Ytinfbihcnonaoaa
set_option maxRecDepth 20000
namespace Go.Proofs.Ytinfbihcnonaoaa
open Go Go.Av
variable (G:Nat ->AV)
def val:List UInt32 ->Nat
 |[]=>0
 |x::l=>x.toNat+4294967296*val l
end Go.Proofs.Ytinfbihcnonaoaa
namespace Go.Av
open Go Go.RowKit
variable {H:Type}
mutual
def hP:DataW H ->AV
 | .lit (.bool b)=> .bool b
 | .lit (.int k n)=> .int k n
 | .lit (.string s)=> .str s
 | .lit _=> .undef
 | .nil=> .sl .none [] []
 | .slice elems _=> .sl .none (sC elems) []
 | .agg parts=> .agg (nG parts)
 |_=> .undef
def sC:List (DataW H) ->List AV
 |[]=> []
 |d::r=>hP d::sC r
def nG:List (DataW H) ->List AV
 |[]=> []
 |d::r=>flat (hP d)++nG r
end
theorem A9q(l:List (DataW H)):sC l=l.map hP:=by
 induction l with
 |nil=>simp[sC]
 |cons d r ih=>simp[sC,ih]
def A0z(P:Program):Nat ->List Field ->Nat ->Bool
 |k,[],n=>decide (k=n)
 |k,f::fs,n=>decide (f.offset=k) && A0z P (k+P.cellsOf f.type) fs n
def mK(P:Program)(S:List TypeId):Bool:=
 S.all fun t=>match P.underlying t with
  |some .bool|some (.int _)|some .string=>true
  |some (.slice e)=>S.contains e && decide (0 < P.cellsOf e)
  |some (.struct fs)=> (fs.toList.all fun f=>S.contains f.type) && A0z P 0 fs.toList (P.cellsOf t)
  |some (.array n e)=>S.contains e && decide (n*P.cellsOf e=P.cellsOf t)
  |_=>false
structure CL(K:aJ)(cs:List AV)(vs:List Value):Prop where
 size:vs.length=cs.length
 one:∀ c,c ∈ cs ->one c=true
 at_:∀ j (h:j < cs.length),VR K cs[j] (vs.getD j Go.undef)
theorem CL.one1{K:aJ}{a:AV}{v:Value}(h:VR K a v)(h1:Av.one a=true):CL K [a] [v]:=
 ⟨rfl,fun c hc=>by simp at hc;subst hc;exact h1,fun j hj=>by
   have:j=0:=by simpa using hj
   subst this;exact h⟩
theorem CL.append{K:aJ}{a b:List AV}{v u:List Value}(h:CL K a v)(k:CL K b u):CL K (a++b) (v++u):=by
 have h1:=h.size
 refine⟨by simp[h.size,k.size],fun c hc=> ?_,fun j hj=> ?_⟩
 ·rcases List.mem_append.1 hc with hc|hc
  ·exact h.one c hc
  ·exact k.one c hc
 ·by_cases hja:j < a.length
  ·rw[List.getElem_append_left hja]
   have:=h.at_ j hja
   simpa [List.getElem?_append_left (show j < v.length by omega)] using this
  ·rw[List.getElem_append_right (by omega)]
   have:=k.at_ (j - a.length) (by simp at hj;omega)
   simpa [List.getElem?_append_right (show v.length <=j by omega),h1] using this
theorem CL.nil{K:aJ} :CL K [] []:=⟨rfl,(fun c hc=>by cases hc),(fun j hj=>by cases hj)⟩
theorem CL.flatMap{α:Type}{K:aJ}{f:α ->List AV}{g:α ->List Value} :∀ (l:List α),(∀ x,x ∈ l ->CL K (f x) (g x)) ->CL K (l.flatMap f) (l.flatMap g)
 |[],_=>CL.nil
 | x::l,h=>by
  rw[List.flatMap_cons,List.flatMap_cons]
  exact(h x (by simp)).append (CL.flatMap l fun y hy=>h y (by simp[hy]))
theorem VR.ofCL{K:aJ}{a:AV}{cs:List Value}(h:CL K (flat a) cs)(h0:flat a=[a]):∃ v,cs=[v] /\ VR K a v:=by
 rw[h0]at h
 have h1:=h.size
 match cs,h1 with
 |[v],_=>exact⟨v,rfl,h.at_ 0 (by simp)⟩
def tM(P:Program):Nat ->TypeId ->DataW H ->Prop
 |0,_,_=>False
 | n+1,t,d=>match P.underlying t with
  |some .bool=>∃ b,d= .lit (.bool b)
  |some (.int k)=>∃ m,d= .lit (.int k m) /\ (Lit.int k m).wf=true
  |some .string=>∃ s,d= .lit (.string s) /\ s.length <=maxLen
  |some (.slice e)=>d= .nil \/ ∃ xs sp,d= .slice xs sp /\ ∀ x,x ∈ xs ->tM P n e x
  |some (.struct fs)=>∃ ds,d= .agg ds /\ ds.length=fs.size /\ ∀ (i:Nat) (f:Field) x,fs[i]? =some f ->ds[i]? =some x ->tM P n f.type x
  |some (.array m e)=>∃ ds,d= .agg ds /\ ds.length=m /\ ∀ x,x ∈ ds ->tM P n e x
  |_=>False
section read
variable {enc:TypeId × Value ->H} {P:Program} {w:World} {held:Bool} {K:aJ} {S:List TypeId}
theorem qC {r:TypeId ->List Value ->Option (DataW H × List MemPlace)} {total:Nat} {cs:List Value}
  (hr:∀ t cs x,t ∈ S ->r t cs=some x ->CL K (flat (hP x.1)) cs):∀ (fs:List Field) (xs:List (DataW H × List MemPlace)) (k:Nat),(∀ f,f ∈ fs ->f.type ∈ S) ->A0z P k fs total=true ->xs.length=fs.length ->
  (∀ (i:Nat) (f:Field),fs[i]? =some f ->r f.type ((cs.drop f.offset).take (P.cellsOf f.type))=xs[i]?) ->cs.length=total ->CL K (nG (xs.map (·.1))) (cs.drop k)
 | [],[],k,_,ht,_,_,hl=>by
  simp only[A0z,decide_eq_true_eq]at ht
  rw[List.drop_eq_nil_of_le (by omega)]
  exact CL.nil
 | f::fs,x::xs,k,hS,ht,hlen,hx,hl=>by
  simp only[A0z,Bool.and_eq_true,decide_eq_true_eq]at ht
  have h0:=hx 0 f rfl
  simp only[List.getElem?_cons_zero,ht.1]at h0
  have h1:=hr _ _ _ (hS f (by simp)) h0
  have h2:=qC hr fs xs (k+P.cellsOf f.type) (fun g hg=>hS g (by simp[hg])) ht.2 (by simpa using hlen) (fun i g hg=>by have:=hx (i+1) g (by simpa using hg);simpa using this) hl
  have e:cs.drop k=(cs.drop k).take (P.cellsOf f.type)++cs.drop (k+P.cellsOf f.type):=by
   rw[<- List.drop_drop,List.take_append_drop]
  rw[e]
  simp only[List.map_cons,nG]
  exact h1.append h2
 |[],_::_,_,_,_,h,_,_=>by cases h
 |_::_,[],_,_,_,h,_,_=>by cases h
theorem sQ {r:List Value ->Option (DataW H × List MemPlace)} {n:Nat} {cs:List Value}
  (hr:∀ cs x,r cs=some x ->CL K (flat (hP x.1)) cs):∀ (xs:List (DataW H × List MemPlace)) (k:Nat),
  (∀ i,i < xs.length ->r ((cs.drop ((k+i)*n)).take n)=xs[i]?) ->cs.length=(k+xs.length)*n ->CL K (nG (xs.map (·.1))) (cs.drop (k*n))
 | [],k,_,hl=>by
  rw[List.drop_eq_nil_of_le (by simp only[List.length_nil,Nat.add_zero]at hl;omega)]
  exact CL.nil
 | x::xs,k,hx,hl=>by
  have h0:=hx 0 (by simp)
  simp only[List.getElem?_cons_zero,Nat.add_zero]at h0
  have h1:=hr _ _ h0
  have h2:=sQ hr xs (k+1) (fun i hi=>by have:=hx (i+1) (by simpa using hi);simpa [Nat.add_assoc,Nat.add_comm 1 i] using this) (by rw[hl,List.length_cons];congr 1;omega)
  have e:cs.drop (k*n)=(cs.drop (k*n)).take n++cs.drop ((k+1)*n):=by
   rw[Nat.succ_mul,<- List.drop_drop,List.take_append_drop]
  rw[e]
  simp only[List.map_cons,nG]
  exact h1.append h2
theorem      B4r(hS:mK P S=true)(hK:∀ b o v,w.cell? ⟨b,o,none⟩=some v ->K.imm b o=some v):∀ (fuel:Nat) (t:TypeId) (cs:List Value) (x:DataW H × List MemPlace),t ∈ S ->
  DataW.trod enc P w 0 (fun _=>true) held fuel t cs=some x ->tM P fuel t x.1 /\ CL K (flat (hP x.1)) cs /\ isv (hP x.1)=true:=by
 intro fuel
 induction fuel with
 |zero=>intro t cs x _ h;simp[DataW.trod]at h
 | succ n ih=>
  intro t cs x htS h
  have hc:=List.all_eq_true.1 hS t htS
  unfold tM
  split at hc
  ·rename_i ht
   obtain⟨b,rfl,rfl⟩:=DataW.trod_bool ht h
   simp only[hP]
   exact⟨⟨b,rfl⟩,CL.one1 (.bool b) rfl,rfl⟩
  ·rename_i k ht
   obtain⟨m,rfl,rfl,hw⟩:=DataW.trod_int ht h
   simp only[hP]
   exact⟨⟨m,rfl,hw⟩,CL.one1 (.int k m) rfl,rfl⟩
  ·rename_i ht
   obtain⟨s,rfl,rfl,hw⟩:=DataW.trod_string ht h
   simp only[hP]
   exact⟨⟨_,rfl,by simpa using hw⟩,CL.one1 (.str s.data.toList) rfl,rfl⟩
  ·rename_i e ht
   simp only[Bool.and_eq_true,decide_eq_true_eq]at hc
   have heS:e ∈ S:=by simpa using hc.1
   rcases DataW.trod_slice ht h with⟨rfl,rfl⟩|⟨a,len,cap,elems,rest,m,hm,rfl,rfl,_,hlc,hml,hlen,hel,hsp,_⟩
   ·exact⟨.inl rfl,by simp only[hP];exact CL.one1 (.sl0 none) rfl,by simp only[hP];rfl⟩
   ·have hmn:m=n:=by omega
    subst hmn
    have hel2:∀ i (hi:i < elems.length),∃ cs,w.cells? 0 (a.add (i*P.cellsOf e)) (P.cellsOf e)=some cs /\ DataW.trod enc P w 0 (fun _=>true) held m e cs=some elems[i]:=fun i hi=>by
     have h1:=hel i (by omega)
     rw[List.getElem?_eq_getElem hi,Option.bind_eq_some_iff]at h1
     exact h1
    refine⟨.inr ⟨_,_,rfl,fun d hd=> ?_⟩,?_,rfl⟩
    ·obtain⟨y,hy,rfl⟩:=List.mem_map.1 hd
     obtain⟨i,hi,rfl⟩:=List.getElem_of_mem hy
     obtain⟨cs,_,h2⟩:=hel2 i hi
     exact(ih e cs _ heS h2).1
    ·simp only[hP]
     refine CL.one1 ?_ rfl
     rw[A9q,List.map_map]
     by_cases hcap:cap=0
     ·have:elems=[]:=List.eq_nil_of_length_eq_zero (by omega)
      subst this
      have hl0:len=0:=by omega
      subst hcap hl0
      exact .sl0 (some a)
     ·obtain⟨b,off,spot⟩:=a
      have hspot:spot=none:=by
       have h0:∃ c0,w.cell? ⟨b,off,spot⟩=some c0:=by
        by_cases hl0:len=0
        ·obtain⟨hrl,hr⟩:=hsp rfl
         have h1:=hr 0 (by omega)
         obtain⟨y,hy⟩:∃ y,rest[0]? =some y:=⟨_,List.getElem?_eq_getElem (by omega)⟩
         rw[hy,Option.bind_eq_some_iff]at h1
         obtain⟨cs,h2,_⟩:=h1
         obtain⟨_,hcl,hcc⟩:=World.cells?_some h2
         have h3:=hcc 0 hc.2
         obtain⟨c0,hc0⟩:∃ c0,cs[0]? =some c0:=⟨_,List.getElem?_eq_getElem (by omega)⟩
         refine⟨c0,?_⟩
         rw[hc0]at h3
         simpa [Addr.add,hl0] using h3
        ·obtain⟨cs,h2,_⟩:=hel2 0 (by omega)
         obtain⟨_,hcl,hcc⟩:=World.cells?_some h2
         have h3:=hcc 0 hc.2
         obtain⟨c0,hc0⟩:∃ c0,cs[0]? =some c0:=⟨_,List.getElem?_eq_getElem (by omega)⟩
         refine⟨c0,?_⟩
         rw[hc0]at h3
         simpa [Addr.add] using h3
       obtain⟨c0,h0⟩:=h0
       simpa using World.cell?_spot h0
      subst hspot
      have hcell:∀ i (hi:i < elems.length),∃ cs,cs.length=P.cellsOf e /\ (∀ r,r < P.cellsOf e ->w.cell? ⟨b,off+(i*P.cellsOf e+r),none⟩=cs[r]?) /\ CL K (flat (hP elems[i].1)) cs /\ isv (hP elems[i].1)=true:=fun i hi=>by
       obtain⟨cs,h2,h3⟩:=hel2 i hi
       obtain⟨_,hcl,hcc⟩:=World.cells?_some h2
       obtain⟨_,h4,h5⟩:=ih e cs _ heS h3
       refine⟨cs,hcl,fun r hr=> ?_,h4,h5⟩
       have:=hcc r hr
       rw[<- this,Addr.add_lit,Addr.add_lit,Nat.add_assoc]
      have hflen:∀ y,y ∈ elems.map (hP ∘ fun x=>x.1) -> (flat y).length=P.cellsOf e /\ isv y=true /\ ∀ c,c ∈ flat y ->one c=true:=fun y hy=>by
       obtain⟨z,hz,rfl⟩:=List.mem_map.1 hy
       obtain⟨i,hi,rfl⟩:=List.getElem_of_mem hz
       obtain⟨cs,hcl,_,h4,h5⟩:=hcell i hi
       exact⟨by have:=h4.size;simp only[Function.comp];omega,h5,h4.one⟩
      have hfl:=aS (sz:=P.cellsOf e) (elems.map (hP ∘ fun x=>x.1)) (fun y hy=> (hflen y hy).1)
      have hvals:∀ j (hj:j < ((elems.map (hP ∘ fun x=>x.1)).flatMap flat).length),∃ v,w.cell? ⟨b,off+j,none⟩=some v /\ VR K ((elems.map (hP ∘ fun x=>x.1)).flatMap flat)[j] v:=fun j hj=>by
       have hz:0 < P.cellsOf e:=hc.2
       have hj2:j < elems.length*P.cellsOf e:=by rw[hfl,List.length_map]at hj;exact hj
       have hi:j / P.cellsOf e < elems.length:=Nat.div_lt_of_lt_mul (by rw[Nat.mul_comm];exact hj2)
       have hr:j % P.cellsOf e < P.cellsOf e:=Nat.mod_lt _ hz
       have hjd:j / P.cellsOf e*P.cellsOf e+j % P.cellsOf e=j:=Nat.div_add_mod' j _
       obtain⟨cs,hcl,h3,h4,h5⟩:=hcell (j / P.cellsOf e) hi
       have h6:=h3 (j % P.cellsOf e) hr
       rw[hjd]at h6
       have hlt:j % P.cellsOf e < (flat (hP elems[j / P.cellsOf e].1)).length:=by have:=h4.size;omega
       have h7:=h4.at_ _ hlt
       have h8:=sK (sz:=P.cellsOf e) (elems.map (hP ∘ fun x=>x.1)) (fun y hy=> (hflen y hy).1) (j / P.cellsOf e) (by simpa using hi) (j % P.cellsOf e) hr
       rw[hjd,List.getElem?_eq_getElem hj]at h8
       simp only[List.getElem_map,Function.comp]at h8
       rw[List.getElem?_eq_getElem hlt]at h8
       have h9:=Option.some.inj h8
       refine⟨cs.getD (j % P.cellsOf e) Go.undef,?_,?_⟩
       ·rw[h6];simp[List.getD,show j % P.cellsOf e < cs.length by omega]
       ·rw[h9];exact h7
      have:=VR.sl (K:=K) .none (elems.map (hP ∘ fun x=>x.1)) [] (P.cellsOf e) b off cap (fun j=> (w.cell? ⟨b,off+j,none⟩).getD Go.undef)
       (fun y hy=>hflen y (by simpa using hy)) (by simp;omega) hml
       (fun j hj=>by
         simp only[List.append_nil]at hj
         obtain⟨v,h1,_⟩:=hvals j hj
         rw[h1]
         exact hK _ _ _ h1)
       (fun j hj=>by
         simp only[List.append_nil]at hj ⊢
         obtain⟨v,h1,h2⟩:=hvals j hj
         rw[h1];exact h2) trivial
      rw[List.length_map,hlen]at this
      exact this
  ·rename_i fs ht
   simp only[Bool.and_eq_true]at hc
   obtain⟨xs,m,hm,rfl,hcl,hxl,hx⟩:=DataW.trod_struct ht h
   have hmn:m=n:=by omega
   subst hmn
   have hfS:∀ f,f ∈ fs.toList ->f.type ∈ S:=fun f hf=>by have:=List.all_eq_true.1 hc.1 f hf;simpa using this
   refine⟨⟨_,rfl,by simpa using hxl,fun i f x hf hd=> ?_⟩,?_,rfl⟩
   ·rw[List.getElem?_map]at hd
    cases hy:xs[i]? with
    |none=>rw[hy]at hd;cases hd
    | some y=>
     rw[hy]at hd
     simp only[Option.map_some,Option.some.injEq]at hd
     subst hd
     have h1:=hx i f hf
     rw[hy]at h1
     exact(ih f.type _ y (hfS f (by rw[Array.mem_toList_iff];exact Array.mem_of_getElem? hf)) h1).1
   ·simp only[hP,flat]
    have:=qC (P:=P) (S:=S) (K:=K) (r:=DataW.trod enc P w 0 (fun _=>true) held m) (total:=P.cellsOf t) (cs:=cs) (fun t cs x hts hh=> (ih t cs x hts hh).2.1) fs.toList xs 0 hfS hc.2 (by simpa using hxl) (fun i f hf=>hx i f (by simpa using hf)) hcl
    simpa using this
  ·rename_i q e ht
   simp only[Bool.and_eq_true,decide_eq_true_eq]at hc
   have heS:e ∈ S:=by simpa using hc.1
   obtain⟨xs,m,hm,rfl,hcl,hxl,hx⟩:=DataW.trod_array ht h
   have hmn:m=n:=by omega
   subst hmn
   refine⟨⟨_,rfl,by simpa using hxl,fun x hd=> ?_⟩,?_,rfl⟩
   ·obtain⟨y,hy,rfl⟩:=List.mem_map.1 hd
    obtain⟨i,hi,rfl⟩:=List.getElem_of_mem hy
    have h1:=hx i (by omega)
    rw[List.getElem?_eq_getElem hi]at h1
    exact(ih e _ _ heS h1).1
   ·simp only[hP,flat]
    have:=sQ (K:=K) (r:=DataW.trod enc P w 0 (fun _=>true) held m e) (n:=P.cellsOf e) (cs:=cs) (fun cs x hh=> (ih e cs x heS hh).2.1) xs 0 (fun i hi=>by have:=hx i (by omega);simpa using this) (by simp only[Nat.zero_add];rw[hcl,<- hc.2,hxl])
    simpa using this
  ·cases hc
theorem A0l (hS:mK P S=true) (hK:∀ b o v,w.cell? ⟨b,o,none⟩=some v ->K.imm b o=some v) {t:TypeId} {v:Value} {d:DataW H} {ps:List MemPlace} {r:Reach} {b0:Nat} (htS:t ∈ S)
  (hval:Value.okWide P w r b0 t v) (h:DataW.Trod enc P w 0 (fun _=>true) held t v d ps):∃ n,tM P n t d /\ VR K (hP d) v:=by
 obtain⟨fuel,hf⟩:=h
 obtain⟨h1,h2,h3⟩:=B4r hS hK fuel t _ _ htS hf
 refine⟨fuel,h1,?_⟩
 have hc:=List.all_eq_true.1 hS t htS
 cases fuel with
 |zero=>exact h1.elim
 | succ n=>
  unfold tM at h1
  have single:∀ (a:AV),flat a=[a] ->hP d=a -> (∀ cs,v ≠ .agg cs) ->VR K a v:=fun a ha hd hv=>by
   simp only[hd]at h2
   obtain⟨u,h4,h5⟩:=VR.ofCL h2 ha
   have h6:v.cells= #[v]:=by cases v <;>first|rfl|exact absurd rfl (hv _)
   rw[h6]at h4
   have:v=u:=by simpa using h4
   rw[this];exact h5
  have agg:∀ ds,d= .agg ds -> (∃ cs,v= .agg cs) ->VR K (hP d) v:=fun ds hd hv=>by
   obtain⟨cs,rfl⟩:=hv
   subst hd
   simp only[hP,flat]at h2 ⊢
   refine .agg _ _ ?_ h2.one (fun j hj=> ?_)
   ·have:=h2.size;simpa [Value.cells] using this
   ·have:=h2.at_ j hj
    simpa [Value.cells,Array.getD_eq_getD_getElem?,List.getD_eq_getElem?_getD] using this
  unfold Value.okWide at hval
  split at hc
  ·rename_i ht;rw[ht]at h1 hval
   obtain⟨b,rfl⟩:=h1
   exact single _ rfl (by simp[hP]) (fun cs hv=>by subst hv;simp[Cell.okWide,ht,Cell.ok]at hval)
  ·rename_i k ht;rw[ht]at h1 hval
   obtain⟨m,rfl,_⟩:=h1
   exact single _ rfl (by simp[hP]) (fun cs hv=>by subst hv;simp[Cell.okWide,ht,Cell.ok]at hval)
  ·rename_i ht;rw[ht]at h1 hval
   obtain⟨m,rfl,_⟩:=h1
   exact single _ rfl (by simp[hP]) (fun cs hv=>by subst hv;simp[Cell.okWide,ht,Cell.ok]at hval)
  ·rename_i e ht;rw[ht]at h1 hval
   have hv:∀ cs,v ≠ .agg cs:=fun cs hv=>by subst hv;simp[Cell.okWide,ht,Cell.ok]at hval
   rcases h1 with rfl|⟨xs,sp,rfl,_⟩
   ·exact single _ rfl (by simp[hP]) hv
   ·exact single _ rfl (by simp[hP]) hv
  ·rename_i fs ht;rw[ht]at h1 hval
   obtain⟨ds,hd,_⟩:=h1
   obtain⟨cs,hv,_⟩:=hval
   exact agg ds hd ⟨cs,hv⟩
  ·rename_i q e ht;rw[ht]at h1 hval
   obtain⟨ds,hd,_⟩:=h1
   obtain⟨cs,hv,_⟩:=hval
   exact agg ds hd ⟨cs,hv⟩
  ·cases hc
end read
end Go.Av
namespace Go.Av
open Go Go.RowKit Go.WideShapes Go.ChangeShapes
variable {H:Type}
section shut
variable {enc:TypeId × Value ->H} {P:Program} {w:World} {held:Bool} {S:List TypeId}
theorem C1h(hS:mK P S=true){sp:Nat ->Bool} :∀ (fuel:Nat) (t:TypeId) (cs:List Value) (x:DataW H × List MemPlace),t ∈ S ->
  DataW.trod enc P w 0 (fun _=>true) held fuel t cs=some x -> (∀ p ∈ x.2,sp p.block=true) ->DataW.trod enc P w 0 sp held fuel t cs=some x:=by
 intro fuel
 induction fuel with
 |zero=>intro t cs x _ h;simp[DataW.trod]at h
 | succ n ih=>
  intro t cs x htS h hsp
  have hc:=List.all_eq_true.1 hS t htS
  split at hc
  ·rename_i ht
   obtain⟨b,rfl,rfl⟩:=DataW.trod_bool ht h
   simp[DataW.trod,ht]
  ·rename_i k ht
   obtain⟨m,rfl,rfl,hw⟩:=DataW.trod_int ht h
   simp[DataW.trod,ht,hw]
  ·rename_i ht
   obtain⟨s,rfl,rfl,hw⟩:=DataW.trod_string ht h
   simp[DataW.trod,ht,hw]
  ·rename_i e ht
   simp only[Bool.and_eq_true,decide_eq_true_eq]at hc
   have heS:e ∈ S:=by simpa using hc.1
   rcases DataW.trod_slice ht h with⟨rfl,rfl⟩|⟨a,len,cap,elems,rest,m,hm,rfl,rfl,hb0,hlc,hml,hlen,hel,hspr,_⟩
   ·simp[DataW.trod,ht]
   ·have hmn:m=n:=by omega
    subst hmn
    obtain⟨hrl,hr⟩:=hspr rfl
    have hpe:∀ y,y ∈ elems++rest ->∀ p ∈ y.2,sp p.block=true:=fun y hy p hp=>hsp p (by
     simp only[List.mem_append,List.mem_flatMap]
     exact .inr ⟨y,by simpa using hy,hp⟩)
    have step:∀ (i:Nat) (y:DataW H × List MemPlace),y ∈ elems++rest -> ((w.cells? 0 (a.add (i*P.cellsOf e)) (P.cellsOf e)).bind (DataW.trod enc P w 0 (fun _=>true) held m e))=some y ->
      ((w.cells? 0 (a.add (i*P.cellsOf e)) (P.cellsOf e)).bind (DataW.trod enc P w 0 sp held m e))=some y:=fun i y hy hh=>by
     rw[Option.bind_eq_some_iff]at hh ⊢
     obtain⟨cs,g1,g2⟩:=hh
     exact⟨cs,g1,ih e cs y heS g2 (hpe y hy)⟩
    have h1':(List.range len).mapM (fun i=> (w.cells? 0 (a.add (i*P.cellsOf e)) (P.cellsOf e)).bind (DataW.trod enc P w 0 sp held m e))=some elems:=
     mapM_some_of_get _ _ (by simp[hlen]) (fun i x hx=>by
      obtain⟨hi,rfl⟩:=List.getElem?_eq_some_iff.1 hx
      simp only[List.length_range]at hi
      rw[List.getElem_range,List.getElem?_eq_getElem (by omega)]
      refine step i _ (List.mem_append_left _ (List.getElem_mem _)) ?_
      rw[hel i hi,List.getElem?_eq_getElem (by omega)])
    have h2':(List.range (cap - len)).mapM (fun j=> (w.cells? 0 (a.add ((len+j)*P.cellsOf e)) (P.cellsOf e)).bind (DataW.trod enc P w 0 sp held m e))=some rest:=
     mapM_some_of_get _ _ (by simp[hrl]) (fun i x hx=>by
      obtain⟨hi,rfl⟩:=List.getElem?_eq_some_iff.1 hx
      simp only[List.length_range]at hi
      rw[List.getElem_range,List.getElem?_eq_getElem (by omega)]
      refine step (len+i) _ (List.mem_append_right _ (List.getElem_mem _)) ?_
      rw[hr i hi,List.getElem?_eq_getElem (by omega)])
    rw[DataW.trod_step]
    unfold DataW.trodStep
    simp only[ht]
    rw[if_pos ⟨hb0,hlc,hml⟩,h1']
    simp only[Option.bind_some]
    by_cases hz:cap - len=0
    ·have:rest=[]:=List.eq_nil_of_length_eq_zero (by omega)
     subst this
     rw[hz]
     split <;>simp
    ·have hb:sp a.block=true:=by
      refine hsp (.cell a.block a.off) ?_
      simp only[List.mem_append]
      refine .inl (MemPlace.mem_row.2 ⟨0,?_,rfl⟩)
      have hp:0 < P.cellsOf e:=hc.2
      exact Nat.mul_pos (by omega) hp
     rw[if_pos hb,h2']
     simp
  ·rename_i fs ht
   simp only[Bool.and_eq_true]at hc
   have hfS:∀ f,f ∈ fs.toList ->f.type ∈ S:=fun f hf=>by have:=List.all_eq_true.1 hc.1 f hf;simpa using this
   obtain⟨xs,m,hm,rfl,hcl,hxl,hx⟩:=DataW.trod_struct ht h
   have hmn:m=n:=by omega
   subst hmn
   have h1':fs.toList.mapM (fun f=>DataW.trod enc P w 0 sp held m f.type ((cs.drop f.offset).take (P.cellsOf f.type)))=some xs:=
    mapM_some_of_get _ _ (by simp[hxl]) (fun i f hf=>by
     have hfa:fs[i]? =some f:=by simpa using hf
     have h2:=hx i f hfa
     have hi:i < xs.length:=by have:=(Array.getElem?_eq_some_iff.1 hfa).1;omega
     rw[List.getElem?_eq_getElem hi]at h2 ⊢
     exact ih f.type _ _ (hfS f (by rw[Array.mem_toList_iff];exact Array.mem_of_getElem? hfa)) h2 fun p hp=>hsp p (List.mem_flatMap.2 ⟨_,List.getElem_mem hi,hp⟩))
   rw[DataW.trod_step]
   unfold DataW.trodStep
   simp only[ht]
   rw[if_pos hcl,h1']
   rfl
  ·rename_i q e ht
   simp only[Bool.and_eq_true,decide_eq_true_eq]at hc
   have heS:e ∈ S:=by simpa using hc.1
   obtain⟨xs,m,hm,rfl,hcl,hxl,hx⟩:=DataW.trod_array ht h
   have hmn:m=n:=by omega
   subst hmn
   have h1':(List.range q).mapM (fun i=>DataW.trod enc P w 0 sp held m e ((cs.drop (i*P.cellsOf e)).take (P.cellsOf e)))=some xs:=
    mapM_some_of_get _ _ (by simp[hxl]) (fun i f hf=>by
     obtain⟨hi,rfl⟩:=List.getElem?_eq_some_iff.1 hf
     simp only[List.length_range]at hi
     rw[List.getElem_range]
     have h2:=hx i hi
     rw[List.getElem?_eq_getElem (by omega)]at h2 ⊢
     exact ih e _ _ heS h2 fun p hp=>hsp p (List.mem_flatMap.2 ⟨_,List.getElem_mem (by omega),hp⟩))
   rw[DataW.trod_step]
   unfold DataW.trodStep
   simp only[ht]
   rw[if_pos hcl,h1']
   rfl
  ·cases hc
theorem vE(hS:mK P S=true){w':World}{sp:Nat ->Bool}(hb:Below w.heap.size w w'):∀ (ts:List TypeId) (vs:List Value) (ds:List (DataW H)) (ps:List MemPlace),(∀ t,t ∈ ts ->t ∈ S) ->
  DataW.TrodAll enc P w 0 (fun _=>true) held ts vs ds ps -> (∀ p ∈ ps,p.block < w.heap.size) -> (∀ p ∈ ps,sp p.block=true) ->DataW.TrodAll enc P w' 0 sp held ts vs ds ps
 |[],[],[],ps,_,h,_,_=>h
 | t::ts,v::vs,d::ds,ps,hts,⟨p,q,⟨fuel,h1⟩,h2,h3⟩,hlt,hsp=>by
  subst h3
  have hsame:∀ x ∈ p,w.sameAt w' x:=fun x hx=>by
   have hl:=hlt x (by simp[hx])
   cases x with
   |cell b o=>exact hb.cell (p:=⟨b,o,none⟩) hl
   |map b=>exact hb.block b hl
  have h4:=DataW.trod_carry fuel t _ _ h1 hsame
  exact⟨p,q,⟨fuel,C1h hS fuel t _ _ (hts t (by simp)) h4 fun x hx=>hsp x (by simp[hx])⟩,
   vE hS hb ts vs ds q (fun t ht=>hts t (by simp[ht])) h2 (fun x hx=>hlt x (by simp[hx])) (fun x hx=>hsp x (by simp[hx])),rfl⟩
 |[],_::_,_,_,_,h,_,_=>h.elim
 |[],[],_::_,_,_,h,_,_=>h.elim
 |_::_,[],_,_,_,h,_,_=>h.elim
 |_::_,_::_,[],_,_,h,_,_=>h.elim
end shut
section typed
variable {P:Program} {n:Nat} {t:TypeId} {d:DataW H}
theorem B5t(h:tM P n t d)(ht:P.underlying t=some .bool):∃ b,d= .lit (.bool b):=by
 cases n with
 |zero=>exact h.elim
 |succ n=>simp only[tM,ht]at h;exact h
theorem rB{k:IntKind}(h:tM P n t d)(ht:P.underlying t=some (.int k)):∃ m,d= .lit (.int k m) /\ (Lit.int k m).wf=true:=by
 cases n with
 |zero=>exact h.elim
 |succ n=>simp only[tM,ht]at h;exact h
theorem C1j(h:tM P n t d)(ht:P.underlying t=some .string):∃ s,d= .lit (.string s) /\ s.length <=maxLen:=by
 cases n with
 |zero=>exact h.elim
 |succ n=>simp only[tM,ht]at h;exact h
theorem pY{e:TypeId}(h:tM P n t d)(ht:P.underlying t=some (.slice e)):∃ xs sp m,(d= .nil /\ xs=[] \/ d= .slice xs sp) /\ n=m+1 /\ ∀ x,x ∈ xs ->tM P m e x:=by
 cases n with
 |zero=>exact h.elim
 | succ n=>
  simp only[tM,ht]at h
  rcases h with h|⟨xs,sp,h1,h2⟩
  ·exact⟨[],[],n, .inl ⟨h,rfl⟩,rfl,fun x hx=>by cases hx⟩
  ·exact⟨xs,sp,n, .inr h1,rfl,h2⟩
theorem A4e{fs:Array Field}(h:tM P n t d)(ht:P.underlying t=some (.struct fs)):∃ ds m,d= .agg ds /\ n=m+1 /\ ds.length=fs.size /\ ∀ (i:Nat) (f:Field) x,fs[i]? =some f ->ds[i]? =some x ->tM P m f.type x:=by
 cases n with
 |zero=>exact h.elim
 | succ n=>
  simp only[tM,ht]at h
  obtain⟨ds,h1,h2,h3⟩:=h
  exact⟨ds,n,h1,rfl,h2,h3⟩
theorem mO{P:Program}{α:Type}{e:TypeId}{enc:α ->AV}{good:DataW H ->α ->Prop}{m:Nat}(hd:∀ x,tM P m e x ->∃ a,hP x=enc a /\ good x a):∀ (xs:List (DataW H)),(∀ x,x ∈ xs ->tM P m e x) ->
  ∃ l:List α,sC xs=l.map enc /\ l.length=xs.length /\ ∀ (i:Nat) x a,xs[i]? =some x ->l[i]? =some a ->good x a
 |[],_=> ⟨[],by simp[sC],rfl,fun i x a h=>by simp at h⟩
 | x::xs,h=>by
  obtain⟨a,h1,h2⟩:=hd x (h x (by simp))
  obtain⟨l,h3,h4,h5⟩:=mO hd xs fun y hy=>h y (by simp[hy])
  refine⟨a::l,by simp[sC,h1,h3],by simp[h4],fun i y b hy hb=> ?_⟩
  cases i with
  |zero=>simp at hy hb;subst hy hb;exact h2
  |succ i=>exact h5 i y b (by simpa using hy) (by simpa using hb)
end typed
section entry
variable {P:Program} {G:Nat ->AV} {W:World}
def lX(W:World):aJ:= {imm:=fun b o=>W.cell? ⟨b,o,none⟩,row:=fun _=>none,base:=W.heap.size,W:=W,obs:=fun _=>none}
def B1a:AS:= {box:=fun _=>none,tip:=fun _=>none,ty:=fun _=>none}
theorem aZ.entry(hG:∀ g,VR (lX W) (G g) (.pointer (some ⟨g,0,none⟩))):aZ G (lX W) B1a W:=
 ⟨fun _ _ _ h=>h,fun _ _ _ _ h=> (by cases h),fun _ _ h=> (by cases h),fun _ _ _ h=> (by cases h),fun _ _ _ h=> (by cases h),hG,⟨Below.refl _ _,fun _ _ h=> (by cases h)⟩,Nat.le_refl _⟩
theorem aN.calls{f:FuncId}{args:List AV}{vals:List Value}{b:Bool}(h:aN P G f args (.bool b))(hG:∀ g,VR (lX W) (G g) (.pointer (some ⟨g,0,none⟩)))(hv:iL (lX W) args vals):
  Calls P f vals.toArray W fun e w'=>e= .returned (.bool b) /\ Below W.heap.size W w':=by
 refine((h B1a).2 (lX W) W vals (aZ.entry hG) hv).mono ?_
 rintro e w' ⟨v,r,σ',K',rfl,⟨rfl,rfl⟩,hvr,hrel,hle⟩
 rw[VR.bool_iff]at hvr
 subst hvr
 have hb:=hrel.below.b
 rw[hle.base,hle.W]at hb
 exact⟨rfl,hb⟩
end entry
theorem B3g {t0:TypeId} {enc:TypeId × Value ->H} {P:Program} {f:Func} {s:ChangeSpec} {W W':World} {args:Array Value} {ds gs:List (DataW H)} {before:List MemPlace} {S:List TypeId} (hS:mK P S=true) (hts:∀ t,t ∈ f.params.toList ->t ∈ S)
  (hvars:s.vars=[]) (hres:f.resultTypes= #[t0]) (ht0:P.underlying t0=some .bool)
  (hfn:s.fn H (ds++gs)= {results:=[.lit (.bool true)],args:=ds})
  (hW:DataW.Whole enc P f.params.toList s.vars false W args.toList ds gs before) (hb:Below W.heap.size W W'):
  s.post enc P f false true false false W args (.bool true) W':=by
 have hW':=hW
 obtain⟨p,q,hA,hV,rfl,hfz,hnd⟩:=hW
 rw[hvars]at hV
 obtain⟨hgs,rfl⟩:=trodVars_none hV
 rw[List.append_nil]at hW'
 have hA':DataW.TrodAll enc P W 0 (fun _=>true) true f.params.toList args.toList ds p:=hA
 have hlt:∀ x ∈ p,x.block < W.heap.size:=fun x hx=>hA'.lt x hx
 have inW:∀ x ∈ p,decide (x.block < W.heap.size)=true:=fun x hx=>by simpa using hlt x hx
 have results:∀ (b:Nat) (sp:Nat ->Bool) (hd:Bool),DataW.TrodAll enc P W' b sp hd f.resultTypes.toList ((Value.bool true).resultList f.resultTypes.size) (s.fn H (ds++gs)).results []:=fun b sp hd=>by
  rw[hfn,hres];exact trodAll_cons_mk (shut_bool ht0 _) trodAll_mk0
 have arguments:∀ sp:Nat ->Bool,(∀ x ∈ p,sp x.block=true) ->DataW.TrodAll enc P W' 0 sp true f.params.toList args.toList (s.fn H (ds++gs)).args p:=fun sp hsp=>by
  rw[hfn];exact vE hS hb _ _ _ _ hts hA' hlt hsp
 have variables_:∀ sp:Nat ->Bool,DataW.TrodVars enc P W' sp s.vars (s.fn H (ds++gs)).vars []:=fun sp=>by
  rw[hfn,hvars];exact rfl
 refine⟨ds,gs,p,[],p,[],by simpa using hW',results _ _ _,arguments _ inW,variables_ _,World.keptBut_mono (fun x hx=>hx.elim) (hb.frame fun _=>False),fun _=> ?_⟩
 refine⟨?_,_,_,p,⟨p,[],trodAll_append (arguments _ fun _ _=>rfl) (results _ _ _),variables_ _,(by simp),?_,fun h=> (by cases h)⟩,fun x hx _=> (by simpa using hx)⟩
 ·exact ok_one hres rfl (okWide_bool_mk ht0 _)
 ·intro b o hx
  rw[hb.frozen (p:=⟨b,o,none⟩) (hlt (.cell b o) hx)]
  exact hfz b o (by simpa using hx)
end Go.Av
