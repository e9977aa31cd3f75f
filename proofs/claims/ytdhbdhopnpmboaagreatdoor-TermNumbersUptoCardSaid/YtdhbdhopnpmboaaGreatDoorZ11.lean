/- Terms copied: the copy's rows are its own. -/
import Derived.Test.YtdhbdhopnpmboaaGreatDoorZ08
import Derived.Test.YtdhbdhopnpmboaaGreatDoorZ10
import Derived.Test.YtdhbdhopnpmboaaGreatDoorZ06
import Derived.Test.YtdhbdhopnpmboaaGreatDoorZ09
set_option linter.unusedVariables false
set_option linter.unusedSimpArgs false
set_option maxRecDepth 20000
set_option linter.defProp false
namespace Go.Proofs.YtdhbdhopnpmboaaGreatDoor
open Go Go.Av
section
def dN:=And.intro (And.intro (And.intro (And.intro @jD (And.intro @iZ @jJ)) (And.intro @eG (And.intro @jE @dL))) (And.intro (And.intro @eN (And.intro @dV @eD)) (And.intro @qJ (And.intro @aA.flat_enc @aA.isv_enc)))) (And.intro (And.intro (And.intro @aA.fold_enc (And.intro @aS @aN)) (And.intro @aU (And.intro @bW @bG))) (And.intro (And.intro @aQ (And.intro @aM @aZ)) (And.intro @cH (And.intro @bQ @bB))))
variable (G:Nat ->AV)
theorem B3x{P:Program}{σ:AS}{t e:TypeId}{n bZ:Nat}{K:AV ->AS ->Prop}{d:Dum σ}{d':Dum K}(he:dU P t=some (e,n,bZ))(hK:∀ b,σ.fresh b ->K (.bs b 0 n e) (σ.setBox b [])):bmW true P σ t 0 [] K d d':=by
 refine .inr ⟨rfl,?_⟩
 have h1:dQ P t 0 []=some (.sl .full [] []):=by
  refine gN ?_
  unfold bsk
  rw[he]
  simp
 obtain⟨h2,ag,h3⟩:=C1q he
 unfold sI
 rw[h1,h3,h2]
 simpa using hK
theorem A1i{σ σ':AS}{v:AV}{l:List UInt32}(h:fP 1 47 σ σ' v (l.map bC)):∃ S,mZ σ' false l v S /\ bK σ σ' S:=by
 generalize hx:l.map bC=xs at h
 cases h with
 |nil h=>exact⟨[], .inl ⟨rfl,by simpa using hx,rfl,rfl⟩,h,by simp,by simp,by simp⟩
 | row b xs h h0 h1 hb hxs=>
  subst hx
  rw[rT]at hb
  exact⟨[b], .inr ⟨b,[],by rw[List.length_map],rfl,by rw[List.append_nil];exact hb,rfl⟩,h,fun c hc=>by simp at hc;subst hc;exact⟨h0,h1⟩,by simp,fun c hc=>by simp at hc;subst hc;exact⟨_,hb⟩⟩
theorem B0h{σ σ':AS}{v:AV}{vs:List AV}{l:List aA}{S:List Nat}(hB:fP 7 26 σ σ' v vs)(hvl:vs.length=l.length)(hC:cF σ' false l (vs.flatMap flat) S)(hN:bK σ σ' S)(hR:∀ b,b ∈ S ->cS v b):∃ S',iB σ' false l v S' /\ bK σ σ' S':=by
 cases hB with
 | nil h=>
  have:l=[]:=List.eq_nil_of_length_eq_zero hvl.symm
  subst this
  exact⟨[], .inl ⟨rfl,rfl,rfl,rfl⟩,h,by simp,by simp,by simp⟩
 | row b xs h h0 h1 hb hxs=>
  refine⟨b::S, .inr ⟨b,vs.flatMap flat,[],S,by rw[hvl],rfl,by rw[List.append_nil];exact hb,rfl,hC⟩,hN.le,fun c hc=> ?_,List.nodup_cons.2 ⟨fun hb'=>hR b hb' rfl,hN.nd⟩,fun c hc=> ?_⟩
  ·rcases List.mem_cons.1 hc with rfl|hc
   ·exact⟨h0,h1⟩
   ·exact hN.fr c hc
  ·rcases List.mem_cons.1 hc with rfl|hc
   ·exact⟨_,hb⟩
   ·exact hN.on c hc
theorem A4f(l:List UInt32)(hl:l.length <=1000000000)(σ:AS):aJ Tryz.prog G 49 [bD l] σ fun r σ'=>∃ S,mZ σ' false l r S /\ bK σ σ' S:=by
 have key:∀ x,(∀ op t,(el Tryz.prog t).isSome=true ->lV Tryz.prog op t x .nil=vS op false) ->lJ Tryz.prog 23 x=some (l.map bC) ->aJ Tryz.prog G 49 [x] σ fun r σ'=>∃ S,mZ σ' false l r S /\ bK σ σ' S:=by
  intro x h1 h2
  have h3:=h1 .eql 23 (by rw[wJ];rfl)
  refine aJ.of_awp mixed Tryz.func49 rfl (by kernel_rfl) (by kernel_rfl) (by simp[Tryz.ntmps49]) Tryz.results49 ?_
  simp -dsimp only[↓bp,bq,br,seval,dN,h3]
  refine B3x tfL fun b hb=> ?_
  simp -dsimp only[↓bp,bq,br,seval,dN]
  refine gB (σ0:=σ) (xs:=[]) (ys:=l.map bC) (.row b [] (cE hb (AS.le.refl σ)) hb.1 hb.2.1 AS.set_get (fun a ha=>by cases ha)) tfL h2 (fun a ha=> ⟨yM a ha,by obtain⟨x,_,rfl⟩:=List.mem_map.1 ha;rfl⟩) (by simp;omega) (fun v2 σ2 hA2=> ?_)
  have hB2:=hA2.buf
  rw[List.nil_append]at hB2
  simp -dsimp only[↓bp,bq,br,seval,dN]
  exact aE _ (AS.le.refl _) (A1i hB2)
 cases l with
 | nil=>
  refine aJ.nil_or ?_ fun a c=> ?_
  ·refine aJ.of_awp mixed Tryz.func49 rfl (by kernel_rfl) (by kernel_rfl) (by simp[Tryz.ntmps49]) Tryz.results49 ?_
   simp -dsimp only[↓bp,bq,br,seval,dN]
   exact aE _ (AS.le.refl _) ⟨[], .inl ⟨rfl,rfl,rfl,rfl⟩,AS.le.refl _,by simp,by simp,by simp⟩
  ·exact key _ (fun op t h=>by rw[sH,if_pos h]) (by simp[lJ,wJ])
 |cons x l=>exact key _ (fun op t h=>by simp[bD,lV,isNil,h]) (bJ wJ)
theorem aJ.inf{P:Program}{f:FuncId}{args:List AV}{σ:AS}{Q:AV ->AS ->Prop}(h:aJ P G f args σ Q):aJ P G f args σ fun r s=>Q r s /\ Inf s:=
 ⟨h.1,fun K w vals hr hvl=> (h.2 K w vals hr hvl).mono (by rintro e w' ⟨u,r,s,K',he,hQ,h1,h2,h3⟩;exact⟨u,r,s,K',he,⟨hQ,uV h2⟩,h1,h2,h3⟩)⟩
theorem A2u{P:Program}{t e:TypeId}{n bZ:Nat}{a:AV}(he:dU P t=some (e,n,bZ))(hi:isv a=true)(hf:(Av.flat a).length=n)(hn:n <=16777216):dQ P t 1 [(0,a)]=some (.sl .full [a] []):=by
 refine gN ?_
 unfold bsk
 rw[he]
 simp[List.range_succ,hi,hf,hn]
theorem D5i{P:Program}{t e:TypeId}{n bZ:Nat}{a b:AV}(he:dU P t=some (e,n,bZ))(hi:isv a=true)(hf:(Av.flat a).length=n)(hi2:isv b=true)(hf2:(Av.flat b).length=n)(hn:2*n <=16777216):dQ P t 2 [(0,a),(1,b)]=some (.sl .full [a,b] []):=by
 refine gN ?_
 unfold bsk
 rw[he]
 simp[List.range_succ,hi,hf,hi2,hf2,hn]
theorem E9u:dU Tryz.prog 36=some (24,1,24):=qJ.2.2.2.2.2.2
theorem A3o(l:List aA):dQ Tryz.prog 36 1 [(0,aH l)]=some (.sl .full [aH l] []):=A2u E9u (aS l) (by rw[aN];rfl) (by omega)
def C7l(G:Nat ->AV)(x:aA):Prop:=∀ σ,aJ Tryz.prog G 12 [x.enc] σ fun r σ'=>∃ S,cW σ' false x r S /\ bK σ σ' S
set_option maxHeartbeats 4000000 in
theorem xE(ls:List (List aA))(hl:ls.length <=1000000)(hb:ls.flatten.length <=1000000000)(hf:∀ x,x ∈ ls.flatten ->C7l G x)(σ:AS):aJ Tryz.prog G 50 [A4o ls] σ fun r σ'=>∃ S,iB σ' false ls.flatten r S /\ bK σ σ' S:=by
 have hcc:=A1r G ls hl hb
 generalize ls.flatten=l at*
 refine aJ.of_awp mixed Tryz.func50 rfl (by kernel_rfl) (by kernel_rfl) (by simp[Tryz.ntmps50]) Tryz.results50 ?_
 repeat'(first|(refine wn ?_;intro bx hbx;try simp only[fb]at hbx)|refine wp hcc ?_|refine wj ?_|simp -dsimp only[↓bp,bq,br,seval,dN,mH,pR, *]|refine wz ?_|fail)
 have hC0:cF σ false (l.take 0) (([]:List AV).flatMap flat) []:=by simp[cF]
 have hN0:bK σ σ []:=⟨AS.le.refl _,by simp,by simp,by simp⟩
 refine aI (fun n e σ'=>∃ (i:Nat) (v:AV) (vs:List AV) (S:List Nat),i <=l.length /\ n=l.length - i /\ e 9= .int .i64 i /\ e 3=v /\ fP 7 26 σ σ' v vs /\ vs.length=i /\ cF σ' false (l.take i) (vs.flatMap flat) S /\ bK σ σ' S /\ (∀ b,b ∈ S ->cS v b)) l.length
  ⟨0, .nil,[],[],by omega,by omega,by first|(simp -dsimp only[↓bp,bq,br,seval,dN];done)|(simp -dsimp only[↓bp,bq,br,seval,dN];try rfl),by first|(simp -dsimp only[↓bp,bq,br,seval,dN];done)|(simp -dsimp only[↓bp,bq,br,seval,dN];try rfl), .nil (AS.le.refl _),rfl,hC0,hN0,by simp⟩ ?_
 clear hC0 hN0 hcc
 rintro n e1 σ2 ⟨i,v2,vs,S,hi,rfl,h4,h3,hB,hvl,hO,hN,hR⟩
 simp -dsimp only[↓bp,bq,br,seval,dN]at h4 h3
 by_cases hlt:i < l.length
 ·have hlt':((i:Int) < l.length)=True:=eq_true (by omega)
  obtain⟨k,hk⟩:∃ k,l[i]? =some k:=⟨_,List.getElem?_eq_getElem hlt⟩
  have hc:=hf k (List.mem_of_getElem? hk)
  have hwi:IntKind.i64.wrap ((i:Int)+1)=((i+1:Nat):Int):=by rw[aC (by omega) (by omega)];rfl
  clear hf
  repeat'(first|(refine wn ?_;intro bx hbx;try simp only[fb]at hbx)|((refine aJ.mono (hc _) ?_;rintro r σ3 ⟨S1,hO1,hN1⟩;have hsh:=kW hO1;obtain⟨vl,vk,vt,Sl,Sk,St,rfl,hSS,g1,g2,g3⟩:=(bX _ _ _ _ _).1 hO1;obtain⟨a1,a2,a7⟩:=g1.one;obtain⟨a3,a4,a8⟩:=g2.one;obtain⟨a5,a6,a9⟩:=g3.one))|refine wj ?_|simp -dsimp only[↓bp,bq,br,seval,dN, *]|refine wz ?_|fail)
  have hl0:σ2.le (σ2.setBox bx [.int .u8 k.knd, .bool k.neg,bD k.limbs, .str k.text, .int .i64 k.num,aH k.items,aH k.tail]):=cE hbx (AS.le.refl _)
  have hfr:∀ b,b ∈ S1 ->σ2.box b=none /\ σ2.tip b=none:=fun b hb=> ⟨gU hl0 (hN1.fr b hb).1,iL hl0 (hN1.fr b hb).2⟩
  have hl3:=hl0.trans hN1.le
  have hB4:=A3c hB hl3
  have hR1:∀ b,b ∈ S1 ->cS v2 b:=fun b hb=>qX hB (hfr b hb).1
  have hK4:∀ b,b ∈ S++S1 ->∃ z,σ3.box b=some z /\ cS v2 b:=fun b hb=>by
   rcases List.mem_append.1 hb with hb|hb
   ·obtain⟨z,hz⟩:=hN.on b hb
    exact⟨z,hl3.box _ _ hz,hR b hb⟩
   ·obtain⟨z,hz⟩:=hN1.on b hb
    exact⟨z,hz,hR1 b hb⟩
  have hO4:cF σ3 false (l.take i) (vs.flatMap flat) S:=hO.keep (cM hl3 hO.on)
  clear hc g1 g2 g3 hO hSS hl0 hl3
  refine gB (ys:=[.agg [.int .u8 k.knd, .bool k.neg,vl, .str k.text, .int .i64 k.num,vk,vt]]) hB4 tW (bJ tfE) (fun a ha=>by simp at ha;subst ha;exact⟨hsh.1,hsh.2.1⟩) (by simp;omega) (fun v5 σ5 hA=> ?_)
  have hK5:∀ b,b ∈ S++S1 ->σ5.box b=σ3.box b /\ cS v5 b:=fun b hb=>by
   obtain⟨z,hz,hn⟩:=hK4 b hb
   obtain⟨h1,h2⟩:=hA.keep b z hz hn
   exact⟨by rw[h1,hz],h2⟩
  have hC5:cF σ5 false (l.take (i+1)) ((vs++[AV.agg [.int .u8 k.knd, .bool k.neg,vl, .str k.text, .int .i64 k.num,vk,vt]]).flatMap flat) (S++S1):=by
   rw[aW _ _ _ hk,List.flatMap_append,List.flatMap_cons,List.flatMap_nil,List.append_nil]
   exact pY (aK k _ S1 hO1 fun b hb=> (hK5 b (List.mem_append_right _ hb)).1) _ _ _ (hO4.keep fun b hb=> (hK5 b (List.mem_append_left _ hb)).1)
  clear hO1 hO4 hsh
  repeat'(first|(refine wn ?_;intro bx hbx;try simp only[fb]at hbx)|refine wj ?_|simp -dsimp only[↓bp,bq,br,seval,dN, *]|refine wz ?_|fail)
  exact⟨l.length - (i+1),by omega,i+1,v5,vs++[AV.agg [.int .u8 k.knd, .bool k.neg,vl, .str k.text, .int .i64 k.num,vk,vt]],S++S1,by omega,rfl,rfl,rfl,hA.buf,by simp[hvl],hC5,hN.more hfr hN1.nd hA.buf.le (fun b hb=>by obtain⟨z,hz,_⟩:=hK4 b hb;exact⟨z,by rw[(hK5 b hb).1,hz]⟩),fun b hb=> (hK5 b hb).2⟩
 ·have:i=l.length:=by omega
  subst this
  have hlt':((l.length:Int) < l.length)=False:=eq_false (by omega)
  rw[List.take_length]at hO
  clear hf hlt hi
  repeat'(first|(refine wn ?_;intro bx hbx;try simp only[fb]at hbx)|refine wj ?_|simp -dsimp only[↓bp,bq,br,seval,dN, *]|refine wz ?_|fail)
  exact aE _ (AS.le.refl _) (B0h hB hvl hO hN hR)
theorem uN(l:List aA)(hb:l.length <=1000000000)(hf:∀ x,x ∈ l ->C7l G x)(σ:AS):aJ Tryz.prog G 50 [.sl .full [aH l] []] σ fun r σ'=>∃ S,iB σ' false l r S /\ bK σ σ' S:=by
 have h:=aJ.weaken (args:=[.sl .full [aH l] []]) (.cons Le.gh .nil) (xE G [l] (by simp) (by simpa using hb) (by simpa using hf) σ)
 simpa using h
theorem pN(t:aA):t.bulk <=1000000000 ->C7l G t:=by
 refine aA.ind (P:=fun t=>t.bulk <=1000000000 ->C7l G t) (fun t ih1 ih2 hb=> ?_) t
 have h1:=uN G t.items (by have:=cA t;omega) (fun x hx=>ih1 x hx (by have:=dJ hx;omega))
 have h2:=uN G t.tail (by have:=dD t;omega) (fun x hx=>ih2 x hx (by have:=dK hx;omega))
 have h3:=A4f G t.limbs (by have:=cQ t;omega)
 clear ih1 ih2 hb
 intro σ
 refine aJ.of_awp mixed Tryz.func12 rfl (by kernel_rfl) (by kernel_rfl) (by simp[Tryz.ntmps12]) Tryz.results12 ?_
 simp -dsimp only[↓bp,bq,br,seval,dN]
 refine cX fun b1 hb1=> ?_
 simp -dsimp only[↓bp,bq,br,seval,dN]
 refine aY fun b2 hb2=> ?_
 simp only[fb]at hb2
 obtain⟨hb2,hn1,hn2⟩:=hb2
 obtain⟨A0,hA0⟩:∃ S,S=(σ.setBox b1 [.int .u8 t.knd, .bool t.neg,bD t.limbs, .str t.text, .int .i64 t.num,aH t.items,aH t.tail]).setBox b2 [.int .u8 0, .bool false, .nil, .str [], .int .i64 0, .nil, .nil]:=⟨_,rfl⟩
 have l0:σ.le A0:=by rw[hA0];exact((AS.le.refl σ).setBox hb1.1 _).setBox hb2.1 _
 have e1:A0.box b1=some [.int .u8 t.knd, .bool t.neg,bD t.limbs, .str t.text, .int .i64 t.num,aH t.items,aH t.tail]:=by rw[hA0];simp[AS.setBox,hn1,hn2]
 have e2:A0.box b2=some [.int .u8 0, .bool false, .nil, .str [], .int .i64 0, .nil, .nil]:=by rw[hA0];simp[AS.setBox]
 rw[<- hA0]
 clear hA0
 repeat'(first|(refine wn ?_;intro bx hbx;try simp only[fb]at hbx)|refine wi ?_|simp -dsimp only[↓bp,bq,br,seval,dN, *]|refine wz ?_|fail)
 refine vZ 12 [0,1,3,4,7,8,5,9,2,11,6,10] (by decide+kernel) rfl ?_
 intro hinf
 refine fD (v:= .ptr b1 2) rfl rfl (by simp only[tR];simp -dsimp only[↓bp,bq,br,seval,dN, *]) ?_
 refine fD (v:=bD t.limbs) rfl rfl (by simp only[tR];simp -dsimp only[↓bp,bq,br,seval,dN, *]) ?_
 refine fD (v:= .ptr b1 5) rfl rfl (by simp only[tR];simp -dsimp only[↓bp,bq,br,seval,dN, *]) ?_
 refine fD (v:=aH t.items) rfl rfl (by simp only[tR];simp -dsimp only[↓bp,bq,br,seval,dN, *]) ?_
 refine fD (v:= .ptr b1 6) rfl rfl (by simp only[tR];simp -dsimp only[↓bp,bq,br,seval,dN, *]) ?_
 refine fD (v:=aH t.tail) rfl rfl (by simp only[tR];simp -dsimp only[↓bp,bq,br,seval,dN, *]) ?_
 refine fD (v:= .sl .full [aH t.items] []) rfl rfl (by simp only[tR];simp -dsimp only[↓bp,bq,br,seval,dN];exact A3o _) ?_
 refine fD (v:= .sl .full [aH t.tail] []) rfl rfl (by simp only[tR];simp -dsimp only[↓bp,bq,br,seval,dN];exact A3o _) ?_
 refine vB rfl rfl ?_
 simp -dsimp only[↓bp,bq,br,seval,dN]
 refine aJ.mono (aJ.inf G (h3 _)) ?_
 rintro vl s1 ⟨⟨Sl,hL,hN1⟩,i1⟩
 refine⟨hN1.le,i1,?_⟩
 obtain⟨a1,a2,a7⟩:=hL.one
 have f1:=hN1.le.box _ _ e1
 have f2:=hN1.le.box _ _ e2
 have n1:∀ b,b ∈ Sl ->b ≠ b1 /\ b ≠ b2:=fun b hb=> ⟨fun e=> (by rw[e]at hb;rw[(hN1.fr b1 hb).1]at e1;cases e1),fun e=> (by rw[e]at hb;rw[(hN1.fr b2 hb).1]at e2;cases e2)⟩
 clear h3
 refine fD (v:= .ptr b1 2) rfl rfl (by simp only[tR];simp -dsimp only[↓bp,bq,br,seval,dN, *]) ?_
 refine vB rfl rfl ?_
 simp -dsimp only[↓bp,bq,br,seval,dN]
 refine aJ.mono (aJ.inf G (h1 _)) ?_
 rintro vk s2 ⟨⟨Sk,hK,hN2⟩,i2⟩
 refine⟨hN2.le,i2,?_⟩
 obtain⟨a3,a4,a8⟩:=hK.one
 have n2:∀ b,b ∈ Sk ->b ≠ b1 /\ b ≠ b2:=fun b hb=> ⟨fun e=> (by rw[e]at hb;rw[(hN2.fr b1 hb).1]at f1;cases f1),fun e=> (by rw[e]at hb;rw[(hN2.fr b2 hb).1]at f2;cases f2)⟩
 have g1:=hN2.le.box _ _ f1
 have g2:=hN2.le.box _ _ f2
 clear h1
 refine vB rfl rfl ?_
 simp -dsimp only[↓bp,bq,br,seval,dN]
 refine aJ.mono (aJ.inf G (h2 _)) ?_
 rintro vt s3 ⟨⟨St,hT,hN3⟩,i3⟩
 refine⟨hN3.le,i3,?_⟩
 obtain⟨a5,a6,a9⟩:=hT.one
 have n3:∀ b,b ∈ St ->b ≠ b1 /\ b ≠ b2:=fun b hb=> ⟨fun e=> (by rw[e]at hb;rw[(hN3.fr b1 hb).1]at g1;cases g1),fun e=> (by rw[e]at hb;rw[(hN3.fr b2 hb).1]at g2;cases g2)⟩
 have k1:=hN3.le.box _ _ g1
 have k2:=hN3.le.box _ _ g2
 clear h2
 refine C2q ?_
 have M2:bK σ s2 (Sl++Sk):=(show bK σ s1 Sl from⟨l0.trans hN1.le,fun b hb=> ⟨gU l0 (hN1.fr b hb).1,iL l0 (hN1.fr b hb).2⟩,hN1.nd,hN1.on⟩).more hN2.fr hN2.nd ((l0.trans hN1.le).trans hN2.le) fun b hb=>by
  rcases List.mem_append.1 hb with hb|hb
  ·obtain⟨z,hz⟩:=hN1.on b hb;exact⟨z,hN2.le.box _ _ hz⟩
  ·exact hN2.on b hb
 have M3:bK σ s3 (Sl++Sk++St):=M2.more hN3.fr hN3.nd (M2.le.trans hN3.le) fun b hb=>by
  rcases List.mem_append.1 hb with hb|hb
  ·obtain⟨z,hz⟩:=M2.on b hb;exact⟨z,hN3.le.box _ _ hz⟩
  ·exact hN3.on b hb
 have hL3:=hL.keep (cM (hN2.le.trans hN3.le) hN1.on)
 have hK3:=hK.keep (cM hN3.le hN2.on)
 rw[List.append_assoc]at M3
 have M4:∀ C D,bK σ ((s3.setBox b1 C).setBox b2 D) (Sl++(Sk++St)) /\ ∀ b,b ∈ Sl++(Sk++St) -> ((s3.setBox b1 C).setBox b2 D).box b=s3.box b:=fun C D=>by
  have hne:∀ b,b ∈ Sl++(Sk++St) ->b ≠ b1 /\ b ≠ b2:=fun b hb=>by
   rcases List.mem_append.1 hb with hb|hb
   ·exact n1 b hb
   rcases List.mem_append.1 hb with hb|hb
   ·exact n2 b hb
   ·exact n3 b hb
  have hk:∀ b,b ∈ Sl++(Sk++St) -> ((s3.setBox b1 C).setBox b2 D).box b=s3.box b:=fun b hb=>by
   simp only[AS.setBox,if_neg (hne b hb).1,if_neg (hne b hb).2]
  exact⟨⟨(M3.le.setBox hb1.1 _).setBox hb2.1 _,M3.fr,M3.nd,fun b hb=>by rw[hk b hb];exact M3.on b hb⟩,hk⟩
 clear e1 e2 f1 f2 g1 g2 n1 n2 n3 hN1 hN2 hN3 hL hK M2 M3 l0 hinf i1 i2 i3
 repeat'(first|(refine wn ?_;intro bx hbx;try simp only[fb]at hbx)|refine wj ?_|simp -dsimp only[↓bp,bq,br,seval,dN, *]|refine wz ?_|fail)
 obtain⟨hN,hk⟩:=M4 [.int .u8 t.knd, .bool t.neg,vl, .str t.text, .int .i64 t.num,vk,vt] [.int .u8 t.knd, .bool t.neg,vl, .str t.text, .int .i64 t.num,vk,vt]
 exact aE _ (AS.le.refl _) ⟨_,(bX _ _ _ _ _).2 ⟨vl,vk,vt,Sl,Sk,St,rfl,rfl,hL3.keep fun b hb=>hk b (by simp[hb]),hK3.keep fun b hb=>hk b (by simp[hb]),hT.keep fun b hb=>hk b (by simp[hb])⟩,hN⟩
end
section
structure A2m(σ0 σ:AS)(F:Nat ->List Nat):Prop where
 le:σ0.le σ
 fr:∀ k b,b ∈ F k ->σ0.box b=none /\ σ0.tip b=none
 nd:∀ k,(F k).Nodup
 dj:∀ j k b,b ∈ F j ->b ∈ F k ->j=k
 on:∀ k b,b ∈ F k ->∃ z,σ.box b=some z
theorem A2m.none(σ:AS):A2m σ σ fun _=> []:=⟨AS.le.refl σ,fun _ _ h=> (by cases h),fun _=> .nil,fun _ _ _ h=> (by cases h),fun _ _ h=> (by cases h)⟩
def A1h(F:Nat ->List Nat)(k:Nat)(A:List Nat):Nat ->List Nat:=fun j=>if j=k then A else F j
theorem A2m.put{σ0 σ σ':AS}{F:Nat ->List Nat}{A:List Nat}(h:A2m σ0 σ F)(k:Nat)(hn:bK σ σ' A):A2m σ0 σ' (A1h F k A):=by
 refine⟨h.le.trans hn.le,fun j b hb=> ?_,fun j=> ?_,fun i j b hi hj=> ?_,fun j b hb=> ?_⟩
 ·unfold A1h at hb
  split at hb
  ·obtain⟨h1,h2⟩:=hn.fr b hb
   constructor
   ·cases e:σ0.box b with
    |none=>rfl
    |some z=>rw[h.le.box _ _ e]at h1;cases h1
   ·cases e:σ0.tip b with
    |none=>rfl
    |some z=>rw[h.le.tip _ _ e]at h2;cases h2
  ·exact h.fr j b hb
 ·unfold A1h;split
  ·exact hn.nd
  ·exact h.nd j
 ·unfold A1h at hi hj
  by_cases h1:i=k <;>by_cases h2:j=k
  ·rw[h1,h2]
  ·rw[if_pos h1]at hi;rw[if_neg h2]at hj
   obtain⟨z,hz⟩:=h.on j b hj
   rw[(hn.fr b hi).1]at hz;cases hz
  ·rw[if_neg h1]at hi;rw[if_pos h2]at hj
   obtain⟨z,hz⟩:=h.on i b hi
   rw[(hn.fr b hj).1]at hz;cases hz
  ·rw[if_neg h1]at hi;rw[if_neg h2]at hj
   exact h.dj i j b hi hj
 ·unfold A1h at hb
  split at hb
  ·exact hn.on b hb
  ·obtain⟨z,hz⟩:=h.on j b hb
   exact⟨z,hn.le.box _ _ hz⟩
section
variable {P:Program} {G:Nat ->AV}
abbrev wU:=AS ->AV ->List Nat ->Prop
def wQ(v:AV):wU:=fun _ x S=>x=v /\ S=[]
def isB(z:List AV):wU:=fun σ x S=>∃ b,x= .ptr b 0 /\ S=[b] /\ σ.box b=some z
def wL(q:wU):Prop:=∀ σ σ' v S,q σ v S -> (∀ b,b ∈ S ->σ'.box b=σ.box b) ->q σ' v S
theorem lD(v:AV):wL (wQ v):=fun _ _ _ _ h _=>h
theorem rR(z:List AV):wL (isB z):=fun σ σ' v S ⟨b,h1,h2,h3⟩ hk=> ⟨b,h1,h2,by rw[hk b (by rw[h2];simp)];exact h3⟩
def E6x(σ0:AS)(e0:bF)(n:Nat)(sl:Nat ->Nat)(Q:Nat ->wU)(D:Nat ->Bool)(e:bF)(σ:AS):Prop:=
 (∃ F,A2m σ0 σ F /\ ∀ k,k < n ->D k=true ->Q k σ (e (sl k)) (F k)) /\ ∀ t,(∀ k,k < n ->sl k ≠ t) ->e t=e0 t
def B7n(P:Program)(G:Nat ->AV)(σ0:AS)(e0:bF)(n:Nat)(sl:Nat ->Nat)(Q:Nat ->wU):Nat ->List Oper ->Prop
 |_,[]=>True
 |k,o::r=> (o.dst=some (sl k) /\ ∀ e σ,σ0.le σ -> (∀ j,j ∈ kE o ->∃ A,Q j σ (e (sl j)) A) -> (∀ t,(∀ j,j < n ->sl j ≠ t) ->e t=e0 t) ->gY P G o e σ (fun r s=>∃ A,bK σ s A /\ Q k s r A)) /\ B7n P G σ0 e0 n sl Q (k+1) r
theorem B7a{σ0:AS}{e0:bF}{n:Nat}{sl:Nat ->Nat}{Q:Nat ->wU}(hk:∀ k,wL (Q k))(hi:∀ i,i < n ->∀ j,j < n ->sl i=sl j ->i=j):∀ (l:List Oper) (k:Nat),k+l.length <=n -> (∀ o,o ∈ l ->∀ j,j ∈ kE o ->j < n) ->B7n P G σ0 e0 n sl Q k l ->tN P G (E6x σ0 e0 n sl Q) k l
 |[],_,_,_,_=>trivial
 | o ::r,k,hl,hw,⟨⟨hd,h⟩,hr⟩=>by
  simp only[List.length_cons]at hl
  refine⟨?_,B7a hk hi r (k+1) (by omega) (fun o' ho=>hw o' (List.mem_cons_of_mem _ ho)) hr⟩
  rintro D e σ hD hwt ⟨⟨F,hF,hQ⟩,hfr⟩
  refine gZ ?_ (h e σ hF.le (fun j hj=> ⟨F j,hQ j (hw o List.mem_cons_self j hj) (hwt j hj)⟩) hfr)
  rintro v s ⟨A,hN,hq⟩
  rw[hd]
  refine⟨⟨A1h F k A,hF.put k hN,fun j hj hDj=> ?_⟩,fun t ht=> ?_⟩
  ·by_cases e1:j=k
   ·subst e1
    simpa [A1h,bF.upd] using hq
   ·have e2:sl k ≠ sl j:=fun e2=>e1 (hi j hj k (by omega) e2.symm)
    have e3:D j=true:=by unfold C7f at hDj;rw[if_neg e1]at hDj;exact hDj
    have e4:(e.upd (some (sl k)) v) (sl j)=e (sl j):=bF.upd_other fun y hy hyu=>by cases hy;exact e2 hyu
    rw[e4]
    simp only[A1h,if_neg e1]
    exact hk j _ _ _ _ (hQ j hj e3) fun b hb=>by
     obtain⟨z,hz⟩:=hF.on j b hb
     rw[hz,hN.le.box _ _ hz]
  ·rw[<- hfr t ht]
   exact bF.upd_other fun y hy hyu=>by cases hy;exact ht k (by omega) hyu
theorem uS {R:bF ->AS ->Prop} {e:bF} {σ:AS} {l:List Oper} {d:Dum l.toArray} {d':Dum R} {d2:Dum e} {d3:Dum σ} (n:Nat) (sl:Nat ->Nat) (Q:Nat ->wU) (hn:A5w l.toArray n=true) (hi:∀ i,i < n ->∀ j,j < n ->sl i=sl j ->i=j) (hk:∀ k,wL (Q k)) {hd tl:List Oper} (h1:l.take n=hd) (h2:l.drop n=tl)
  (hs:B7n P G σ e n sl Q 0 hd) (hq:∀ (F:Nat ->List Nat) e' s,A2m σ s F -> (∀ k,k < n ->Q k s (e' (sl k)) (F k)) -> (∀ t,(∀ k,k < n ->sl k ≠ t) ->e' t=e t) ->dX P G l R tl e' s):tP P G l.toArray R e σ d d' d2 d3:=by
 refine B4k n (E6x σ e n sl Q) hn h1 h2 (fun _=> ⟨⟨fun _=> [],A2m.none σ,fun k _ h=> (by cases h)⟩,fun _ _=>rfl⟩) ?_ (fun D e' s hD ⟨⟨F,hF,hQ⟩,hfr⟩=>hq F e' s hF (fun k hk'=>hQ k hk' (hD k hk')) hfr)
 unfold A5w at hn
 simp only[Bool.and_eq_true,decide_eq_true_eq,List.all_eq_true,List.mem_range]at hn
 obtain⟨⟨⟨hns,hb⟩,_⟩,_⟩:=hn
 refine B7a hk hi hd 0 (by rw[<- h1];simp only[List.length_take];omega) (fun o ho j hj=> ?_) hs
 subst h1
 obtain⟨i,hio⟩:=List.getElem?_of_mem ho
 have hin:i < n:=by
  have:=(List.getElem?_eq_some_iff.1 hio).1
  simp only[List.length_take]at this;omega
 rw[List.getElem?_take_of_lt hin]at hio
 have:=hb i hin
 simp only[List.getElem?_toArray,hio,Bool.and_eq_true,List.all_eq_true,decide_eq_true_eq]at this
 have:=this.2 j hj
 omega
end
end
section
section
variable {P:Program} {G:Nat ->AV}
abbrev C1p:=(Nat ->AV) ->wU
def E1k(σ0:AS)(e0:bF)(n:Nat)(sl:Nat ->Nat)(dp:Nat ->List Nat)(Q:Nat ->C1p)(D:Nat ->Bool)(e:bF)(σ:AS):Prop:=
 (∃ F,A2m σ0 σ F /\ ∀ k,k < n ->D k=true ->Q k (fun j=>e (sl j)) σ (e (sl k)) (F k)) /\ (∀ k,k < n ->D k=true ->∀ j,j ∈ dp k ->D j=true) /\ ∀ t,(∀ k,k < n ->sl k ≠ t) ->e t=e0 t
def B7o(P:Program)(G:Nat ->AV)(σ0:AS)(e0:bF)(n:Nat)(sl:Nat ->Nat)(dp:Nat ->List Nat)(Q:Nat ->C1p):Nat ->List Oper ->Prop
 |_,[]=>True
 | k,o::r=> ((o.dst=some (sl k) /\ (dp k).all (fun j=>decide (j ∈ kE o))=true /\ ∀ e σ,σ0.le σ -> (∀ j,j ∈ kE o ->∃ A,Q j (fun i=>e (sl i)) σ (e (sl j)) A) -> (∀ t,(∀ j,j < n ->sl j ≠ t) ->e t=e0 t) ->gY P G o e σ (fun r s=>∃ A,bK σ s A /\ Q k (fun i=>e (sl i)) s r A)) \/
  (o.dst=none /\ (dp k).all (fun j=>decide (j ∈ kE o))=true /\ ∀ e σ,σ0.le σ -> (∀ j,j ∈ kE o ->∃ A,Q j (fun i=>e (sl i)) σ (e (sl j)) A) -> (∀ t,(∀ j,j < n ->sl j ≠ t) ->e t=e0 t) ->gY P G o e σ (fun r s=>∃ A,bK σ s A /\ ∀ v,Q k (fun i=>e (sl i)) s v A))) /\ B7o P G σ0 e0 n sl dp Q (k+1) r
theorem B7b{σ0:AS}{e0:bF}{n:Nat}{sl:Nat ->Nat}{dp:Nat ->List Nat}{Q:Nat ->C1p}(hk:∀ k V,wL (Q k V))(hl:∀ k V V' σ v S,(∀ j,j ∈ dp k ->V j=V' j) ->Q k V σ v S ->Q k V' σ v S)(hdn:∀ k,k < n ->∀ j,j ∈ dp k ->j < k)(hi:∀ i,i < n ->∀ j,j < n ->sl i=sl j ->i=j):∀ (l:List Oper) (k:Nat),k+l.length <=n -> (∀ o,o ∈ l ->∀ j,j ∈ kE o ->j < n) ->B7o P G σ0 e0 n sl dp Q k l ->tN P G (E1k σ0 e0 n sl dp Q) k l
 |[],_,_,_,_=>trivial
 | o ::r,k,hle,hw,⟨h,hr⟩=>by
  simp only[List.length_cons]at hle
  have h':(o.dst=some (sl k) \/ o.dst=none) /\ (dp k).all (fun j=>decide (j ∈ kE o))=true /\ ∀ e σ,σ0.le σ -> (∀ j,j ∈ kE o ->∃ A,Q j (fun i=>e (sl i)) σ (e (sl j)) A) -> (∀ t,(∀ j,j < n ->sl j ≠ t) ->e t=e0 t) ->gY P G o e σ (fun r s=>∃ A,bK σ s A /\ Q k (fun i=>e (sl i)) s ((e.upd o.dst r) (sl k)) A):=by
   rcases h with⟨h1,h2,h3⟩|⟨h1,h2,h3⟩
   ·refine⟨.inl h1,h2,fun e σ a b c=>gZ ?_ (h3 e σ a b c)⟩
    rintro v s ⟨A,hN,hq⟩
    refine⟨A,hN,?_⟩
    rw[h1]
    simpa [bF.upd] using hq
   ·refine⟨.inr h1,h2,fun e σ a b c=>gZ ?_ (h3 e σ a b c)⟩
    rintro v s ⟨A,hN,hq⟩
    exact⟨A,hN,hq _⟩
  obtain⟨hd,hdp,h⟩:=h'
  refine⟨?_,B7b hk hl hdn hi r (k+1) (by omega) (fun o' ho=>hw o' (List.mem_cons_of_mem _ ho)) hr⟩
  rintro D e σ hD hwt ⟨⟨F,hF,hQ⟩,hDd,hfr⟩
  refine gZ ?_ (h e σ hF.le (fun j hj=> ⟨F j,hQ j (hw o List.mem_cons_self j hj) (hwt j hj)⟩) hfr)
  rintro v s ⟨A,hN,hq⟩
  have hdp':∀ j,j ∈ dp k ->j < n /\ j ∈ kE o:=fun j hj=> ⟨by have:=hdn k (by omega) j hj;omega,by simpa using List.all_eq_true.1 hdp j hj⟩
  have hother:∀ t,t ≠ sl k -> (e.upd o.dst v) t=e t:=fun t ht=>bF.upd_other fun y hy hyu=>by
   rcases hd with hd|hd
   ·rw[hd]at hy;cases hy;exact ht hyu.symm
   ·rw[hd]at hy;cases hy
  have hup:∀ j,j < n ->j ≠ k -> (e.upd o.dst v) (sl j)=e (sl j):=fun j hj hne=>hother _ fun e1=>hne (hi j hj k (by omega) e1)
  refine⟨⟨A1h F k A,hF.put k hN,fun j hj hDj=> ?_⟩,fun j hj hDj i hji=> ?_,fun t ht=> ?_⟩
  ·by_cases e1:j=k
   ·subst e1
    have:A1h F j A j=A:=by simp[A1h]
    rw[this]
    exact hl j _ _ _ _ _ (fun i hi'=>by
     have h1:=hdp' i hi'
     have hDi:=hwt i h1.2
     exact(hup i h1.1 (fun e2=>by rw[e2,hD]at hDi;cases hDi)).symm) hq
   ·have e3:D j=true:=by unfold C7f at hDj;rw[if_neg e1]at hDj;exact hDj
    rw[hup j hj e1]
    have:A1h F k A j=F j:=by simp[A1h,e1]
    rw[this]
    refine hl j _ _ _ _ _ (fun i hi'=> ?_) (hk j _ _ _ _ _ (hQ j hj e3) fun b hb=>by
     obtain⟨z,hz⟩:=hF.on j b hb
     rw[hz,hN.le.box _ _ hz])
    have hDi:=hDd j hj e3 i hi'
    exact(hup i (by have:=hdn j hj i hi';omega) (fun e2=>by rw[e2,hD]at hDi;cases hDi)).symm
  ·unfold C7f at hDj ⊢
   by_cases e1:j=k
   ·subst e1
    split
    ·rfl
    ·exact hwt i (hdp' i hji).2
   ·rw[if_neg e1]at hDj
    split
    ·rfl
    ·exact hDd j hj hDj i hji
  ·rw[<- hfr t ht]
   exact hother t fun e1=>ht k (by omega) e1.symm
theorem A8y {R:bF ->AS ->Prop} {e:bF} {σ:AS} {l:List Oper} {d:Dum l.toArray} {d':Dum R} {d2:Dum e} {d3:Dum σ} (n:Nat) (sl:Nat ->Nat) (dp:Nat ->List Nat) (Q:Nat ->C1p) (hn:A5w l.toArray n=true) (hi:∀ i,i < n ->∀ j,j < n ->sl i=sl j ->i=j) (hdn:∀ k,k < n ->∀ j,j ∈ dp k ->j < k) (hk:∀ k V,wL (Q k V)) (hl:∀ k V V' σ v S,(∀ j,j ∈ dp k ->V j=V' j) ->Q k V σ v S ->Q k V' σ v S) {hd tl:List Oper} (h1:l.take n=hd) (h2:l.drop n=tl)
  (hs:B7o P G σ e n sl dp Q 0 hd) (hq:∀ (F:Nat ->List Nat) e' s,A2m σ s F -> (∀ k,k < n ->Q k (fun i=>e' (sl i)) s (e' (sl k)) (F k)) -> (∀ t,(∀ k,k < n ->sl k ≠ t) ->e' t=e t) ->dX P G l R tl e' s):tP P G l.toArray R e σ d d' d2 d3:=by
 refine B4k n (E1k σ e n sl dp Q) hn h1 h2 (fun _=> ⟨⟨fun _=> [],A2m.none σ,fun k _ h=> (by cases h)⟩,fun k _ h=> (by cases h),fun _ _=>rfl⟩) ?_ (fun D e' s hD ⟨⟨F,hF,hQ⟩,_,hfr⟩=>hq F e' s hF (fun k hk'=>hQ k hk' (hD k hk')) hfr)
 unfold A5w at hn
 simp only[Bool.and_eq_true,decide_eq_true_eq,List.all_eq_true,List.mem_range]at hn
 obtain⟨⟨⟨hns,hb⟩,_⟩,_⟩:=hn
 refine B7b hk hl hdn hi hd 0 (by rw[<- h1];simp only[List.length_take];omega) (fun o ho j hj=> ?_) hs
 subst h1
 obtain⟨i,hio⟩:=List.getElem?_of_mem ho
 have hin:i < n:=by
  have:=(List.getElem?_eq_some_iff.1 hio).1
  simp only[List.length_take]at this;omega
 rw[List.getElem?_take_of_lt hin]at hio
 have:=hb i hin
 simp only[List.getElem?_toArray,hio,Bool.and_eq_true,List.all_eq_true,decide_eq_true_eq]at this
 have:=this.2 j hj
 omega
end
def E1p:wU:=fun _ _ _=>True
theorem B4z:wL E1p:=fun _ _ _ _ _ _=>trivial
theorem D8q{σ:AS}{b:Nat}{z:List AV}(h:σ.box b=some z):σ.le (σ.setBox b z):=by
 refine⟨fun c cs hc=> ?_,fun c x hc=>hc,fun c x hc=>hc⟩
 by_cases e:c=b
 ·subst e
  rw[h]at hc;cases hc
  exact AS.set_get
 ·simp only[AS.setBox,if_neg e];exact hc
theorem nM.le_of{S:Nat ->Prop}{σ0 σ σ':AS}(h:nM S σ σ')(h0:σ0.le σ)(hS:∀ b,S b ->σ0.box b=none):σ0.le σ':=
 ⟨fun c cs hc=>h.box c cs (fun e=>by rw[hS c e]at hc;cases hc) (h0.box c cs hc),fun c x hc=>h.tip c x (h0.tip c x hc),fun c x hc=>h.ty c x (h0.ty c x hc)⟩
theorem bK.refl(σ:AS):bK σ σ []:=⟨AS.le.refl σ,by simp,by simp,by simp⟩
theorem bK.one{σ:AS}{b:Nat}(h:σ.fresh b)(z:List AV):bK σ (σ.setBox b z) [b]:=
 ⟨(AS.le.refl σ).setBox h.1 z,fun c hc=>by simp at hc;subst hc;exact⟨h.1,h.2.1⟩,by simp,fun c hc=>by simp at hc;subst hc;exact⟨z,AS.set_get⟩⟩
def A8j(t:aA):wU:=fun σ v S=>cW σ false t v S
theorem wB(t:aA):wL (A8j t):=fun _ _ v S h hk=>aK t v S h hk
def z7:List AV:=[.int .u8 0, .bool false, .nil, .str [], .int .i64 0, .nil, .nil]
end
set_option maxRecDepth 20000
section
def fS:=And.intro (And.intro (And.intro (And.intro @jD @iZ) (And.intro @jJ (And.intro @eG @jE))) (And.intro (And.intro @dL (And.intro @eN @dV)) (And.intro @eD (And.intro @aA.flat_enc @aA.isv_enc)))) (And.intro (And.intro (And.intro @aA.fold_enc (And.intro @aS @aN)) (And.intro @aU (And.intro @bW @bG))) (And.intro (And.intro @aQ (And.intro @aM @aZ)) (And.intro @cH (And.intro @bQ @bB))))
variable (G:Nat ->AV)
theorem B9w(l:List UInt32)(hl:l.length <=1000000000)(σ:AS):aJ Tryz.prog G 110 [bD l] σ fun r σ'=>∃ S,mZ σ' false l r S /\ bK σ σ' S:=by
 refine aJ.of_awp mixed Tryz.func110 rfl (by kernel_rfl) (by kernel_rfl) (by simp[Tryz.ntmps110]) Tryz.results110 ?_
 simp -dsimp only[↓bp,bq,br,seval,fS]
 refine gB (σ0:=σ) (xs:=[]) (ys:=l.map bC) (.nil (AS.le.refl σ)) tfL (bJ wJ) (fun a ha=> ⟨yM a ha,by obtain⟨x,_,rfl⟩:=List.mem_map.1 ha;rfl⟩) (by simp;omega) (fun v2 σ2 hA2=> ?_)
 have hB2:=hA2.buf
 rw[List.nil_append]at hB2
 simp -dsimp only[↓bp,bq,br,seval,fS]
 exact aE _ (AS.le.refl _) (A1i hB2)
set_option maxHeartbeats 4000000 in
theorem A2a(l:List aA)(hl:l.length <=1000000000)(hf:∀ x,x ∈ l ->∀ σ,aJ Tryz.prog G 66 [x.enc] σ fun r σ'=>∃ S,cW σ' false x r S /\ bK σ σ' S)(σ:AS):aJ Tryz.prog G 111 [aH l] σ fun r σ'=>∃ S,iB σ' false l r S /\ bK σ σ' S:=by
 refine aJ.of_awp mixed Tryz.func111 rfl (by kernel_rfl) (by kernel_rfl) (by simp[Tryz.ntmps111]) Tryz.results111 ?_
 repeat'(first|(refine wn ?_;intro bx hbx;try simp only[fb]at hbx)|refine wj ?_|simp -dsimp only[↓bp,bq,br,seval,fS, *]|refine wz ?_|fail)
 refine aI (fun n e σ'=>∃ (i:Nat) (v:AV) (vs:List AV) (S:List Nat),i <=l.length /\ n=l.length - i /\ e 4= .int .i64 i /\ e 3=v /\ fP 7 26 σ σ' v vs /\ vs.length=i /\ cF σ' false (l.take i) (vs.flatMap flat) S /\ bK σ σ' S /\ (∀ b,b ∈ S ->cS v b)) l.length
  ⟨0, .nil,[],[],by omega,by omega,by first|(simp -dsimp only[↓bp,bq,br,seval,fS];done)|(simp -dsimp only[↓bp,bq,br,seval,fS];try rfl),by first|(simp -dsimp only[↓bp,bq,br,seval,fS];done)|(simp -dsimp only[↓bp,bq,br,seval,fS];try rfl), .nil (AS.le.refl σ),rfl,by simp[cF],bK.refl σ,by simp⟩ ?_
 rintro n e1 σ2 ⟨i,v2,vs,S,hi,rfl,h4,h3,hB,hvl,hO,hN,hR⟩
 simp -dsimp only[↓bp,bq,br,seval,fS]at h4 h3
 by_cases hlt:i < l.length
 ·have hlt':((i:Int) < l.length)=True:=eq_true (by omega)
  obtain⟨k,hk⟩:∃ k,l[i]? =some k:=⟨_,List.getElem?_eq_getElem hlt⟩
  have hc:=hf k (List.mem_of_getElem? hk)
  have hwi:IntKind.i64.wrap ((i:Int)+1)=((i+1:Nat):Int):=by rw[aC (by omega) (by omega)];rfl
  clear hf
  repeat'(first|(refine wn ?_;intro bx hbx;try simp only[fb]at hbx)|((refine aJ.mono (hc _) ?_;rintro r σ3 ⟨S1,hO1,hN1⟩;have hsh:=kW hO1;obtain⟨vl,vk,vt,Sl,Sk,St,rfl,hSS,g1,g2,g3⟩:=(bX _ _ _ _ _).1 hO1;obtain⟨a1,a2,a7⟩:=g1.one;obtain⟨a3,a4,a8⟩:=g2.one;obtain⟨a5,a6,a9⟩:=g3.one))|refine wj ?_|simp -dsimp only[↓bp,bq,br,seval,fS, *]|refine wz ?_|fail)
  have hl3:=hN1.le
  have hl4:σ2.le (σ3.setBox bx [.int .u8 k.knd, .bool k.neg,vl, .str k.text, .int .i64 k.num,vk,vt]):=hl3.setBox (gU hl3 hbx.1) _
  have hB4:=A3c hB hl4
  have hR1:∀ b,b ∈ S1 ->cS v2 b:=fun b hb=>qX hB (hN1.fr b hb).1
  have hK4:∀ b,b ∈ S++S1 ->∃ z,(σ3.setBox bx [.int .u8 k.knd, .bool k.neg,vl, .str k.text, .int .i64 k.num,vk,vt]).box b=some z /\ cS v2 b:=fun b hb=>by
   rcases List.mem_append.1 hb with hb|hb
   ·obtain⟨z,hz⟩:=hN.on b hb
    exact⟨z,hl4.box _ _ hz,hR b hb⟩
   ·obtain⟨z,hz⟩:=hN1.on b hb
    exact⟨z,aO hz (fun e=>by rw[e,hbx.1]at hz;cases hz),hR1 b hb⟩
  have hO4:cF (σ3.setBox bx [.int .u8 k.knd, .bool k.neg,vl, .str k.text, .int .i64 k.num,vk,vt]) false (l.take i) (vs.flatMap flat) S:=hO.keep (cM hl4 hO.on)
  have hO14:cW (σ3.setBox bx [.int .u8 k.knd, .bool k.neg,vl, .str k.text, .int .i64 k.num,vk,vt]) false k (.agg [.int .u8 k.knd, .bool k.neg,vl, .str k.text, .int .i64 k.num,vk,vt]) S1:=aK k _ S1 hO1 fun b hb=>by
   obtain⟨z,hz⟩:=hN1.on b hb
   rw[hz]
   exact aO hz (fun e=>by rw[e,hbx.1]at hz;cases hz)
  clear hc g1 g2 g3 hO hO1 hSS hl3
  repeat'(first|(refine wn ?_;intro bx hbx;try simp only[fb]at hbx)|((refine gB (ys:=[.agg [.int .u8 k.knd, .bool k.neg,vl, .str k.text, .int .i64 k.num,vk,vt]]) hB4 tW (bJ tfE) (fun a ha=>by simp at ha;subst ha;exact⟨hsh.1,hsh.2.1⟩) (by simp;omega) (fun v5 σ5 hA=> ?_)))|refine wj ?_|simp -dsimp only[↓bp,bq,br,seval,fS, *]|refine wz ?_|fail)
  have hK5:∀ b,b ∈ S++S1 ->σ5.box b=(σ3.setBox bx [.int .u8 k.knd, .bool k.neg,vl, .str k.text, .int .i64 k.num,vk,vt]).box b /\ cS v5 b:=fun b hb=>by
   obtain⟨z,hz,hn⟩:=hK4 b hb
   obtain⟨h1,h2⟩:=hA.keep b z hz hn
   exact⟨by rw[h1,hz],h2⟩
  have hC5:cF σ5 false (l.take (i+1)) ((vs++[AV.agg [.int .u8 k.knd, .bool k.neg,vl, .str k.text, .int .i64 k.num,vk,vt]]).flatMap flat) (S++S1):=by
   rw[aW _ _ _ hk,List.flatMap_append,List.flatMap_cons,List.flatMap_nil,List.append_nil]
   exact pY (aK k _ S1 hO14 fun b hb=> (hK5 b (List.mem_append_right _ hb)).1) _ _ _ (hO4.keep fun b hb=> (hK5 b (List.mem_append_left _ hb)).1)
  exact⟨l.length - (i+1),by omega,i+1,v5,vs++[AV.agg [.int .u8 k.knd, .bool k.neg,vl, .str k.text, .int .i64 k.num,vk,vt]],S++S1,by omega,rfl,rfl,rfl,hA.buf,by simp[hvl],hC5,hN.more hN1.fr hN1.nd hA.buf.le (fun b hb=>by obtain⟨z,hz,_⟩:=hK4 b hb;exact⟨z,by rw[(hK5 b hb).1,hz]⟩),fun b hb=> (hK5 b hb).2⟩
 ·have:i=l.length:=by omega
  subst this
  have hlt':((l.length:Int) < l.length)=False:=eq_false (by omega)
  rw[List.take_length]at hO
  clear hf hlt hi
  repeat'(first|(refine wn ?_;intro bx hbx;try simp only[fb]at hbx)|refine wj ?_|simp -dsimp only[↓bp,bq,br,seval,fS, *]|refine wz ?_|fail)
  exact aE _ (AS.le.refl _) (B0h hB hvl hO hN hR)
theorem C5m(t:aA)(hb:t.bulk <=1000000000)(σ:AS):aJ Tryz.prog G 66 [t.enc] σ fun r σ'=>∃ S,cW σ' false t r S /\ bK σ σ' S:=by
 revert hb σ
 refine aA.ind (P:=fun t=>t.bulk <=1000000000 ->∀ σ,aJ Tryz.prog G 66 [t.enc] σ fun r σ'=>∃ S,cW σ' false t r S /\ bK σ σ' S) (fun t ih1 ih2 hb=> ?_) t
 have hl1:=fun σ=>A2a G t.items (by have:=cA t;omega) (fun x hx=>ih1 x hx (by have:=dJ hx;omega)) σ
 have hl2:=fun σ=>A2a G t.tail (by have:=dD t;omega) (fun x hx=>ih2 x hx (by have:=dK hx;omega)) σ
 have hl3:=fun σ=>B9w G t.limbs (by have:=cQ t;omega) σ
 clear ih1 ih2
 intro σ
 refine aJ.of_awp mixed Tryz.func66 rfl (by kernel_rfl) (by kernel_rfl) (by simp[Tryz.ntmps66]) Tryz.results66 ?_
 simp -dsimp only[↓bp,bq,br,seval,fS]
 refine cX fun b1 hb1=> ?_
 simp -dsimp only[↓bp,bq,br,seval,fS]
 refine aY fun b2 hb2=> ?_
 simp only[fb]at hb2
 obtain⟨hb2,hn1,hn2⟩:=hb2
 obtain⟨A0,hA0⟩:∃ S,S=(σ.setBox b1 [.int .u8 t.knd, .bool t.neg,bD t.limbs, .str t.text, .int .i64 t.num,aH t.items,aH t.tail]).setBox b2 [.int .u8 0, .bool false, .nil, .str [], .int .i64 0, .nil, .nil]:=⟨_,rfl⟩
 have l0:σ.le A0:=by rw[hA0];exact((AS.le.refl σ).setBox hb1.1 _).setBox hb2.1 _
 have e1:A0.box b1=some [.int .u8 t.knd, .bool t.neg,bD t.limbs, .str t.text, .int .i64 t.num,aH t.items,aH t.tail]:=by rw[hA0];simp[AS.setBox,hn1,hn2]
 have e2:A0.box b2=some [.int .u8 0, .bool false, .nil, .str [], .int .i64 0, .nil, .nil]:=by rw[hA0];simp[AS.setBox]
 rw[<- hA0]
 clear hA0
 repeat'(first|(refine wn ?_;intro bx hbx;try simp only[fb]at hbx)|refine wj ?_|simp -dsimp only[↓bp,bq,br,seval,fS, *]|refine wz ?_|fail)
 refine aJ.mono (hl3 _) ?_
 rintro vl s1 ⟨Sl,hL,hN1⟩
 obtain⟨a1,a2,a7⟩:=hL.one
 have f1:=hN1.le.box _ _ e1
 have f2:=hN1.le.box _ _ e2
 have n1:∀ b,b ∈ Sl ->b ≠ b1 /\ b ≠ b2:=fun b hb=> ⟨fun e=> (by rw[e]at hb;rw[(hN1.fr b1 hb).1]at e1;cases e1),fun e=> (by rw[e]at hb;rw[(hN1.fr b2 hb).1]at e2;cases e2)⟩
 have N1:∀ C,bK σ (s1.setBox b1 C) Sl:=fun C=> ⟨(l0.trans hN1.le).setBox hb1.1 _,fun b hb=> ⟨gU l0 (hN1.fr b hb).1,iL l0 (hN1.fr b hb).2⟩,hN1.nd,fun b hb=>by
  obtain⟨z,hz⟩:=hN1.on b hb
  exact⟨z,aO hz (n1 b hb).1⟩⟩
 clear hl3 e1 e2
 repeat'(first|(refine wn ?_;intro bx hbx;try simp only[fb]at hbx)|refine wj ?_|simp -dsimp only[↓bp,bq,br,seval,fS, *]|refine wz ?_|fail)
 refine aJ.mono (hl1 _) ?_
 rintro vk s2 ⟨Sk,hK,hN2⟩
 obtain⟨a3,a4,a8⟩:=hK.one
 have g1:=hN2.le.box b1 _ AS.set_get
 have g2:=hN2.le.box b2 _ (aO f2 hn1)
 have n2:∀ b,b ∈ Sk ->b ≠ b1 /\ b ≠ b2:=fun b hb=> ⟨fun e=> (by rw[e]at hb;have:=(hN2.fr b1 hb).1;rw[AS.set_get]at this;cases this),fun e=>by rw[e]at hb;have:=(hN2.fr b2 hb).1;rw[aO f2 hn1]at this;cases this⟩
 clear hl1 f1 f2
 repeat'(first|(refine wn ?_;intro bx hbx;try simp only[fb]at hbx)|refine wj ?_|simp -dsimp only[↓bp,bq,br,seval,fS, *]|refine wz ?_|fail)
 refine aJ.mono (hl2 _) ?_
 rintro vt s3 ⟨St,hT,hN3⟩
 obtain⟨a5,a6,a9⟩:=hT.one
 have k1:=hN3.le.box b1 _ AS.set_get
 have k2:=hN3.le.box b2 _ (aO g2 hn1)
 have n3:∀ b,b ∈ St ->b ≠ b1 /\ b ≠ b2:=fun b hb=> ⟨fun e=> (by rw[e]at hb;have:=(hN3.fr b1 hb).1;rw[AS.set_get]at this;cases this),fun e=>by rw[e]at hb;have:=(hN3.fr b2 hb).1;rw[aO g2 hn1]at this;cases this⟩
 clear hl2 g1 g2
 repeat'(first|(refine wn ?_;intro bx hbx;try simp only[fb]at hbx)|refine wj ?_|simp -dsimp only[↓bp,bq,br,seval,fS, *]|refine wz ?_|fail)
 have on1:∀ b,b ∈ Sl ->∃ z,s1.box b=some z /\ s2.box b=some z /\ s3.box b=some z:=fun b hb=>by
  obtain⟨z,hz⟩:=hN1.on b hb
  have h2:=hN2.le.box b z (aO hz (n1 b hb).1)
  have h3:=hN3.le.box b z (aO h2 (n1 b hb).1)
  exact⟨z,hz,h2,h3⟩
 have on2:∀ b,b ∈ Sk ->∃ z,s2.box b=some z /\ s3.box b=some z:=fun b hb=>by
  obtain⟨z,hz⟩:=hN2.on b hb
  exact⟨z,hz,hN3.le.box b z (aO hz (n2 b hb).1)⟩
 have t1:=(l0.trans hN1.le).setBox hb1.1 [.int .u8 t.knd, .bool t.neg,vl, .str t.text, .int .i64 t.num,aH t.items,aH t.tail]
 have t2:=(t1.trans hN2.le).setBox hb1.1 [.int .u8 t.knd, .bool t.neg,vl, .str t.text, .int .i64 t.num,vk,aH t.tail]
 have t3:=((t2.trans hN3.le).setBox hb1.1 [.int .u8 t.knd, .bool t.neg,vl, .str t.text, .int .i64 t.num,vk,vt]).setBox hb2.1 [.int .u8 t.knd, .bool t.neg,vl, .str t.text, .int .i64 t.num,vk,vt]
 have M1:=N1 [.int .u8 t.knd, .bool t.neg,vl, .str t.text, .int .i64 t.num,aH t.items,aH t.tail]
 have M2:=M1.more hN2.fr hN2.nd t2 (fun b hb=>by
  rcases List.mem_append.1 hb with hb|hb
  ·obtain⟨z,_,hz,_⟩:=on1 b hb
   exact⟨z,aO hz (n1 b hb).1⟩
  ·obtain⟨z,hz,_⟩:=on2 b hb
   exact⟨z,aO hz (n2 b hb).1⟩)
 have M3:=M2.more hN3.fr hN3.nd t3 (fun b hb=>by
  rcases List.mem_append.1 hb with hb|hb
  ·rcases List.mem_append.1 hb with hb|hb
   ·obtain⟨z,_,_,hz⟩:=on1 b hb
    exact⟨z,aO (aO hz (n1 b hb).1) (n1 b hb).2⟩
   ·obtain⟨z,_,hz⟩:=on2 b hb
    exact⟨z,aO (aO hz (n2 b hb).1) (n2 b hb).2⟩
  ·obtain⟨z,hz⟩:=hN3.on b hb
   exact⟨z,aO (aO hz (n3 b hb).1) (n3 b hb).2⟩)
 rw[List.append_assoc]at M3
 refine aE _ (AS.le.refl _) ⟨_,(bX _ _ _ _ _).2 ⟨vl,vk,vt,Sl,Sk,St,rfl,rfl,hL.keep fun b hb=> ?_,hK.keep fun b hb=> ?_,hT.keep fun b hb=> ?_⟩,M3⟩
 ·obtain⟨z,hz,_,h3⟩:=on1 b hb
  rw[hz]
  exact aO (aO h3 (n1 b hb).1) (n1 b hb).2
 ·obtain⟨z,hz,h3⟩:=on2 b hb
  rw[hz]
  exact aO (aO h3 (n2 b hb).1) (n2 b hb).2
 ·obtain⟨z,hz⟩:=hN3.on b hb
  rw[hz]
  exact aO (aO hz (n3 b hb).1) (n3 b hb).2
end
section
mutual
def bY:aA ->Int
 | .mk k g l s n ks ts=>
  if(k.toNat:Int)=1 then(if wr (.mk k g l s n ks ts)=true then 1+l.length else -1)
  else if(head (.mk k g l s n ks ts)).2.2=false then -1
  else if bH ks (head (.mk k g l s n ks ts)).1 (head (.mk k g l s n ks ts)).2.1 < 0 then -1
  else bH ts (bH ks (head (.mk k g l s n ks ts)).1 (head (.mk k g l s n ks ts)).2.1) 0
def bH:List aA ->Int ->Int ->Int
 |[],n,_=>n
 |x::l,n,each=>if bY x < 0 then -1 else bH l (n+bY x+each) each
end
theorem vH(t:aA):bY t=if t.knd=1 then(if wr t=true then(1+t.limbs.length:Int)else -1)else if(head t).2.2=false then -1
  else if bH t.items (head t).1 (head t).2.1 < 0 then -1 else bH t.tail (bH t.items (head t).1 (head t).2.1) 0:=by
 cases t;rw[bY];rfl
def SR(s r:Int):Prop:=0 < s /\ r=s /\ s <=4096 \/ s=0 /\ (r= -1 \/ 4096 < r)
theorem A0v(l:List aA)(each:Int)(he:0 <=each)(h:∀ x,x ∈ l ->bY x= -1 \/ 0 < bY x):∀ n,bH l n each= -1 \/ n <=bH l n each:=by
 induction l with
 |nil=>intro n;exact .inr (Int.le_refl _)
 | cons x l ih=>
  intro n
  simp only[bH]
  have hx:=h x (by simp)
  have h2:=ih (fun y hy=>h y (by simp[hy])) (n+bY x+each)
  split <;>omega
theorem SR.pos{s r:Int}(h:SR s r):r= -1 \/ 0 < r:=by unfold SR at h;omega
theorem A1l(l:List aA)(each:Int)(he:0 <=each)(h:∀ x,x ∈ l ->SR (size x) (bY x)):∀ n,0 < n ->n <=4096 ->
  ((bI l each (n,true)).2=true /\ bH l n each=(bI l each (n,true)).1) \/ ((bI l each (n,true)).2=false /\ (bH l n each= -1 \/ 4096 < bH l n each)):=by
 induction l with
 |nil=>intro n _ _;exact .inl ⟨rfl,rfl⟩
 | cons x l ih=>
  intro n h0 h1
  have hx:=h x (by simp)
  have hp:∀ y,y ∈ l ->bY y= -1 \/ 0 < bY y:=fun y hy=> (h y (by simp[hy])).pos
  simp only[bI,bH,if_true]
  have hge:=A0v l each he hp
  unfold SR at hx
  rcases hx with⟨a,b,c⟩|⟨a,b⟩
  ·rw[b,if_neg (by omega)]
   by_cases hc:n+size x+each <=4096
   ·rw[decide_eq_true a,decide_eq_true hc]
    exact ih (fun y hy=>h y (by simp[hy])) _ (by omega) hc
   ·rw[decide_eq_false hc,Bool.and_false,lW]
    have:=hge (n+size x+each)
    exact .inr ⟨rfl,by omega⟩
  ·rw[a]
   have e:decide ((0:Int) < 0)=false:=rfl
   rw[e,Bool.false_and,lW]
   refine .inr ⟨rfl,?_⟩
   split
   ·exact .inl rfl
   ·have:=hge (n+bY x+each)
    omega
theorem B3h(l:List aA)(a:Int × Bool)(h:a.2=false):bI l 0 a=(a.1,a.2):=by
 have e:a=(a.1,false):=by rw[<- h]
 rw[e,lW]
theorem xP(t:aA):SR (size t) (bY t):=by
 refine aA.ind (P:=fun t=>SR (size t) (bY t)) (fun t ih1 ih2=> ?_) t
 obtain⟨h1,h2,h3,h4⟩:=B1w t
 rw[jL,vH]
 by_cases k1:t.knd=1
 ·rw[if_pos k1,if_pos k1]
  by_cases hw:wr t=true
  ·rw[if_pos hw,if_pos hw]
   have:=(oR hw).2.2.2.2.2.1
   unfold SR;omega
  ·rw[if_neg hw,if_neg hw]
   unfold SR;omega
 ·rw [if_neg k1,if_neg k1]
  cases hh:(head t).2.2
  ·rw[lW,lW]
   simp[SR]
  ·have a:=A1l t.items (head t).2.1 h3 ih1 (head t).1 h1 (by omega)
   rw[if_neg (show ¬ (true=false)by decide)]
   have hge1:=A0v t.items (head t).2.1 h3 (fun y hy=> (ih1 y hy).pos) (head t).1
   have hge2:=A0v t.tail 0 (by omega) (fun y hy=> (ih2 y hy).pos)
   have hle:=fU t.items (fun x hx=>kK x) (head t).2.1 h3 h4 ((head t).1,true) h1 (fun _=>by simp only;omega) (by simp only;omega)
   rcases a with⟨a1,a2⟩|⟨a1,a2⟩
   ·rw[a2]
    obtain⟨p,hp⟩:∃ p,p=bI t.items (head t).2.1 ((head t).1,true):=⟨_,rfl⟩
    rw[<- hp]at a1 a2 hle ⊢
    have ep:p=(p.1,true):=by rw[<- a1]
    rw[if_neg (show ¬ p.1 < 0 by omega)]
    have b:=A1l t.tail 0 (by omega) ih2 p.1 hle.1 (hle.2.1 a1)
    rw[<- ep]at b
    have hle2:=fU t.tail (fun x hx=>kK x) 0 (by omega) (by omega) p hle.1 hle.2.1 hle.2.2
    rcases b with⟨b1,b2⟩|⟨b1,b2⟩
    ·rw[if_pos b1,b2]
     have:=hle2.2.1 b1
     exact .inl ⟨hle2.1,rfl,this⟩
    ·rw[if_neg (by simp[b1])]
     exact .inr ⟨rfl,b2⟩
   ·have e:bI t.tail 0 (bI t.items (head t).2.1 ((head t).1,true))=((bI t.items (head t).2.1 ((head t).1,true)).1,false):=by
     rw[<- a1];exact B3h _ _ a1
    rw[e,if_neg (by simp)]
    refine .inr ⟨rfl,?_⟩
    split
    ·exact .inl rfl
    ·have:=hge2 (bH t.items (head t).1 (head t).2.1)
     omega
theorem vF(t:aA):right t=(decide (0 < bY t) && decide (bY t <=4096)):=by
 have h:=xP t
 unfold SR at h
 unfold right
 rw[Bool.eq_iff_iff]
 simp only[Bool.and_eq_true,decide_eq_true_eq]
 omega
end
set_option maxRecDepth 20000
section
def rD:=And.intro (And.intro (And.intro (And.intro @jD @iZ) (And.intro @jJ (And.intro @eG @jE))) (And.intro (And.intro @dL (And.intro @eN @dV)) (And.intro @eD (And.intro @aA.flat_enc @aA.isv_enc)))) (And.intro (And.intro (And.intro @aA.fold_enc (And.intro @aS @aN)) (And.intro @aU (And.intro @bW @bG))) (And.intro (And.intro @aQ (And.intro @aM @aZ)) (And.intro @cH (And.intro @bQ @bB))))
theorem pA(l:List aA)(each:Int)(he0:0 <=each)(he:each <=1)(h:∀ x,x ∈ l -> -1 <=bY x /\ bY x+1 <=3*x.bulk):∀ n,0 <=n -> -1 <=bH l n each /\ bH l n each <=n+3*aV l:=by
 induction l with
 |nil=>intro n hn;simp only[bH,aV];omega
 | cons x l ih=>
  intro n hn
  have hx:=h x (by simp)
  simp only[bH,aV]
  split
  ·omega
  ·have:=ih (fun y hy=>h y (by simp[hy])) (n+bY x+each) (by omega)
   omega
theorem vI(t:aA): -1 <=bY t /\ bY t+1 <=3*t.bulk:=by
 refine aA.ind (P:=fun t=> -1 <=bY t /\ bY t+1 <=3*t.bulk) (fun t ih1 ih2=> ?_) t
 obtain⟨h1,h2,h3,h4⟩:=B1w t
 have hb:=t.bulk_eq
 rw[vH]
 split
 ·split <;>omega
 ·split
  ·omega
  ·have a:=pA t.items (head t).2.1 h3 h4 ih1 (head t).1 (by omega)
   split
   ·omega
   ·have b:=pA t.tail 0 (by omega) (by omega) ih2 (bH t.items (head t).1 (head t).2.1) (by omega)
    omega
variable (G:Nat ->AV)
theorem mG(l:List aA)(n each:Int)(he0:0 <=each)(he:each <=1)(hn0:0 <=n)(hn:n <=100000000000)(hb:aV l <=1000000000)(h:∀ x,x ∈ l ->aB Tryz.prog G 55 [x.enc] (.int .i64 (bY x))):
  aB Tryz.prog G 84 [aH l, .int .i64 n, .int .i64 each] (.int .i64 (bH l n each)):=by
 intro σ
 have hll:=dY l
 refine aJ.of_awp mixed Tryz.func84 rfl (by kernel_rfl) (by kernel_rfl) (by simp[Tryz.ntmps84]) Tryz.results84 ?_
 simp -dsimp only[↓bp,bq,br,seval,rD]
 refine aD mixed (fun k e=>∃ (i:Nat) (m:Int),i <=l.length /\ k=l.length - i /\ e 7= .int .i64 i /\ e 1= .int .i64 m /\ 0 <=m /\ m <=n+3*aV (l.take i) /\ bH (l.drop i) m each=bH l n each) l.length
  ⟨0,n,by omega,by omega,by simp -dsimp only[↓bp,bq,br,seval,rD];first|done|rfl,by simp -dsimp only[↓bp,bq,br,seval,rD];first|done|rfl,hn0,by simp[aV],by rw[List.drop_zero]⟩ ?_
 rintro k v ⟨i,m,hi,rfl,h7,h1,hm0,hm1,hz⟩
 have hbt:=pI l i
 simp -dsimp only[↓bp,bq,br,seval,rD]at h7 h1
 simp -dsimp only[↓bp,bq,br,seval,rD,h7,h1]
 refine cG (fun hlt=> ?_) (fun hge=> ?_)
 ·obtain⟨x,hx⟩:∃ x,l[i]? =some x:=⟨_,List.getElem?_eq_getElem (by omega)⟩
  have hxm:x ∈ l:=List.mem_of_getElem? hx
  have hxb:=eQ hxm
  have hxs:=vI x
  have hdr:=dC _ _ _ hx
  simp -dsimp only[↓bp,bq,br,seval,rD,h7,h1,hx,hlt]
  refine aB.use (h x hxm) ?_
  simp -dsimp only[↓bp,bq,br,seval,rD,h7,h1,hx,hlt]
  refine cG (fun hneg=> ?_) (fun hpos=> ?_)
  ·simp -dsimp only[↓bp,bq,br,seval,rD,h7,h1,hx,hlt]
   refine aP ?_ (AS.le.refl σ)
   rw[<- hz,hdr,bH,if_pos hneg]
  ·have w1:IntKind.i64.wrap (m+bY x)=m+bY x:=aC (by omega) (by omega)
   have w2:IntKind.i64.wrap (m+bY x+each)=m+bY x+each:=aC (by omega) (by omega)
   simp -dsimp only[↓bp,bq,br,seval,rD,h7,h1,hx,hlt,w1,w2]
   refine⟨l.length - (i+1),by omega,i+1,m+bY x+each,by omega,rfl,?_,rfl,by omega,?_,?_⟩
   ·rw[aC (by omega) (by omega)];rfl
   ·rw[aW _ _ _ hx,iT]
    simp only[aV]
    omega
   ·rw[<- hz,hdr,bH,if_neg hpos]
 ·have:i=l.length:=by omega
  subst this
  simp -dsimp only[↓bp,bq,br,seval,rD,h7,h1]
  refine aP ?_ (AS.le.refl σ)
  rw[<- hz,List.drop_length,bH]
end
section
theorem A0q{α:Type}{l:List α}(h:(l.length:Int)=0):l=[]:=List.eq_nil_of_length_eq_zero (by omega)
theorem mL{t:aA}(h1: ¬ t.knd=1)(h:(head t).2.2=false):bY t= -1:=by rw[vH,if_neg h1,if_pos h]
theorem qF{t:aA}(h1: ¬ t.knd=1)(h:(head t).2.2=true):bY t=if bH t.items (head t).1 (head t).2.1 < 0 then -1 else bH t.tail (bH t.items (head t).1 (head t).2.1) 0:=by
 rw[vH,if_neg h1,if_neg (by rw[h];decide)]
theorem E0e{t:aA}(h:t.knd=2):bY t=if t.neg=false /\ (t.limbs.length:Int)=0 /\ t.num=0 /\ (t.items.length:Int)=0 /\ (t.tail.length:Int)=0 /\ (t.text.length:Int) <=40 then 1 else -1:=by
 have hh:head t=(1,0,fG t true false false false && decide ((t.text.length:Int) <=40)):=by unfold head;rw[if_pos h]
 split
 ·rename_i hc
  obtain⟨c1,c2,c3,c4,c5,c6⟩:=hc
  rw[qF (by omega) (by rw[hh];simp[fG,c1,c2,c3,c4,c5,c6]),hh,A0q c4,A0q c5]
  rfl
 ·rename_i hc
  refine mL (by omega) ?_
  rw[hh]
  simp only[fG,Bool.true_or,Bool.false_or,Bool.and_true]
  rw[Bool.eq_false_iff]
  intro hb
  simp only[Bool.and_eq_true,decide_eq_true_eq,Bool.not_eq_true']at hb
  exact hc ⟨hb.1.1.1.1.1,hb.1.1.1.1.2,hb.1.1.1.2,hb.1.1.2,hb.1.2,hb.2⟩
theorem B6r{t:aA}(h:t.knd=3 \/ t.knd=5):bY t=if t.neg=false /\ (t.limbs.length:Int)=0 /\ t.text=[] /\ (t.items.length:Int)=0 /\ (t.tail.length:Int)=0 /\ 0 <=t.num /\ t.num <=1099511627776 then 1 else -1:=by
 have hh:head t=(1,0,fG t false true false false && decide (0 <=t.num) && decide (t.num <=1099511627776)):=by unfold head;rw[if_neg (by omega),if_pos h]
 split
 ·rename_i hc
  obtain⟨c1,c2,c3,c4,c5,c6,c7⟩:=hc
  rw[qF (by omega) (by rw[hh];simp[fG,c1,c2,c3,c4,c5,c6,c7]),hh,A0q c4,A0q c5]
  rfl
 ·rename_i hc
  refine mL (by omega) ?_
  rw[hh]
  simp only[fG,Bool.true_or,Bool.false_or,Bool.and_true]
  rw[Bool.eq_false_iff]
  intro hb
  simp only[Bool.and_eq_true,decide_eq_true_eq,Bool.not_eq_true']at hb
  exact hc ⟨hb.1.1.1.1.1.1,hb.1.1.1.1.1.2,hb.1.1.1.1.2,hb.1.1.1.2,hb.1.1.2,hb.1.2,hb.2⟩
theorem E0f{t:aA}(h:t.knd=4):bY t=if t.neg=false /\ (t.limbs.length:Int)=0 /\ t.text=[] /\ (t.tail.length:Int)=0 /\ 0 <=t.num /\ t.num <=16384 then bH t.items 2 0 else -1:=by
 have hh:head t=(2,0,fG t false true true false && decide (0 <=t.num) && decide (t.num <=16384)):=by unfold head;rw[if_neg (by omega),if_neg (by omega),if_pos h]
 split
 ·rename_i hc
  obtain⟨c1,c2,c3,c5,c6,c7⟩:=hc
  have hr:=pA t.items 0 (by omega) (by omega) (fun x _=>vI x) 2 (by omega)
  rw[qF (by omega) (by rw[hh];simp[fG,c1,c2,c3,c5,c6,c7]),hh,A0q c5]
  simp only[bH]
  split <;>omega
 ·rename_i hc
  refine mL (by omega) ?_
  rw[hh]
  simp only[fG,Bool.true_or,Bool.false_or,Bool.and_true]
  rw[Bool.eq_false_iff]
  intro hb
  simp only[Bool.and_eq_true,decide_eq_true_eq,Bool.not_eq_true']at hb
  exact hc ⟨hb.1.1.1.1.1,hb.1.1.1.1.2,hb.1.1.1.2,hb.1.1.2,hb.1.2,hb.2⟩
theorem E0g{t:aA}(h:t.knd=6):bY t=if t.neg=false /\ (t.limbs.length:Int)=0 /\ t.text=[] /\ (t.tail.length:Int)=0 /\ t.num=0 then bH t.items 1 0 else -1:=by
 have hh:head t=(1,0,fG t false false true false):=by unfold head;rw[if_neg (by omega),if_neg (by omega),if_neg (by omega),if_pos h]
 split
 ·rename_i hc
  obtain⟨c1,c2,c3,c5,c6⟩:=hc
  have hr:=pA t.items 0 (by omega) (by omega) (fun x _=>vI x) 1 (by omega)
  rw[qF (by omega) (by rw[hh];simp[fG,c1,c2,c3,c5,c6]),hh,A0q c5]
  simp only[bH]
  split <;>omega
 ·rename_i hc
  refine mL (by omega) ?_
  rw[hh]
  simp only[fG,Bool.true_or,Bool.false_or,Bool.and_true]
  rw[Bool.eq_false_iff]
  intro hb
  simp only[Bool.and_eq_true,decide_eq_true_eq,Bool.not_eq_true']at hb
  exact hc ⟨hb.1.1.1.1,hb.1.1.1.2,hb.1.1.2,hb.2,hb.1.2⟩
theorem E0d{t:aA}(h: ¬ (1 <=t.knd /\ t.knd <=7)):bY t= -1:=by
 refine mL (by omega) ?_
 unfold head
 rw[if_neg (by omega),if_neg (by omega),if_neg (by omega),if_neg (by omega),if_neg (by omega)]
theorem A2y{t:aA}(h:t.knd=7):bY t=if t.neg=false /\ (t.limbs.length:Int)=0 /\ t.text=[] /\ t.num=0 /\ (t.tail.length:Int) <=(if(t.items.length:Int) < 1 then(t.items.length:Int)else 1) /\ (t.tail.all fun x=>decide (x.knd ≠ 7))=true then(if bH t.items 1 1 < 0 then -1 else bH t.tail (bH t.items 1 1) 0)else -1:=by
 have hh:head t=(1,1,fG t false false true true && decide ((t.tail.length:Int) <=if(t.items.length:Int) < 1 then(t.items.length:Int)else 1) && t.tail.all fun x=>decide (x.knd ≠ 7)):=by unfold head;rw[if_neg (by omega),if_neg (by omega),if_neg (by omega),if_neg (by omega),if_pos h]
 by_cases hc:t.neg=false /\ (t.limbs.length:Int)=0 /\ t.text=[] /\ t.num=0 /\ (t.tail.length:Int) <=(if(t.items.length:Int) < 1 then(t.items.length:Int)else 1) /\ (t.tail.all fun x=>decide (x.knd ≠ 7))=true
 ·rw[if_pos hc]
  obtain⟨c1,c2,c3,c4,c5,c6⟩:=hc
  rw[qF (by omega) (by rw[hh];simp only[fG,c1,c2,c3,c4,decide_eq_true c5,c6];rfl),hh]
 ·rw[if_neg hc]
  refine mL (by omega) ?_
  rw[hh]
  simp only[fG,Bool.true_or,Bool.false_or,Bool.and_true]
  rw[Bool.eq_false_iff]
  intro hb
  simp only[Bool.and_eq_true,decide_eq_true_eq,Bool.not_eq_true']at hb
  exact hc ⟨hb.1.1.1.1.1,hb.1.1.1.1.2,hb.1.1.1.2,hb.1.1.2,hb.1.2,hb.2⟩
end
set_option maxRecDepth 20000
section
def dP:=And.intro (And.intro (And.intro (And.intro @jD (And.intro @iZ @jJ)) (And.intro @eG (And.intro @qI @jE))) (And.intro (And.intro @dL (And.intro @eN @dV)) (And.intro (And.intro @eD @wT) (And.intro @lU @aA.flat_enc)))) (And.intro (And.intro (And.intro @aA.isv_enc (And.intro @aA.fold_enc @aS)) (And.intro @aN (And.intro @aU @bW))) (And.intro (And.intro @bG (And.intro @aQ @aM)) (And.intro (And.intro @aZ @cH) (And.intro @bQ @bB))))
variable (G:Nat ->AV)
def fM(l:List Bool):AV:= .sl .none (l.map AV.bool) []
instance {l:List Bool} :NotBs (fM l):=⟨fun _ _ _ _ h=>by unfold fM at h;cases h⟩
theorem kB(l:List Bool):isv (fM l)=true:=rfl
theorem iU(l:List Bool):flat (fM l)=[fM l]:=rfl
theorem lE{P:Program}{t:TypeId}(l:List Bool):jO P .len #[t] [fM l]=if(el P t).isSome then some (.int .i64 l.length)else none:=by
 simp[fM,B2h]
theorem B7e:el Tryz.prog 129=some 4:=wT.2.2.2.1
theorem B0b(g:Gh)(xs ys sp:List AV):zI (.sl .none xs []) (.sl g ys sp)= .sl g ys []:=rfl
def qL(l:List Bool)(i:Nat):Bool:=l[i]?.getD false
theorem B1f(l:List Bool)(i:Nat)(hl:l.length <=1000000000)(hi:i <=1000000000):aB Tryz.prog G 183 [fM l, .int .i64 i] (.bool (qL l i)):=by
 unfold fM qL
 intro σ
 by_cases h:(i:Int) < l.length
 ·obtain⟨k,hk⟩:∃ k,l[i]? =some k:=⟨_,List.getElem?_eq_getElem (by omega)⟩
  have h1:=eq_true h
  clear h hl hi
  refine aJ.of_awp mixed Tryz.func183 rfl (by kernel_rfl) (by kernel_rfl) (by simp[Tryz.ntmps183]) Tryz.results183 ?_
  repeat'(first|refine xs ?_ ?_ <;>intros|(refine wn ?_;intro bx hbx;try simp only[fb]at hbx)|refine wj ?_|simp -dsimp only[↓bp,bq,br,seval,dP,Option.getD_some, *]|refine wz ?_|fail)
  all_goals first|rfl|simp
 ·have hk:l[i]? =none:=List.getElem?_eq_none (by omega)
  have h1:=eq_false h
  clear h hl hi
  refine aJ.of_awp mixed Tryz.func183 rfl (by kernel_rfl) (by kernel_rfl) (by simp[Tryz.ntmps183]) Tryz.results183 ?_
  repeat'(first|refine xs ?_ ?_ <;>intros|(refine wn ?_;intro bx hbx;try simp only[fb]at hbx)|refine wj ?_|simp -dsimp only[↓bp,bq,br,seval,dP,Option.getD_none, *]|refine wz ?_|fail)
  all_goals rfl
def sX(l:List Bool):Nat ->Nat
 |0=>0
 |n+1=>if qL l n=false then sX l n else n+1
def cL(l:List Bool):List Bool:=l.take (sX l l.length)
theorem C2b(l:List Bool):∀ n,sX l n <=n
 |0=>Nat.le_refl _
 | n+1=>by
  simp only[sX]
  split
  ·have:=C2b l n;omega
  ·omega
theorem B4g(l:List Bool):∀ n i,i < n ->sX l n <=i ->qL l i=false
 |0,i,h,_=>by omega
 | n+1,i,h,h2=>by
  simp only[sX]at h2
  split at h2
  ·rename_i h3
   by_cases e:i=n
   ·subst e;exact h3
   ·exact B4g l n i (by omega) h2
  ·omega
theorem B1e(l:List Bool)(i:Nat):qL (cL l) i=qL l i:=by
 unfold cL
 by_cases h:i < sX l l.length
 ·unfold qL;rw[List.getElem?_take,if_pos h]
 ·have e:qL (l.take (sX l l.length)) i=false:=by unfold qL;rw[List.getElem?_take,if_neg h];rfl
  rw[e]
  by_cases h2:i < l.length
  ·exact(B4g l _ i h2 (by omega)).symm
  ·unfold qL;rw[List.getElem?_eq_none (by omega)];rfl
theorem iK(l:List Bool):(cL l).length <=l.length:=by unfold cL;rw[List.length_take];omega
theorem pO(l:List Bool)(hl:l.length <=1000000000):aB Tryz.prog G 152 [fM l] (fM (cL l)):=by
 unfold fM
 refine aB.of_le fun σ=> ?_
 refine aJ.of_awp mixed Tryz.func152 rfl (by kernel_rfl) (by kernel_rfl) (by simp[Tryz.ntmps152]) Tryz.results152 ?_
 simp -dsimp only[↓bp,bq,br,seval,dP]
 refine aD mixed (fun n e=>n <=l.length /\ e 3= .int .i64 (n:Int) /\ sX l n=sX l l.length) l.length ⟨Nat.le_refl _,by simp -dsimp only[↓bp,bq,br,seval,dP];first|done|rfl,rfl⟩ ?_
 rintro n v ⟨hn,h3,hz⟩
 simp -dsimp only[↓bp,bq,br,seval,dP]at h3
 simp -dsimp only[↓bp,bq,br,seval,dP,h3]
 cases n with
 | zero=>
  have e0:((0:Nat):Int)=0:=rfl
  have hN:sX l l.length=0:=by rw[<- hz];rfl
  simp -dsimp only[↓bp,bq,br,seval,dP,h3,e0]
  try refine xQ ?_
  refine A9s (l:=0) (h:=0) B7e iZ.1 rfl (by simp[eL]) (by omega) (by simp) (fun a ha=> ?_) (fun g'=> ?_)
  ·rw[List.append_nil]at ha
   obtain⟨i,_,rfl⟩:=List.mem_map.1 ha
   rfl
  ·have ec:((l.map AV.bool++[]).take 0).drop 0=(cL l).map AV.bool:=by unfold cL;rw[hN];simp
   simp only[ec,B0b]
   simp -dsimp only[↓bp,bq,br,seval,dP,h3,e0]
   exact aL Le.gh (AS.le.refl σ)
 | succ n=>
  obtain⟨k,hk⟩:∃ k,l[n]? =some k:=⟨_,List.getElem?_eq_getElem (by omega)⟩
  have hw:IntKind.i64.wrap (((n+1:Nat):Int) - 1)=(n:Int):=by rw[aC (by omega) (by omega)];omega
  have hp:(0 < ((n+1:Nat):Int))=True:=eq_true (by omega)
  have ha:qL l n=k:=by unfold qL;rw[hk];rfl
  cases k
  ·simp -dsimp only[↓bp,bq,br,seval,dP,h3,hw,hp,hk]
   refine⟨n,by omega,by omega,rfl,?_⟩
   rw[<- hz];simp only[sX];rw[if_pos ha]
  ·have hN:sX l l.length=n+1:=by rw[<- hz];simp only[sX];rw[if_neg (by simp[ha])]
   simp -dsimp only[↓bp,bq,br,seval,dP,h3,hw,hp,hk]
   try refine xQ ?_
   refine A9s (l:=0) (h:=n+1) B7e iZ.1 rfl (by simp[eL];omega) (by omega) (by simp;omega) (fun a ha=> ?_) (fun g'=> ?_)
   ·rw[List.append_nil]at ha
    obtain⟨i,_,rfl⟩:=List.mem_map.1 ha
    rfl
   ·have ec:((l.map AV.bool++[]).take (n+1)).drop 0=(cL l).map AV.bool:=by unfold cL;rw[hN];simp
    simp only[ec,B0b]
    simp -dsimp only[↓bp,bq,br,seval,dP,h3]
    exact aL Le.gh (AS.le.refl σ)
def bel(x y:List Bool):Nat ->Bool
 |0=>false
 |n+1=>if qL x n=qL y n then bel x y n else qL y n
def below(x y:List Bool):Bool:=bel x y (max x.length y.length)
theorem xB(x y:List Bool)(hx:x.length <=1000000000)(hy:y.length <=1000000000):aB Tryz.prog G 167 [fM x,fM y] (.bool (below x y)):=by
 have hm:(if(y.length:Int) >x.length then(y.length:Int)else x.length)=((max x.length y.length:Nat):Int):=by split <;>omega
 obtain⟨N,hN⟩:∃ N,N=max x.length y.length:=⟨_,rfl⟩
 have hw0:IntKind.i64.wrap ((N:Int) - 1)=N - 1:=aC (by omega) (by omega)
 unfold below
 rw[<- hN]at hm ⊢
 intro σ
 refine aJ.of_awp mixed Tryz.func167 rfl (by kernel_rfl) (by kernel_rfl) (by simp[Tryz.ntmps167]) Tryz.results167 ?_
 simp -dsimp only[↓bp,bq,br,seval,dP,lE,hm,hw0]
 refine aD mixed (fun n e=>n <=N /\ e 5= .int .i64 ((n:Int) - 1) /\ bel x y n=bel x y N) N ⟨Nat.le_refl _,by simp -dsimp only[↓bp,bq,br,seval,dP];first|done|rfl,rfl⟩ ?_
 rintro n v ⟨hn,h5,hz⟩
 simp -dsimp only[↓bp,bq,br,seval,dP]at h5
 cases n with
 | zero=>
  have e0:((0:Nat):Int) - 1= -1:=rfl
  simp -dsimp only[↓bp,bq,br,seval,dP,h5,e0]
  refine aP ?_ (AS.le.refl σ)
  rw[<- hz];rfl
 | succ n=>
  have e1:((n+1:Nat):Int) - 1=(n:Int):=by omega
  have hw:IntKind.i64.wrap ((n:Int) - 1)=(n:Int) - 1:=aC (by omega) (by omega)
  have a1:=B1f G x n hx (by omega)
  have a2:=B1f G y n hy (by omega)
  have hzz:bel x y N=if qL x n=qL y n then bel x y n else qL y n:=hz.symm
  generalize qL x n=p at*
  generalize qL y n=q at*
  rw[e1]at h5
  by_cases hpq:p=q
  ·rw[if_pos hpq]at hzz
   subst hpq
   repeat'(first|refine xs ?_ ?_ <;>intros|(refine wn ?_;intro bx hbx;try simp only[fb]at hbx)|refine wp a1 ?_|refine wp a2 ?_|refine wj ?_|simp -dsimp only[↓bp,bq,br,seval,dP,h5,hw,kB,iU, *]|refine wz ?_|fail)
   exact⟨n,by omega,by omega,rfl,by rw[<- hN];exact hzz.symm⟩
  ·rw[if_neg hpq]at hzz
   rw[hzz]
   have hq:q= !p:=by cases p <;>cases q <;>simp_all
   subst hq
   clear hpq hzz hz
   repeat'(first|refine xs ?_ ?_ <;>intros|(refine wn ?_;intro bx hbx;try simp only[fb]at hbx)|refine wp a1 ?_|refine wp a2 ?_|refine wj ?_|simp -dsimp only[↓bp,bq,br,seval,dP,h5,hw,kB,iU, *]|refine wz ?_|fail)
   all_goals first|rfl|(exfalso;cases p <;>simp at*)
def B3t(x:UInt32)(k:Nat):Bool:=decide (((x.toNat >>>k) &&& 1:Nat)=1)
def eU:List UInt32 ->List Bool
 |[]=> []
 |x::l=> (List.range 32).map (B3t x)++eU l
theorem mE(l:List UInt32):(eU l).length=32*l.length:=by
 induction l with
 |nil=>rfl
 |cons x l ih=>simp only[eU,List.length_append,List.length_map,List.length_range,ih,List.length_cons];omega
theorem B1j(l r:List UInt32):eU (l++r)=eU l++eU r:=by
 induction l with
 |nil=>rfl
 |cons x l ih=>simp only[List.cons_append,eU,ih,List.append_assoc]
def kS(l:List UInt32)(i k:Nat):List Bool:=eU (l.take i)++(List.range k).map fun j=>match l[i]? with|some x=>B3t x j|none=>false
theorem A1p(l:List UInt32)(i:Nat):kS l i 0=eU (l.take i):=by simp[kS]
theorem B3v{l:List UInt32}{i k:Nat}{x:UInt32}(h:l[i]? =some x):kS l i (k+1)=kS l i k++[B3t x k]:=by
 simp only[kS,h,List.range_succ,List.map_append,List.map_cons,List.map_nil,List.append_assoc]
theorem B3u{l:List UInt32}{i:Nat}{x:UInt32}(h:l[i]? =some x):kS l i 32=kS l (i+1) 0:=by
 rw[A1p,aW _ _ _ h,B1j]
 simp only[kS,h,eU,List.append_nil]
theorem B8m(l:List UInt32)(i k:Nat):(kS l i k).length <=32*l.length+k:=by
 simp only[kS,List.length_append,mE,List.length_map,List.length_range,List.length_take]
 omega
theorem tbB:dU Tryz.prog 129=some (4,1,1):=wT.2.2.2.2.2.2
theorem E2m(x:UInt32)(k:Nat)(hk:k < 32):decide (IntKind.u32.wrap ↑(BitVec.ofInt IntKind.u32.bits ((x.toNat:Int).fdiv (2 ^ min k IntKind.u32.bits)) &&& BitVec.ofInt IntKind.u32.bits 1).toNat=1)=B3t x k:=by
 have hm:min k IntKind.u32.bits=k:=by have:IntKind.u32.bits=32:=rfl;omega
 have hxl:=x.toNat_lt
 have hf:(x.toNat:Int).fdiv (2 ^ k)=((x.toNat / 2 ^ k:Nat):Int):=by
  rw[Int.fdiv_eq_ediv_of_nonneg _ (by exact_mod_cast Nat.zero_le (2 ^ k))]
  simp
 have hd:x.toNat / 2 ^ k < 4294967296:=Nat.lt_of_le_of_lt (Nat.div_le_self _ _) hxl
 rw[hm,hf]
 unfold B3t
 rw[Nat.shiftRight_eq_div_pow]
 have e:(BitVec.ofInt IntKind.u32.bits ((x.toNat / 2 ^ k:Nat):Int) &&& BitVec.ofInt IntKind.u32.bits 1).toNat=(x.toNat / 2 ^ k) &&& 1:=by
  show(BitVec.ofInt 32 ((x.toNat / 2 ^ k:Nat):Int) &&& BitVec.ofInt 32 1).toNat=_
  rw[BitVec.toNat_and,BitVec.ofInt_natCast,BitVec.toNat_ofNat]
  have e1:(BitVec.ofInt 32 1).toNat=1:=by decide
  rw[e1,Nat.mod_eq_of_lt hd]
 rw[e]
 have h1:(x.toNat / 2 ^ k) &&& 1 < 2:=by rw[Nat.and_one_is_mod];omega
 have e2:IntKind.u32.wrap (((x.toNat / 2 ^ k) &&& 1:Nat):Int)=(((x.toNat / 2 ^ k) &&& 1:Nat):Int):=by
  have e:IntKind.u32.wrap (((x.toNat / 2 ^ k) &&& 1:Nat):Int)=(((x.toNat / 2 ^ k) &&& 1:Nat):Int) % 4294967296:=by first|rfl|simp[IntKind.wrap]
  rw[e];omega
 rw[e2,Bool.eq_iff_iff,decide_eq_true_eq,decide_eq_true_eq]
 omega
set_option maxHeartbeats 2000000 in
theorem zZ(t:aA)(hb:t.limbs.length <=10000000):aB Tryz.prog G 125 [t.enc] (fM (cL (eU t.limbs))):=by
 obtain⟨l,hl⟩:∃ l,l=t.limbs:=⟨_,rfl⟩
 refine aB.of_le fun σ=> ?_
 refine aJ.of_awp mixed Tryz.func125 rfl (by kernel_rfl) (by kernel_rfl) (by simp[Tryz.ntmps125]) Tryz.results125 ?_
 simp -dsimp only[↓bp,bq,br,seval,dP]
 intro b hb1
 simp -dsimp only[↓bp,bq,br,seval,dP]
 obtain⟨σ1,hσ1⟩:∃ σ1,σ1=σ.setBox b [.int .u8 t.knd, .bool t.neg,bD t.limbs, .str t.text, .int .i64 t.num,aH t.items,aH t.tail]:=⟨_,rfl⟩
 have hbx:σ1.box b=some [.int .u8 t.knd, .bool t.neg,bD t.limbs, .str t.text, .int .i64 t.num,aH t.items,aH t.tail]:=by rw[hσ1];simp[AS.setBox]
 have hle1:σ.le σ1:=by rw[hσ1];exact(AS.le.refl σ).setBox hb1.1 _
 rw[<- hσ1]
 refine aI (fun n e σ'=>∃ (i:Nat) (v:AV),i <=t.limbs.length /\ n=t.limbs.length - i /\ e 4= .int .i64 i /\ e 3=v /\ kL 1 σ1 σ' v ((kS t.limbs i 0).map AV.bool)) t.limbs.length
  ⟨0, .nil,by omega,by omega,by simp -dsimp only[↓bp,bq,br,seval,dP];first|done|rfl,by simp -dsimp only[↓bp,bq,br,seval,dP];first|done|rfl,by
    have e:kS t.limbs 0 0=[]:=by simp[kS,eU]
    rw[e];exact .nil (AS.le.refl σ1)⟩ ?_
 rintro n e2 σ3 ⟨i,v3,hi2,rfl,h4,h3,hB3⟩
 have hbx3:=hB3.le.box _ _ hbx
 simp -dsimp only[↓bp,bq,br,seval,dP]at h4 h3
 simp -dsimp only[↓bp,bq,br,seval,dP,h4,h3,hbx3]
 refine cG (fun hlt=> ?_) (fun hge=> ?_)
 ·obtain⟨x,hx⟩:∃ x,t.limbs[i]? =some x:=⟨_,List.getElem?_eq_getElem (by omega)⟩
  simp -dsimp only[↓bp,bq,br,seval,dP,h4,h3]
  refine aI (fun n e σ'=>∃ (k:Nat) (v:AV),k <=32 /\ n=32 - k /\ e 5= .int .i64 k /\ e 3=v /\ kL 1 σ1 σ' v ((kS t.limbs i k).map AV.bool)) 32
   ⟨0,v3,by omega,by omega,by first|(simp -dsimp only[↓bp,bq,br,seval,dP,h4,h3];done)|(simp -dsimp only[↓bp,bq,br,seval,dP,h4,h3];try rfl),by first|(simp -dsimp only[↓bp,bq,br,seval,dP,h4,h3];done)|(simp -dsimp only[↓bp,bq,br,seval,dP,h4,h3];try rfl),hB3⟩ ?_
  rintro n3 e3 σ4 ⟨k,v4,hk2,rfl,h5,h3',hB4⟩
  have hbx4:=hB4.le.box _ _ hbx
  simp -dsimp only[↓bp,bq,br,seval,dP]at h5 h3'
  simp -dsimp only[↓bp,bq,br,seval,dP,h5,h3',h4]
  refine cG (fun hlt2=> ?_) (fun hge2=> ?_)
  ·have hw64:IntKind.u64.wrap (k:Int)=k:=by
    have e:IntKind.u64.wrap (k:Int)=(k:Int) % 18446744073709551616:=by first|rfl|simp[IntKind.wrap]
    rw[e];omega
   have hk0:((k:Int) < 0)=False:=eq_false (by omega)
   simp -dsimp only[↓bp,bq,br,seval,dP,h5,h3',h4,hbx4,hx,hw64,hk0,bC]
   have hbit:=E2m x k (by omega)
   rw[hbit]
   refine eK tbB rfl rfl (by omega) ?_
   simp -dsimp only[↓bp,bq,br,seval,dP,h5,h3',h4]
   refine iH (ys:=[.bool (B3t x k)]) hB4 tbB (bJ B7e) (fun a ha=>by simp at ha;subst ha;rfl) (by have:=B8m t.limbs i k;simp;omega) (fun v5 σ5 hB5 hx5=> ?_)
   simp -dsimp only[↓bp,bq,br,seval,dP,h5,h3',h4]
   refine⟨32 - (k+1),by omega,k+1,v5,by omega,rfl,?_,rfl,?_⟩
   ·rw[aC (by omega) (by omega)];rfl
   ·rw[B3v hx,List.map_append];exact hB5
  ·have:k=32:=by omega
   subst this
   simp -dsimp only[↓bp,bq,br,seval,dP,h5,h3',h4]
   refine⟨t.limbs.length - (i+1),by omega,i+1,v4,by omega,rfl,?_,rfl,?_⟩
   ·rw[aC (by omega) (by omega)];rfl
   ·rw[<- B3u hx];exact hB4
 ·have:i=t.limbs.length:=by omega
  subst this
  have hz:kS t.limbs t.limbs.length 0=eU t.limbs:=by rw[A1p,List.take_length]
  rw[hz]at hB3
  simp -dsimp only[↓bp,bq,br,seval,dP,h4,h3]
  refine aB.use ((pO G (eU t.limbs) (by rw[mE];omega)).lessArgs (.cons hB3.told .nil)) ?_
  simp -dsimp only[↓bp,bq,br,seval,dP,h4,h3]
  exact aL (Le.refl _) (hle1.trans hB3.le)
end
set_option maxRecDepth 20000
section
theorem yI:∀ (l:List UInt32) (i:Nat),qL (eU l) i=(val l).testBit i
 |[],i=>by simp[qL,eU,val]
 | x ::l,i=>by
  have hx:=x.toNat_lt
  have e:val (x::l)=x.toNat+2 ^ 32*val l:=rfl
  rw[e]
  by_cases h:i < 32
  ·have e1:qL (eU (x::l)) i=B3t x i:=by
    unfold qL
    simp only[eU]
    rw[List.getElem?_append_left (by simp;omega),List.getElem?_map,List.getElem?_range h]
    rfl
   rw[e1]
   have e2:(x.toNat+2 ^ 32*val l).testBit i=x.toNat.testBit i:=by
    rw[Nat.add_comm,Nat.testBit_two_pow_mul_add _ (by omega),if_pos h]
   rw[e2]
   unfold B3t
   rw[Nat.testBit,Bool.eq_iff_iff,decide_eq_true_eq,bne_iff_ne,ne_eq,Nat.and_comm]
   have:1 &&& (x.toNat >>>i) < 2:=by rw[Nat.and_comm,Nat.and_one_is_mod];omega
   omega
  ·have e1:qL (eU (x::l)) i=qL (eU l) (i - 32):=by
    unfold qL
    simp only[eU]
    rw[List.getElem?_append_right (by simp;omega)]
    simp
   rw[e1,yI l (i - 32),Nat.add_comm,Nat.testBit_two_pow_mul_add _ (by omega),if_neg h]
theorem C1r{x y:List Bool}{a b:Nat}(hx:∀ i,qL x i=a.testBit i)(hy:∀ i,qL y i=b.testBit i):∀ n,bel x y n=decide (a % 2 ^ n < b % 2 ^ n)
 |0=>by simp[bel,Nat.mod_one]
 | n+1=>by
  simp only[bel]
  rw[hx,hy,C1r hx hy n,Nat.pow_succ,Nat.mod_mul,Nat.mod_mul,Nat.testBit_eq_decide_div_mod_eq,Nat.testBit_eq_decide_div_mod_eq]
  have h1:a % 2 ^ n < 2 ^ n:=Nat.mod_lt _ (Nat.two_pow_pos n)
  have h2:b % 2 ^ n < 2 ^ n:=Nat.mod_lt _ (Nat.two_pow_pos n)
  generalize a % 2 ^ n=p at*
  generalize b % 2 ^ n=q at*
  generalize 2 ^ n=w at*
  have h3:=Nat.mod_two_eq_zero_or_one (a / w)
  have h4:=Nat.mod_two_eq_zero_or_one (b / w)
  generalize a / w % 2=u at*
  generalize b / w % 2=v at*
  rcases h3 with rfl|rfl <;>rcases h4 with rfl|rfl <;>simp <;>omega
theorem C2i{x:List Bool}{a:Nat}(hx:∀ i,qL x i=a.testBit i){n:Nat}(hn:x.length <=n):a < 2 ^ n:=by
 apply Nat.lt_pow_two_of_testBit
 intro i hi
 rw[<- hx]
 unfold qL
 rw[List.getElem?_eq_none (by omega)];rfl
theorem A8s{x y:List Bool}{a b:Nat}(hx:∀ i,qL x i=a.testBit i)(hy:∀ i,qL y i=b.testBit i):below x y=decide (a < b):=by
 unfold below
 rw[C1r hx hy,Nat.mod_eq_of_lt (C2i hx (by omega)),Nat.mod_eq_of_lt (C2i hy (by omega))]
theorem B8l(a b:List UInt32):below (cL (eU a)) (cL (eU b))=decide (val a < val b):=
 A8s (fun i=>by rw[B1e,yI]) (fun i=>by rw[B1e,yI])
theorem vW(a b:Int):dR a b= -1 /\ a < b \/ dR a b=0 /\ a=b \/ dR a b=1 /\ b < a:=by
 unfold dR
 by_cases h:a < b
 ·rw[if_pos h];exact .inl ⟨rfl,h⟩
 ·rw[if_neg h]
  by_cases h2:b < a
  ·rw[if_pos h2];exact .inr (.inr ⟨rfl,h2⟩)
  ·rw[if_neg h2];exact .inr (.inl ⟨rfl,by omega⟩)
theorem A8w:∀ (a b:List UInt32) (x y:UInt32),a.length=b.length ->sT (a++[x]) (b++[y])=lex (sT a b) (dR x.toNat y.toNat)
 | [],[],x,y,_=>by
  simp only[List.nil_append,sT]
  unfold lex
  split <;>simp_all
 | a::l,b::r,x,y,h=>by
  simp only[List.cons_append,sT]
  rw[A8w l r x y (by simpa using h),wD]
theorem B4a:∀ (a b:List UInt32),a.length=b.length ->sT a.reverse b.reverse=dR (val a) (val b)
 |[],[],_=>by simp[sT,val,dR]
 | x::a,y::b,h=>by
  have hl:a.length=b.length:=by simpa using h
  rw[List.reverse_cons,List.reverse_cons,A8w _ _ _ _ (by simpa using hl),B4a a b hl]
  have hx:=x.toNat_lt
  have hy:=y.toNat_lt
  simp only[val]
  rcases vW (val a) (val b)with h1|h1|h1 <;>rcases vW x.toNat y.toNat with h2|h2|h2 <;>rw[h1.1,h2.1] <;>unfold lex <;> (try simp only[if_true]) <;> (try rw[if_neg (by decide)]) <;>
   rcases vW ((x.toNat+4294967296*val a:Nat):Int) ((y.toNat+4294967296*val b:Nat):Int)with h3|h3|h3 <;>rw[h3.1] <;>first|rfl|(exfalso;omega)
theorem C3d:∀ {a:List UInt32},a ≠ [] ->jT a=true ->4294967296 ^ (a.length - 1) <=val a
 |[],h,_=>absurd rfl h
 | [x],_,h=>by
  simp[jT]at h
  simp only[val,List.length_singleton]
  have:x.toNat ≠ 0:=fun e=>h (by first|exact UInt32.toNat_inj.1 e|exact_mod_cast e)
  omega
 | x::y::a,_,h=>by
  have ih:=C3d (a:=y::a) (by simp) (by simpa [jT] using h)
  simp only[List.length_cons,Nat.add_sub_cancel]at ih ⊢
  rw[val,Nat.pow_succ]
  omega
theorem C3f:∀ l:List UInt32,val l < 4294967296 ^ l.length
 |[]=>by simp[val]
 | x::l=>by
  have ih:=C3f l
  have hx:=x.toNat_lt
  rw[val,List.length_cons,Nat.pow_succ]
  omega
theorem B7h{a b:List UInt32}(ha:a ≠ [] ->jT a=true)(hb:b ≠ [] ->jT b=true)(h:a.length < b.length):val a < val b:=by
 have hne:b ≠ []:=fun e=>by subst e;simp at h
 have h1:=C3d hne (hb hne)
 have h2:=C3f a
 have h3:4294967296 ^ a.length <=4294967296 ^ (b.length - 1):=Nat.pow_le_pow_right (by decide) (by omega)
 omega
theorem C9d{a b:List UInt32}(ha:a ≠ [] ->jT a=true)(hb:b ≠ [] ->jT b=true):B1m a b=dR (val a) (val b):=by
 unfold B1m
 rcases vW (a.length:Int) b.length with h|h|h
 ·rw[h.1]
  have h1:=B7h ha hb (by omega)
  unfold lex dR
  rw[if_neg (by decide),if_pos (by omega)]
 ·rw[h.1,B4a a b (by omega)]
  unfold lex
  rw[if_pos rfl]
 ·rw[h.1]
  have h1:=B7h hb ha (by omega)
  unfold lex dR
  rw[if_neg (by decide),if_neg (by omega),if_pos (by omega)]
end
set_option maxRecDepth 20000
section
def C2x:=And.intro (And.intro (And.intro (And.intro @jD (And.intro @iZ @jJ)) (And.intro (And.intro @eG @qI) (And.intro @jE @dL))) (And.intro (And.intro @eN (And.intro @dV @eD)) (And.intro (And.intro @wT @lU) (And.intro @aA.flat_enc @aA.isv_enc)))) (And.intro (And.intro (And.intro @aA.fold_enc (And.intro @aS @aN)) (And.intro (And.intro @aU @bW) (And.intro @bG @aQ))) (And.intro (And.intro (And.intro @aM @aZ) (And.intro @cH @bQ)) (And.intro (And.intro @bB @kB) (And.intro @iU @lE))))
variable (G:Nat ->AV)
set_option maxHeartbeats 4000000 in
theorem qV(t:aA)(hb:t.bulk <=1000000000):aB Tryz.prog G 83 [t.enc] (.bool (wr t)):=by
 have h1:=cQ t
 intro σ
 by_cases hl:(t.limbs.length:Int)=0
 ·have hl1: ¬ 0 < (t.limbs.length:Int):=by omega
  have hl2: ¬ (0:Int) >0:=by omega
  have e:wr t=(decide (t.knd=1) && decide (t.text=[]) && decide (t.num=0) && decide ((t.items.length:Int)=0) && decide ((t.tail.length:Int)=0) && !t.neg):=by
   have e0:decide ((t.items.length:Int)+t.tail.length=0)=(decide ((t.items.length:Int)=0) && decide ((t.tail.length:Int)=0)):=by
    rw[Bool.eq_iff_iff];simp only[Bool.and_eq_true,decide_eq_true_eq];omega
   unfold wr
   rw[e0,hl]
   simp only[show decide ((0:Int) <=32)=true from rfl,show decide ((0:Int)=0)=true from rfl,show decide ((0:Int) < 0)=false from rfl,Bool.and_true,Bool.true_and,Bool.false_and,Bool.or_false,Bool.and_assoc,decide_true]
  rw[e]
  clear h1 hb e
  refine aJ.of_awp mixed Tryz.func83 rfl (by kernel_rfl) (by kernel_rfl) (by simp[Tryz.ntmps83]) Tryz.results83 ?_
  repeat'(first|refine xs ?_ ?_ <;>intros|(refine wn ?_;intro bx hbx;try simp only[fb]at hbx)|refine wj ?_|simp -dsimp only[↓bp,bq,br,seval,C2x,bC, *]|refine wz ?_|fail)
  all_goals(try simp_all)
 ·have hl1:0 < (t.limbs.length:Int):=by omega
  have hw2:IntKind.i64.wrap ((t.limbs.length:Int) - 1)=((t.limbs.length - 1:Nat):Int):=by rw[aC (by omega) (by omega)];omega
  obtain⟨x,hx⟩:∃ x,t.limbs[t.limbs.length - 1]? =some x:=⟨_,List.getElem?_eq_getElem (by omega)⟩
  have hlo:jT t.limbs=decide ((x.toNat:Int) ≠ 0):=by simp[jT,hx]
  have e:wr t=(decide (t.knd=1) && decide (t.text=[]) && decide (t.num=0) && decide ((t.items.length:Int)=0) && decide ((t.tail.length:Int)=0) && decide ((t.limbs.length:Int) <=32) && decide ((x.toNat:Int) ≠ 0)):=by
   unfold wr
   rw[hlo,Bool.eq_iff_iff]
   simp only[Bool.and_eq_true,decide_eq_true_eq,Bool.or_eq_true,hl,hl1,false_and,false_or,true_and]
   constructor
   ·rintro⟨⟨⟨⟨⟨a,b⟩,c⟩,d⟩,f⟩,g⟩;exact⟨⟨⟨⟨⟨⟨a,b⟩,c⟩,by omega⟩,by omega⟩,f⟩,g⟩
   ·rintro⟨⟨⟨⟨⟨⟨a,b⟩,c⟩,d⟩,d2⟩,f⟩,g⟩;exact⟨⟨⟨⟨⟨a,b⟩,c⟩,by omega⟩,f⟩,g⟩
  rw[e]
  clear h1 hb e hlo
  refine aJ.of_awp mixed Tryz.func83 rfl (by kernel_rfl) (by kernel_rfl) (by simp[Tryz.ntmps83]) Tryz.results83 ?_
  repeat'(first|refine xs ?_ ?_ <;>intros|(refine wn ?_;intro bx hbx;try simp only[fb]at hbx)|refine wj ?_|simp -dsimp only[↓bp,bq,br,seval,C2x,bC, *]|refine wz ?_|fail)
  all_goals(try simp_all)
end
set_option maxRecDepth 20000
section
def D4g:=And.intro (And.intro (And.intro (And.intro @jD @iZ) (And.intro @jJ @eG)) (And.intro (And.intro @jE @dL) (And.intro @eN (And.intro @dV @eD)))) (And.intro (And.intro (And.intro @aA.flat_enc @aA.isv_enc) (And.intro @aA.fold_enc @aS)) (And.intro (And.intro @aN @aU) (And.intro @aQ (And.intro @aM @aZ))))
def Hid(p:Prop):Prop:=p
variable (G:Nat ->AV)
theorem E9d(t:aA)(hb:t.bulk <=1000000000)(hk:t.knd=1):aB Tryz.prog G 55 [t.enc] (.int .i64 (bY t)):=by
 have hr:=qV G t hb
 have hl:=cQ t
 have e:bY t=if wr t=true then(1+t.limbs.length:Int)else -1:=by rw[vH,if_pos hk]
 have hw1:IntKind.i64.wrap (1+(t.limbs.length:Int))=1+t.limbs.length:=aC (by omega) (by omega)
 have k1:=eq_true hk
 clear hk
 rw[e]
 clear e
 generalize wr t=W at*
 intro σ
 cases W
 all_goals
  refine aJ.of_awp mixed Tryz.func55 rfl (by kernel_rfl) (by kernel_rfl) (by simp[Tryz.ntmps55]) Tryz.results55 ?_
  repeat'(first|refine xs ?_ ?_ <;>intros|(refine wn ?_;intro bx hbx;try simp only[fb]at hbx)|refine wp hr ?_|refine wj ?_|simp -dsimp only[↓bp,bq,br,seval,D4g,if_true,if_false, *]|refine wz ?_|fail)
 all_goals rfl
set_option maxHeartbeats 4000000 in
theorem E9e(t:aA)(hb:t.bulk <=1000000000)(hk:t.knd=2):aB Tryz.prog G 55 [t.enc] (.int .i64 (bY t)):=by
 have e:Hid _:=E0e hk
 have k1:=eq_false (show ¬ t.knd=1 by omega)
 have k7:=eq_false (show ¬ t.knd=7 by omega)
 have k2:=eq_true hk
 clear hk
 generalize bY t=r at*
 intro σ
 clear hb
 refine aJ.of_awp mixed Tryz.func55 rfl (by kernel_rfl) (by kernel_rfl) (by simp[Tryz.ntmps55]) Tryz.results55 ?_
 repeat'(first|refine xs ?_ ?_ <;>intros|(refine wn ?_;intro bx hbx;try simp only[fb]at hbx)|refine wj ?_|simp -dsimp only[↓bp,bq,br,seval,D4g, *]|refine wz ?_|fail)
 all_goals
  unfold Hid at e
  rw[e]
  split
  ·rename_i hc
   obtain⟨c1,c2,c3,c4,c5,c6⟩:=hc
   first|rfl|(exfalso;first|omega|(simp_all;done))
  ·rename_i hc
   first|rfl|(exfalso;apply hc;refine⟨?_,?_,?_,?_,?_,?_⟩ <;>first|assumption|omega|(simp_all;done))
end
end Go.Proofs.YtdhbdhopnpmboaaGreatDoor
