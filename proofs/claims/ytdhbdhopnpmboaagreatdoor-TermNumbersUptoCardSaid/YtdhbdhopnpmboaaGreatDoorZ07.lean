/- The kit's copies of terms with marks in their spare room; whether they are as they were. -/
import Derived.Test.YtdhbdhopnpmboaaGreatDoorZ06
import Derived.ProofKit
import Derived.OpenShut
import Derived.Deep.DeepHandedRow
import Derived.Below
import Derived.ChangeSame
import Derived.DataShut
import Derived.HandedShaped
set_option linter.unusedVariables false
set_option linter.unusedSimpArgs false
set_option maxRecDepth 20000
set_option linter.defProp false
namespace Go.Proofs.YtdhbdhopnpmboaaGreatDoor
open Go Go.Av
def bE:=And.intro (And.intro (And.intro (And.intro @jD @iZ) (And.intro @jJ (And.intro @eG @jE))) (And.intro (And.intro @dL (And.intro @eN @dV)) (And.intro @eD (And.intro @aA.flat_enc @aA.isv_enc)))) (And.intro (And.intro (And.intro @aA.fold_enc (And.intro @aS @aN)) (And.intro @aU (And.intro @bW @bG))) (And.intro (And.intro @aQ (And.intro @aM @aZ)) (And.intro @cH (And.intro @bQ @bB))))
variable (G:Nat ->AV)
def nY(k i:Int):aA:= .mk 0 false [] [] (nE k i) [] []
theorem gT(k:UInt8)(g:Bool)(s:List UInt8)(n:Int):Le (.agg [.int .u8 k.toNat, .bool g, .nil, .str s, .int .i64 n, .nil, .nil]) (aA.mk k g [] s n [] []).enc:=by
 have e:(aA.mk k g [] s n [] []).enc= .agg [.int .u8 k.toNat, .bool g, .sl .none [] [], .str s, .int .i64 n, .sl .none [] [], .sl .none [] []]:=by simp[aA.enc,bD]
 rw[e]
 exact Le.agg (.cons (Le.refl _) (.cons (Le.refl _) (.cons Le.nil (.cons (Le.refl _) (.cons (Le.refl _) (.cons Le.nil (.cons Le.nil .nil))))))) (fun d hd=>by simp at hd;rcases hd with rfl|rfl|rfl|rfl|rfl|rfl <;>rfl)
theorem kH(k i:Int):aB Tryz.prog G 71 [.int .i64 k, .int .i64 i] (nY k i).enc:=by
 refine aB.tellLess (v:= .agg [.int .u8 0, .bool false, .nil, .str [], .int .i64 (nE k i), .nil, .nil]) ?_ (gT 0 false [] _)
 intro σ
 refine aJ.of_awp mixed Tryz.func71 rfl (by kernel_rfl) (by kernel_rfl) (by simp[Tryz.ntmps71]) Tryz.results71 ?_
 repeat'(first|refine xs ?_ ?_ <;>intros|(refine wn ?_;intro bx hbx;try simp only[fb]at hbx)|refine aB.use (by apply dZ <;> (first|assumption|omega|(simp only[*];done))) ?_|refine wj ?_|simp -dsimp only[↓bp,bq,br,seval,bE, *]|refine wz ?_|fail)
 all_goals rfl
def hZ(k i:Nat):List AV:=(List.range i).map fun(i:Nat)=> (nY k (i:Int)).enc
theorem yZ(k i:Nat):hZ k (i+1)=hZ k i++[(nY k (i:Int)).enc]:=by simp[hZ,List.range_succ]
theorem gL(k i:Nat):(hZ k i).length=i:=by simp[hZ]
def eO:List AV:=hZ 1 12
def aA.lent:aA ->AV
 | .mk k g l s n ks ts=> .agg [.int .u8 k.toNat, .bool g,iM l, .str s, .int .i64 n, .sl .none (ks.map aA.lent) eO, .sl .none (ts.map aA.lent) eO]
def pS(l:List aA):AV:= .sl .none (l.map aA.lent) eO
theorem aA.flat_lent(t:aA):flat t.lent=[.int .u8 t.knd, .bool t.neg,iM t.limbs, .str t.text, .int .i64 t.num,pS t.items,pS t.tail]:=by
 cases t;simp[aA.lent,flat,aA.knd,aA.kind,aA.neg,aA.limbs,aA.text,aA.num,aA.items,aA.tail,pS]
theorem aA.isv_lent(t:aA):isv t.lent=true:=by cases t;simp[aA.lent,isv]
theorem rQ(l:List aA):isv (pS l)=true:=rfl
theorem pQ(l:List aA):flat (pS l)=[pS l]:=rfl
theorem aA.fold_lent(t:aA):AV.agg [.int .u8 t.knd, .bool t.neg,iM t.limbs, .str t.text, .int .i64 t.num,pS t.items,pS t.tail]=t.lent:=by
 cases t;simp[aA.lent,aA.knd,aA.kind,aA.neg,aA.limbs,aA.text,aA.num,aA.items,aA.tail,pS]
theorem D2b(t:aA):LeE t.lent t.enc:=by
 refine aA.ind (P:=fun t=>LeE t.lent t.enc) (fun t ih1 ih2=> ?_) t
 refine⟨?_,t.isv_enc,ones t⟩
 rw[t.flat_lent,t.flat_enc]
 exact .cons (Le.refl _) (.cons (Le.refl _) (.cons (B5b _) (.cons (Le.refl _) (.cons (Le.refl _) (.cons (Le.trans Le.spare (Le.sl (uA.map _ ih1))) (.cons (Le.trans Le.spare (Le.sl (uA.map _ ih2))) .nil))))))
theorem LeE.le{a b:aA}(h:xZ (flat a.lent) (flat b.enc)):Le a.lent b.enc:=by
 rw[<- a.fold_lent,<- b.fold_enc]
 rw[a.flat_lent,b.flat_enc]at h
 exact Le.agg h (fun d hd=>by simp at hd;rcases hd with rfl|rfl|rfl|rfl|rfl|rfl|rfl <;>rfl)
theorem yW(t:aA):Le t.lent t.enc:=LeE.le (D2b t).cells
theorem E3a{l:List aA} :∀ a,a ∈ l.map aA.lent -> (flat a).length=7:=fun a ha=>by
 obtain⟨x,_,rfl⟩:=List.mem_map.1 ha
 rw[x.flat_lent];rfl
theorem tW:dU Tryz.prog 24=some (26,7,104):=dV.2.2.2.2.2.2
theorem tfE:el Tryz.prog 24=some 26:=dV.2.2.2.1
theorem A5f(l:List aA)(hl:l.length <=1000000000)(hf:∀ x,x ∈ l ->aB Tryz.prog G 8 [x.enc] x.lent):aB Tryz.prog G 38 [aH l] (pS l):=by
 refine aB.of_le fun σ=> ?_
 have hw0:IntKind.i64.wrap ((l.length:Int)+12)=l.length+12:=aC (by omega) (by omega)
 refine aJ.of_awp mixed Tryz.func38 rfl (by kernel_rfl) (by kernel_rfl) (by simp[Tryz.ntmps38]) Tryz.results38 ?_
 simp -dsimp only[↓bp,bq,br,seval,bE,hw0]
 refine eS tW (by omega) (by omega) (AS.le.refl σ) (fun v σ1 hB1 hx1=> ?_)
 simp -dsimp only[↓bp,bq,br,seval,bE]
 refine aI (fun n e σ'=>∃ (i:Nat) (v:AV),i <=l.length /\ n=l.length - i /\ e 4= .int .i64 i /\ e 3=v /\ kL 7 σ σ' v ((l.take i).map aA.lent)) l.length
  ⟨0,v,by omega,by omega,by simp -dsimp only[↓bp,bq,br,seval,bE];try rfl,by simp -dsimp only[↓bp,bq,br,seval,bE],by simpa using hB1⟩ ?_
 rintro n e1 σ2 ⟨i,v2,hi,rfl,h4,h3,hB2⟩
 simp -dsimp only[↓bp,bq,br,seval,bE]at h4 h3
 simp -dsimp only[↓bp,bq,br,seval,bE,h4,h3]
 refine cG (fun hlt=> ?_) (fun hge=> ?_)
 ·obtain⟨k,hk⟩:∃ k,l[i]? =some k:=⟨_,List.getElem?_eq_getElem (by omega)⟩
  have hkm:k ∈ l:=List.mem_of_getElem? hk
  simp -dsimp only[↓bp,bq,br,seval,bE,h4,h3,hk]
  refine aB.use (hf k hkm) ?_
  simp -dsimp only[↓bp,bq,br,seval,bE,h4,h3]
  refine aY fun c hc=> ?_
  simp -dsimp only[↓bp,bq,br,seval,bE,h4,h3,aA.flat_lent,aA.isv_lent,aA.fold_lent]
  refine eK tW (aA.isv_lent k) (by rw[k.flat_lent];rfl) (by omega) ?_
  simp -dsimp only[↓bp,bq,br,seval,bE,h4,h3]
  refine iH (ys:=[k.lent]) (hB2.newBox hc _) tW (bJ tfE) (fun a ha=>by simp at ha;subst ha;rw[k.flat_lent];rfl) (by simp;omega) (fun v3 σ3 hB4 hx4=> ?_)
  simp -dsimp only[↓bp,bq,br,seval,bE,h4,h3]
  refine⟨l.length - (i+1),by omega,i+1,v3,by omega,rfl,?_,rfl,?_⟩
  ·rw[aC (by omega) (by omega)];rfl
  ·rw[aW _ _ _ hk,List.map_append];exact hB4
 ·have :i=l.length:=by omega
  subst this
  simp -dsimp only[↓bp,bq,br,seval,bE,h4,h3]
  rw[List.take_length]at hB2
  refine aI (fun n e σ'=>∃ (i:Nat) (v:AV),i <=12 /\ n=12 - i /\ e 6= .int .i64 i /\ e 3=v /\ kL 7 σ σ' v (l.map aA.lent++hZ 1 i)) 12
   ⟨0,v2,by omega,by omega,by simp -dsimp only[↓bp,bq,br,seval,bE];try rfl,by simp -dsimp only[↓bp,bq,br,seval,bE,h3],by simpa [hZ] using hB2⟩ ?_
  rintro n e2 σ3 ⟨i,v3,hi2,rfl,h6,h3',hB3⟩
  simp -dsimp only[↓bp,bq,br,seval,bE]at h6 h3'
  simp -dsimp only[↓bp,bq,br,seval,bE,h6,h3',h4]
  refine cG (fun hlt=> ?_) (fun hge=> ?_)
  ·simp -dsimp only[↓bp,bq,br,seval,bE,h6,h3',h4]
   refine aB.use (kH G 1 i) ?_
   simp -dsimp only[↓bp,bq,br,seval,bE,h6,h3',h4]
   refine eK tW (aA.isv_enc _) (by rw[aA.flat_enc];rfl) (by omega) ?_
   simp -dsimp only[↓bp,bq,br,seval,bE,h6,h3',h4]
   refine iH (ys:=[(nY 1 (i:Int)).enc]) hB3 tW (bJ tfE) (fun a ha=>by simp at ha;subst ha;rw[aA.flat_enc];rfl) (by simp[gL];omega) (fun v4 σ4 hB4 hx4=> ?_)
   simp -dsimp only[↓bp,bq,br,seval,bE,h6,h3',h4]
   refine⟨12 - (i+1),by omega,i+1,v4,by omega,rfl,?_,rfl,?_⟩
   ·rw[aC (by omega) (by omega)];rfl
   ·rw[yZ,<- List.append_assoc];exact hB4
  ·have:i=12:=by omega
   subst this
   simp -dsimp only[↓bp,bq,br,seval,bE,h6,h3',h4]
   rcases hB3.isNil with⟨hn,_⟩|⟨b,hb⟩
   ·have:=congrArg List.length hn;simp[gL]at this
   ·subst hb
    try refine xQ ?_
    refine A9s (l:=0) (h:=l.length) tfE eD.1 rfl (by simp[eL]) (by omega) (by simp) (fun a ha=> ?_) (fun g'=> ?_)
    ·rw[List.append_nil]at ha
     cases hB3 with
     |own _ _ _ _ _ hx=>exact hx a ha
    ·simp -dsimp only[↓bp,bq,br,seval,bE,h6,h3',h4]
     refine aL ?_ hB3.le
     have e1:(l.map aA.lent++hZ 1 12).take l.length=l.map aA.lent:=by
      rw[List.take_append_of_le_length (by simp),List.take_of_length_le (by simp)]
     have e2:(l.map aA.lent++hZ 1 12).drop l.length=eO:=by
      rw[List.drop_append_of_le_length (by simp),List.drop_eq_nil_of_le (by simp)];rfl
     rw[e1,e2]
     exact Le.gh
theorem A9b(t:aA)(hb:t.bulk <=1000000000):aB Tryz.prog G 8 [t.enc] t.lent:=by
 revert hb
 refine aA.ind (P:=fun t=>t.bulk <=1000000000 ->aB Tryz.prog G 8 [t.enc] t.lent) (fun t ih1 ih2 hb=> ?_) t
 have hl1:=A5f G t.items (by have:=cA t;omega) (fun x hx=>ih1 x hx (by have:=dJ hx;omega))
 have hl2:=A5f G t.tail (by have:=dD t;omega) (fun x hx=>ih2 x hx (by have:=dK hx;omega))
 have hl3:=A7y G t.limbs (by have:=cQ t;omega)
 intro σ
 refine aJ.of_awp mixed Tryz.func8 rfl (by kernel_rfl) (by kernel_rfl) (by simp[Tryz.ntmps8]) Tryz.results8 ?_
 repeat'(first|refine xs ?_ ?_ <;>intros|(refine wn ?_;intro bx hbx;try simp only[fb]at hbx)|refine wp hl1 ?_|refine wp hl2 ?_|refine wp hl3 ?_|refine wj ?_|simp -dsimp only[↓bp,bq,br,seval,bE,aA.isv_lent,aA.flat_lent,aA.fold_lent,rQ,pQ,oL,mT, *]|refine wz ?_|fail)
 all_goals rfl
theorem D3y{t:TypeId}(l:List aA)(h:Int)(hh:h=l.length+12)(ht:t=24){K:AV ->Prop}{d:Dum K}(hK:∀ g,K (.sl g (l.map aA.lent++eO) [])):bo (iC Tryz.prog t (pS l) none (some (.int .i64 h))) K d:=by
 subst hh ht
 refine A9s (l:=0) (h:=l.length+12) tfE eD.1 rfl (by simp[eL];omega) (by omega) (by simp[eO,gL]) (fun a ha=> ?_) (fun g'=> ?_)
 ·rcases List.mem_append.1 ha with ha|ha
  ·exact E3a a ha
  ·obtain⟨i,_,rfl⟩:=List.mem_map.1 ha
   rw[aA.flat_enc];rfl
 ·have e1:((l.map aA.lent++eO).take (l.length+12)).drop 0=l.map aA.lent++eO:=by
   rw[List.drop_zero,List.take_of_length_le (by simp[eO,gL])]
  have e2:(l.map aA.lent++eO).drop (l.length+12)=[]:=List.drop_eq_nil_of_le (by simp[eO,gL])
  rw[e1,e2]
  have hml:eO.length=12:=by simp[eO,gL]
  unfold zI
  split
  ·rename_i heq _
   have h2:eO=[]:=by injection heq
   rw[h2]at hml
   cases hml
  ·exact hK g'
theorem oN{P:Program}{t:TypeId}(l:List aA):jO P .len #[t] [pS l]=if(el P t).isSome then some (.int .i64 l.length)else none:=by
 simp[pS,B2h]
theorem A5b(l:List aA)(hl:l.length <=1000000000)(hf:∀ x,x ∈ l ->aB Tryz.prog G 13 [x.lent,x.enc] (.bool true)):aB Tryz.prog G 52 [pS l,aH l] (.bool true):=by
 intro σ
 have hw0:IntKind.i64.wrap ((l.length:Int)+12)=l.length+12:=aC (by omega) (by omega)
 have hml:eO.length=12:=by simp[eO,gL]
 have hsm:∀ i:Int,aB Tryz.prog G 18 [(nY 1 i).enc,(nY 1 i).enc] (.bool true):=fun i=>by
  have:=sA G (nY 1 i) (nY 1 i) (by simp[nY,aA.bulk,aV]) (by simp[nY,aA.bulk,aV])
  rwa [(nH _ _).2 rfl]at this
 refine aJ.of_awp mixed Tryz.func52 rfl (by kernel_rfl) (by kernel_rfl) (by simp[Tryz.ntmps52]) Tryz.results52 ?_
 simp -dsimp only[↓bp,bq,br,seval,bE,hw0,oN]
 try refine xQ ?_
 refine D3y l _ rfl rfl fun g=> ?_
 simp -dsimp only[↓bp,bq,br,seval,bE]
 refine aI (fun n e σ'=>∃ i:Nat,i <=((l.map aA.lent++eO)).length /\ n=((l.map aA.lent++eO)).length - i /\ e 6= .int .i64 i /\ σ.le σ') ((l.map aA.lent++eO)).length
   ⟨0,by omega,by omega,by simp -dsimp only[↓bp,bq,br,seval,bE];first|done|rfl,AS.le.refl σ⟩ ?_
 rintro n v σ' ⟨i,hi,rfl,h6,hle⟩
 simp -dsimp only[↓bp,bq,br,seval,bE]at h6
 simp -dsimp only[↓bp,bq,br,seval,bE,h6]
 refine cG (fun hlt=> ?_) (fun hge=> ?_)
 ·have hl3:i < l.length+12:=by rw[List.length_append,List.length_map,hml]at hlt;omega
  by_cases hi2:(i:Int) < l.length
  ·obtain⟨k,hk⟩:∃ k,l[i]? =some k:=⟨_,List.getElem?_eq_getElem (by omega)⟩
   have hkm:k ∈ l:=List.mem_of_getElem? hk
   have hx:(l.map aA.lent++eO)[i]? =some k.lent:=by rw[List.getElem?_append_left (by simp;omega),List.getElem?_map,hk];rfl
   have hge: ¬ (l.length:Int) <=i:=by omega
   clear hi hlt
   repeat'(first|refine xs ?_ ?_ <;>intros|(refine wn ?_;intro bx hbx;try simp only[fb]at hbx)|refine aB.use (hf k hkm) ?_|refine aB.head (hf k hkm) ?_|refine wj ?_|simp -dsimp only[↓bp,bq,br,seval,bE,aA.flat_lent,aA.isv_lent,aA.fold_lent,rQ,pQ,oN, *]|refine wz ?_|fail)
   all_goals(have hl2:(l.map aA.lent++eO).length=l.length+12:=by simp[hml])
   all_goals exact⟨(l.map aA.lent++eO).length - (i+1),by omega,i+1,by omega,rfl,by rw[aC (by omega) (by omega)];rfl⟩
  ·have hx:(l.map aA.lent++eO)[i]? =some (nY 1 ((i - l.length:Nat):Int)).enc:=by
    rw[List.getElem?_append_right (by simp;omega),List.length_map]
    have:i - l.length < 12:=by omega
    simp[eO,hZ,this]
   have hge:(l.length:Int) <=i:=by omega
   have hw1:IntKind.i64.wrap ((i:Int) - l.length)=((i - l.length:Nat):Int):=by rw[aC (by omega) (by omega)];omega
   clear hi hlt
   repeat'(first|refine xs ?_ ?_ <;>intros|(refine wn ?_;intro bx hbx;try simp only[fb]at hbx)|refine aB.use (kH G 1 _) ?_|refine aB.head (kH G 1 _) ?_|refine aB.use (hsm _) ?_|refine aB.head (hsm _) ?_|refine wj ?_|simp -dsimp only[↓bp,bq,br,seval,bE,aA.flat_lent,aA.isv_lent,aA.fold_lent,rQ,pQ,oN, *]|refine wz ?_|fail)
   all_goals(have hl2:(l.map aA.lent++eO).length=l.length+12:=by simp[hml])
   all_goals exact⟨(l.map aA.lent++eO).length - (i+1),by omega,i+1,by omega,rfl,by rw[aC (by omega) (by omega)];rfl⟩
 ·have:i=(l.map aA.lent++eO).length:=by omega
  subst this
  clear hi hge
  repeat'(first|refine xs ?_ ?_ <;>intros|(refine wn ?_;intro bx hbx;try simp only[fb]at hbx)|refine wj ?_|simp -dsimp only[↓bp,bq,br,seval,bE, *]|refine wz ?_|fail)
  all_goals rfl
theorem rS(t:aA)(hb:t.bulk <=1000000000):aB Tryz.prog G 13 [t.lent,t.enc] (.bool true):=by
 revert hb
 refine aA.ind (P:=fun t=>t.bulk <=1000000000 ->aB Tryz.prog G 13 [t.lent,t.enc] (.bool true)) (fun t ih1 ih2 hb=> ?_) t
 have hl1:=A5b G t.items (by have:=cA t;omega) (fun x hx=>ih1 x hx (by have:=dJ hx;omega))
 have hl2:=A5b G t.tail (by have:=dD t;omega) (fun x hx=>ih2 x hx (by have:=dK hx;omega))
 have hl3:=A7x G t.limbs (by have:=cQ t;omega)
 have hs:=(sA G t t hb hb).lessArgs (args:=[t.lent,t.enc]) (.cons (yW t) (.cons (Le.refl _) .nil))
 rw[(nH t t).2 rfl]at hs
 intro σ
 refine aJ.of_awp mixed Tryz.func13 rfl (by kernel_rfl) (by kernel_rfl) (by simp[Tryz.ntmps13]) Tryz.results13 ?_
 repeat'(first|refine xs ?_ ?_ <;>intros|(refine wn ?_;intro bx hbx;try simp only[fb]at hbx)|refine wp hl1 ?_|refine wp hl2 ?_|refine wp hl3 ?_|refine wp hs ?_|refine wj ?_|simp -dsimp only[↓bp,bq,br,seval,bE,aA.flat_lent,aA.isv_lent,aA.fold_lent,rQ,pQ,oN,oL,mT, *]|refine wz ?_|fail)
 all_goals rfl
end Go.Proofs.YtdhbdhopnpmboaaGreatDoor
namespace Go.Av
open Go Go.RowKit
variable {H:Type}
mutual
def avW:DataW H ->AV
 | .lit (.bool b)=> .bool b
 | .lit (.int k n)=> .int k n
 | .lit (.string s)=> .str s
 | .lit _=> .undef
 | .nil=> .sl .none [] []
 | .slice elems _=> .sl .none (C8i elems) []
 | .agg parts=> .agg (A0h parts)
 |_=> .undef
def C8i:List (DataW H) ->List AV
 |[]=> []
 |d::r=>avW d::C8i r
def A0h:List (DataW H) ->List AV
 |[]=> []
 |d::r=>flat (avW d)++A0h r
end
theorem C8j(l:List (DataW H)):C8i l=l.map avW:=by
 induction l with
 |nil=>simp[C8i]
 |cons d r ih=>simp[C8i,ih]
def B7f(P:Program):Nat ->List Field ->Nat ->Bool
 |k,[],n=>decide (k=n)
 |k,f::fs,n=>decide (f.offset=k) && B7f P (k+P.cellsOf f.type) fs n
def sS(P:Program)(S:List TypeId):Bool:=
 S.all fun t=>match P.underlying t with
  |some .bool|some (.int _)|some .string=>true
  |some (.slice e)=>S.contains e && decide (0 < P.cellsOf e)
  |some (.struct fs)=> (fs.toList.all fun f=>S.contains f.type) && B7f P 0 fs.toList (P.cellsOf t)
  |some (.array n e)=>S.contains e && decide (n*P.cellsOf e=P.cellsOf t)
  |_=>false
structure CL(K:bO)(cs:List AV)(vs:List Value):Prop where
 size:vs.length=cs.length
 one:∀ c,c ∈ cs ->one c=true
 at_:∀ j (h:j < cs.length),VR K cs[j] (vs.getD j Go.undef)
theorem CL.one1{K:bO}{a:AV}{v:Value}(h:VR K a v)(h1:Av.one a=true):CL K [a] [v]:=
 ⟨rfl,fun c hc=>by simp at hc;subst hc;exact h1,fun j hj=>by
   have:j=0:=by simpa using hj
   subst this;exact h⟩
theorem CL.append{K:bO}{a b:List AV}{v u:List Value}(h:CL K a v)(k:CL K b u):CL K (a++b) (v++u):=by
 have h1:=h.size
 refine⟨by simp[h.size,k.size],fun c hc=> ?_,fun j hj=> ?_⟩
 ·rcases List.mem_append.1 hc with hc|hc
  ·exact h.one c hc
  ·exact k.one c hc
 ·by_cases hja:j < a.length
  ·rw[List.getElem_append_left hja]
   have:=h.at_ j hja
   simpa [List.getElem?_append_left (show j < v.length by omega)] using this
  ·rw[List.getElem_append_right (by omega)]
   have:=k.at_ (j - a.length) (by simp at hj;omega)
   simpa [List.getElem?_append_right (show v.length <=j by omega),h1] using this
theorem CL.nil{K:bO} :CL K [] []:=⟨rfl,(fun c hc=>by cases hc),(fun j hj=>by cases hj)⟩
theorem CL.flatMap{α:Type}{K:bO}{f:α ->List AV}{g:α ->List Value} :∀ (l:List α),(∀ x,x ∈ l ->CL K (f x) (g x)) ->CL K (l.flatMap f) (l.flatMap g)
 |[],_=>CL.nil
 | x::l,h=>by
  rw[List.flatMap_cons,List.flatMap_cons]
  exact(h x (by simp)).append (CL.flatMap l fun y hy=>h y (by simp[hy]))
def tyW(P:Program):Nat ->TypeId ->DataW H ->Prop
 |0,_,_=>False
 | n+1,t,d=>match P.underlying t with
  |some .bool=>∃ b,d= .lit (.bool b)
  |some (.int k)=>∃ m,d= .lit (.int k m) /\ (Lit.int k m).wf=true
  |some .string=>∃ s,d= .lit (.string s) /\ s.length <=maxLen
  |some (.slice e)=>d= .nil \/ ∃ xs sp,d= .slice xs sp /\ ∀ x,x ∈ xs ->tyW P n e x
  |some (.struct fs)=>∃ ds,d= .agg ds /\ ds.length=fs.size /\ ∀ (i:Nat) (f:Field) x,fs[i]? =some f ->ds[i]? =some x ->tyW P n f.type x
  |some (.array m e)=>∃ ds,d= .agg ds /\ ds.length=m /\ ∀ x,x ∈ ds ->tyW P n e x
  |_=>False
section read
variable {enc:TypeId × Value ->H} {P:Program} {w:World} {held:Bool} {K:bO} {S:List TypeId}
theorem A1v {r:TypeId ->List Value ->Option (DataW H × List MemPlace)} {total:Nat} {cs:List Value}
  (hr:∀ t cs x,t ∈ S ->r t cs=some x ->CL K (flat (avW x.1)) cs):∀ (fs:List Field) (xs:List (DataW H × List MemPlace)) (k:Nat),(∀ f,f ∈ fs ->f.type ∈ S) ->B7f P k fs total=true ->xs.length=fs.length ->
  (∀ (i:Nat) (f:Field),fs[i]? =some f ->r f.type ((cs.drop f.offset).take (P.cellsOf f.type))=xs[i]?) ->cs.length=total ->CL K (A0h (xs.map (·.1))) (cs.drop k)
 | [],[],k,_,ht,_,_,hl=>by
  simp only[B7f,decide_eq_true_eq]at ht
  rw[List.drop_eq_nil_of_le (by omega)]
  exact CL.nil
 | f::fs,x::xs,k,hS,ht,hlen,hx,hl=>by
  simp only[B7f,Bool.and_eq_true,decide_eq_true_eq]at ht
  have h0:=hx 0 f rfl
  simp only[List.getElem?_cons_zero,ht.1]at h0
  have h1:=hr _ _ _ (hS f (by simp)) h0
  have h2:=A1v hr fs xs (k+P.cellsOf f.type) (fun g hg=>hS g (by simp[hg])) ht.2 (by simpa using hlen) (fun i g hg=>by have:=hx (i+1) g (by simpa using hg);simpa using this) hl
  have e:cs.drop k=(cs.drop k).take (P.cellsOf f.type)++cs.drop (k+P.cellsOf f.type):=by
   rw[<- List.drop_drop,List.take_append_drop]
  rw[e]
  simp only[List.map_cons,A0h]
  exact h1.append h2
 |[],_::_,_,_,_,h,_,_=>by cases h
 |_::_,[],_,_,_,h,_,_=>by cases h
theorem A4z {r:List Value ->Option (DataW H × List MemPlace)} {n:Nat} {cs:List Value}
  (hr:∀ cs x,r cs=some x ->CL K (flat (avW x.1)) cs):∀ (xs:List (DataW H × List MemPlace)) (k:Nat),
  (∀ i,i < xs.length ->r ((cs.drop ((k+i)*n)).take n)=xs[i]?) ->cs.length=(k+xs.length)*n ->CL K (A0h (xs.map (·.1))) (cs.drop (k*n))
 | [],k,_,hl=>by
  rw[List.drop_eq_nil_of_le (by simp only[List.length_nil,Nat.add_zero]at hl;omega)]
  exact CL.nil
 | x::xs,k,hx,hl=>by
  have h0:=hx 0 (by simp)
  simp only[List.getElem?_cons_zero,Nat.add_zero]at h0
  have h1:=hr _ _ h0
  have h2:=A4z hr xs (k+1) (fun i hi=>by have:=hx (i+1) (by simpa using hi);simpa [Nat.add_assoc,Nat.add_comm 1 i] using this) (by rw[hl,List.length_cons];congr 1;omega)
  have e:cs.drop (k*n)=(cs.drop (k*n)).take n++cs.drop ((k+1)*n):=by
   rw[Nat.succ_mul,<- List.drop_drop,List.take_append_drop]
  rw[e]
  simp only[List.map_cons,A0h]
  exact h1.append h2
theorem      B6f(hS:sS P S=true)(hK:∀ b o v,w.cell? ⟨b,o,none⟩=some v ->K.imm b o=some v):∀ (fuel:Nat) (t:TypeId) (cs:List Value) (x:DataW H × List MemPlace),t ∈ S ->
  DataW.trod enc P w 0 (fun _=>true) held fuel t cs=some x ->tyW P fuel t x.1 /\ CL K (flat (avW x.1)) cs /\ isv (avW x.1)=true:=by
 intro fuel
 induction fuel with
 |zero=>intro t cs x _ h;simp[DataW.trod]at h
 | succ n ih=>
  intro t cs x htS h
  have hc:=List.all_eq_true.1 hS t htS
  unfold tyW
  split at hc
  ·rename_i ht
   obtain⟨b,rfl,rfl⟩:=DataW.trod_bool ht h
   simp only[avW]
   exact⟨⟨b,rfl⟩,CL.one1 (.bool b) rfl,rfl⟩
  ·rename_i k ht
   obtain⟨m,rfl,rfl,hw⟩:=DataW.trod_int ht h
   simp only[avW]
   exact⟨⟨m,rfl,hw⟩,CL.one1 (.int k m) rfl,rfl⟩
  ·rename_i ht
   obtain⟨s,rfl,rfl,hw⟩:=DataW.trod_string ht h
   simp only[avW]
   exact⟨⟨_,rfl,by simpa using hw⟩,CL.one1 (.str s.data.toList) rfl,rfl⟩
  ·rename_i e ht
   simp only[Bool.and_eq_true,decide_eq_true_eq]at hc
   have heS:e ∈ S:=by simpa using hc.1
   rcases DataW.trod_slice ht h with⟨rfl,rfl⟩|⟨a,len,cap,elems,rest,m,hm,rfl,rfl,_,hlc,hml,hlen,hel,hsp,_⟩
   ·exact⟨.inl rfl,by simp only[avW];exact CL.one1 (.sl0 none) rfl,by simp only[avW];rfl⟩
   ·have hmn:m=n:=by omega
    subst hmn
    have hel2:∀ i (hi:i < elems.length),∃ cs,w.cells? 0 (a.add (i*P.cellsOf e)) (P.cellsOf e)=some cs /\ DataW.trod enc P w 0 (fun _=>true) held m e cs=some elems[i]:=fun i hi=>by
     have h1:=hel i (by omega)
     rw[List.getElem?_eq_getElem hi,Option.bind_eq_some_iff]at h1
     exact h1
    refine⟨.inr ⟨_,_,rfl,fun d hd=> ?_⟩,?_,rfl⟩
    ·obtain⟨y,hy,rfl⟩:=List.mem_map.1 hd
     obtain⟨i,hi,rfl⟩:=List.getElem_of_mem hy
     obtain⟨cs,_,h2⟩:=hel2 i hi
     exact(ih e cs _ heS h2).1
    ·simp only[avW]
     refine CL.one1 ?_ rfl
     rw[C8j,List.map_map]
     by_cases hcap:cap=0
     ·have:elems=[]:=List.eq_nil_of_length_eq_zero (by omega)
      subst this
      have hl0:len=0:=by omega
      subst hcap hl0
      exact .sl0 (some a)
     ·obtain⟨b,off,spot⟩:=a
      have hspot:spot=none:=by
       have h0:∃ c0,w.cell? ⟨b,off,spot⟩=some c0:=by
        by_cases hl0:len=0
        ·obtain⟨hrl,hr⟩:=hsp rfl
         have h1:=hr 0 (by omega)
         obtain⟨y,hy⟩:∃ y,rest[0]? =some y:=⟨_,List.getElem?_eq_getElem (by omega)⟩
         rw[hy,Option.bind_eq_some_iff]at h1
         obtain⟨cs,h2,_⟩:=h1
         obtain⟨_,hcl,hcc⟩:=World.cells?_some h2
         have h3:=hcc 0 hc.2
         obtain⟨c0,hc0⟩:∃ c0,cs[0]? =some c0:=⟨_,List.getElem?_eq_getElem (by omega)⟩
         refine⟨c0,?_⟩
         rw[hc0]at h3
         simpa [Addr.add,hl0] using h3
        ·obtain⟨cs,h2,_⟩:=hel2 0 (by omega)
         obtain⟨_,hcl,hcc⟩:=World.cells?_some h2
         have h3:=hcc 0 hc.2
         obtain⟨c0,hc0⟩:∃ c0,cs[0]? =some c0:=⟨_,List.getElem?_eq_getElem (by omega)⟩
         refine⟨c0,?_⟩
         rw[hc0]at h3
         simpa [Addr.add] using h3
       obtain⟨c0,h0⟩:=h0
       simpa using World.cell?_spot h0
      subst hspot
      have hcell:∀ i (hi:i < elems.length),∃ cs,cs.length=P.cellsOf e /\ (∀ r,r < P.cellsOf e ->w.cell? ⟨b,off+(i*P.cellsOf e+r),none⟩=cs[r]?) /\ CL K (flat (avW elems[i].1)) cs /\ isv (avW elems[i].1)=true:=fun i hi=>by
       obtain⟨cs,h2,h3⟩:=hel2 i hi
       obtain⟨_,hcl,hcc⟩:=World.cells?_some h2
       obtain⟨_,h4,h5⟩:=ih e cs _ heS h3
       refine⟨cs,hcl,fun r hr=> ?_,h4,h5⟩
       have:=hcc r hr
       rw[<- this,Addr.add_lit,Addr.add_lit,Nat.add_assoc]
      have hflen:∀ y,y ∈ elems.map (avW ∘ fun x=>x.1) -> (flat y).length=P.cellsOf e /\ isv y=true /\ ∀ c,c ∈ flat y ->one c=true:=fun y hy=>by
       obtain⟨z,hz,rfl⟩:=List.mem_map.1 hy
       obtain⟨i,hi,rfl⟩:=List.getElem_of_mem hz
       obtain⟨cs,hcl,_,h4,h5⟩:=hcell i hi
       exact⟨by have:=h4.size;simp only[Function.comp];omega,h5,h4.one⟩
      have hfl:=bV (sz:=P.cellsOf e) (elems.map (avW ∘ fun x=>x.1)) (fun y hy=> (hflen y hy).1)
      have hvals:∀ j (hj:j < ((elems.map (avW ∘ fun x=>x.1)).flatMap flat).length),∃ v,w.cell? ⟨b,off+j,none⟩=some v /\ VR K ((elems.map (avW ∘ fun x=>x.1)).flatMap flat)[j] v:=fun j hj=>by
       have hz:0 < P.cellsOf e:=hc.2
       have hj2:j < elems.length*P.cellsOf e:=by rw[hfl,List.length_map]at hj;exact hj
       have hi:j / P.cellsOf e < elems.length:=Nat.div_lt_of_lt_mul (by rw[Nat.mul_comm];exact hj2)
       have hr:j % P.cellsOf e < P.cellsOf e:=Nat.mod_lt _ hz
       have hjd:j / P.cellsOf e*P.cellsOf e+j % P.cellsOf e=j:=Nat.div_add_mod' j _
       obtain⟨cs,hcl,h3,h4,h5⟩:=hcell (j / P.cellsOf e) hi
       have h6:=h3 (j % P.cellsOf e) hr
       rw[hjd]at h6
       have hlt:j % P.cellsOf e < (flat (avW elems[j / P.cellsOf e].1)).length:=by have:=h4.size;omega
       have h7:=h4.at_ _ hlt
       have h8:=A4t (sz:=P.cellsOf e) (elems.map (avW ∘ fun x=>x.1)) (fun y hy=> (hflen y hy).1) (j / P.cellsOf e) (by simpa using hi) (j % P.cellsOf e) hr
       rw[hjd,List.getElem?_eq_getElem hj]at h8
       simp only[List.getElem_map,Function.comp]at h8
       rw[List.getElem?_eq_getElem hlt]at h8
       have h9:=Option.some.inj h8
       refine⟨cs.getD (j % P.cellsOf e) Go.undef,?_,?_⟩
       ·rw[h6];simp[List.getD,show j % P.cellsOf e < cs.length by omega]
       ·rw[h9];exact h7
      have:=VR.sl (K:=K) .none (elems.map (avW ∘ fun x=>x.1)) [] (P.cellsOf e) b off cap (fun j=> (w.cell? ⟨b,off+j,none⟩).getD Go.undef)
       (fun y hy=>hflen y (by simpa using hy)) (by simp;omega) hml
       (fun j hj=>by
         simp only[List.append_nil]at hj
         obtain⟨v,h1,_⟩:=hvals j hj
         rw[h1]
         exact hK _ _ _ h1)
       (fun j hj=>by
         simp only[List.append_nil]at hj ⊢
         obtain⟨v,h1,h2⟩:=hvals j hj
         rw[h1];exact h2) trivial
      rw[List.length_map,hlen]at this
      exact this
  ·rename_i fs ht
   simp only[Bool.and_eq_true]at hc
   obtain⟨xs,m,hm,rfl,hcl,hxl,hx⟩:=DataW.trod_struct ht h
   have hmn:m=n:=by omega
   subst hmn
   have hfS:∀ f,f ∈ fs.toList ->f.type ∈ S:=fun f hf=>by have:=List.all_eq_true.1 hc.1 f hf;simpa using this
   refine⟨⟨_,rfl,by simpa using hxl,fun i f x hf hd=> ?_⟩,?_,rfl⟩
   ·rw[List.getElem?_map]at hd
    cases hy:xs[i]? with
    |none=>rw[hy]at hd;cases hd
    | some y=>
     rw[hy]at hd
     simp only[Option.map_some,Option.some.injEq]at hd
     subst hd
     have h1:=hx i f hf
     rw[hy]at h1
     exact(ih f.type _ y (hfS f (by rw[Array.mem_toList_iff];exact Array.mem_of_getElem? hf)) h1).1
   ·simp only[avW,flat]
    have:=A1v (P:=P) (S:=S) (K:=K) (r:=DataW.trod enc P w 0 (fun _=>true) held m) (total:=P.cellsOf t) (cs:=cs) (fun t cs x hts hh=> (ih t cs x hts hh).2.1) fs.toList xs 0 hfS hc.2 (by simpa using hxl) (fun i f hf=>hx i f (by simpa using hf)) hcl
    simpa using this
  ·rename_i q e ht
   simp only[Bool.and_eq_true,decide_eq_true_eq]at hc
   have heS:e ∈ S:=by simpa using hc.1
   obtain⟨xs,m,hm,rfl,hcl,hxl,hx⟩:=DataW.trod_array ht h
   have hmn:m=n:=by omega
   subst hmn
   refine⟨⟨_,rfl,by simpa using hxl,fun x hd=> ?_⟩,?_,rfl⟩
   ·obtain⟨y,hy,rfl⟩:=List.mem_map.1 hd
    obtain⟨i,hi,rfl⟩:=List.getElem_of_mem hy
    have h1:=hx i (by omega)
    rw[List.getElem?_eq_getElem hi]at h1
    exact(ih e _ _ heS h1).1
   ·simp only[avW,flat]
    have:=A4z (K:=K) (r:=DataW.trod enc P w 0 (fun _=>true) held m e) (n:=P.cellsOf e) (cs:=cs) (fun cs x hh=> (ih e cs x heS hh).2.1) xs 0 (fun i hi=>by have:=hx i (by omega);simpa using this) (by simp only[Nat.zero_add];rw[hcl,<- hc.2,hxl])
    simpa using this
  ·cases hc
end read
end Go.Av
namespace Go.Av
open Go Go.RowKit Go.WideShapes Go.ChangeShapes
variable {H:Type}
section shut
variable {enc:TypeId × Value ->H} {P:Program} {w:World} {held:Bool} {S:List TypeId}
theorem E1c(hS:sS P S=true){sp:Nat ->Bool} :∀ (fuel:Nat) (t:TypeId) (cs:List Value) (x:DataW H × List MemPlace),t ∈ S ->
  DataW.trod enc P w 0 (fun _=>true) held fuel t cs=some x -> (∀ p ∈ x.2,sp p.block=true) ->DataW.trod enc P w 0 sp held fuel t cs=some x:=by
 intro fuel
 induction fuel with
 |zero=>intro t cs x _ h;simp[DataW.trod]at h
 | succ n ih=>
  intro t cs x htS h hsp
  have hc:=List.all_eq_true.1 hS t htS
  split at hc
  ·rename_i ht
   obtain⟨b,rfl,rfl⟩:=DataW.trod_bool ht h
   simp[DataW.trod,ht]
  ·rename_i k ht
   obtain⟨m,rfl,rfl,hw⟩:=DataW.trod_int ht h
   simp[DataW.trod,ht,hw]
  ·rename_i ht
   obtain⟨s,rfl,rfl,hw⟩:=DataW.trod_string ht h
   simp[DataW.trod,ht,hw]
  ·rename_i e ht
   simp only[Bool.and_eq_true,decide_eq_true_eq]at hc
   have heS:e ∈ S:=by simpa using hc.1
   rcases DataW.trod_slice ht h with⟨rfl,rfl⟩|⟨a,len,cap,elems,rest,m,hm,rfl,rfl,hb0,hlc,hml,hlen,hel,hspr,_⟩
   ·simp[DataW.trod,ht]
   ·have hmn:m=n:=by omega
    subst hmn
    obtain⟨hrl,hr⟩:=hspr rfl
    have hpe:∀ y,y ∈ elems++rest ->∀ p ∈ y.2,sp p.block=true:=fun y hy p hp=>hsp p (by
     simp only[List.mem_append,List.mem_flatMap]
     exact .inr ⟨y,by simpa using hy,hp⟩)
    have step:∀ (i:Nat) (y:DataW H × List MemPlace),y ∈ elems++rest -> ((w.cells? 0 (a.add (i*P.cellsOf e)) (P.cellsOf e)).bind (DataW.trod enc P w 0 (fun _=>true) held m e))=some y ->
      ((w.cells? 0 (a.add (i*P.cellsOf e)) (P.cellsOf e)).bind (DataW.trod enc P w 0 sp held m e))=some y:=fun i y hy hh=>by
     rw[Option.bind_eq_some_iff]at hh ⊢
     obtain⟨cs,g1,g2⟩:=hh
     exact⟨cs,g1,ih e cs y heS g2 (hpe y hy)⟩
    have h1':(List.range len).mapM (fun i=> (w.cells? 0 (a.add (i*P.cellsOf e)) (P.cellsOf e)).bind (DataW.trod enc P w 0 sp held m e))=some elems:=
     mapM_some_of_get _ _ (by simp[hlen]) (fun i x hx=>by
      obtain⟨hi,rfl⟩:=List.getElem?_eq_some_iff.1 hx
      simp only[List.length_range]at hi
      rw[List.getElem_range,List.getElem?_eq_getElem (by omega)]
      refine step i _ (List.mem_append_left _ (List.getElem_mem _)) ?_
      rw[hel i hi,List.getElem?_eq_getElem (by omega)])
    have h2':(List.range (cap - len)).mapM (fun j=> (w.cells? 0 (a.add ((len+j)*P.cellsOf e)) (P.cellsOf e)).bind (DataW.trod enc P w 0 sp held m e))=some rest:=
     mapM_some_of_get _ _ (by simp[hrl]) (fun i x hx=>by
      obtain⟨hi,rfl⟩:=List.getElem?_eq_some_iff.1 hx
      simp only[List.length_range]at hi
      rw[List.getElem_range,List.getElem?_eq_getElem (by omega)]
      refine step (len+i) _ (List.mem_append_right _ (List.getElem_mem _)) ?_
      rw[hr i hi,List.getElem?_eq_getElem (by omega)])
    rw[DataW.trod_step]
    unfold DataW.trodStep
    simp only[ht]
    rw[if_pos ⟨hb0,hlc,hml⟩,h1']
    simp only[Option.bind_some]
    by_cases hz:cap - len=0
    ·have:rest=[]:=List.eq_nil_of_length_eq_zero (by omega)
     subst this
     rw[hz]
     split <;>simp
    ·have hb:sp a.block=true:=by
      refine hsp (.cell a.block a.off) ?_
      simp only[List.mem_append]
      refine .inl (MemPlace.mem_row.2 ⟨0,?_,rfl⟩)
      have hp:0 < P.cellsOf e:=hc.2
      exact Nat.mul_pos (by omega) hp
     rw[if_pos hb,h2']
     simp
  ·rename_i fs ht
   simp only[Bool.and_eq_true]at hc
   have hfS:∀ f,f ∈ fs.toList ->f.type ∈ S:=fun f hf=>by have:=List.all_eq_true.1 hc.1 f hf;simpa using this
   obtain⟨xs,m,hm,rfl,hcl,hxl,hx⟩:=DataW.trod_struct ht h
   have hmn:m=n:=by omega
   subst hmn
   have h1':fs.toList.mapM (fun f=>DataW.trod enc P w 0 sp held m f.type ((cs.drop f.offset).take (P.cellsOf f.type)))=some xs:=
    mapM_some_of_get _ _ (by simp[hxl]) (fun i f hf=>by
     have hfa:fs[i]? =some f:=by simpa using hf
     have h2:=hx i f hfa
     have hi:i < xs.length:=by have:=(Array.getElem?_eq_some_iff.1 hfa).1;omega
     rw[List.getElem?_eq_getElem hi]at h2 ⊢
     exact ih f.type _ _ (hfS f (by rw[Array.mem_toList_iff];exact Array.mem_of_getElem? hfa)) h2 fun p hp=>hsp p (List.mem_flatMap.2 ⟨_,List.getElem_mem hi,hp⟩))
   rw[DataW.trod_step]
   unfold DataW.trodStep
   simp only[ht]
   rw[if_pos hcl,h1']
   rfl
  ·rename_i q e ht
   simp only[Bool.and_eq_true,decide_eq_true_eq]at hc
   have heS:e ∈ S:=by simpa using hc.1
   obtain⟨xs,m,hm,rfl,hcl,hxl,hx⟩:=DataW.trod_array ht h
   have hmn:m=n:=by omega
   subst hmn
   have h1':(List.range q).mapM (fun i=>DataW.trod enc P w 0 sp held m e ((cs.drop (i*P.cellsOf e)).take (P.cellsOf e)))=some xs:=
    mapM_some_of_get _ _ (by simp[hxl]) (fun i f hf=>by
     obtain⟨hi,rfl⟩:=List.getElem?_eq_some_iff.1 hf
     simp only[List.length_range]at hi
     rw[List.getElem_range]
     have h2:=hx i hi
     rw[List.getElem?_eq_getElem (by omega)]at h2 ⊢
     exact ih e _ _ heS h2 fun p hp=>hsp p (List.mem_flatMap.2 ⟨_,List.getElem_mem (by omega),hp⟩))
   rw[DataW.trod_step]
   unfold DataW.trodStep
   simp only[ht]
   rw[if_pos hcl,h1']
   rfl
  ·cases hc
theorem A9y(hS:sS P S=true){w':World}{sp:Nat ->Bool}(hb:Below w.heap.size w w'):∀ (ts:List TypeId) (vs:List Value) (ds:List (DataW H)) (ps:List MemPlace),(∀ t,t ∈ ts ->t ∈ S) ->
  DataW.TrodAll enc P w 0 (fun _=>true) held ts vs ds ps -> (∀ p ∈ ps,p.block < w.heap.size) -> (∀ p ∈ ps,sp p.block=true) ->DataW.TrodAll enc P w' 0 sp held ts vs ds ps
 |[],[],[],ps,_,h,_,_=>h
 | t::ts,v::vs,d::ds,ps,hts,⟨p,q,⟨fuel,h1⟩,h2,h3⟩,hlt,hsp=>by
  subst h3
  have hsame:∀ x ∈ p,w.sameAt w' x:=fun x hx=>by
   have hl:=hlt x (by simp[hx])
   cases x with
   |cell b o=>exact hb.cell (p:=⟨b,o,none⟩) hl
   |map b=>exact hb.block b hl
  have h4:=DataW.trod_carry fuel t _ _ h1 hsame
  exact⟨p,q,⟨fuel,E1c hS fuel t _ _ (hts t (by simp)) h4 fun x hx=>hsp x (by simp[hx])⟩,
   A9y hS hb ts vs ds q (fun t ht=>hts t (by simp[ht])) h2 (fun x hx=>hlt x (by simp[hx])) (fun x hx=>hsp x (by simp[hx])),rfl⟩
 |[],_::_,_,_,_,h,_,_=>h.elim
 |[],[],_::_,_,_,h,_,_=>h.elim
 |_::_,[],_,_,_,h,_,_=>h.elim
 |_::_,_::_,[],_,_,h,_,_=>h.elim
end shut
section typed
variable {P:Program} {n:Nat} {t:TypeId} {d:DataW H}
end typed
section entry
variable {P:Program} {G:Nat ->AV} {W:World}
def nO(W:World):bO:= {imm:=fun b o=>W.cell? ⟨b,o,none⟩,row:=fun _=>none,base:=W.heap.size,W:=W}
def C9p:AS:= {box:=fun _=>none,tip:=fun _=>none,ty:=fun _=>none}
theorem cV.entry(hG:∀ g,VR (nO W) (G g) (.pointer (some ⟨g,0,none⟩))):cV G (nO W) C9p W:=
 ⟨fun _ _ _ h=>h,fun _ _ _ _ h=> (by cases h),fun _ _ h=> (by cases h),fun _ _ _ h=> (by cases h),fun _ _ _ h=> (by cases h),hG,Below.refl _ _,Nat.le_refl _⟩
theorem sZ{P:Program}{w:World}{n:String}{d:DataW Unit} :∀ (laid:List (String × DataW Unit)) (ps:List MemPlace),DataW.LaidVars P w laid ps -> (n,d) ∈ laid ->
  ∃ g t cs fuel p,P.globalNamed n=some g /\ (P.globals[g]?).map (·.type)=some t /\ w.var? P n=some cs /\ DataW.trod (fun _=> ()) P w 0 (fun _=>true) false fuel t cs.toList=some (d,p)
 |[],_,_,h=>by cases h
 | (m,e)::r,ps,⟨g,t,cs,fuel,p,q,h1,h2,h3,h4,h5,_⟩,h=>by
  rcases List.mem_cons.1 h with h|h
  ·cases h;exact⟨g,t,cs,fuel,p,h1,h2,h3,h4⟩
  ·exact sZ r q h5 h
theorem C5o {S:List TypeId} (hS:sS P S=true) {laid:List (String × DataW Unit)} (hL:laidMet P laid W) {n:String} {d:DataW Unit} (hm:(n,d) ∈ laid) {g:Nat} {t:TypeId} (hg:P.globalNamed n=some g)
  (ht:(P.globals[g]?).map (·.type)=some t) (htS:t ∈ S) {cs:List AV} (hcs:flat (avW d)=cs):VR (nO W) (.rp cs) (.pointer (some ⟨g,0,none⟩)):=by
 obtain⟨ps,h1,_⟩:=hL
 obtain⟨g',t',vs,fuel,p,hg',ht',hvar,hd⟩:=sZ laid ps h1 hm
 obtain rfl:=Option.some.inj (hg.symm.trans hg')
 obtain rfl:=Option.some.inj (ht.symm.trans ht')
 obtain⟨_,h2,_⟩:=B6f (K:=nO W) hS (fun b o v h=>h) fuel t _ _ htS hd
 simp only[hcs]at h2
 have hsz:=h2.size
 refine .rp cs g 0 (fun j=>vs.toList.getD j Go.undef) h2.one (fun j hj=> ?_) h2.at_
 have h3:=World.var?_cell hg hvar j
 show W.cell? ⟨g,0+j,none⟩=_
 have hj2:j < vs.toList.length:=by omega
 have hj3:j < vs.size:=by simpa using hj2
 rw[Nat.zero_add,h3]
 simp[hj3]
theorem aB.calls{f:FuncId}{args:List AV}{vals:List Value}{b:Bool}(h:aB P G f args (.bool b))(hG:∀ g,VR (nO W) (G g) (.pointer (some ⟨g,0,none⟩)))(hv:qM (nO W) args vals):
  Calls P f vals.toArray W fun e w'=>e= .returned (.bool b) /\ Below W.heap.size W w':=by
 refine((h C9p).2 (nO W) W vals (cV.entry hG) hv).mono ?_
 rintro e w' ⟨v,r,σ',K',rfl,⟨rfl,rfl⟩,hvr,hrel,hle⟩
 rw[VR.bool_iff]at hvr
 subst hvr
 have hb:=hrel.below
 rw[hle.base,hle.W]at hb
 exact⟨rfl,hb⟩
end entry
theorem D1w {t0:TypeId} {enc:TypeId × Value ->H} {P:Program} {f:Func} {s:ChangeSpec} {W W':World} {args:Array Value} {ds gs:List (DataW H)} {before:List MemPlace} {S:List TypeId} (hS:sS P S=true) (hts:∀ t,t ∈ f.params.toList ->t ∈ S)
  (hvars:s.vars=[]) (hres:f.resultTypes= #[t0]) (ht0:P.underlying t0=some .bool)
  (hfn:s.fn H (ds++gs)= {results:=[.lit (.bool true)],args:=ds})
  (hW:DataW.Whole enc P f.params.toList s.vars false W args.toList ds gs before) (hb:Below W.heap.size W W'):
  s.post enc P f false true false false W args (.bool true) W':=by
 have hW':=hW
 obtain⟨p,q,hA,hV,rfl,hfz,hnd⟩:=hW
 rw[hvars]at hV
 obtain⟨hgs,rfl⟩:=trodVars_none hV
 rw[List.append_nil]at hW'
 have hA':DataW.TrodAll enc P W 0 (fun _=>true) true f.params.toList args.toList ds p:=hA
 have hlt:∀ x ∈ p,x.block < W.heap.size:=fun x hx=>hA'.lt x hx
 have inW:∀ x ∈ p,decide (x.block < W.heap.size)=true:=fun x hx=>by simpa using hlt x hx
 have results:∀ (b:Nat) (sp:Nat ->Bool) (hd:Bool),DataW.TrodAll enc P W' b sp hd f.resultTypes.toList ((Value.bool true).resultList f.resultTypes.size) (s.fn H (ds++gs)).results []:=fun b sp hd=>by
  rw[hfn,hres];exact trodAll_cons_mk (shut_bool ht0 _) trodAll_mk0
 have arguments:∀ sp:Nat ->Bool,(∀ x ∈ p,sp x.block=true) ->DataW.TrodAll enc P W' 0 sp true f.params.toList args.toList (s.fn H (ds++gs)).args p:=fun sp hsp=>by
  rw[hfn];exact A9y hS hb _ _ _ _ hts hA' hlt hsp
 have variables_:∀ sp:Nat ->Bool,DataW.TrodVars enc P W' sp s.vars (s.fn H (ds++gs)).vars []:=fun sp=>by
  rw[hfn,hvars];exact rfl
 refine⟨ds,gs,p,[],p,[],by simpa using hW',results _ _ _,arguments _ inW,variables_ _,World.keptBut_mono (fun x hx=>hx.elim) (hb.frame fun _=>False),fun _=> ?_⟩
 refine⟨?_,_,_,p,⟨p,[],trodAll_append (arguments _ fun _ _=>rfl) (results _ _ _),variables_ _,(by simp),?_,fun h=> (by cases h)⟩,fun x hx _=> (by simpa using hx)⟩
 ·exact ok_one hres rfl (okWide_bool_mk ht0 _)
 ·intro b o hx
  rw[hb.frozen (p:=⟨b,o,none⟩) (hlt (.cell b o) hx)]
  exact hfz b o (by simpa using hx)
end Go.Av
namespace Go.Av
open Go Go.RowKit
theorem VR.mono2 {K K':bO} (hi:∀ b o v,K.imm b o=some v ->K'.imm b o=some v) (hr:∀ b x,K.row b=some x ->K'.row b=some x)
  (ht:∀ b,b < K.base ->b < K'.base /\ K'.W.heap[b]? =K.W.heap[b]?) {a:AV} {v:Value} (k:VR K a v):VR K' a v:=by
 induction k with
 |undef v=>exact .undef v
 |bool b=>exact .bool b
 |int k n=>exact .int k n
 |str s=>exact .str s
 |nil=>exact .nil
 | sl g xs sp sz b off cap f hsz hcap hml himm hv hg ih=>
  refine .sl g xs sp sz b off cap f hsz hcap hml (fun j hj=>hi _ _ _ (himm j hj)) ih ?_
  cases g with
  |none=>exact hg
  |full=>exact hg
  |own b'=>obtain⟨h1,h2,E,s,h3⟩:=hg;exact⟨h1,h2,E,s,hr _ _ h3⟩
 |sl0 a=>exact .sl0 a
 |agg cs vs hl h1 hv ih=>exact .agg cs vs hl h1 ih
 |tup cs vs hl hv ih=>exact .tup cs vs hl ih
 |ptr b o=>exact .ptr b o
 |rp cs b off f h1 himm hv ih=>exact .rp cs b off f h1 (fun j hj=>hi _ _ _ (himm j hj)) ih
 |nilptr=>exact .nilptr
 |fn f caps vs hl hv ih=>exact .fn f caps vs hl ih
 |nilfn=>exact .nilfn
 |bs b n s cap E hr' hn hm=>exact .bs b n s cap E (hr _ _ hr') hn hm
 |bp b s cap E hr'=>exact .bp b s cap E (hr _ _ hr')
 |raw v=>exact .raw v
 |tab vs b E fz hb hw=>exact .tab vs b E fz (ht b hb).1 (by rw[(ht b hb).2];exact hw)
def bO.lent(K:bO)(σ:AS)(w:World):bO:=
 {imm:=fun b o=>match σ.box b with|some cs=>if o < cs.length then w.cell? ⟨b,o,none⟩else K.imm b o|none=>K.imm b o,row:=K.row,base:=w.heap.size,W:=w}
def tyT:Option (TyE × Nat) ->Option (TyE × Nat)
 |some (.t E,n)=>some (.t E,n)
 |_=>none
theorem D4p{x:Option (TyE × Nat)}{y:TyE × Nat}(h:tyT x=some y):∃ E n,x=some (.t E,n) /\ y=(.t E,n):=by
 unfold tyT at h
 split at h
 ·cases h;exact⟨_,_,rfl,rfl⟩
 ·cases h
def AS.shut(σ:AS):AS:= {box:=fun _=>none,tip:=fun _=>none,ty:=fun b=>tyT (σ.ty b)}
section
variable {G:Nat ->AV} {K:bO} {σ:AS} {w:World}
theorem A5d(h:cV G K σ w):∀ b o v,K.imm b o=some v -> (K.lent σ w).imm b o=some v:=by
 intro b o v hv
 unfold bO.lent
 simp only
 cases e:σ.box b with
 |none=>exact hv
 | some cs=>
  obtain⟨_,_,_,h4,_⟩:=h.box b cs e
  rw[h4 o]at hv;cases hv
theorem VR.lent(h:cV G K σ w){a:AV}{v:Value}(k:VR K a v):VR (K.lent σ w) a v:=
 VR.mono2 (A5d h) (fun b x hx=>hx) (fun b hb=> ⟨Nat.lt_of_lt_of_le hb h.bs,h.below.block b hb⟩) k
theorem cV.lent(h:cV G K σ w):cV G (K.lent σ w) σ.shut w:=by
 refine⟨fun b o v hv=> ?_,fun b cap s E hr=> ?_,fun b cs hb=> (by cases hb),fun b n s ht=> (by cases ht),fun b E n ht=> ?_,fun g=> (h.glob g).lent h,Below.refl _ _,Nat.le_refl _⟩
 ·unfold bO.lent at hv
  simp only at hv
  cases e:σ.box b with
  |none=>rw[e]at hv;exact h.imm b o v hv
  | some cs=>
   rw[e]at hv
   simp only at hv
   split at hv
   ·exact hv
   ·exact h.imm b o v hv
 ·obtain⟨cur,fz,h1,h2,h3,_⟩:=h.row b cap s E hr
  exact⟨cur,fz,h1,h2,h3,fun⟨x,hx⟩=>by cases hx⟩
 ·obtain⟨E',n',h1,h2⟩:=D4p ht
  cases h2
  exact h.ty b _ _ h1
end
def eI(G:Nat ->AV)(σ:AS)(a a':AV):Prop:=∀ K w u,cV G K σ w ->VR K a u ->VR (K.lent σ w) a' u
inductive eW(G:Nat ->AV)(σ:AS):List AV ->List AV ->Prop
 |nil:eW G σ [] []
 |cons {a a':AV} {l l':List AV} (h:eI G σ a a') (t:eW G σ l l'):eW G σ (a::l) (a'::l')
theorem eI.id{G:Nat ->AV}{σ:AS}(a:AV):eI G σ a a:=fun K w u hr h=>h.lent hr
theorem eI.le{G:Nat ->AV}{σ:AS}{a b c:AV}(h:eI G σ a b)(k:Le b c):eI G σ a c:=fun K w u hr hv=>k _ _ (h K w u hr hv)
theorem eW.ids{G:Nat ->AV}{σ:AS} :∀ l:List AV,eW G σ l l
 |[]=> .nil
 |a::l=> .cons (.id a) (eW.ids l)
theorem eW.length{G:Nat ->AV}{σ:AS}{l l':List AV}(h:eW G σ l l'):l.length=l'.length:=by
 induction h with
 |nil=>rfl
 |cons _ _ ih=>simp[ih]
theorem eW.at_{G:Nat ->AV}{σ:AS}{l l':List AV}(h:eW G σ l l'):∀ j (h1:j < l.length) (h2:j < l'.length),eI G σ l[j] l'[j]:=by
 induction h with
 |nil=>intro j h1;cases h1
 | cons h _ ih=>
  intro j h1 h2
  cases j with
  |zero=>exact h
  |succ j=>exact ih j (by simpa using h1) (by simpa using h2)
theorem eW.append{G:Nat ->AV}{σ:AS}{a a' b b':List AV}(h:eW G σ a a')(k:eW G σ b b'):eW G σ (a++b) (a'++b'):=by
 induction h with
 |nil=>exact k
 |cons h _ ih=>exact .cons h ih
theorem eW.vrl{G:Nat ->AV}{σ:AS}{l l':List AV}(h:eW G σ l l'){K:bO}{w:World}(hr:cV G K σ w):∀ {vs:List Value},qM K l vs ->qM (K.lent σ w) l' vs:=by
 induction h with
 | nil=>
  intro vs hv
  match vs,hv with
  |[],_=>exact trivial
 | cons h _ ih=>
  intro vs hv
  match vs,hv with
  |v::vs,⟨h1,h2⟩=>exact⟨h K w v hr h1,ih h2⟩
theorem eI.row {G:Nat ->AV} {σ:AS} {b s:Nat} {E:TypeId} {cs ds:List AV} (hb:σ.box b=some cs) (hl:eW G σ (cs.take ds.length) ds) (hd:ds.length <=cs.length) {xs sp:List AV} (hx:(xs++sp).flatMap flat=ds) (hs0:0 < s)
  (hsz:∀ e,e ∈ xs++sp -> (flat e).length=s /\ isv e=true /\ ∀ c,c ∈ flat e ->one c=true):eI G σ (.bs b xs.length s E) (.sl .none xs sp):=by
 intro K w u hr hv
 obtain⟨g1,g2,g3,g4,g5,c,F,hc,hs,hvv⟩:=hr.box b cs hb
 generalize hn:xs.length=n at hv
 cases hv with
 | bs _ _ _ cap _ hrow hn' hm=>
  obtain⟨cur,fz,h1,h2,h3,_⟩:=hr.row b cap s E hrow
  rw[hc]at h1
  simp only[Option.some.injEq,Obj.cells.injEq]at h1
  obtain⟨rfl,_,_⟩:=h1
  have hlen:ds.length=(xs.length+sp.length)*s:=by
   rw[<- hx]
   have:∀ l:List AV,(∀ e,e ∈ l -> (flat e).length=s) -> (l.flatMap flat).length=l.length*s:=by
    intro l
    induction l with
    |nil=>intro _;simp
    | cons x l ih=>
     intro h
     rw[List.flatMap_cons,List.length_append,h x (by simp),ih (fun e he=>h e (by simp[he])),List.length_cons,Nat.add_mul,Nat.one_mul,Nat.add_comm]
   rw[this _ (fun e he=> (hsz e he).1),List.length_append]
  have hcap:xs.length+sp.length <=cap:=by
   have:(xs.length+sp.length)*s <=cap*s:=by omega
   exact Nat.le_of_mul_le_mul_right this hs0
  have hval:=VR.sl (K:=K.lent σ w) .none xs sp s b 0 cap (fun j=>c.getD j Go.undef) hsz hcap hm
   (fun j hj=>by
     rw[hx]at hj
     rw[Nat.zero_add]
     unfold bO.lent
     simp only[hb]
     rw[if_pos (by omega),cell_of_row w b j c F (0,0) hc]
     have:j < c.size:=by omega
     simp[this])
   (fun j hj=>by
     have hj':j < ds.length:=by rw[<- hx];exact hj
     have e:((xs++sp).flatMap flat)[j]=ds[j]:=by simp only[hx]
     rw[e]
     have h4:=hl.at_ j (by rw[List.length_take];omega) hj'
     have h5:(cs.take ds.length)[j]'(by rw[List.length_take];omega)=cs[j]'(by omega):=List.getElem_take
     rw[h5]at h4
     exact h4 K w _ hr (hvv j (by omega)))
   trivial
  rw[hn]at hval
  exact hval
theorem eI.agg{G:Nat ->AV}{σ:AS}{l l':List AV}(h:eW G σ l l')(h1:∀ c,c ∈ l' ->one c=true):eI G σ (.agg l) (.agg l'):=by
 intro K w u hr hv
 cases hv with
 | agg _ vs hl _ hv=>
  have hlen:=h.length
  exact .agg l' vs (by omega) h1 (fun j hj=>h.at_ j (by omega) hj K w _ hr (hv j (by omega)))
def D2w:AV ->Bool
 | .bool _=>true
 | .int _ _=>true
 | .str _=>true
 | .tup l=>l.all fun a=>match a with| .bool _=>true| .int _ _=>true| .str _=>true|_=>false
 |_=>false
theorem C6h{a:AV}(h:D2w a=true){K K':bO}{v:Value}(k:VR K a v):VR K' a v:=by
 cases k with
 |bool b=>exact .bool b
 |int k n=>exact .int k n
 |str s=>exact .str s
 | tup cs vs hl hv=>
  refine .tup cs vs hl fun j hj=> ?_
  have h1:=hv j hj
  have h2:(match cs[j]with| .bool _=>true| .int _ _=>true| .str _=>true|_=>false)=true:=by
   have:=List.all_eq_true.1 h cs[j] (List.getElem_mem hj)
   exact this
  generalize cs[j]=a at*
  generalize vs.getD j Go.undef=u at*
  cases h1 with
  |bool b=>exact .bool b
  |int k n=>exact .int k n
  |str s=>exact .str s
  |_=>cases h2
 |_=>cases h
theorem aB.lend{P:Program}{G:Nat ->AV}{f:FuncId}{args args':List AV}{v:AV}(h:aB P G f args' v)(hv:D2w v=true){σ:AS}(hl:eW G σ args args'):aJ P G f args σ fun r s=>r=v /\ s=σ:=by
 refine⟨(h σ).1,fun K w vals hr hvl=> ?_⟩
 refine((h σ.shut).2 (K.lent σ w) w vals hr.lent (hl.vrl hr hvl)).mono ?_
 rintro e w' ⟨u,r,s,K',he,⟨hr1,hs1⟩,h1,h2,h3⟩
 subst hr1
 have hb:Below w.heap.size w w':=by
  have:=h2.below
  rw[h3.base,h3.W]at this
  exact this
 exact⟨u,r,σ,K,he,⟨rfl,rfl⟩,C6h hv h1,hr.grown hb,bO.le.refl K⟩
def zB(S:Nat ->Bool):AV ->Bool
 | .bool _=>true
 | .int _ _=>true
 | .str _=>true
 | .nil=>true
 | .bs b _ _ _=>S b
 |_=>false
def D9k(S:Nat ->Bool):AV ->Bool
 | .agg l=>l.all (zB S)
 | .tup l=>l.all fun a=>match a with| .agg l=>l.all (zB S)|a=>zB S a
 |a=>zB S a
theorem A2w{S:Nat ->Bool}{a:AV}(h:zB S a=true){K K':bO}(hr:∀ b x,S b=true ->K.row b=some x ->K'.row b=some x){v:Value}(k:VR K a v):VR K' a v:=by
 cases k with
 |bool b=>exact .bool b
 |int k n=>exact .int k n
 |str s=>exact .str s
 |nil=>exact .nil
 |bs b n s cap E hr' hn hm=>exact .bs b n s cap E (hr b _ h hr') hn hm
 |_=>cases h
theorem C2p{S:Nat ->Bool}{l:List AV}(h:l.all (zB S)=true){K K':bO}(hr:∀ b x,S b=true ->K.row b=some x ->K'.row b=some x){v:Value}(k:VR K (.agg l) v):VR K' (.agg l) v:=by
 cases k with
 |agg _ vs hl h1 hv=>exact .agg l vs hl h1 fun j hj=>A2w (List.all_eq_true.1 h _ (List.getElem_mem hj)) hr (hv j hj)
theorem D9l{S:Nat ->Bool}{a:AV}(h:D9k S a=true){K K':bO}(hr:∀ b x,S b=true ->K.row b=some x ->K'.row b=some x){v:Value}(k:VR K a v):VR K' a v:=by
 cases a with
 |agg l=>exact C2p h hr k
 | tup l=>
  cases k with
  | tup _ vs hl hv=>
   refine .tup l vs hl fun j hj=> ?_
   have h1:=List.all_eq_true.1 h _ (List.getElem_mem hj)
   have h2:=hv j hj
   generalize l[j]=a at*
   cases a with
   |agg l=>exact C2p h1 hr h2
   |_=>simp only at h1;exact A2w (S:=S) h1 hr h2
 |_=>simp only[D9k]at h;exact A2w (S:=S) h hr k
def AS.join(σ:AS)(S:Nat ->Bool)(s:AS):AS:= {σ with box:=fun b=>match σ.box b with|some cs=>some cs|none=>if S b=true then s.box b else none}
theorem AS.le_join(σ:AS)(S:Nat ->Bool)(s:AS):σ.le (σ.join S s):=⟨fun b cs hb=>by simp[AS.join,hb],fun _ _ h=>h,fun _ _ h=>h⟩
def bO.join(K:bO)(n:Nat)(K':bO):bO:= {K with row:=fun b=>if b < n then K.row b else K'.row b}
section
variable {G:Nat ->AV} {K K':bO} {σ s:AS} {w w':World}
theorem bO.le_join(h:cV G K σ w):K.le (K.join w.heap.size K'):=⟨fun _ _ _ h=>h,fun b x hx=>by
 have:=h.row_lt hx
 simp only[bO.join,if_pos this];exact hx,rfl,rfl⟩
theorem cV.join(h:cV G K σ w)(h2:cV G K' s w')(h3:(K.lent σ w).le K')(S:Nat ->Bool)(hS:∀ b,S b=true ->∃ cs,s.box b=some cs /\ ∀ c,c ∈ cs ->zB S c=true):cV G (K.join w.heap.size K') (σ.join S s) w':=by
 have hb:Below w.heap.size w w':=by
  have:=h2.below
  rw[h3.base,h3.W]at this
  exact this
 have hg:=h.grown hb
 have hbase:K'.base=w.heap.size:=h3.base
 have hrow:∀ b x,S b=true ->K'.row b=some x -> (K.join w.heap.size K').row b=some x:=fun b x hSb hx=>by
  obtain⟨cs,hc,_⟩:=hS b hSb
  have h4:=(h2.box b cs hc).1
  rw[hbase]at h4
  simp only[bO.join]
  rw[if_neg (by omega)];exact hx
 have htip:∀ b x,σ.tip b=some x ->b < w.heap.size:=fun b x hx=>by
  obtain⟨_,cap,E,hr,_⟩:=h.tip b x.1 x.2 hx
  exact h.row_lt hr
 refine⟨hg.imm,fun b cap q E hr=> ?_,fun b cs hi=> ?_,fun b n q ht=> ?_,fun b E n ht=> (hg.ty b E n ht).mono (bO.le_join h),fun g=> (hg.glob g).mono (bO.le_join h),hg.below,hg.bs⟩
 ·by_cases hlt:b < w.heap.size
  ·simp only[bO.join,if_pos hlt]at hr
   exact hg.row b cap q E hr
  ·simp only[bO.join,if_neg hlt]at hr
   obtain⟨cur,fz,q1,q2,q3,_⟩:=h2.row b cap q E hr
   exact⟨cur,fz,q1,q2,q3,fun⟨x,hx⟩=>absurd (htip b x hx) hlt⟩
 ·cases e:σ.box b with
  | some ds=>
   have hi':ds=cs:=by simpa [AS.join,e] using hi
   subst hi'
   obtain⟨q1,q2,q3,q4,q5,c,E,q6,q7,q8⟩:=hg.box b ds e
   exact⟨q1,q2,q3,q4,q5,c,E,q6,q7,fun j hj=> (q8 j hj).mono (bO.le_join h)⟩
  | none=>
   have hi':(if S b=true then s.box b else none)=some cs:=by simpa [AS.join,e] using hi
   split at hi'
   case isFalse=>cases hi'
   rename_i hSb
   obtain⟨q1,q2,q3,q4,q5,c,E,q6,q7,q8⟩:=h2.box b cs hi'
   rw[hbase]at q1
   obtain⟨cs',hc',hown⟩:=hS b hSb
   rw[hi']at hc'
   cases hc'
   refine⟨Nat.le_trans h.bs q1,?_,trivial,fun o=>h.imm_none q1 o,q5,c,E,q6,q7,fun j hj=>A2w (hown _ (List.getElem_mem hj)) hrow (q8 j hj)⟩
   exact(h.fresh q1).2.1
 ·obtain⟨q1,cap,E,q2,q3,q4⟩:=hg.tip b n q ht
  exact⟨q1,cap,E,(bO.le_join h).row _ _ q2,q3,q4⟩
end
theorem yG {P:Program} {n bZ:Nat} {σ0 σ:AS} {x:AV} {xs ys:List AV} {t tx e:TypeId} {K:AV ->AS ->Prop} {d:Dum σ} {d':Dum K} (hle:σ0.le σ) (hxs:∀ a,a ∈ xs -> (Av.flat a).length=n) (he:dU P t=some (e,n,bZ)) (hs:lJ P tx x=some ys)
  (hys:∀ a,a ∈ ys -> (Av.flat a).length=n) (hb:(xs.length+ys.length)*bZ <=140737488355328) (hK:∀ v' σ',σ0.le σ' ->σ'.box=σ.box ->Le v' (.sl .none (xs++ys) []) ->one v'=true ->K v' σ'):B0y P σ t tx (.sl .full xs []) x K d d':=
 A3u hle hxs he hs hys hb (fun h=>hK _ _ hle rfl (by subst h;rw[List.append_nil];exact Le.gh) rfl) (fun v' σ' hB hx=>hK _ _ hB.le hx hB.told (by generalize xs++ys=z at hB;cases hB <;>rfl))
theorem rV {P:Program} {n bZ:Nat} {σ:AS} {t e:TypeId} {k k':IntKind} {zz:List AV} (l:Nat) {K:AV ->AS ->Prop} {d:Dum σ} {d':Dum K} (he:dU P t=some (e,n,bZ)) (hz:(el P t).bind (zc P)=some zz) (hb:l*bZ <=140737488355328)
  (hK:∀ b,σ.fresh b ->K (.bs b l n e) (σ.setBox b (List.replicate l zz).flatten)):B5c P σ t (.int k l) (.int k' l) K d d':=by
 refine .inr ?_
 unfold uJ
 rw[he,hz]
 refine⟨by omega,by omega,by rw[<- Int.natCast_mul];omega,fun b hf=> ?_⟩
 exact hK b hf
theorem B9g{P:Program}{G:Nat ->AV}{f:FuncId}{σ:AS}{b n s:Nat}{E:TypeId}{xs cs:List AV}{v:AV}{K:AV ->AS ->Prop}{d:Dum σ}{d':Dum K}(hb:σ.box b=some cs)(hi:wK n s xs cs)(h:aB P G f [.sl (.own b) xs []] v)(hk:K v (σ.froze b n s)):C7c P G f [.bs b n s E] σ K d d':=
 aJ.freeze b n s xs cs hb hi ⟨.bs b n s E,by simp,Has.bs⟩ (.cons (.here E) .nil) ((h _).mono fun r s ⟨h1,h2⟩=>by subst h1 h2;exact hk)
theorem aJ.inf{P:Program}{G:Nat ->AV}{f:FuncId}{args:List AV}{σ:AS}{Q:AV ->AS ->Prop}(h:aJ P G f args σ Q):aJ P G f args σ fun r s=>Q r s /\ Inf s:=
 ⟨h.1,fun K w vals hr hv=> (h.2 K w vals hr hv).mono (by rintro e w' ⟨u,r,s,K',he,hQ,h1,h2,h3⟩;exact⟨u,r,s,K',he,⟨hQ,uV h2⟩,h1,h2,h3⟩)⟩
def Mk.row(n s:Nat)(E:TypeId)(cs:List AV):Mk:=⟨fun b=> .bs b n s E,cs⟩
end Go.Av
namespace Go.Proofs.YtdhbdhopnpmboaaGreatDoor
open Go Go.Av
structure nM(S:Nat ->Prop)(σ σ':AS):Prop where
 box:∀ b cs,¬ S b ->σ.box b=some cs ->σ'.box b=some cs
 tip:∀ b x,σ.tip b=some x ->σ'.tip b=some x
 ty:∀ b x,σ.ty b=some x ->σ'.ty b=some x
theorem nM.refl(S:Nat ->Prop)(σ:AS):nM S σ σ:=⟨fun _ _ _ h=>h,fun _ _ h=>h,fun _ _ h=>h⟩
theorem nM.set_in{S:Nat ->Prop}{σ σ':AS}(h:nM S σ σ'){b:Nat}(hb:S b)(cs:List AV):nM S σ (σ'.setBox b cs):=
 ⟨fun i ds hi hd=>by
   have hne:i ≠ b:=fun e=>hi (e ▸ hb)
   simp only[AS.setBox,if_neg hne];exact h.box i ds hi hd,h.tip,h.ty⟩
theorem nM.set_new{S:Nat ->Prop}{σ σ':AS}(h:nM S σ σ'){b:Nat}(hb:σ.box b=none)(cs:List AV):nM S σ (σ'.setBox b cs):=
 ⟨fun i ds hi hd=>by
   have hne:i ≠ b:=fun e=>by subst e;rw[hb]at hd;cases hd
   simp only[AS.setBox,if_neg hne];exact h.box i ds hi hd,h.tip,h.ty⟩
theorem nM.set_fresh{S:Nat ->Prop}{σ σ':AS}(h:nM S σ σ'){b:Nat}(hb:σ'.fresh b)(cs:List AV):nM S σ (σ'.setBox b cs):=
 ⟨fun i ds hi hd=>by
   have h1:=h.box i ds hi hd
   have hne:i ≠ b:=fun e=>by subst e;rw[hb.1]at h1;cases h1
   simp only[AS.setBox,if_neg hne];exact h1,h.tip,h.ty⟩
theorem nM.trans{S:Nat ->Prop}{a b c:AS}(h:nM S a b)(k:nM S b c):nM S a c:=
 ⟨fun i cs hi hd=>k.box i cs hi (h.box i cs hi hd),fun i x hx=>k.tip i x (h.tip i x hx),fun i x hx=>k.ty i x (h.ty i x hx)⟩
abbrev jX:=Option (Nat × Nat)
def bL:jX ->Nat
 |none=>0
 |some (_,n)=>n
def jB(s:Nat)(E:TypeId):jX ->AV
 |none=> .nil
 |some (b,n)=> .bs b n s E
theorem nD(s:Nat)(E:TypeId)(r:jX):isv (jB s E r)=true:=by cases r <;>rfl
theorem jZ(s:Nat)(E:TypeId)(r:jX):flat (jB s E r)=[jB s E r]:=by cases r <;>rfl
theorem B5o(s:Nat)(E:TypeId)(r:jX):one (jB s E r)=true:=by cases r <;>rfl
def zQ(rs:List jX)(b:Nat):Prop:=∃ n,some (b,n) ∈ rs
def pC(rs:List jX):Prop:=∀ (i j:Nat) (b n m:Nat),rs[i]? =some (some (b,n)) ->rs[j]? =some (some (b,m)) ->i=j
def cells(mk:Int ->Int ->AV)(k n:Nat):List AV:=(List.range n).flatMap fun(i:Nat)=>flat (mk k i)
theorem jS(mk:Int ->Int ->AV)(k n:Nat):cells mk k (n+1)=cells mk k n++flat (mk k n):=by simp[cells,List.range_succ]
theorem A0a{mk:Int ->Int ->AV}{s:Nat}(h:∀ k i,(flat (mk k i)).length=s)(k n:Nat):(cells mk k n).length=n*s:=by
 induction n with
 |zero=>simp[cells]
 |succ n ih=>rw[jS,List.length_append,ih,h,Nat.add_mul,Nat.one_mul]
def Pre(σ:AS)(b:Nat)(l:List AV)(n:Nat):Prop:=∃ cs,σ.box b=some cs /\ l <+:cs /\ n <=cs.length
theorem Pre.other{σ:AS}{b c:Nat}{l ds:List AV}{n:Nat}(h:Pre σ b l n)(hne:b ≠ c):Pre (σ.setBox c ds) b l n:=by
 obtain⟨cs,h1,h2,h3⟩:=h
 exact⟨cs,by simp only[AS.setBox,if_neg hne];exact h1,h2,h3⟩
theorem Pre.new{σ:AS}{b c:Nat}{l ds:List AV}{n:Nat}(h:Pre σ b l n)(hc:σ.box c=none):Pre (σ.setBox c ds) b l n:=by
 refine h.other fun e=> ?_
 subst e
 obtain⟨cs,h1,_⟩:=h
 rw[hc]at h1;cases h1
theorem Pre.le{σ σ':AS}{b:Nat}{l:List AV}{n:Nat}(h:Pre σ b l n)(hle:σ.le σ'):Pre σ' b l n:=by
 obtain⟨cs,h1,h2⟩:=h
 exact⟨cs,hle.box _ _ h1,h2⟩
theorem B6a{l cs:List AV}(h:l <+:cs):cs.take l.length=l:=(List.prefix_iff_eq_take.1 h).symm
theorem B5z{mk:Int ->Int ->AV}{s:Nat}(hs:∀ k i,(flat (mk k i)).length=s){k i:Nat}{cs:List AV}(h:cells mk k i <+:cs)(hl:(i+1)*s <=cs.length):
  cells mk k (i+1) <+:cs.take (i*s)++flat (mk k i)++cs.drop (i*s+s) /\ (cs.take (i*s)++flat (mk k i)++cs.drop (i*s+s)).length=cs.length:=by
 have e:cs.take (i*s)=cells mk k i:=by
  have:=B6a h
  rwa [A0a hs]at this
 have hm:(i+1)*s=i*s+s:=by rw[Nat.add_mul,Nat.one_mul]
 constructor
 ·rw[e,jS]
  exact List.prefix_append _ _
 ·simp only[List.length_append,List.length_take,List.length_drop,hs]
  omega
def iA(mk:Int ->Int ->AV)(s:Nat)(rs:List jX)(σ:AS)(k:Nat):Prop:=
 ∀ (j b n:Nat),rs[j]? =some (some (b,n)) ->Pre σ b (if j < k then cells mk j n else[]) (n*s)
theorem iA.other{mk:Int ->Int ->AV}{s:Nat}{rs:List jX}{σ:AS}{k:Nat}(h:iA mk s rs σ k){c:Nat}(hc: ¬ zQ rs c)(ds:List AV):iA mk s rs (σ.setBox c ds) k:=fun j b n hj=>
 (h j b n hj).other fun e=>hc (by subst e;exact⟨n,List.mem_of_getElem? hj⟩)
theorem iA.fresh{mk:Int ->Int ->AV}{s:Nat}{rs:List jX}{σ:AS}{k:Nat}(h:iA mk s rs σ k){c:Nat}(hc:σ.box c=none)(ds:List AV):iA mk s rs (σ.setBox c ds) k:=fun j b n hj=> (h j b n hj).new hc
theorem iA.notIn{mk:Int ->Int ->AV}{s:Nat}{rs:List jX}{σ:AS}{k:Nat}(h:iA mk s rs σ k){c:Nat}(hc:σ.box c=none): ¬ zQ rs c:=by
 rintro⟨n,hn⟩
 obtain⟨j,hj⟩:=List.getElem?_of_mem hn
 obtain⟨cs,h1,_⟩:=h j c n hj
 rw[hc]at h1;cases h1
theorem iA.set{mk:Int ->Int ->AV}{s:Nat}{rs:List jX}(hd:pC rs){σ:AS}{k k' b n:Nat}(h:iA mk s rs σ k)(hk:rs[k']? =some (some (b,n))){ds:List AV}(h1:(if k' < k then cells mk k' n else[]) <+:ds)(h2:n*s <=ds.length):iA mk s rs (σ.setBox b ds) k:=by
 intro j c m hj
 by_cases e:c=b
 ·subst e
  obtain rfl:=hd j k' c m n hj hk
  rw[hk]at hj
  cases hj
  exact⟨ds,by simp[AS.setBox],h1,h2⟩
 ·exact(h j c m hj).other e
theorem iA.next{mk:Int ->Int ->AV}{s:Nat}{rs:List jX}{σ:AS}{k:Nat}(h:iA mk s rs σ k)(hk:∀ b n,rs[k]? =some (some (b,n)) ->Pre σ b (cells mk k n) (n*s)):iA mk s rs σ (k+1):=by
 intro j b n hj
 by_cases e:j=k
 ·subst e
  rw[if_pos (by omega)]
  exact hk b n hj
 ·have:=h j b n hj
  by_cases e2:j < k
  ·rw[if_pos e2]at this;rw[if_pos (by omega)];exact this
  ·rw[if_neg e2]at this;rw[if_neg (by omega)];exact this
end Go.Proofs.YtdhbdhopnpmboaaGreatDoor
namespace Go.Av
open Go Go.RowKit
mutual
def jU:AV ->Bool
 | .undef=>true
 | .bool _=>true
 | .int _ _=>true
 | .str _=>true
 | .nil=>true
 | .sl _ xs sp=>mI xs && mI sp
 | .agg cs=>mI cs
 | .tup cs=>mI cs
 | .ptr _ _=>true
 | .rp cs=>mI cs
 | .nilptr=>true
 | .fn _ cs=>mI cs
 | .nilfn=>true
 | .bs _ _ _ _=>true
 | .bp _ _ _=>true
 | .raw _=>true
 | .tab _=>false
def mI:List AV ->Bool
 |[]=>true
 |a::l=>jU a && mI l
end
theorem iV:∀ (l:List AV),mI l=true ↔ ∀ a,a ∈ l ->jU a=true
 |[]=>by simp[mI]
 |a::l=>by simp[mI,iV l]
theorem C0b{a:AV}(h:jU a=true):∀ c,c ∈ flat a ->jU c=true:=by
 cases a with
 |agg cs=>intro c hc;exact(iV cs).1 (by simpa [jU] using h) c hc
 |_=>intro c hc;simp[flat]at hc;subst hc;exact h
theorem B5f{l:List AV}(h:∀ a,a ∈ l ->jU a=true):∀ c,c ∈ l.flatMap flat ->jU c=true:=fun c hc=>by
 obtain⟨a,ha,hca⟩:=List.mem_flatMap.1 hc
 exact C0b (h a ha) c hca
theorem VR.mono3{K K':bO}(hi:∀ b o v,K.imm b o=some v ->K'.imm b o=some v)(hr:∀ b x,K.row b=some x ->K'.row b=some x){a:AV}{v:Value}(k:VR K a v):jU a=true ->VR K' a v:=by
 induction k with
 |undef v=>intro _;exact .undef v
 |bool b=>intro _;exact .bool b
 |int k n=>intro _;exact .int k n
 |str s=>intro _;exact .str s
 |nil=>intro _;exact .nil
 | sl g xs sp sz b off cap f hsz hcap hml himm hv hg ih=>
  intro hn
  have hn':∀ a,a ∈ xs++sp ->jU a=true:=by
   simp only[jU,Bool.and_eq_true,iV]at hn
   intro a ha
   rcases List.mem_append.1 ha with h|h
   ·exact hn.1 a h
   ·exact hn.2 a h
  refine .sl g xs sp sz b off cap f hsz hcap hml (fun j hj=>hi _ _ _ (himm j hj)) (fun j hj=>ih j hj (B5f hn' _ (List.getElem_mem hj))) ?_
  cases g with
  |none=>exact hg
  |full=>exact hg
  |own b'=>obtain⟨h1,h2,E,s,h3⟩:=hg;exact⟨h1,h2,E,s,hr _ _ h3⟩
 |sl0 a=>intro _;exact .sl0 a
 |agg cs vs hl h1 hv ih=>intro hn;exact .agg cs vs hl h1 fun j hj=>ih j hj ((iV cs).1 (by simpa [jU] using hn) _ (List.getElem_mem hj))
 |tup cs vs hl hv ih=>intro hn;exact .tup cs vs hl fun j hj=>ih j hj ((iV cs).1 (by simpa [jU] using hn) _ (List.getElem_mem hj))
 |ptr b o=>intro _;exact .ptr b o
 |rp cs b off f h1 himm hv ih=>intro hn;exact .rp cs b off f h1 (fun j hj=>hi _ _ _ (himm j hj)) fun j hj=>ih j hj ((iV cs).1 (by simpa [jU] using hn) _ (List.getElem_mem hj))
 |nilptr=>intro _;exact .nilptr
 |fn f caps vs hl hv ih=>intro hn;exact .fn f caps vs hl fun j hj=>ih j hj ((iV caps).1 (by simpa [jU] using hn) _ (List.getElem_mem hj))
 |nilfn=>intro _;exact .nilfn
 |bs b n s cap E hr' hn hm=>intro _;exact .bs b n s cap E (hr _ _ hr') hn hm
 |bp b s cap E hr'=>intro _;exact .bp b s cap E (hr _ _ hr')
 |raw v=>intro _;exact .raw v
 |tab vs b E fz hb hw=>intro hn;cases hn
def AS.minus(σ' σ:AS):AS:= {box:=fun b=>if(σ.box b).isNone && (σ.tip b).isNone then σ'.box b else none,tip:=fun _=>none,ty:=fun _=>none}
theorem AS.minus_le(σ' σ:AS):(σ'.minus σ).le σ':=by
 refine⟨fun b cs h=> ?_,fun _ _ h=> (by cases h),fun _ _ h=> (by cases h)⟩
 have h':(if(σ.box b).isNone && (σ.tip b).isNone then σ'.box b else none)=some cs:=h
 split at h'
 ·exact h'
 ·cases h'
theorem AS.minus_box{σ' σ:AS}{b:Nat}{cs:List AV}(h:σ'.box b=some cs)(h0:σ.box b=none)(h1:σ.tip b=none):(σ'.minus σ).box b=some cs:=by
 show(if(σ.box b).isNone && (σ.tip b).isNone then σ'.box b else none)=some cs
 rw[h0,h1];exact h
def bO.kept(K:bO)(σ:AS)(w:World):bO:= {K with imm:=(K.lent σ w).imm}
theorem cV.settle{G:Nat ->AV}{K:bO}{σ σ':AS}{w:World}(h:cV G K σ' w)(hl:σ.le σ'):cV G (K.kept (σ'.minus σ) w) σ w:=by
 have h1:=h.weaken (AS.minus_le σ' σ)
 have hi:=A5d h1
 have hk:K.le (K.kept (σ'.minus σ) w):=⟨hi,fun _ _ h=>h,rfl,rfl⟩
 have h2:=h1.lent
 have hno:∀ b,(σ'.minus σ).box b=none ->∀ o,(K.kept (σ'.minus σ) w).imm b o=K.imm b o:=fun b hb o=>by
  unfold bO.kept bO.lent
  simp only[hb]
 have hnb:∀ b,(σ.box b).isNone=false \/ (σ.tip b).isNone=false -> (σ'.minus σ).box b=none:=fun b hb=>by
  show(if(σ.box b).isNone && (σ.tip b).isNone then σ'.box b else none)=none
  rcases hb with hb|hb <;>rw[hb] <;>simp
 refine⟨h2.imm,fun b cap s E hr=> ?_,fun b cs hb=> ?_,fun b n s ht=> ?_,fun b E n ht=> (h.ty b E n (hl.ty _ _ ht)).mono hk,fun g=> (h.glob g).mono hk,h.below,h.bs⟩
 ·obtain⟨cur,fz,q1,q2,q3,q4⟩:=h.row b cap s E hr
  exact⟨cur,fz,q1,q2,q3,fun⟨x,hx⟩=>q4 ⟨x,hl.tip _ _ hx⟩⟩
 ·obtain⟨q1,q2,q3,q4,q5,c,E,q6,q7,q8⟩:=h.box b cs (hl.box _ _ hb)
  refine⟨q1,?_,q3,fun o=>by rw[hno b (hnb b (.inl (by rw[hb];rfl)))];exact q4 o,q5,c,E,q6,q7,fun j hj=> (q8 j hj).mono hk⟩
  cases e:σ.tip b with
  |none=>rfl
  |some x=>rw[hl.tip _ _ e]at q2;cases q2
 ·obtain⟨q1,cap,E,q2,q3,q4⟩:=h.tip b n s (hl.tip _ _ ht)
  exact⟨q1,cap,E,q2,q3,fun o ho=>by rw[hno b (hnb b (.inr (by rw[ht];rfl)))];exact q4 o ho⟩
theorem aJ.settle{P:Program}{G:Nat ->AV}{f:FuncId}{args:List AV}{σ:AS}{v:AV}(hv:jU v=true)(h:aJ P G f args σ fun r σ'=>σ.le σ' /\ eI G (σ'.minus σ) r v):aJ P G f args σ fun r σ'=>r=v /\ σ'=σ:=
 ⟨h.1,fun K w vals hr hvl=> (h.2 K w vals hr hvl).mono fun e w' ⟨u,r,σ',K',he,⟨hl,hL⟩,h1,h2,h3⟩=>by
   have q1:=h2.weaken (AS.minus_le σ' σ)
   have q2:=hL K' w' u q1 h1
   exact⟨u,v,σ,K'.kept (σ'.minus σ) w',he,⟨rfl,rfl⟩,VR.mono3 (K:=K'.lent (σ'.minus σ) w') (K':=K'.kept (σ'.minus σ) w') (fun _ _ _ h=>h) (fun _ _ h=>h) q2 hv,h2.settle hl,h3.trans ⟨A5d q1,fun _ _ h=>h,rfl,rfl⟩⟩⟩
section
variable {P:Program} {e:bF} {σ:AS}
end
theorem AS.le.noBox{σ σ':AS}(h:σ.le σ'){b:Nat}(hb:σ'.box b=none):σ.box b=none:=by
 cases e:σ.box b with
 |none=>rfl
 |some z=>rw[h.box _ _ e]at hb;cases hb
end Go.Av
namespace Go.Av
open Go Go.RowKit
end Go.Av
namespace Go.Av
open Go Go.RowKit
theorem fresh_ne{σ:AS}{b c:Nat}{z:List AV}(h:σ.box b=some z)(hc:σ.fresh c): ¬ b=c /\ ¬ c=b:=by
 have: ¬ b=c:=fun e=>by subst e;rw[hc.1]at h;cases h
 exact⟨this,fun e=>this e.symm⟩
theorem aJ.back{P:Program}{G:Nat ->AV}{f:FuncId}{args:List AV}{σ:AS}{Q:AV ->Prop}(h:aJ P G f args σ fun r σ'=>Q r /\ σ.le σ'):aJ P G f args σ fun r σ'=>Q r /\ σ'=σ:=
 ⟨h.1,fun K w vals hr hv=> (h.2 K w vals hr hv).mono fun e w' ⟨v,r,σ',K',he,⟨hQ,hl⟩,h1,h2,h3⟩=> ⟨v,r,σ,K',he,⟨hQ,rfl⟩,h1,h2.weaken hl,h3⟩⟩
inductive fP(n:Nat)(E:TypeId)(σ0 σ:AS):AV ->List AV ->Prop
 |nil (h:σ0.le σ):fP n E σ0 σ .nil []
 |row (b:Nat) (xs:List AV) (h:σ0.le σ) (h0:σ0.box b=none) (h1:σ0.tip b=none) (hb:σ.box b=some (xs.flatMap flat)) (hx:∀ a,a ∈ xs -> (flat a).length=n /\ isv a=true):fP n E σ0 σ (.bs b xs.length n E) xs
theorem fP.le{n:Nat}{E:TypeId}{σ0 σ:AS}{v:AV}{xs:List AV}(h:fP n E σ0 σ v xs):σ0.le σ:=by cases h <;>assumption
theorem uT{n:Nat} :∀ (xs:List AV),(∀ a,a ∈ xs -> (flat a).length=n) -> (xs.flatMap flat).length=xs.length*n
 |[],_=>by simp
 | x::xs,h=>by
  rw[List.flatMap_cons,List.length_append,h x (by simp),uT xs fun a ha=>h a (by simp[ha]),List.length_cons,Nat.succ_mul,Nat.add_comm]
theorem AS.le.delSet{σ0 σ:AS}(h:σ0.le σ){b b':Nat}(hb:σ0.box b=none)(hb':σ0.box b'=none)(z:List AV):σ0.le ((σ.delBox b).setBox b' z):=by
 refine⟨fun i cs hi=> ?_,fun i m hi=>h.tip _ _ hi,h.ty⟩
 have h1:i ≠ b:=fun e=>by subst e;rw[hb]at hi;cases hi
 have h2:i ≠ b':=fun e=>by subst e;rw[hb']at hi;cases hi
 show(if i=b' then _ else if i=b then none else σ.box i)=some cs
 rw[if_neg h2,if_neg h1];exact h.box _ _ hi
theorem C8b {P:Program} {n bZ:Nat} {σ0 σ:AS} {v x:AV} {xs ys:List AV} {t tx E:TypeId} {K:AV ->AS ->Prop} {d:Dum σ} {d':Dum K} (hB:fP n E σ0 σ v xs) (he:dU P t=some (E,n,bZ)) (hs:lJ P tx x=some ys)
  (hys:∀ a,a ∈ ys -> (Av.flat a).length=n /\ isv a=true) (hnil:v= .nil ->ys=[]) (hb:(xs.length+ys.length)*bZ <=140737488355328) (hK:∀ v' σ',fP n E σ0 σ' v' (xs++ys) -> (v'= .nil ->v= .nil) ->K v' σ'):B0y P σ t tx v x K d d':=by
 cases hB with
 | nil h=>
  have hy:=hnil rfl
  subst hy
  refine .inl ?_
  unfold mS
  rw[he,hs]
  refine⟨fun a ha=> (by cases ha),by simp,fun _=>hK _ _ (.nil h) (fun _=>rfl),fun hy=>absurd rfl hy⟩
 | row b xs h h0 h1 hbx hx=>
  refine .inr (.inl ?_)
  unfold pD
  rw[he,hs]
  have hl:=uT xs fun a ha=> (hx a ha).1
  refine⟨fun a ha=> (hys a ha).1,⟨rfl,rfl⟩,_,hbx,by rw[hl];exact Nat.le_refl _,hb,fun b' hb'=> ?_⟩
  have h0':σ0.box b'=none /\ σ0.tip b'=none:=by
   rcases hb' with rfl|hf
   ·exact⟨h0,h1⟩
   ·exact⟨(h.fresh hf).1,(h.fresh hf).2.1⟩
  have e1:(xs.flatMap flat).take (xs.length*n)++ys.flatMap flat=(xs++ys).flatMap flat:=by
   rw[List.take_of_length_le (by rw[hl];exact Nat.le_refl _),List.flatMap_append]
  have hK':=hK (.bs b' (xs++ys).length n E) ((σ.delBox b).setBox b' ((xs++ys).flatMap flat)) (.row b' (xs++ys) (h.delSet h0 h0'.1 _) h0'.1 h0'.2 (by simp[AS.setBox]) fun a ha=>by
   rcases List.mem_append.1 ha with ha|ha
   ·exact hx a ha
   ·exact hys a ha) (fun h=>by cases h)
  rw[<- e1,List.length_append]at hK'
  exact hK'
theorem aJ.wbuf{P:Program}{G:Nat ->AV}{f:FuncId}{args:List AV}{σ:AS}{n:Nat}{E:TypeId}{xs:List AV}(h:aJ P G f args σ fun r σ'=>fP n E σ σ' r xs):aJ P G f args σ fun r σ'=>Le r (.sl .none xs []) /\ σ'=σ:=by
 refine aJ.back ⟨h.1,fun K w vals hr hv=> (h.2 K w vals hr hv).mono fun e w' ⟨v,r,σ',K',he,hQ,h1,h2,h3⟩=> ?_⟩
 cases hQ with
 |nil hl=>exact⟨v, .nil,σ',K',he,⟨Le.nil,hl⟩,h1,h2,h3⟩
 | row b xs hl h0 ht hb hx=>
  obtain⟨cap,F,g1,g2,g3⟩:=(Has.bs (b:=b) (n:=xs.length) (s:=n) (E:=E)) K' v h1
  obtain⟨K2,k1,k2,k3⟩:=oJ h2 hb ⟨rfl,rfl,hx⟩ g1 g2 g3
  exact⟨v,_,_,K2,he,⟨Le.gh,AS.froze_le hl h0 ht⟩,k3 _ _ _ (.here E) h1,k2,h3.trans k1⟩
end Go.Av
namespace Go.Av
open Go Go.RowKit
variable {P:Program} {e:bF} {σ:AS}
def C8f:Option AV ->Option (List AV) ->Option (List AV)
 |some x,some xs=>some (x::xs)
 |_,_=>none
theorem gP{r s:ResultVar}{rs:List ResultVar} :sM P e σ (r::s::rs)=C8f (A8o P e σ r) (sM P e σ (s::rs)):=by
 rw[sM];unfold C8f;rfl
theorem iJ{t:Tmp} :A8o P e σ (.tmp t)=some (e t):=nr rfl
theorem gO{t:Tmp}{ty:TypeId} :A8o P e σ (.cell t ty)=lM P σ ty (e t):=nr rfl
theorem gQ{x:AV}{xs:List AV} :C8f (some x) (some xs)=some (x::xs):=nr rfl
end Go.Av
namespace Go.Av
open Go Go.RowKit
def cS:AV ->Nat ->Prop
 | .bs r _ _ _,c=>c ≠ r
 |_,_=>True
structure B7p(n:Nat)(E:TypeId)(σ0 σ:AS)(v:AV)(xs:List AV)(v':AV)(σ':AS):Prop where
 buf:fP n E σ0 σ' v' xs
 keep:∀ c z,σ.box c=some z ->cS v c ->σ'.box c=some z /\ cS v' c
 ty:σ'.ty=σ.ty
 ne:v' ≠ .nil ->v= .nil ->xs ≠ []
theorem gB {P:Program} {n bZ:Nat} {σ0 σ:AS} {v x:AV} {xs ys:List AV} {t tx E:TypeId} {K:AV ->AS ->Prop} {d:Dum σ} {d':Dum K} (hB:fP n E σ0 σ v xs) (he:dU P t=some (E,n,bZ)) (hs:lJ P tx x=some ys)
  (hys:∀ a,a ∈ ys -> (Av.flat a).length=n /\ isv a=true) (hb:(xs.length+ys.length)*bZ <=140737488355328) (hK:∀ v' σ',B7p n E σ0 σ v (xs++ys) v' σ' ->K v' σ'):B0y P σ t tx v x K d d':=by
 cases hB with
 | nil h=>
  by_cases hy:ys=[]
  ·subst hy
   refine .inl ?_
   unfold mS
   rw[he,hs]
   refine⟨fun a ha=> (by cases ha),by simp,fun _=>hK _ _ ⟨.nil h,fun c z hc _=> ⟨hc,trivial⟩,rfl,fun hn=>absurd rfl hn⟩,fun hy=>absurd rfl hy⟩
  ·refine .inr (.inl ?_)
   unfold pD
   rw[he,hs]
   refine⟨fun a ha=> (hys a ha).1,hy,by simpa using hb,fun b hf=>hK _ _ ⟨?_,fun c z hc _=> ?_,rfl,fun _ _=>by simpa using hy⟩⟩
   ·have hf0:=h.fresh hf
    exact .row b ys (h.setBox hf0.1 _) hf0.1 hf0.2.1 (by simp[AS.setBox]) hys
   ·have:=fresh_ne hc hf
    exact⟨by simp only[AS.setBox,if_neg this.1];exact hc,this.1⟩
 | row b xs h h0 h1 hbx hx=>
  refine .inr (.inl ?_)
  unfold pD
  rw[he,hs]
  have hl:=uT xs fun a ha=> (hx a ha).1
  refine⟨fun a ha=> (hys a ha).1,⟨rfl,rfl⟩,_,hbx,by rw[hl];exact Nat.le_refl _,hb,fun b' hb'=> ?_⟩
  have h0':σ0.box b'=none /\ σ0.tip b'=none:=by
   rcases hb' with rfl|hf
   ·exact⟨h0,h1⟩
   ·exact⟨(h.fresh hf).1,(h.fresh hf).2.1⟩
  have e1:(xs.flatMap flat).take (xs.length*n)++ys.flatMap flat=(xs++ys).flatMap flat:=by
   rw[List.take_of_length_le (by rw[hl];exact Nat.le_refl _),List.flatMap_append]
  have hK':=hK (.bs b' (xs++ys).length n E) ((σ.delBox b).setBox b' ((xs++ys).flatMap flat)) ⟨.row b' (xs++ys) (h.delSet h0 h0'.1 _) h0'.1 h0'.2 (by simp[AS.setBox]) fun a ha=>by
   rcases List.mem_append.1 ha with ha|ha
   ·exact hx a ha
   ·exact hys a ha,fun c z hc hn=>by
    have h2:c ≠ b':=by
     rcases hb' with rfl|hf
     ·exact hn
     ·exact(fresh_ne hc hf).1
    refine⟨?_,h2⟩
    show(if c=b' then _ else if c=b then none else σ.box c)=some z
    rw[if_neg h2,if_neg hn];exact hc,rfl,fun _ hn=>by cases hn⟩
  rw[<- e1,List.length_append]at hK'
  exact hK'
theorem fP.setOther{n:Nat}{E:TypeId}{σ0 σ:AS}{v:AV}{xs:List AV}(h:fP n E σ0 σ v xs){b:Nat}(hb:σ0.box b=none)(hn:cS v b)(z:List AV):fP n E σ0 (σ.setBox b z) v xs:=by
 cases h with
 |nil h=>exact .nil (h.setBox hb z)
 |row r xs h h0 h1 hbx hx=>exact .row r xs (h.setBox hb z) h0 h1 (by simp only[AS.setBox,if_neg (Ne.symm hn)];exact hbx) hx
theorem aJ.tupBs {P:Program} {G:Nat ->AV} {f:FuncId} {args:List AV} {σ:AS} {n s:Nat} {E:TypeId} {xs rest:List AV} (hx:∀ a,a ∈ xs -> (flat a).length=s /\ isv a=true) (hn:xs.length=n)
  (h:aJ P G f args σ fun r σ'=>∃ b,r= .tup (.bs b n s E::rest) /\ σ.le σ' /\ σ.box b=none /\ σ.tip b=none /\ σ'.box b=some (xs.flatMap flat)):aJ P G f args σ fun r σ'=>Le r (.tup (.sl .none xs []::rest)) /\ σ'=σ:=by
 refine aJ.back (aJ.freezeRes h fun r σ' ⟨b,hr,hl,h0,h1,h2⟩=> ?_)
 subst hr
 refine⟨b,n,s,xs,_, .tup (.sl (.own b) xs []::rest),h2,⟨hn,rfl,hx⟩,Has.tup 0 (by simp) Has.bs, .tup _ _ (by simp) (fun j g1 g2=> ?_),Le.tup (.cons Le.gh (xZ.refl rest)),AS.froze_le hl h0 h1⟩
 cases j with
 |zero=>exact .here E
 |succ j=>exact .same _
theorem fP.newBox{n:Nat}{E:TypeId}{σ0 σ:AS}{v:AV}{xs:List AV}(h:fP n E σ0 σ v xs){c:Nat}(hc:σ.fresh c)(z:List AV):fP n E σ0 (σ.setBox c z) v xs /\ cS v c:=by
 have hc0:=h.le.fresh hc
 have hn:cS v c:=by
  cases h with
  |nil _=>trivial
  |row r xs h h0 h1 hbx hx=>exact(fresh_ne hbx hc).2
 exact⟨h.setOther hc0.1 hn z,hn⟩
theorem fP.len{P:Program}{n:Nat}{E:TypeId}{σ0 σ:AS}{v:AV}{xs:List AV}(h:fP n E σ0 σ v xs){t:TypeId} :jO P .len #[t] [v]=if(el P t).isSome then some (.int .i64 xs.length)else none:=by
 cases h with
 |nil _=>rw[C2h];rfl
 |row r xs h h0 h1 hbx hx=>rw[E4k]
theorem fP.form{n:Nat}{E:TypeId}{σ0 σ:AS}{v:AV}{xs:List AV}(h:fP n E σ0 σ v xs)(hne:xs ≠ []):∃ r,v= .bs r xs.length n E /\ σ.box r=some (xs.flatMap flat) /\ σ0.box r=none /\ σ0.tip r=none:=by
 cases h with
 |nil _=>exact absurd rfl hne
 |row r xs h h0 h1 hbx hx=>exact⟨r,rfl,hbx,h0,h1⟩
def pJ(c:UInt8):AV:= .int .u8 c.toNat
def aX(s:List UInt8):List AV:=s.map pJ
theorem A1w(s:List UInt8):(aX s).flatMap flat=aX s:=by
 induction s with
 |nil=>rfl
 |cons c s ih=>simp only[aX,List.map_cons,List.flatMap_cons]at ih ⊢;rw[ih];rfl
theorem pK(s:List UInt8):∀ a,a ∈ aX s -> (flat a).length=1 /\ isv a=true:=fun a ha=>by
 obtain⟨c,_,rfl⟩:=List.mem_map.1 ha
 exact⟨rfl,rfl⟩
structure Bld(T E:TypeId)(σ0 σ:AS)(b:Nat)(xs:List UInt8):Prop where
 le:σ0.le σ
 out:σ0.box b=none
 ty:σ.ty b=some ((T:TyE),2)
 box:∃ p v,σ.box b=some [p,v] /\ (p= .nilptr \/ p= .ptr b 0) /\ fP 1 E σ0 σ v (aX xs) /\ cS v b /\ (v ≠ .nil ->xs ≠ [])
theorem AS.le.newBase{σ0 σ:AS}(h:σ0.le σ)(c:Nat)(z:List AV):(σ0.setBox c z).le (σ.setBox c z):=by
 refine⟨fun i cs hi=> ?_,h.tip,h.ty⟩
 simp only[AS.setBox]at hi ⊢
 split
 ·rename_i e;rw[if_pos e]at hi;exact hi
 ·rename_i e;rw[if_neg e]at hi;exact h.box _ _ hi
theorem Bld.newBox{T E:TypeId}{σ0 σ:AS}{b:Nat}{xs:List UInt8}(h:Bld T E σ0 σ b xs){c:Nat}(hc:σ.fresh c)(z:List AV):Bld T E (σ0.setBox c z) (σ.setBox c z) b xs:=by
 obtain⟨p,v,h1,h2,h3,h4,h5⟩:=h.box
 have hbc:=fresh_ne h1 hc
 refine⟨h.le.newBase c z,by simp only[AS.setBox,if_neg hbc.1];exact h.out,h.ty,p,v,by simp only[AS.setBox,if_neg hbc.1];exact h1,h2,?_,h4,h5⟩
 revert h3
 generalize aX xs=l
 intro h3
 cases h3 with
 |nil _=>exact .nil (h.le.newBase c z)
 | row r xs' h' g0 g1 gb gx=>
  have hrc:=fresh_ne gb hc
  exact .row r _ (h.le.newBase c z) (by simp only[AS.setBox,if_neg hrc.1];exact g0) g1 (by simp only[AS.setBox,if_neg hrc.1];exact gb) gx
theorem Bld.weaken{T E:TypeId}{σ0 σ1 σ:AS}{b:Nat}{xs:List UInt8}(h:Bld T E σ1 σ b xs)(hl:σ0.le σ1):Bld T E σ0 σ b xs:=by
 obtain⟨p,v,h1,h2,h3,h4,h5⟩:=h.box
 have none_of:∀ i,σ1.box i=none ->σ0.box i=none:=fun i hi=>by
  cases e:σ0.box i with
  |none=>rfl
  |some z=>rw[hl.box _ _ e]at hi;cases hi
 have none_tip:∀ i,σ1.tip i=none ->σ0.tip i=none:=fun i hi=>by
  cases e:σ0.tip i with
  |none=>rfl
  |some z=>rw[hl.tip _ _ e]at hi;cases hi
 refine⟨hl.trans h.le,none_of _ h.out,h.ty,p,v,h1,h2,?_,h4,h5⟩
 revert h3
 generalize aX xs=l
 intro h3
 cases h3 with
 |nil _=>exact .nil (hl.trans h.le)
 |row r xs' h' g0 g1 gb gx=>exact .row r _ (hl.trans h.le) (none_of _ g0) (none_tip _ g1) gb gx
theorem Bld.start{T E:TypeId}{σ0 σ:AS}{b:Nat}(hl:σ0.le σ)(hf:σ.fresh b):Bld T E σ0 ((σ.setBox b [.nilptr, .nil]).setTy b (T,2)) b []:=by
 have hf0:=hl.fresh hf
 refine⟨?_,hf0.1,by simp[AS.setTy], .nilptr, .nil,by simp[AS.setBox,AS.setTy], .inl rfl, .nil ?_,trivial,fun h=>absurd rfl h⟩
 ·exact(hl.setBox hf0.1 _).setTy hf0.2.2 _
 ·exact(hl.setBox hf0.1 _).setTy hf0.2.2 _
theorem Bld.push{T E:TypeId}{σ0 σ σ':AS}{b:Nat}{xs ys:List UInt8}{v v':AV}(h:Bld T E σ0 σ b xs)(hb:σ.box b=some [.ptr b 0,v])(hn:cS v b)(ha:B7p 1 E σ0 σ v (aX xs++aX ys) v' σ')(hx:v ≠ .nil ->xs ≠ []):Bld T E σ0 (σ'.setBox b [.ptr b 0,v']) b (xs++ys):=by
 obtain⟨h1,h2⟩:=ha.keep b _ hb hn
 have e:aX xs++aX ys=aX (xs++ys):=by simp[aX]
 refine⟨ha.buf.le.setBox h.out _,h.out,by show σ'.ty b=_;rw[ha.ty];exact h.ty, .ptr b 0,v',by simp[AS.setBox], .inr rfl,?_,h2,fun hv'=> ?_⟩
 ·rw[<- e];exact ha.buf.setOther h.out h2 _
 ·by_cases hv:v= .nil
  ·have:=ha.ne hv' hv
   intro hh
   rw[e,hh]at this
   exact this rfl
  ·intro hh
   exact hx hv (List.append_eq_nil_iff.1 hh).1
end Go.Av
