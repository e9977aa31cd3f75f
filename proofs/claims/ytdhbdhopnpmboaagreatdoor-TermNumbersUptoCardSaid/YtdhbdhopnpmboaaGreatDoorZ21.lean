/- Whether rows of terms, and the rows within them, lie apart, by the kit's bag: they do, where each has memory of its own. -/
import Derived.Test.YtdhbdhopnpmboaaGreatDoorZ19
import Derived.Test.YtdhbdhopnpmboaaGreatDoorZ20
import Derived.Test.YtdhbdhopnpmboaaGreatDoorZ08
import Derived.Test.YtdhbdhopnpmboaaGreatDoorZ18
import Derived.Test.YtdhbdhopnpmboaaGreatDoorZ12
import Derived.Test.YtdhbdhopnpmboaaGreatDoorZ11
import Derived.Test.YtdhbdhopnpmboaaGreatDoorZ16
import Derived.Test.YtdhbdhopnpmboaaGreatDoorZ14
import Derived.Test.YtdhbdhopnpmboaaGreatDoorZ15
set_option linter.unusedVariables false
set_option linter.unusedSimpArgs false
set_option maxRecDepth 20000
set_option linter.defProp false
namespace Go.Proofs.YtdhbdhopnpmboaaGreatDoor
open Go Go.Av
section
def nZ:=And.intro (And.intro (And.intro @jD (And.intro @iZ @jE)) (And.intro (And.intro @jJ @eG) (And.intro @eN @dL))) (And.intro (And.intro (And.intro @C6y @dV) (And.intro @qJ @eD)) (And.intro (And.intro @E9s @E9r) (And.intro @nD @jZ)))
variable (G:Nat ->AV)
structure lR(σ0 σ:AS)(b:Nat)(xs ys:List jX):Prop where
 fr:σ0.fresh b
 ex:∃ vl vt,σ.box b=some [vl, .nil, .nil, .nil, .nil, .nil, .nil,vt, .nil, .nil, .nil, .nil, .nil, .nil, .nil, .nil, .nil, .nil, .nil, .nil] /\ kL 1 σ0 σ vl (xs.map (jB 1 47)) /\ kL 1 σ0 σ vt (ys.map (jB 7 26)) /\ zV vl vt
theorem lR.le{σ0 σ:AS}{b:Nat}{xs ys:List jX}(h:lR σ0 σ b xs ys):σ0.le σ:=by
 obtain⟨vl,vt,_,h2,_⟩:=h.ex;exact h2.le
def rG(b:Nat)(σ σ':AS):Prop:=∀ c z,c ≠ b ->σ.box c=some z ->σ'.box c=some z
theorem rG.refl(b:Nat)(σ:AS):rG b σ σ:=fun _ _ _ h=>h
theorem rG.trans{b:Nat}{σ1 σ2 σ3:AS}(h:rG b σ1 σ2)(k:rG b σ2 σ3):rG b σ1 σ3:=fun c z hc hz=>k c z hc (h c z hc hz)
theorem lR.newBox{σ0 σ:AS}{b:Nat}{xs ys:List jX}(h:lR σ0 σ b xs ys){c:Nat}(hc:σ.fresh c)(z:List AV):lR σ0 (σ.setBox c z) b xs ys:=by
 obtain⟨hfr,vl,vt,hb,hB,hT,ha⟩:=h
 have hne:b ≠ c:=fun e=>by rw[e,hc.1]at hb;cases hb
 exact⟨hfr,vl,vt,by simp only[AS.setBox,if_neg hne];exact hb,hB.newBox hc z,hT.newBox hc z,ha⟩
theorem nC{n:Nat}{σ0 σ:AS}{v:AV}{l:List AV}(h:kL n σ0 σ v l):Av.one v=true /\ flat v=[v] /\ isv v=true:=by cases h <;>exact⟨rfl,rfl,rfl⟩
theorem kL.setT{n:Nat}{σ0 σ:AS}{v:AV}{l:List AV}(h:kL n σ0 σ v l){b:Nat}(hb:σ0.fresh b)(x:List AV):kL n σ0 (σ.setBox b x) v l:=by
 cases h with
 |nil h=>exact .nil (cE hb h)
 |own b' xs h h0 ht hx=>exact .own b' l (cE hb h) h0 (by simpa [AS.setBox] using ht) hx
theorem F0t:el Tryz.prog 73=some 23:=C6y.2.2.2.1
theorem F0x:el Tryz.prog 36=some 24:=qJ.2.2.2.1
theorem A9j{r:jX} :(flat (jB 1 47 r)).length=1:=by rw[jZ];rfl
theorem A9k{r:jX} :(flat (jB 7 26 r)).length=1:=by rw[jZ];rfl
theorem B2m(xs ys:List jX)(r:jX)(σ0 σ:AS)(b:Nat)(hn:xs.length <=1000000)(h:lR σ0 σ b xs ys):
  aJ Tryz.prog G 128 [.ptr b 0,jB 1 47 r] σ fun x σ'=>x= .tup [] /\ lR σ0 σ' b (xs++[r]) ys /\ rG b σ σ':=by
 obtain⟨hfr,vl,vt,hb,hB,hT,ha⟩:=h
 obtain⟨o1,o2,o3⟩:=nC hB
 obtain⟨u1,u2,u3⟩:=nC hT
 refine aJ.of_awp mixed Tryz.func128 rfl (by kernel_rfl) (by kernel_rfl) (by simp[Tryz.ntmps128]) Tryz.results128 ?_
 repeat'(first|refine xs ?_ ?_ <;>intros|(refine wn ?_;intro bx hbx;try simp only[fb]at hbx)|(refine eK flR (a:=jB 1 47 r) (nD _ _ _) A9j (by omega) ?_)|(refine B3p (ys:=[jB 1 47 r]) hB hT ha flR (bJ F0t) (fun a ha=>by simp at ha;subst ha;exact A9j) (by simp;omega) (fun v3 σ3 hB4 hT4 ha4 hx4=> ?_))|refine wj ?_|simp -dsimp only[↓bp,bq,br,seval,nZ, *]|refine wz ?_|fail)
 obtain⟨p1,p2,p3⟩:=nC hB4
 refine⟨⟨p3,by rw[p2];rfl⟩,?_⟩
 rw[p2]
 refine aE _ (AS.le.refl _) ⟨rfl,⟨hfr,v3,vt,by simp[AS.setBox],?_,kL.setT hT4 hfr _,ha4⟩,fun c z hc hz=>by simp only[AS.setBox,if_neg hc,hx4];exact hz⟩
 rw[List.map_append]
 exact kL.setT hB4 hfr _
def C7o(G:Nat ->AV)(σ0:AS)(b:Nat)(t:aA):Prop:=∀ (v:AV) (Ls Ts:List jX),B0l σ0 t v Ls Ts ->∀ (σ:AS) (xs ys:List jX),xs.length+Ls.length <=1000000 ->ys.length+Ts.length <=1000000 ->lR σ0 σ b xs ys ->
  aJ Tryz.prog G 88 [.ptr b 0,v] σ fun r σ'=>r= .tup [] /\ lR σ0 σ' b (xs++Ls) (ys++Ts) /\ rG b σ σ'
set_option maxHeartbeats 2000000 in
theorem A0t(σ0:AS)(b:Nat)(ks:List aA)(hkl:ks.length <=1000000000)(hP:∀ t,t ∈ ks ->C7o G σ0 b t)(v:AV)(Lk:List jX)(r:jX)(Tk:List jX)(hR:B7m σ0 ks v Lk r Tk)(σ:AS)(xs ys:List jX)(hx:xs.length+Lk.length <=1000000)(hy:ys.length+Tk.length+1 <=1000000)(h:lR σ0 σ b xs ys):
  aJ Tryz.prog G 59 [.ptr b 0,v] σ fun x σ'=>x= .tup [] /\ lR σ0 σ' b (xs++Lk) (ys++(r::Tk)) /\ rG b σ σ':=by
 obtain⟨rfl,hrl,hR⟩:=hR
 obtain⟨hfr,vl,vt,hb,hB,hT,ha⟩:=h
 obtain⟨o1,o2,o3⟩:=nC hB
 obtain⟨u1,u2,u3⟩:=nC hT
 have hl:=fun {t:TypeId} =>D1t (P:=Tryz.prog) (t:=t) (s:=7) (E:=26) r
 rw[hrl]at hl
 refine aJ.of_awp mixed Tryz.func59 rfl (by kernel_rfl) (by kernel_rfl) (by simp[Tryz.ntmps59]) Tryz.results59 ?_
 repeat'(first|(refine wn ?_;intro bx hbx;try simp only[fb]at hbx)|(refine eK ftR (a:=jB 7 26 r) (nD _ _ _) A9k (by omega) ?_)|(refine B3p (ys:=[jB 7 26 r]) hT hB ha.symm ftR (bJ F0x) (fun a ha=>by simp at ha;subst ha;exact A9k) (by simp;omega) (fun v3 σ3 hT4 hB4 ha4 hx4=> ?_))|refine wj ?_|simp -dsimp only[↓bp,bq,br,seval,nZ, *]|refine wz ?_|fail)
 obtain⟨p1,p2,p3⟩:=nC hT4
 refine⟨⟨p3,by rw[p2];rfl⟩,?_⟩
 rw[p2]
 have hS0:lR σ0 (σ3.setBox b [vl, .nil, .nil, .nil, .nil, .nil, .nil,v3, .nil, .nil, .nil, .nil, .nil, .nil, .nil, .nil, .nil, .nil, .nil, .nil]) b xs (ys++[r]):=⟨hfr,vl,v3,by simp[AS.setBox],kL.setT hB4 hfr _,by rw[List.map_append];exact kL.setT hT4 hfr _,ha4.symm⟩
 have hk0:rG b σ (σ3.setBox b [vl, .nil, .nil, .nil, .nil, .nil, .nil,v3, .nil, .nil, .nil, .nil, .nil, .nil, .nil, .nil, .nil, .nil, .nil, .nil]):=fun c z hc hz=>by simp only[AS.setBox,if_neg hc,hx4];exact hz
 clear hB hT ha hB4 hT4 ha4 hb hx4 o1 o2 o3 u1 u2 u3 p1 p2 p3
 (try simp only[List.cons_append,List.nil_append])
 generalize σ3.setBox b [vl, .nil, .nil, .nil, .nil, .nil, .nil,v3, .nil, .nil, .nil, .nil, .nil, .nil, .nil, .nil, .nil, .nil, .nil, .nil]=s1 at hS0 hk0 ⊢
 rcases hR with⟨rfl,rfl,rfl⟩|⟨b',cs,rest,rfl,hb',hC⟩
 ·have hks:ks.length=0:=hrl.symm
  rw[hks]at hl
  refine aI (fun n e σ'=>n=0 /\ e 4= .int .i64 0 /\ lR σ0 σ' b xs (ys++[none]) /\ rG b σ σ') 0 ⟨rfl,by first|(simp -dsimp only[↓bp,bq,br,seval,nZ];done)|(simp -dsimp only[↓bp,bq,br,seval,nZ];try rfl),hS0,hk0⟩ ?_
  rintro n e s2 ⟨rfl,h4,hB,hk2⟩
  simp -dsimp only[↓bp,bq,br,seval,nZ]at h4
  clear hP hS0
  repeat'(first|(refine wn ?_;intro bx hbx;try simp only[fb]at hbx)|refine wj ?_|simp -dsimp only[↓bp,bq,br,seval,nZ, *]|refine wz ?_|fail)
  all_goals exact aE _ (AS.le.refl _) ⟨rfl,by simpa using hB,hk2⟩
 ·refine aI (fun n e σ'=>∃ (i:Nat) (L1 T1 L2 T2:List jX),i <=ks.length /\ n=ks.length - i /\ e 4= .int .i64 i /\ Lk=L1++L2 /\ Tk=T1++T2 /\ rI σ0 (ks.drop i) (cs.drop (i*7)) L2 T2 /\ lR σ0 σ' b (xs++L1) (ys++[some (b',ks.length)]++T1) /\ rG b σ σ') ks.length
   ⟨0,[],[],Lk,Tk,by omega,by omega,by first|(simp -dsimp only[↓bp,bq,br,seval,nZ];done)|(simp -dsimp only[↓bp,bq,br,seval,nZ];try rfl),rfl,rfl,by simpa using hC,by simpa using hS0,hk0⟩ ?_
  clear hS0 hC hk0
  rintro n e s2 ⟨i,L1,T1,L2,T2,hi,rfl,h4,rfl,rfl,hC,hB,hk2⟩
  simp -dsimp only[↓bp,bq,br,seval,nZ]at h4
  have hbx:=hB.le.box _ _ hb'
  by_cases hlt:i < ks.length
  ·have hlt':((i:Int) < ks.length)=True:=eq_true (by omega)
   have hwi:IntKind.i64.wrap ((i:Int)+1)=((i+1:Nat):Int):=by rw[aC (by omega) (by omega)];rfl
   obtain⟨k,hk⟩:∃ k,ks[i]? =some k:=⟨_,List.getElem?_eq_getElem hlt⟩
   rw[dC _ _ _ hk]at hC
   simp only[rI]at hC
   obtain⟨v,c',L3,L4,T3,T4,hcs,rfl,rfl,hT,hC⟩:=hC
   have hp:=hP k (List.mem_of_getElem? hk) v L3 T3 hT s2 (xs++L1) (ys++[some (b',ks.length)]++T1) (by simp only[List.length_append]at*;omega) (by simp only[List.length_append,List.length_cons,List.length_nil]at*;omega) hB
   obtain⟨vk,vt,r0,Lk',Lt',rk,Tk',rt,Tt',rfl,hq⟩:=(zD _ _ _ _ _).1 hT
   have hco:i*7 <=cs.length:=by
    by_cases h:i*7 <=cs.length
    ·exact h
    ·rw[List.drop_eq_nil_of_le (by omega)]at hcs;cases hcs
   have hdr:(cs++rest).drop (i*7)=[.int .u8 k.knd, .bool k.neg,jB 1 47 r0, .str k.text, .int .i64 k.num,vk,vt]++(c'++rest):=by
    rw[List.drop_append_of_le_length hco,hcs,List.append_assoc];rfl
   have hnx:cs.drop ((i+1)*7)=c':=by
    have:cs.drop ((i+1)*7)=(cs.drop (i*7)).drop 7:=by rw[List.drop_drop];congr 1;omega
    rw[this,hcs];rfl
   clear hP hT hcs hco hb' hx hy hq
   generalize cs++rest=X at*
   repeat'(first|(refine wn ?_;intro bx hbx;try simp only[fb]at hbx)|((refine aJ.mono hp ?_;rintro r s3 ⟨rfl,hB3,hk3⟩))|refine wj ?_|simp -dsimp only[↓bp,bq,br,seval,nZ,jB, *]|refine wz ?_|fail)
   exact⟨ks.length - (i+1),by omega,i+1,L1++L3,T1++T3,L4,T4,by omega,rfl,rfl,by simp,by simp,by rw[hnx];exact hC,by simpa [List.append_assoc] using hB3,hk2.trans hk3⟩
  ·have:i=ks.length:=by omega
   subst this
   have hlt':((ks.length:Int) < ks.length)=False:=eq_false (by omega)
   rw[List.drop_length]at hC
   simp only[rI]at hC
   obtain⟨_,rfl,rfl⟩:=hC
   clear hP
   repeat'(first|(refine wn ?_;intro bx hbx;try simp only[fb]at hbx)|refine wj ?_|simp -dsimp only[↓bp,bq,br,seval,nZ,jB, *]|refine wz ?_|fail)
   all_goals exact aE _ (AS.le.refl _) ⟨rfl,by simpa using hB,hk2⟩
theorem D2q(σ0:AS)(b:Nat)(t:aA):t.bulk <=1000000000 ->C7o G σ0 b t:=by
 refine aA.ind (P:=fun t=>t.bulk <=1000000000 ->C7o G σ0 b t) (fun t ih1 ih2 hbk=> ?_) t
 have hl1:=cA t
 have hl2:=dD t
 replace ih1:∀ x,x ∈ t.items ->C7o G σ0 b x:=fun x hx=>ih1 x hx (by have:=dJ hx;omega)
 replace ih2:∀ x,x ∈ t.tail ->C7o G σ0 b x:=fun x hx=>ih2 x hx (by have:=dK hx;omega)
 intro v Ls Ts hT σ xs ys hx hy hB
 obtain⟨vk,vt,r0,Lk,Lt,rk,Tk,rt,Tt,rfl,rfl,rfl,hr0,hK,hTl⟩:=(zD _ _ _ _ _).1 hT
 simp only[List.length_cons,List.length_append]at hx hy
 have hvk:Av.one vk=true /\ flat vk=[vk] /\ isv vk=true:=by rw[hK.1];exact⟨B5o _ _ _,jZ _ _ _,nD _ _ _⟩
 have hvt:Av.one vt=true /\ flat vt=[vt] /\ isv vt=true:=by rw[hTl.1];exact⟨B5o _ _ _,jZ _ _ _,nD _ _ _⟩
 obtain⟨a1,a2,a3⟩:=hvk
 obtain⟨a4,a5,a6⟩:=hvt
 refine aJ.of_awp mixed Tryz.func88 rfl (by kernel_rfl) (by kernel_rfl) (by simp[Tryz.ntmps88]) Tryz.results88 ?_
 simp -dsimp only[↓bp,bq,br,seval,nZ]
 refine cX fun c hc=> ?_
 have hB0:=hB.newBox hc [.int .u8 t.knd, .bool t.neg,jB 1 47 r0, .str t.text, .int .i64 t.num,vk,vt]
 have hcb:c ≠ b:=fun e=>by obtain⟨_,vl,vtt,h1,_⟩:=hB;rw[<- e,hc.1]at h1;cases h1
 have hk0:rG b σ (σ.setBox c [.int .u8 t.knd, .bool t.neg,jB 1 47 r0, .str t.text, .int .i64 t.num,vk,vt]):=fun d z hd hz=>aO hz (fun e=>by rw[e,hc.1]at hz;cases hz)
 have e0:(σ.setBox c [.int .u8 t.knd, .bool t.neg,jB 1 47 r0, .str t.text, .int .i64 t.num,vk,vt]).box c=some [.int .u8 t.knd, .bool t.neg,jB 1 47 r0, .str t.text, .int .i64 t.num,vk,vt]:=AS.set_get
 generalize σ.setBox c [.int .u8 t.knd, .bool t.neg,jB 1 47 r0, .str t.text, .int .i64 t.num,vk,vt]=A0 at*
 have q1:=B2m G xs ys r0 σ0 A0 b (by omega) hB0
 repeat'(first|(refine wn ?_;intro bx hbx;try simp only[fb]at hbx)|refine wj ?_|simp -dsimp only[↓bp,bq,br,seval,nZ, *]|refine wz ?_|fail)
 refine aJ.mono q1 ?_
 rintro _ s1 ⟨rfl,hB1,k1⟩
 have e1:=k1 c _ hcb e0
 have q2:=A0t G σ0 b t.items (by omega) ih1 vk Lk rk Tk hK s1 (xs++[r0]) ys (by simp only[List.length_append,List.length_cons,List.length_nil];omega) (by omega) hB1
 clear q1 e0 hB0 hB1
 repeat'(first|(refine wn ?_;intro bx hbx;try simp only[fb]at hbx)|refine wj ?_|simp -dsimp only[↓bp,bq,br,seval,nZ, *]|refine wz ?_|fail)
 refine aJ.mono q2 ?_
 rintro _ s2 ⟨rfl,hB2,k2⟩
 have e2:=k2 c _ hcb e1
 have q3:=A0t G σ0 b t.tail (by omega) ih2 vt Lt rt Tt hTl s2 (xs++[r0]++Lk) (ys++(rk::Tk)) (by simp only[List.length_append,List.length_cons,List.length_nil];omega) (by simp only[List.length_append,List.length_cons];omega) hB2
 clear q2 e1 hB2
 repeat'(first|(refine wn ?_;intro bx hbx;try simp only[fb]at hbx)|refine wj ?_|simp -dsimp only[↓bp,bq,br,seval,nZ, *]|refine wz ?_|fail)
 refine aJ.mono q3 ?_
 rintro _ s3 ⟨rfl,hB3,k3⟩
 clear q3 e2
 repeat'(first|(refine wn ?_;intro bx hbx;try simp only[fb]at hbx)|refine wj ?_|simp -dsimp only[↓bp,bq,br,seval,nZ, *]|refine wz ?_|fail)
 all_goals exact aE _ (AS.le.refl _) ⟨rfl,by simpa [List.append_assoc] using hB3,((hk0.trans k1).trans k2).trans k3⟩
end
set_option maxRecDepth 20000
section
def vL:=And.intro (And.intro (And.intro (And.intro (And.intro @jD @iZ) (And.intro @jE @jJ)) (And.intro (And.intro @eG @eN) (And.intro @dL @dV))) (And.intro (And.intro (And.intro @eD @E9s) (And.intro @E9r @E5s)) (And.intro (And.intro @C6y @E5r) (And.intro @E5u @E5t)))) (And.intro (And.intro (And.intro (And.intro @E5v @E5w) (And.intro @qJ @E5x)) (And.intro (And.intro @E5y @E5z) (And.intro @E6a @E6b))) (And.intro (And.intro (And.intro @E6c @E6d) (And.intro @E6e @E6f)) (And.intro (And.intro @E6g @E6h) (And.intro @E6i (And.intro @nD @jZ)))))
variable (G:Nat ->AV)
mutual
def iN:aA ->Nat
 | .mk _ _ _ _ _ ks ts=>1+cK ks+cK ts
def cK:List aA ->Nat
 |[]=>0
 |k::r=>iN k+cK r
end
theorem lF(t:aA):iN t=1+cK t.items+cK t.tail:=by cases t;simp only[iN,aA.items,aA.tail]
theorem tV(l:List aA)(ih:∀ k,k ∈ l ->∀ m,eB k m <=m -> (iN k:Int) <=eB k m):∀ n m:Int,bR l n m <=m ->n+cK l <=bR l n m:=by
 induction l with
 |nil=>intro n m h;simp[bR,cK]
 | cons x l ih2=>
  intro n m h
  simp only[bR,cK]at h ⊢
  by_cases hn:n <=m
  ·rw[if_pos hn]at h ⊢
   have h0:=iY l (fun k _=>gS k) (n+eB x (m - n)) m
   have h1:=ih x (by simp) (m - n) (by omega)
   have h2:=ih2 (fun k hk=>ih k (by simp[hk])) (n+eB x (m - n)) m h
   omega
  ·rw[if_neg hn]at h ⊢;omega
theorem A8f(t:aA):∀ m,eB t m <=m -> (iN t:Int) <=eB t m:=by
 refine aA.ind (P:=fun t=>∀ m,eB t m <=m -> (iN t:Int) <=eB t m) (fun t ih1 ih2 m h=> ?_) t
 rw[xW]at h ⊢
 rw[lF]
 have e1:=iY t.tail (fun k _=>gS k) (bR t.items (1+t.limbs.length+(t.text.length / 8:Nat)) m) m
 have h2:=tV t.tail ih2 _ m h
 have h1:=tV t.items ih1 (1+t.limbs.length+(t.text.length / 8:Nat)) m (by omega)
 omega
theorem yQ:∀ (l:List aA) (n:Int),0 <=n ->jG l n <=6000 ->n+cK l <=jG l n
 |[],n,_,h=>by simp[jG,cK]
 | t::l,n,hn0,h=>by
  simp only[jG,cK]at h ⊢
  by_cases hn:n <=6000
  ·rw[if_pos hn]at h ⊢
   have h0:=C5b l (n+eB t 6000)
   have h3:=gS t 6000
   have h2:=yQ l _ (by omega) h
   have h1:=A8f t 6000 (by omega)
   omega
  ·rw[if_neg hn]at h ⊢;omega
theorem A1z{l:List aA}(h:A1y l=false):cK l <=6000:=by
 have h1: ¬ 6000 < jG l 0:=by simpa [A1y] using h
 have:=yQ l 0 (by omega) (by omega)
 omega
def fZ(s B:Nat)(σ:AS)(rs:List jX):Prop:=∀ b n,some (b,n) ∈ rs ->n <=B /\ ∃ cs,σ.box b=some cs /\ n*s <=cs.length
theorem fZ.append{s B:Nat}{σ:AS}{xs ys:List jX}(h1:fZ s B σ xs)(h2:fZ s B σ ys):fZ s B σ (xs++ys):=fun b n h=>by
 rcases List.mem_append.1 h with h|h
 ·exact h1 b n h
 ·exact h2 b n h
theorem fZ.nil{s B:Nat}{σ:AS} :fZ s B σ []:=fun b n h=> (by cases h)
theorem fZ.more{s B C:Nat}{σ:AS}{xs:List jX}(h:fZ s B σ xs)(hbc:B <=C):fZ s C σ xs:=fun b n hb=> ⟨by have:=(h b n hb).1;omega,(h b n hb).2⟩
def C1o(σ:AS)(B:Nat)(t:aA):Prop:=∀ (v:AV) (Ls Ts:List jX),B0l σ t v Ls Ts ->Ls.length=iN t /\ Ts.length=2*iN t /\ (flat v).length=7 /\ fZ 1 B σ Ls /\ fZ 7 B σ Ts
theorem B6b{σ:AS}{B:Nat} :∀ (l:List aA) (cs:List AV) (Ls Ts:List jX),(∀ t,t ∈ l ->C1o σ B t) ->rI σ l cs Ls Ts ->Ls.length=cK l /\ Ts.length=2*cK l /\ cs.length=l.length*7 /\ fZ 1 B σ Ls /\ fZ 7 B σ Ts
 | [],cs,Ls,Ts,_,h=>by
  simp only[rI]at h
  obtain⟨rfl,rfl,rfl⟩:=h
  exact⟨by simp[cK],by simp[cK],rfl, .nil, .nil⟩
 | t::r,cs,Ls,Ts,hP,h=>by
  simp only[rI]at h
  obtain⟨v,c',L1,L2,T1,T2,rfl,rfl,rfl,h1,h2⟩:=h
  obtain⟨a1,a2,a3,a4,a5⟩:=hP t List.mem_cons_self v L1 T1 h1
  obtain⟨b1,b2,b3,b4,b5⟩:=B6b r c' L2 T2 (fun t ht=>hP t (List.mem_cons_of_mem _ ht)) h2
  refine⟨by rw[List.length_append,a1,b1];simp[cK],by rw[List.length_append,a2,b2];simp only[cK];omega,by rw[List.length_append,a3,b3,List.length_cons];omega,a4.append b4,a5.append b5⟩
theorem B2n{σ:AS}{B:Nat}{l:List aA}(hB:l.length <=B)(hP:∀ t,t ∈ l ->C1o σ B t){v:AV}{Lk:List jX}{r:jX}{Tk:List jX}(h:B7m σ l v Lk r Tk):Lk.length=cK l /\ Tk.length=2*cK l /\ (∃ r':jX,v=jB 7 26 r') /\ fZ 1 B σ Lk /\ fZ 7 B σ (r::Tk):=by
 obtain⟨rfl,hl,h⟩:=h
 rcases h with⟨rfl,rfl,rfl⟩|⟨b,cs,rest,rfl,hb,hC⟩
 ·have:l=[]:=List.eq_nil_of_length_eq_zero hl.symm
  subst this
  exact⟨by simp[cK],by simp[cK],⟨_,rfl⟩, .nil,fun b n h=>by simp at h⟩
 ·obtain⟨a1,a2,a3,a4,a5⟩:=B6b l cs Lk Tk hP hC
  refine⟨a1,a2,⟨_,rfl⟩,a4,fun c n h=> ?_⟩
  rcases List.mem_cons.1 h with h|h
  ·simp only[Option.some.injEq,Prod.mk.injEq]at h
   obtain⟨rfl,rfl⟩:=h
   exact⟨hB,_,hb,by rw[List.length_append];omega⟩
  ·exact a5 c n h
theorem D9p{σ:AS}{B:Nat}(t:aA):t.bulk <=B ->C1o σ B t:=by
 refine aA.ind (P:=fun t=>t.bulk <=B ->C1o σ B t) (fun t ih1 ih2 hb v Ls Ts h=> ?_) t
 obtain⟨vk,vt,r0,Lk,Lt,rk,Tk,rt,Tt,rfl,rfl,rfl,hr0,hK,hT⟩:=(zD _ _ _ _ _).1 h
 obtain⟨a1,a2,⟨q1,a3⟩,a4,a5⟩:=B2n (B:=B) (by have:=cA t;omega) (fun x hx=>ih1 x hx (by have:=dJ hx;omega)) hK
 obtain⟨b1,b2,⟨q2,b3⟩,b4,b5⟩:=B2n (B:=B) (by have:=dD t;omega) (fun x hx=>ih2 x hx (by have:=dK hx;omega)) hT
 rw[lF]
 refine⟨by simp only[List.length_cons,List.length_append,a1,b1];omega,by simp only[List.length_cons,List.length_append,a2,b2];omega,?_,fun b n hm=> ?_,a5.append b5⟩
 ·rw[a3,b3];simp only[flat,jZ,List.length_cons,List.length_nil]
 ·rcases List.mem_cons.1 hm with hm|hm
  ·obtain⟨h1,cs,h2,h3⟩:=hr0 b n hm.symm
   exact⟨by have:=cQ t;omega,cs,h2,h3⟩
  ·exact(a4.append b4) b n hm
def uB(σ:AS):List (List aA) ->List AV ->List jX ->List jX ->Prop
 |[],vs,Ls,Ts=>vs=[] /\ Ls=[] /\ Ts=[]
 |ks::rest,vs,Ls,Ts=>∃ v vs' Lk r Tk L2 T2,vs=v::vs' /\ Ls=Lk++L2 /\ Ts=(r::Tk)++T2 /\ B7m σ ks v Lk r Tk /\ uB σ rest vs' L2 T2
theorem B6c{σ:AS}{B:Nat} :∀ (kss:List (List aA)) (vs:List AV) (Ls Ts:List jX),(∀ ks,ks ∈ kss ->aV ks <=B) ->uB σ kss vs Ls Ts ->Ls.length=cK kss.flatten /\ Ts.length=2*cK kss.flatten+kss.length /\ vs.length=kss.length /\ fZ 1 B σ Ls /\ fZ 7 B σ Ts
 | [],vs,Ls,Ts,_,h=>by
  simp only[uB]at h
  obtain⟨rfl,rfl,rfl⟩:=h
  exact⟨by simp[cK],by simp[cK],rfl, .nil, .nil⟩
 | ks::rest,vs,Ls,Ts,hB,h=>by
  simp only[uB]at h
  obtain⟨v,vs',Lk,r,Tk,L2,T2,rfl,rfl,rfl,hR,h2⟩:=h
  obtain⟨a1,a2,a3,a4,a5⟩:=B2n (B:=B) (by have:=dY ks;have:=hB ks List.mem_cons_self;omega) (fun x hx=>D9p x (by have:=eQ hx;have:=hB ks List.mem_cons_self;omega)) hR
  obtain⟨b1,b2,b3,b4,b5⟩:=B6c rest vs' L2 T2 (fun x hx=>hB x (List.mem_cons_of_mem _ hx)) h2
  have hn:∀ a b:List aA,cK (a++b)=cK a+cK b:=fun a b=>by
   induction a with
   |nil=>simp[cK]
   |cons x a ih=>simp only[List.cons_append,cK,ih];omega
  refine⟨by rw[List.length_append,a1,b1,List.flatten_cons,hn],by rw[List.length_append,List.length_cons,a2,b2,List.flatten_cons,hn,List.length_cons];omega,by simp[b3],a4.append b4,a5.append b5⟩
theorem fZ.at{s B:Nat}{σ:AS}{rs:List jX}(h:fZ s B σ rs):∀ (j b n:Nat),rs[j]? =some (some (b,n)) ->∃ cs,σ.box b=some cs /\ n*s <=cs.length:=fun j b n hj=> (h b n (List.mem_of_getElem? hj)).2
theorem fZ.len{s B:Nat}{σ:AS}{rs:List jX}(h:fZ s B σ rs)(hB:B <=1000000000):∀ (k:Nat) (r:jX),rs[k]? =some r ->bL r <=1000000000:=fun k r hk=>by
 cases r with
 |none=>simp[bL]
 |some p=>obtain⟨b,n⟩:=p;have:=(h b n (List.mem_of_getElem? hk)).1;simp only[bL];omega
theorem fZ.notIn{s B:Nat}{σ:AS}{rs:List jX}(h:fZ s B σ rs){b:Nat}(hb:σ.box b=none): ¬ zQ rs b:=fun⟨n,hn⟩=>by
 obtain⟨_,cs,h1,_⟩:=h b n hn
 rw[hb]at h1;cases h1
theorem nM.wk{S T:Nat ->Prop}{σ σ':AS}(h:nM S σ σ')(hs:∀ c,S c ->T c):nM T σ σ':=⟨fun b cs hn hc=>h.box b cs (fun e=>hn (hs b e)) hc,h.tip,h.ty⟩
set_option maxHeartbeats 4000000 in
theorem B8e(xs ys:List jX)(hd:(cZ (xs++ys)).Nodup)(hNx:xs.length <=1000000)(hNy:ys.length <=1000000)(σ0 σ:AS)(b:Nat)(hx:fZ 1 1000000000 σ0 xs)(hy:fZ 7 1000000000 σ0 ys)(h:lR σ0 σ b xs ys):
  aJ Tryz.prog G 60 [.ptr b 0] σ fun r σ'=>r= .bool true /\ nM (fun c=>c ∈ cZ (xs++ys)) σ0 σ':=by
 have hle:=h.le
 have hx0:nM (fun c=>c ∈ cZ (xs++ys)) σ0 σ:=⟨fun b cs _ hc=>hle.box b cs hc,hle.tip,hle.ty⟩
 have hi1:∀ c,zQ xs c ->c ∈ cZ (xs++ys):=fun c h=>by rw[eX];exact List.mem_append_left _ (lB xs c h)
 have hi2:∀ c,zQ ys c ->c ∈ cZ (xs++ys):=fun c h=>by rw[eX];exact List.mem_append_right _ (lB ys c h)
 rw[eX,List.nodup_append]at hd
 obtain⟨hd1,hd2,hd3⟩:=hd
 obtain⟨hfr,vl,vt,hb,hB,hT,ha⟩:=h
 have hnx:=hx.notIn hfr.1
 have hny:=hy.notIn hfr.1
 have hF:=A7l G xs (qS xs hd1) hNx (hx.len (by omega)) σ (fun j b n hj=>by
  obtain⟨cs,h1,h2⟩:=hx.at j b n hj
  exact⟨cs,hle.box _ _ h1,h2⟩)
 have hF1:aJ Tryz.prog G 89 [vl] σ _:=aJ.weaken (.cons hB.told .nil) hF
 have hF2:=fun(s:AS) (hX:nM (zQ xs) σ s)=>A7q G ys (qS ys hd2) hNy (hy.len (by omega)) s (fun j c n hj=>by
  obtain⟨cs,h1,h2⟩:=hy.at j c n hj
  exact⟨cs,hX.box _ _ (fun⟨m,hin⟩=>hd3 c (lB xs c ⟨m,hin⟩) c (xD ys j c n hj) rfl) (hle.box _ _ h1),h2⟩)
 have hF3:=fun(s:AS) (hX:nM (zQ xs) σ s)=>aJ.weaken (args:=[vt]) (.cons hT.told .nil) (hF2 s hX)
 clear hF hF2 hx hy hB hT hle hd1 hd2 hd3 ha
 have f2:=A7s G
 have f3:=B1q G
 have f4:=A7m G
 have f5:=A7r G
 have f6:=A7h G
 have f7:=A4r G
 have f9:=A4v G
 have f10:=A7n G
 have f11:=A7j G
 have f12:=A7k G
 have f13:=A0g G
 have f14:=A4s G
 have f15:=A2o G
 have f16:=A7i G
 have f17:=A7p G
 have f18:=A4q G
 have f19:=A4u G
 have f20:=A7o G
 refine aJ.of_awp mixed Tryz.func60 rfl (by kernel_rfl) (by kernel_rfl) (by simp[Tryz.ntmps60]) Tryz.results60 ?_
 repeat'(first|refine xs ?_ ?_ <;>intros|(refine wn ?_;intro bx hbx;try simp only[fb]at hbx)|((refine aJ.mono hF1 ?_;rintro r s2 ⟨rfl,hX⟩;have hb2:=hX.box _ _ hnx hb;have hG:=hF3 s2 hX;clear hF3 hF1))|refine wp f2 ?_|refine wp f3 ?_|refine wp f4 ?_|refine wp f5 ?_|refine wp f6 ?_|refine wp f7 ?_|((refine aJ.mono hG ?_;rintro r s3 ⟨rfl,hY⟩;have hb3:=hY.box _ _ hny hb2))|refine wp f9 ?_|refine wp f10 ?_|refine wp f11 ?_|refine wp f12 ?_|refine wp f13 ?_|refine wp f14 ?_|refine wp f15 ?_|refine wp f16 ?_|refine wp f17 ?_|refine wp f18 ?_|refine wp f19 ?_|refine wp f20 ?_|refine wj ?_|simp -dsimp only[↓bp,bq,br,seval,vL, *]|refine wz ?_|fail)
 exact aE _ (AS.le.refl _) ⟨rfl,(hx0.trans (hX.wk hi1)).trans (hY.wk hi2)⟩
set_option maxHeartbeats 2000000 in
theorem A3t(kss:List (List aA))(vs:List AV)(Ls Ts:List jX)(g:Gh)(σ:AS)(h:uB σ kss vs Ls Ts)(hd:(cZ (Ls++Ts)).Nodup)(hb:∀ ks,ks ∈ kss ->aV ks <=1000000000)(hn:2*cK kss.flatten+kss.length <=1000000):
  aJ Tryz.prog G 19 [.sl g vs []] σ fun r σ'=>r= .bool true /\ nM (fun c=>c ∈ cZ (Ls++Ts)) σ σ':=by
 refine aJ.weaken (.cons Le.gh .nil) ?_
 obtain⟨n1,n2,n3,o1,o2⟩:=B6c kss vs Ls Ts hb h
 have hA:=fun(σ':AS) (b:Nat) (h:lR σ σ' b Ls Ts)=>B8e G Ls Ts hd (by omega) (by omega) σ σ' b o1 o2 h
 clear hd o1 o2
 refine aJ.of_awp mixed Tryz.func19 rfl (by kernel_rfl) (by kernel_rfl) (by simp[Tryz.ntmps19]) Tryz.results19 ?_
 simp -dsimp only[↓bp,bq,br,seval,vL]
 refine cX fun b hb'=> ?_
 have hB0:lR σ (σ.setBox b [.nil, .nil, .nil, .nil, .nil, .nil, .nil, .nil, .nil, .nil, .nil, .nil, .nil, .nil, .nil, .nil, .nil, .nil, .nil, .nil]) b [] []:=⟨hb', .nil, .nil,by simp[AS.setBox],kL.setT (.nil (AS.le.refl σ)) hb' _,kL.setT (.nil (AS.le.refl σ)) hb' _,fun c h=>by cases h⟩
 generalize σ.setBox b [.nil, .nil, .nil, .nil, .nil, .nil, .nil, .nil, .nil, .nil, .nil, .nil, .nil, .nil, .nil, .nil, .nil, .nil, .nil, .nil]=S0 at*
 repeat'(first|refine xs ?_ ?_ <;>intros|(refine wn ?_;intro bx hbx;try simp only[fb]at hbx)|refine wj ?_|simp -dsimp only[↓bp,bq,br,seval,vL, *]|refine wz ?_|fail)
 refine aI (fun n e σ'=>∃ (i:Nat) (L1 T1 L2 T2:List jX),i <=vs.length /\ n=vs.length - i /\ e 4= .int .i64 i /\ Ls=L1++L2 /\ Ts=T1++T2 /\ uB σ (kss.drop i) (vs.drop i) L2 T2 /\ lR σ σ' b L1 T1) vs.length
  ⟨0,[],[],Ls,Ts,by omega,by omega,by first|(simp -dsimp only[↓bp,bq,br,seval,vL];done)|(simp -dsimp only[↓bp,bq,br,seval,vL];try rfl),rfl,rfl,h,hB0⟩ ?_
 clear hB0 h
 rintro n e σ2 ⟨i,L1,T1,L2,T2,hi,rfl,h4,rfl,rfl,hR,hB⟩
 simp -dsimp only[↓bp,bq,br,seval,vL]at h4
 by_cases hlt:(i:Int) < vs.length
 ·have hik:i < kss.length:=by omega
  obtain⟨ks,hx⟩:∃ x,kss[i]? =some x:=⟨_,List.getElem?_eq_getElem hik⟩
  have hwi:IntKind.i64.wrap ((i:Int)+1)=((i+1:Nat):Int):=by rw[aC (by omega) (by omega)];rfl
  rw[dC _ _ _ hx]at hR
  simp only[uB]at hR
  obtain⟨v,vs',Lk,r,Tk,L3,T3,hvs,rfl,rfl,hr,hR⟩:=hR
  have hvi:vs[i]? =some v:=by
   have:=congrArg (fun l=>l[0]?) hvs
   simpa using this
  have hnx:vs.drop (i+1)=vs':=by
   have:vs.drop (i+1)=(vs.drop i).drop 1:=by rw[List.drop_drop]
   rw[this,hvs];rfl
  obtain rfl:=hr.1
  have hp:=A0t G σ b ks (by have:=hb ks (List.mem_of_getElem? hx);have:=dY ks;omega) (fun t ht=>D2q G σ b t (by have:=hb ks (List.mem_of_getElem? hx);have:=eQ ht;omega)) (jB 7 26 r) Lk r Tk hr σ2 L1 T1 (by simp only[List.length_append]at*;omega) (by simp only[List.length_append,List.length_cons]at*;omega) hB
  have hlt':=eq_true hlt
  have hvl:i+1 <=vs.length:=by omega
  clear hA hB hr hvs hb hn n1 n2 n3 hik
  repeat'(first|(refine wn ?_;intro bx hbx;try simp only[fb]at hbx)|((refine aJ.mono hp ?_;rintro r s2 ⟨rfl,hB2,_⟩))|refine wj ?_|simp -dsimp only[↓bp,bq,br,seval,vL, *]|refine wz ?_|fail)
  all_goals exact⟨vs.length - (i+1),by omega,i+1,L1++Lk,T1++(r::Tk),L3,T3,by omega,rfl,rfl,by simp,by simp,by rw[hnx];exact hR,hB2⟩
 ·have:i=vs.length:=by omega
  subst this
  have hkl:kss.drop vs.length=[]:=List.drop_eq_nil_of_le (by omega)
  rw[hkl]at hR
  simp only[uB]at hR
  obtain⟨_,rfl,rfl⟩:=hR
  rw[List.append_nil,List.append_nil]at hA
  have hlt':=eq_false hlt
  have hp:=hA σ2 b hB
  clear hA hB n3
  repeat'(first|(refine wn ?_;intro bx hbx;try simp only[fb]at hbx)|((refine aJ.mono hp ?_;rintro r s2 ⟨rfl,hX⟩))|refine wj ?_|simp -dsimp only[↓bp,bq,br,seval,vL, *]|refine wz ?_|fail)
  all_goals exact aE _ (AS.le.refl _) ⟨rfl,by simpa using hX⟩
def rH(σ:AS):List (List aA) ->List AV ->List Nat ->Prop
 |[],vs,S=>vs=[] /\ S=[]
 |ks::rest,vs,S=>∃ v vs' S1 S2,vs=v::vs' /\ S=S1++S2 /\ iB σ false ks v S1 /\ rH σ rest vs' S2
theorem A9q{σ:AS} :∀ (kss:List (List aA)) (vs:List AV) (S:List Nat),rH σ kss vs S ->∃ Ls Ts,uB σ kss vs Ls Ts /\ S.Perm (cZ (Ls++Ts))
 | [],vs,S,h=>by
  simp only[rH]at h
  obtain⟨rfl,rfl⟩:=h
  exact⟨[],[],by simp[uB], .nil⟩
 | ks::rest,vs,S,h=>by
  simp only[rH]at h
  obtain⟨v,vs',S1,S2,rfl,rfl,h1,h2⟩:=h
  obtain⟨Lk,r,Tk,p1,q1⟩:=A5p ks (fun t _=>D2u t) v S1 h1
  obtain⟨L2,T2,p2,q2⟩:=A9q rest vs' S2 h2
  refine⟨Lk++L2,(r::Tk)++T2,by simp only[uB];exact⟨v,vs',Lk,r,Tk,L2,T2,rfl,rfl,rfl,p1,p2⟩,(q1.append q2).trans ?_⟩
  simp only[eX,List.append_assoc]
  refine List.Perm.append_left _ ?_
  rw[<- List.append_assoc,<- List.append_assoc]
  exact List.Perm.append_right _ List.perm_append_comm
theorem vA{σ:AS}{t:aA}{v:AV}{S:List Nat}{c:Nat}(h:cW σ false t v S)(hc:σ.box c=some (flat v)):iB σ false [t] (.bs c 1 7 26) (c::S):=
 .inr ⟨c,flat v,[],S,rfl,rfl,by rw[List.append_nil];exact hc,rfl,by simp only[cF];exact⟨v,[],S,[],by simp,by simp,h,rfl,rfl⟩⟩
theorem yF(kss:List (List aA))(vs:List AV)(S:List Nat)(g:Gh)(σ:AS)(h:rH σ kss vs S)(hd:S.Nodup)(hb:∀ ks,ks ∈ kss ->aV ks <=1000000000)(hn:2*cK kss.flatten+kss.length <=1000000):
  aJ Tryz.prog G 19 [.sl g vs []] σ fun r σ'=>r= .bool true /\ nM (fun c=>c ∈ S) σ σ':=by
 obtain⟨Ls,Ts,h1,h2⟩:=A9q kss vs S h
 refine aJ.mono (A3t G kss vs Ls Ts g σ h1 (h2.nodup_iff.1 hd) hb hn) ?_
 rintro r s ⟨h3,h4⟩
 exact⟨h3,h4.wk fun c hc=> (h2.mem_iff).2 hc⟩
end
set_option maxRecDepth 20000
section
def bN:=And.intro (And.intro (And.intro (And.intro @jD @iZ) (And.intro @jJ @eG)) (And.intro (And.intro @jE @dL) (And.intro @eN (And.intro @dV @eD)))) (And.intro (And.intro (And.intro @qJ @aA.flat_enc) (And.intro @aA.isv_enc @aA.fold_enc)) (And.intro (And.intro @aS @aN) (And.intro @aU (And.intro @aQ @aM))))
variable {G:Nat ->AV}
theorem B6q(t:aA)(hb:t.bulk <=1000000000):aB Tryz.prog G 16 [t.enc] (.int .i64 (size t)):=by
 have r:=gD G t hb
 have z:=A6b G t hb
 have e:=xP t
 have f:=vF t
 intro σ
 cases hr:right t with
 | true=>
  have e1:bY t=size t:=by
   unfold right at hr
   simp only[decide_eq_true_eq]at hr
   rcases e with⟨h1,h2⟩|h <;>omega
  rw[hr]at r
  rw[e1]at z
  clear e f e1
  generalize size t=y at*
  refine aJ.of_awp mixed Tryz.func16 rfl (by kernel_rfl) (by kernel_rfl) (by simp[Tryz.ntmps16]) Tryz.results16 ?_
  repeat'(first|refine xs ?_ ?_ <;>intros|(refine wn ?_;intro bx hbx;try simp only[fb]at hbx)|refine wp r ?_|refine wp z ?_|refine wj ?_|simp -dsimp only[↓bp,bq,br,seval,bN, *]|refine wz ?_|fail)
  all_goals rfl
 | false=>
  have e1:size t=0:=by
   have:=kK t
   unfold right at hr
   simp only[decide_eq_false_iff_not]at hr
   omega
  rw[hr]at r
  rw[e1]
  clear e f z
  refine aJ.of_awp mixed Tryz.func16 rfl (by kernel_rfl) (by kernel_rfl) (by simp[Tryz.ntmps16]) Tryz.results16 ?_
  repeat'(first|refine xs ?_ ?_ <;>intros|(refine wn ?_;intro bx hbx;try simp only[fb]at hbx)|refine wp r ?_|refine wj ?_|simp -dsimp only[↓bp,bq,br,seval,bN, *]|refine wz ?_|fail)
  all_goals rfl
theorem B2v{t:aA}(w:aB Tryz.prog G 7 [] (.bool true))(g:aB Tryz.prog G 6 [.sl .full [t.enc] []] (.bool true)):aB Tryz.prog G 3 [t.enc] (.bool true):=by
 intro σ
 refine aJ.of_awp mixed Tryz.func3 rfl (by kernel_rfl) (by kernel_rfl) (by simp[Tryz.ntmps3]) Tryz.results3 ?_
 repeat'(first|refine xs ?_ ?_ <;>intros|(refine wn ?_;intro bx hbx;try simp only[fb]at hbx)|refine wp g ?_|refine wp w ?_|refine wj ?_|simp -dsimp only[↓bp,bq,br,seval,bN, *]|refine wz ?_|fail)
 all_goals rfl
structure TT(G:Nat ->AV)(t:aA)(R:Bool)(N:Int)(T:List UInt8):Prop where
 w:aB Tryz.prog G 7 [] (.bool true)
 g:aB Tryz.prog G 6 [.sl .full [t.enc] []] (.bool false)
 l:∀ σ,aJ Tryz.prog G 8 [t.enc] σ fun r σ'=>∃ S,cW σ' true t r S /\ bK σ σ' S
 r1:aB Tryz.prog G 9 [t.enc] (.bool R)
 s1:aB Tryz.prog G 10 [t.enc] (.int .i64 N)
 t1:aB Tryz.prog G 11 [t.enc] (.str T)
 c:C7l G t
 k:aB Tryz.prog G 13 [t.lent,t.enc] (.bool true)
 o:C3i G t
 r2:aB Tryz.prog G 15 [t.enc] (.bool R)
 s2:aB Tryz.prog G 16 [t.enc] (.int .i64 N)
 t2:aB Tryz.prog G 17 [t.enc] (.str T)
 sm:aB Tryz.prog G 18 [t.enc,t.enc] (.bool true)
 ap:∀ (vs:List AV) (S:List Nat) (g:Gh) (σ:AS),rH σ [[t],[t]] vs S ->S.Nodup ->aJ Tryz.prog G 19 [.sl g vs []] σ fun r σ'=>r= .bool true /\ nM (fun c=>c ∈ S) σ σ'
def Two(t:aA)(σ s:AS)(x y:AV):Prop:=∃ b7 b8 l1 k1 t1 l2 k2 t2 A B,x= .ptr b7 0 /\ y= .ptr b8 0 /\ σ.le s /\ s.box b7=some [.int .u8 t.knd, .bool t.neg,l1, .str t.text, .int .i64 t.num,k1,t1] /\ s.box b8=some [.int .u8 t.knd, .bool t.neg,l2, .str t.text, .int .i64 t.num,k2,t2] /\
  cW s false t (.agg [.int .u8 t.knd, .bool t.neg,l1, .str t.text, .int .i64 t.num,k1,t1]) A /\ cW s false t (.agg [.int .u8 t.knd, .bool t.neg,l2, .str t.text, .int .i64 t.num,k2,t2]) B /\ (b7::b8::(A++B)).Nodup /\ ∀ b,b ∈ b7::b8::(A++B) ->σ.box b=none /\ ∃ z,s.box b=some z
set_option maxHeartbeats 4000000 in
theorem C7d{t:aA}{R:Bool}{N:Int}{T:List UInt8}(h:TT G t R N T):aB Tryz.prog G 3 [t.enc] (.bool true):=by
 obtain⟨w,g,l,r1,s1',t1,c,k,o,r2,s2',t2,sm,ap⟩:=h
 intro σ
 refine aJ.back (Q:=fun r=>r= .bool true) ?_
 refine aJ.of_awp mixed Tryz.func3 rfl (by kernel_rfl) (by kernel_rfl) (by simp[Tryz.ntmps3]) Tryz.results3 ?_
 repeat'(first|(refine wn ?_;intro bx hbx;try simp only[fb]at hbx)|refine wp g ?_|refine wi ?_|simp -dsimp only[↓bp,bq,br,seval,bN, *]|refine wz ?_|fail)
 rename Nat=>b0
 rename σ.fresh b0=>hb0
 obtain⟨S,hS⟩:∃ S:AS,S=σ.setBox b0 [.int .u8 t.knd, .bool t.neg,bD t.limbs, .str t.text, .int .i64 t.num,aH t.items,aH t.tail]:=⟨_,rfl⟩
 have f0:S.box b0=some [.int .u8 t.knd, .bool t.neg,bD t.limbs, .str t.text, .int .i64 t.num,aH t.items,aH t.tail]:=by rw[hS];exact AS.set_get
 have l0:σ.le S:=by rw[hS];exact(AS.le.refl σ).setBox hb0.1 _
 rw[<- hS]
 clear hS hb0
 refine aJ.mono (l S) ?_
 rintro vin s1 ⟨SI,hI,nI⟩
 obtain⟨vl,vk,vt,Sl,Sk,St,hvin,hSS,g1,g2,g3⟩:=(bX _ _ _ _ _).1 hI
 obtain⟨a1,a2,a3⟩:=g1.one
 obtain⟨a4,a5,a6⟩:=g2.one
 obtain⟨a7,a8,a9⟩:=g3.one
 obtain⟨vx,hvx⟩:∃ x,x=AV.agg [.int .u8 t.knd, .bool t.neg,vl, .str t.text, .int .i64 t.num,vk,vt]:=⟨_,rfl⟩
 clear g1 g2 g3 hSS
 have f1:=nI.le.box _ _ f0
 have l1:=l0.trans nI.le
 subst hvin
 clear l g
 repeat'(first|(refine wn ?_;intro bx hbx;try simp only[fb]at hbx)|refine wi ?_|simp -dsimp only[↓bp,bq,br,seval,bN, *]|refine wz ?_|fail)
 clear hvx
 obtain⟨S2,hS2⟩:∃ S2:AS,S2=s1.setBox bx [.int .u8 t.knd, .bool t.neg,vl, .str t.text, .int .i64 t.num,vk,vt]:=⟨_,rfl⟩
 have hne:∀ b,b ∈ SI ->b ≠ bx:=fun b hb e=>by
  obtain⟨z,hz⟩:=nI.on b hb
  rw[e,hbx.1]at hz;cases hz
 have hk2:∀ b,b ∈ SI ->S2.box b=s1.box b:=fun b hb=>by rw[hS2];simp only[AS.setBox,if_neg (hne b hb)]
 have hI2:cW S2 true t (.agg [.int .u8 t.knd, .bool t.neg,vl, .str t.text, .int .i64 t.num,vk,vt]) SI:=aK t _ SI hI hk2
 have hon:∀ b,b ∈ SI ->∃ z,S2.box b=some z:=fun b hb=>by rw[hk2 b hb];exact nI.on b hb
 have hl2:s1.le S2:=by rw[hS2];exact(AS.le.refl s1).setBox hbx.1 _
 have l2:σ.le S2:=l1.trans hl2
 have f2:S2.box bx=some [.int .u8 t.knd, .bool t.neg,vl, .str t.text, .int .i64 t.num,vk,vt]:=by rw[hS2];exact AS.set_get
 replace f1:=hl2.box _ _ f1
 have hnd:=nI.nd
 have hfr:∀ b,b ∈ SI ->σ.box b=none:=fun b hb=>gU l0 (nI.fr b hb).1
 have nb0:b0 ∉ SI:=fun h=>by rw[(nI.fr b0 h).1]at f0;cases f0
 rw[<- hS2]
 clear hS2 hk2 hne hI hl2 l1 nI hbx l0 f0
 have hl:∀ σ',S2.le σ' ->eI G σ' (.agg [.int .u8 t.knd, .bool t.neg,vl, .str t.text, .int .i64 t.num,vk,vt]) t.enc:=fun σ' h=>dT (aK t _ SI hI2 (cM h hon))
 have q1:eP Tryz.prog G 9 [(.agg [.int .u8 t.knd, .bool t.neg,vl, .str t.text, .int .i64 t.num,vk,vt])] S2 (.bool R):=fun σ' h=>r1.lend (σ:=σ') rfl (.cons (hl σ' h) .nil)
 have q2:eP Tryz.prog G 10 [(.agg [.int .u8 t.knd, .bool t.neg,vl, .str t.text, .int .i64 t.num,vk,vt])] S2 (.int .i64 N):=fun σ' h=>s1'.lend (σ:=σ') rfl (.cons (hl σ' h) .nil)
 have q3:eP Tryz.prog G 11 [(.agg [.int .u8 t.knd, .bool t.neg,vl, .str t.text, .int .i64 t.num,vk,vt])] S2 (.str T):=fun σ' h=>t1.lend (σ:=σ') rfl (.cons (hl σ' h) .nil)
 have q4:eP Tryz.prog G 13 [(.agg [.int .u8 t.knd, .bool t.neg,vl, .str t.text, .int .i64 t.num,vk,vt]),t.enc] S2 (.bool true):=fun σ' h=>k.lend (σ:=σ') rfl (.cons (rA (aK t _ SI hI2 (cM h hon))) (.cons (eI.id _) .nil))
 have q5:∀ s,S2.le s ->aJ Tryz.prog G 12 [(.agg [.int .u8 t.knd, .bool t.neg,vl, .str t.text, .int .i64 t.num,vk,vt])] s fun r s'=>∃ S',cW s' false t r S' /\ bK s s' S':=fun s h=>A9r (c s.shut) (.cons (hl s h) .nil)
 clear hl r1 s1' t1 k c
 refine A4m (by kernel_rfl) ?_
 repeat'(first|(refine wn ?_;intro bx hbx;try simp only[fb]at hbx)|(refine eP.head q1 (AS.le.refl _) ?_)|(refine eP.head q2 (AS.le.refl _) ?_)|(refine eP.head q3 (AS.le.refl _) ?_)|refine wi ?_|simp -dsimp only[↓bp,bq,br,seval,bN, *]|refine wz ?_|fail)
 clear q1 q2 q3
 refine rP mixed (fun ev s=>Two t S2 s (ev 7) (ev 8)) ?_ ?_
 ·refine uS 6 (fun k=> [21,22,23,24,7,8].getD k 0) (fun k=>match k with|0=>wQ (.agg [.int .u8 t.knd, .bool t.neg,vl, .str t.text, .int .i64 t.num,vk,vt])|1=>A8j t|2=>wQ (.agg [.int .u8 t.knd, .bool t.neg,vl, .str t.text, .int .i64 t.num,vk,vt])|3=>A8j t|_=>isB z7) (by decide+kernel) (by decide) ?_ rfl rfl ?_ ?_
  ·intro k
   match k with
   |0=>exact lD _
   |1=>exact wB t
   |2=>exact lD _
   |3=>exact wB t
   |k+4=>exact rR _
  ·refine⟨⟨rfl,fun ev s hs hw hf=> ?_⟩,⟨rfl,fun ev s hs hw hf=> ?_⟩,⟨rfl,fun ev s hs hw hf=> ?_⟩,⟨rfl,fun ev s hs hw hf=> ?_⟩,⟨rfl,fun ev s hs hw hf=> ?_⟩,⟨rfl,fun ev s hs hw hf=> ?_⟩,trivial⟩
   ·have h3:=hf 3 (by decide)
    have hb:=hs.box _ _ f2
    simp -dsimp only[↓bp,bq,br,seval,bN]at h3
    simp -dsimp only[↓bp,bq,br,seval,bN,h3,hb]
    exact⟨[],bK.refl s,rfl,rfl⟩
   ·obtain⟨A,h21,_⟩:=hw 0 (by decide+kernel)
    replace h21:ev 21=(.agg [.int .u8 t.knd, .bool t.neg,vl, .str t.text, .int .i64 t.num,vk,vt]):=h21
    simp -dsimp only[↓bp,bq,br,seval,bN,h21]
    refine aJ.mono (q5 s hs) ?_
    rintro r s' ⟨S',a,b⟩
    exact⟨S',b,a⟩
   ·have h3:=hf 3 (by decide)
    have hb:=hs.box _ _ f2
    simp -dsimp only[↓bp,bq,br,seval,bN]at h3
    simp -dsimp only[↓bp,bq,br,seval,bN,h3,hb]
    exact⟨[],bK.refl s,rfl,rfl⟩
   ·obtain⟨A,h23,_⟩:=hw 2 (by decide+kernel)
    replace h23:ev 23=(.agg [.int .u8 t.knd, .bool t.neg,vl, .str t.text, .int .i64 t.num,vk,vt]):=h23
    simp -dsimp only[↓bp,bq,br,seval,bN,h23]
    refine aJ.mono (q5 s hs) ?_
    rintro r s' ⟨S',a,b⟩
    exact⟨S',b,a⟩
   ·simp -dsimp only[↓bp,bq,br,seval,bN]
    refine aY fun b hb=> ⟨[b],bK.one hb _,b,rfl,rfl,AS.set_get⟩
   ·simp -dsimp only[↓bp,bq,br,seval,bN]
    refine aY fun b hb=> ⟨[b],bK.one hb _,b,rfl,rfl,AS.set_get⟩
  ·intro F ev s hF hQ hf
   have h1:cW s false t (ev 22) (F 1):=hQ 1 (by omega)
   have h2:cW s false t (ev 24) (F 3):=hQ 3 (by omega)
   obtain⟨b7,h7,e7,n7⟩:isB z7 s (ev 7) (F 4):=hQ 4 (by omega)
   obtain⟨b8,h8,e8,n8⟩:isB z7 s (ev 8) (F 5):=hQ 5 (by omega)
   obtain⟨l1,k1,t1,_,_,_,v1,_,g1,g2,g3⟩:=(bX _ _ _ _ _).1 h1
   obtain⟨l2',k2,t2',_,_,_,v2,_,g4,g5,g6⟩:=(bX _ _ _ _ _).1 h2
   obtain⟨u1,u2,u3⟩:=g1.one
   obtain⟨u4,u5,u6⟩:=g2.one
   obtain⟨u7,u8,u9⟩:=g3.one
   obtain⟨w1,w2,w3⟩:=g4.one
   obtain⟨w4,w5,w6⟩:=g5.one
   obtain⟨w7,w8,w9⟩:=g6.one
   rw[v1]at h1
   rw[v2]at h2
   clear g1 g2 g3 g4 g5 g6 q4 q5 hf hQ
   have h78:b7 ≠ b8:=fun e=>by have:=hF.dj 4 5 b7 (by rw[e7];simp) (by rw[e8,e];simp);omega
   have hfs:=hF
   obtain⟨hle,hFr,hNd,hDj,hOn⟩:=hF
   unfold z7 at n7 n8
   have h87:(b8=b7)=False:=eq_false (Ne.symm h78)
   have i4:∀ {b},b=b7 ->b ∈ F 4:=fun h=>by rw[e7,h];simp
   have i5:∀ {b},b=b8 ->b ∈ F 5:=fun h=>by rw[e8,h];simp
   have hk:∀ C D b,(b ∈ F 1 \/ b ∈ F 3) -> ((s.setBox b7 C).setBox b8 D).box b=s.box b:=fun C D b hb=>by
    have n7:b ≠ b7:=fun e=>by rcases hb with hb|hb <;> (have:=hDj _ _ b hb (i4 e);omega)
    have n8:b ≠ b8:=fun e=>by rcases hb with hb|hb <;> (have:=hDj _ _ b hb (i5 e);omega)
    simp only[AS.setBox,if_neg n7,if_neg n8]
   repeat'(first|(refine wn ?_;intro bx hbx;try simp only[fb]at hbx)|refine wi ?_|simp -dsimp only[↓bp,bq,br,seval,bN, *]|refine wz ?_|fail)
   unfold Two
   refine⟨b7,b8,l1,k1,t1,l2',k2,t2',F 1,F 3,rfl,rfl,(hle.setBox (hFr 4 b7 (i4 rfl)).1 _).setBox (hFr 5 b8 (i5 rfl)).1 _,by simp[AS.setBox,h78],AS.set_get,aK t _ _ h1 fun b hb=>hk _ _ b (.inl hb),aK t _ _ h2 fun b hb=>hk _ _ b (.inr hb),?_,fun b hb=> ?_⟩
   ·refine List.nodup_cons.2 ⟨fun h=> ?_,List.nodup_cons.2 ⟨fun h=> ?_,List.nodup_append.2 ⟨hNd 1,hNd 3,fun a ha b hb e=> ?_⟩⟩⟩
    ·rcases List.mem_cons.1 h with h|h
     ·exact h78 h
     rcases List.mem_append.1 h with h|h <;> (have:=hDj _ _ b7 h (i4 rfl);omega)
    ·rcases List.mem_append.1 h with h|h <;> (have:=hDj _ _ b8 h (i5 rfl);omega)
    ·subst e;have:=hDj 1 3 a ha hb;omega
   ·rcases List.mem_cons.1 hb with rfl|hb
    ·exact⟨(hFr 4 b (i4 rfl)).1,_,by simp only[AS.setBox,if_neg h78,if_true];rfl⟩
    rcases List.mem_cons.1 hb with rfl|hb
    ·exact⟨(hFr 5 b (i5 rfl)).1,_,AS.set_get⟩
    rcases List.mem_append.1 hb with hb|hb
    ·exact⟨(hFr 1 b hb).1,by rw[hk _ _ b (.inl hb)];exact hOn 1 b hb⟩
    ·exact⟨(hFr 3 b hb).1,by rw[hk _ _ b (.inr hb)];exact hOn 3 b hb⟩
 intro v s8 h2
 obtain⟨b7,b8,l1,k1,t1,l2',k2,t2',A,B,h7,h8,hl8,n7,n8,oA,oB,hN,hF⟩:=h2
 simp -dsimp only[↓bp,bq,br,seval,bN]at h7 h8
 have f3:=hl8.box _ _ f2
 have f4:=hl8.box _ _ f1
 have hI8:=aK t _ SI hI2 (cM hl8 hon)
 have ho:=o s8 _ SI hI8 hnd
 have hns:∀ b,b ∈ b7::b8::(A++B) ->b ∉ SI:=fun b hb h=>by
  obtain⟨z,hz⟩:=hon b h
  rw[(hF b hb).1]at hz;cases hz
 clear o q5
 repeat'(first|(refine wn ?_;intro bx hbx;try simp only[fb]at hbx)|refine eP.use (q4) (by repeat' first|exact lr _|assumption|refine ls ?_ ?_|refine lt ?_ ?_|simp only[*];done|simp only[fb, *,not_false_eq_true,and_self];done|exact lf ‹_› (by simp only[*])) ?_|refine wi ?_|simp -dsimp only[↓bp,bq,br,seval,bN, *]|refine wz ?_|fail)
 refine aJ.mono ho ?_
 rintro r s9 ⟨rfl,hX⟩
 replace n7:=hX.box _ _ (hns b7 (by simp)) n7
 replace n8:=hX.box _ _ (hns b8 (by simp)) n8
 replace f4:=hX.box _ _ nb0 f4
 have kX:∀ b,b ∈ A++B ->s9.box b=s8.box b:=fun b hb=>by
  obtain⟨_,z,hz⟩:=hF b (List.mem_cons_of_mem _ (List.mem_cons_of_mem _ hb))
  rw[hz]
  exact hX.box _ _ (hns b (List.mem_cons_of_mem _ (List.mem_cons_of_mem _ hb))) hz
 replace oA:=aK t _ A oA fun b hb=>kX b (List.mem_append_left _ hb)
 replace oB:=aK t _ B oB fun b hb=>kX b (List.mem_append_right _ hb)
 have hF9:∀ b,b ∈ b7::b8::(A++B) ->∃ z,s9.box b=some z:=fun b hb=>by
  obtain⟨_,z,hz⟩:=hF b hb
  exact⟨z,hX.box _ _ (hns b hb) hz⟩
 have l9:σ.le s9:=hX.le_of (l2.trans hl8) hfr
 have hF0:∀ b,b ∈ b7::b8::(A++B) ->σ.box b=none:=fun b hb=>l2.noBox (hF b hb).1
 have q6:eP Tryz.prog G 18 [.agg [.int .u8 t.knd, .bool t.neg,l1, .str t.text, .int .i64 t.num,k1,t1],t.enc] s9 (.bool true):=fun σ' h=>sm.lend (σ:=σ') rfl (.cons (dT (aK t _ A oA (cM h fun b hb=>hF9 b (by simp[hb])))) (.cons (eI.id _) .nil))
 clear ho hI8 hI2 hon hX hns q4 kX hnd f2 f3 f1 hl8 l2 hfr nb0 sm hF
 repeat'(first|(refine wn ?_;intro bx hbx;try simp only[fb]at hbx)|refine wp r2 ?_|refine aB.use (s2') ?_|refine aB.head (s2') ?_|refine wp t2 ?_|refine eP.use (q6) (by repeat' first|exact lr _|assumption|refine ls ?_ ?_|refine lt ?_ ?_|simp only[*];done|simp only[fb, *,not_false_eq_true,and_self];done|exact lf ‹_› (by simp only[*])) ?_|((refine A4b tW rfl rfl (by omega) (fun cc hcc=> ?_);(try have ncc:=fresh_ne n8 hcc)))|refine wi ?_|simp -dsimp only[↓bp,bq,br,seval,bN, *]|refine wz ?_|fail)
 rename_i c2 hc2
 simp only[fb]at hcc
 obtain⟨hcc,e2,e1⟩:=hcc
 obtain⟨S10,hS10⟩:∃ S10:AS,S10=(s9.setBox c2 (flat (.agg [.int .u8 t.knd, .bool t.neg,l1, .str t.text, .int .i64 t.num,k1,t1]))).setBox cc (flat (.agg [.int .u8 t.knd, .bool t.neg,l2', .str t.text, .int .i64 t.num,k2,t2'])):=⟨_,rfl⟩
 have l10:s9.le S10:=by rw[hS10];exact((AS.le.refl s9).setBox hc2.1 _).setBox hcc.1 _
 have hin:∀ b,b ∈ b7::b8::(A++B) ->b ≠ c2 /\ b ≠ cc:=fun b hb=>by
  obtain⟨z,hz⟩:=hF9 b hb
  exact⟨fun e=> (by rw[e,hc2.1]at hz;cases hz),fun e=> (by rw[e,hcc.1]at hz;cases hz)⟩
 have hkA:∀ b,b ∈ A++B ->S10.box b=s9.box b:=fun b hb=>by
  obtain⟨h1,h2⟩:=hin b (List.mem_cons_of_mem _ (List.mem_cons_of_mem _ hb))
  rw[hS10];simp only[AS.setBox,if_neg h1,if_neg h2]
 have w1:S10.box c2=some (flat (.agg [.int .u8 t.knd, .bool t.neg,l1, .str t.text, .int .i64 t.num,k1,t1])):=by rw[hS10];simp only[AS.setBox,if_neg e1,if_true]
 have w2:S10.box cc=some (flat (.agg [.int .u8 t.knd, .bool t.neg,l2', .str t.text, .int .i64 t.num,k2,t2'])):=by rw[hS10];exact AS.set_get
 rw[<- hS10]
 obtain⟨_,hN⟩:=List.nodup_cons.1 hN
 obtain⟨_,hN⟩:=List.nodup_cons.1 hN
 obtain⟨nA,nB,nAB⟩:=List.nodup_append.1 hN
 have hO:rH S10 [[t],[t]] [.bs c2 1 7 26, .bs cc 1 7 26] ((c2::A)++((cc::B)++[])):=by
  simp only[rH]
  exact⟨_,_,c2::A,(cc::B)++[],rfl,rfl,vA (aK t _ A oA fun b hb=>hkA b (List.mem_append_left _ hb)) w1,_,[],cc::B,[],rfl,rfl,vA (aK t _ B oB fun b hb=>hkA b (List.mem_append_right _ hb)) w2,rfl,rfl⟩
 have hnd:((c2::A)++((cc::B)++[])).Nodup:=by
  rw[List.append_nil]
  refine List.nodup_append.2 ⟨List.nodup_cons.2 ⟨fun h=> (hin c2 (by simp[h])).1 rfl,nA⟩,List.nodup_cons.2 ⟨fun h=> (hin cc (by simp[h])).2 rfl,nB⟩,fun a ha b hb e=> ?_⟩
  subst e
  rcases List.mem_cons.1 ha with rfl|ha <;>rcases List.mem_cons.1 hb with hb|hb
  ·exact e1 hb
  ·exact(hin a (by simp[hb])).1 rfl
  ·exact(hin a (by simp[ha])).2 hb
  ·exact nAB a ha a hb rfl
 have hp:=ap _ _ .full S10 hO hnd
 have hfS:∀ b,b ∈ (c2::A)++((cc::B)++[]) ->σ.box b=none:=fun b hb=>by
  rw[List.append_nil]at hb
  rcases List.mem_append.1 hb with hb|hb <;>rcases List.mem_cons.1 hb with rfl|hb
  ·exact l9.noBox hc2.1
  ·exact hF0 b (by simp[hb])
  ·exact l9.noBox hcc.1
  ·exact hF0 b (by simp[hb])
 have l11:=l9.trans l10
 clear hS10 l10 hin hkA w1 w2 hO hnd ap hF0 hF9 oA oB q6 l9 nA nB nAB hN
 refine aJ.mono hp ?_
 rintro r s11 ⟨rfl,hX⟩
 have l12:=hX.le_of l11 hfS
 clear hp hX hfS l11
 repeat'(first|(refine wn ?_;intro bx hbx;try simp only[fb]at hbx)|refine wp w ?_|refine wi ?_|simp -dsimp only[↓bp,bq,br,seval,bN, *]|refine wz ?_|fail)
 all_goals exact aE _ (AS.le.refl _) ⟨rfl,l12⟩
theorem A6p(hg:A1j G)(t:aA)(ht:t.bulk <=2000000):aB Tryz.prog G 3 [t.enc] (.bool true):=by
 have w:=sO hg
 have g:=(xG G [t] (by simp only[aV];omega)).lessArgs (.cons (kC [t]) .nil)
 simp only[List.map_cons,List.map_nil]at g
 cases hgr:A1y [t]with
 |true=>rw[hgr]at g;exact B2v w g
 | false=>
  rw[hgr]at g
  have hn:=A1z hgr
  have sm:=sA G t t (by omega) (by omega)
  rw[(nH t t).2 rfl]at sm
  exact C7d (R:=right t) (N:=size t) (T:=text t) {
   w:=w,g:=g
   l:=fun σ=>A5e G t (by omega) σ
   r1:=cP G t (by omega)
   s1:=mX G t (by omega)
   t1:=pB hg t ht
   c:=pN G t (by omega)
   k:=rS G t (by omega)
   o:=A5o G t (by omega)
   r2:=gD G t (by omega)
   s2:=B6q t (by omega)
   t2:=A6c G t ht
   sm:=sm
   ap:=fun vs S g σ h hd=>yF G [[t],[t]] vs S g σ h hd (fun ks hk=>by
    simp at hk;subst hk;simp only[aV];omega) (by simp only[List.flatten_cons,List.flatten_nil,cK,List.cons_append,List.nil_append,List.length_cons,List.length_nil]at*;omega)}
end
set_option maxRecDepth 20000
section
def lQ:=And.intro (And.intro (And.intro (And.intro @jD (And.intro @iZ @jJ)) (And.intro (And.intro @eG @qI) (And.intro @tf2 @lU))) (And.intro (And.intro (And.intro @jE @dL) (And.intro @eN @dV)) (And.intro (And.intro @eD @qJ) (And.intro @aA.flat_enc @aA.isv_enc)))) (And.intro (And.intro (And.intro (And.intro @aA.fold_enc @aS) (And.intro @aN @aU)) (And.intro (And.intro @bW @bG) (And.intro @aQ @aM))) (And.intro (And.intro (And.intro @aZ @cH) (And.intro @bQ @bB)) (And.intro (And.intro @gP @iJ) (And.intro @gO @gQ))))
variable (G:Nat ->AV)
theorem A5z(t:aA)(rt:aB Tryz.prog G 15 [t.enc] (.bool (right t)))(hb: ¬ (right t=true /\ t.knd=7 /\ t.items ≠ [])):aB Tryz.prog G 23 [t.enc] (.tup [cN.enc,cN.enc, .bool false]):=by
 refine aB.of_le fun σ=> ?_
 cases et:right t with
 | false=>
  rw[et]at rt
  clear hb
  refine aJ.of_awp mixed Tryz.func23 rfl (by kernel_rfl) (by kernel_rfl) (by simp[Tryz.ntmps23]) Tryz.results23 ?_
  repeat'(first|refine xs ?_ ?_ <;>intros|(refine wn ?_;intro bx hbx;try simp only[fb]at hbx)|refine wp rt ?_|refine wj ?_|simp -dsimp only[↓bp,bq,br,seval,lQ, *]|refine wz ?_|fail)
  exact aE σ (by repeat' first|exact lr _|assumption|refine ls ?_ ?_|refine lt ?_ ?_|simp only[*];done|simp only[fb, *,not_false_eq_true,and_self];done|exact lf ‹_› (by simp only[*])) ⟨Le.tup (.cons zero_le (.cons zero_le (.cons (Le.refl _) .nil))),rfl⟩
 | true=>
  rw[et]at rt
  by_cases h7:t.knd=7
  ·have hl:(t.items.length:Int)=0:=by
    by_cases hi:t.items=[]
    ·rw[hi];rfl
    ·exact absurd ⟨et,h7,hi⟩ hb
   have k7:=eq_true h7
   clear hb h7
   refine aJ.of_awp mixed Tryz.func23 rfl (by kernel_rfl) (by kernel_rfl) (by simp[Tryz.ntmps23]) Tryz.results23 ?_
   repeat'(first|refine xs ?_ ?_ <;>intros|(refine wn ?_;intro bx hbx;try simp only[fb]at hbx)|refine wp rt ?_|refine wj ?_|simp -dsimp only[↓bp,bq,br,seval,lQ, *]|refine wz ?_|fail)
   exact aE σ (by repeat' first|exact lr _|assumption|refine ls ?_ ?_|refine lt ?_ ?_|simp only[*];done|simp only[fb, *,not_false_eq_true,and_self];done|exact lf ‹_› (by simp only[*])) ⟨Le.tup (.cons zero_le (.cons zero_le (.cons (Le.refl _) .nil))),rfl⟩
  ·have k7:=eq_false h7
   clear hb h7
   refine aJ.of_awp mixed Tryz.func23 rfl (by kernel_rfl) (by kernel_rfl) (by simp[Tryz.ntmps23]) Tryz.results23 ?_
   repeat'(first|refine xs ?_ ?_ <;>intros|(refine wn ?_;intro bx hbx;try simp only[fb]at hbx)|refine wp rt ?_|refine wj ?_|simp -dsimp only[↓bp,bq,br,seval,lQ, *]|refine wz ?_|fail)
   exact aE σ (by repeat' first|exact lr _|assumption|refine ls ?_ ?_|refine lt ?_ ?_|simp only[*];done|simp only[fb, *,not_false_eq_true,and_self];done|exact lf ‹_› (by simp only[*])) ⟨Le.tup (.cons zero_le (.cons zero_le (.cons (Le.refl _) .nil))),rfl⟩
set_option maxHeartbeats 2000000 in
theorem A6a(t x y:aA)(k7:(t.knd=7)=True)(hl0:(t.items.length:Int)=1)(hl1:(t.tail.length:Int)=1)(hx:t.items[0]? =some x)(hy:t.tail[0]? =some y)(rt:aB Tryz.prog G 15 [t.enc] (.bool true))(cx:aB Tryz.prog G 63 [x.enc] x.enc)(cy:aB Tryz.prog G 63 [y.enc] y.enc):aB Tryz.prog G 23 [t.enc] (.tup [x.enc,y.enc, .bool true]):=by
 refine aB.of_le fun σ=> ?_
 refine aJ.of_awp mixed Tryz.func23 rfl (by kernel_rfl) (by kernel_rfl) (by simp[Tryz.ntmps23]) Tryz.results23 ?_
 repeat'(first|(refine wn ?_;intro bx hbx;try simp only[fb]at hbx)|refine wp rt ?_|refine wp cx ?_|refine wi ?_|simp -dsimp only[↓bp,bq,br,seval,lQ, *]|refine wz ?_|fail)
 rename_i b1 hb1 b2 hb2 b3 hb3
 obtain⟨⟨⟨y4,e1,e2⟩,e3,e4⟩,e5,e6⟩:=hbx
 obtain⟨⟨y3,e7,e8⟩,e9,e10⟩:=hb3
 obtain⟨y2,e11,e12⟩:=hb2
 obtain⟨S0,hS0⟩:∃ S0:AS,S0=(((σ.setBox b1 [.int .u8 t.knd, .bool t.neg,bD t.limbs, .str t.text, .int .i64 t.num,aH t.items,aH t.tail]).setBox b2 [.int .u8 0, .bool false, .nil, .str [], .int .i64 0, .nil, .nil]).setBox b3 [.int .u8 0, .bool false, .nil, .str [], .int .i64 0, .nil, .nil]).setBox bx [.int .u8 x.knd, .bool x.neg,bD x.limbs, .str x.text, .int .i64 x.num,aH x.items,aH x.tail]:=⟨_,rfl⟩
 have l0:σ.le S0:=by rw[hS0];exact((((AS.le.refl σ).setBox hb1.1 _).setBox y2.1 _).setBox y3.1 _).setBox y4.1 _
 have f1:S0.box b1=some [.int .u8 t.knd, .bool t.neg,bD t.limbs, .str t.text, .int .i64 t.num,aH t.items,aH t.tail]:=by rw[hS0];simp only[AS.setBox,if_neg e2,if_neg e8,if_neg e12,if_true]
 have f2:S0.box b2=some [.int .u8 0, .bool false, .nil, .str [], .int .i64 0, .nil, .nil]:=by rw[hS0];simp only[AS.setBox,if_neg e4,if_neg e10,if_true]
 have f3:S0.box b3=some [.int .u8 0, .bool false, .nil, .str [], .int .i64 0, .nil, .nil]:=by rw[hS0];simp only[AS.setBox,if_neg e6,if_true]
 have f4:S0.box bx=some [.int .u8 x.knd, .bool x.neg,bD x.limbs, .str x.text, .int .i64 x.num,aH x.items,aH x.tail]:=by rw[hS0];exact AS.set_get
 have m1:(b2=bx)=False:=eq_false e4
 have m2:(bx=b2)=False:=eq_false e3
 have m3:(b2=b3)=False:=eq_false e10
 have m4:(b3=b2)=False:=eq_false e9
 have m5:(b1=b2)=False:=eq_false e12
 have m6:(b3=bx)=False:=eq_false e6
 have m7:(bx=b3)=False:=eq_false e5
 have m8:(b1=b3)=False:=eq_false e8
 have z2:=y2.1
 have z3:=y3.1
 rw[<- hS0]
 clear hS0 e1 e2 e3 e4 e5 e6 e7 e8 e9 e10 e11 e12 y2 y3 y4 hb1 rt cx
 refine uQ 7 b2 (by decide+kernel) f2 ?_
 repeat'(first|(refine wn ?_;intro bx hbx;try simp only[fb]at hbx)|refine wp cy ?_|refine wi ?_|simp -dsimp only[↓bp,bq,br,seval,lQ, *]|refine wz ?_|fail)
 exact aE σ ((l0.setBox z2 _).setBox z3 _) ⟨Le.refl _,rfl⟩
set_option maxHeartbeats 2000000 in
theorem tS(t x:aA)(q:List aA)(k7:(t.knd=7)=True)(hl0: ¬ (t.items.length:Int)=0)(hl1:((t.items.length:Int)=1 /\ (t.tail.length:Int)=0) \/ ¬ (t.items.length:Int)=1)(hl2:1 <=t.items.length)(hx:t.items[0]? =some x)(hdr:(t.items.take t.items.length).drop 1=q)(hdr2:t.items.drop 1=q)(rt:aB Tryz.prog G 15 [t.enc] (.bool true))(cx:aB Tryz.prog G 63 [x.enc] x.enc)(c1:aB Tryz.prog G 64 [aH q] (aH q))(c2:aB Tryz.prog G 64 [aH t.tail] (aH t.tail)):aB Tryz.prog G 23 [t.enc] (.tup [x.enc,(bA q t.tail).enc, .bool true]):=by
 refine aB.of_le fun σ=> ?_
 rcases hl1 with⟨h1,h2⟩|h1
 ·rw[h1]at hl0
  refine aJ.of_awp mixed Tryz.func23 rfl (by kernel_rfl) (by kernel_rfl) (by simp[Tryz.ntmps23]) Tryz.results23 ?_
  repeat'(first|(refine wn ?_;intro bx hbx;try simp only[fb]at hbx)|refine wp rt ?_|refine wp cx ?_|refine wi ?_|simp -dsimp only[↓bp,bq,br,seval,lQ, *]|refine wz ?_|fail)
  rename_i b1 hb1 b2 hb2 b3 hb3
  obtain⟨⟨⟨y4,e1,e2⟩,e3,e4⟩,e5,e6⟩:=hbx
  obtain⟨⟨y3,e7,e8⟩,e9,e10⟩:=hb3
  obtain⟨y2,e11,e12⟩:=hb2
  obtain⟨S0,hS0⟩:∃ S0:AS,S0=(((σ.setBox b1 [.int .u8 t.knd, .bool t.neg,bD t.limbs, .str t.text, .int .i64 t.num,aH t.items,aH t.tail]).setBox b2 [.int .u8 0, .bool false, .nil, .str [], .int .i64 0, .nil, .nil]).setBox b3 [.int .u8 0, .bool false, .nil, .str [], .int .i64 0, .nil, .nil]).setBox bx [.int .u8 x.knd, .bool x.neg,bD x.limbs, .str x.text, .int .i64 x.num,aH x.items,aH x.tail]:=⟨_,rfl⟩
  have l0:σ.le S0:=by rw[hS0];exact((((AS.le.refl σ).setBox hb1.1 _).setBox y2.1 _).setBox y3.1 _).setBox y4.1 _
  have f1:S0.box b1=some [.int .u8 t.knd, .bool t.neg,bD t.limbs, .str t.text, .int .i64 t.num,aH t.items,aH t.tail]:=by rw[hS0];simp only[AS.setBox,if_neg e2,if_neg e8,if_neg e12,if_true]
  have f2:S0.box b2=some [.int .u8 0, .bool false, .nil, .str [], .int .i64 0, .nil, .nil]:=by rw[hS0];simp only[AS.setBox,if_neg e4,if_neg e10,if_true]
  have f3:S0.box b3=some [.int .u8 0, .bool false, .nil, .str [], .int .i64 0, .nil, .nil]:=by rw[hS0];simp only[AS.setBox,if_neg e6,if_true]
  have f4:S0.box bx=some [.int .u8 x.knd, .bool x.neg,bD x.limbs, .str x.text, .int .i64 x.num,aH x.items,aH x.tail]:=by rw[hS0];exact AS.set_get
  have m1:(b2=bx)=False:=eq_false e4
  have m2:(bx=b2)=False:=eq_false e3
  have m3:(b2=b3)=False:=eq_false e10
  have m4:(b3=b2)=False:=eq_false e9
  have m5:(b1=b2)=False:=eq_false e12
  have m6:(b3=bx)=False:=eq_false e6
  have m7:(bx=b3)=False:=eq_false e5
  have m8:(b1=b3)=False:=eq_false e8
  have z2:=y2.1
  have z3:=y3.1
  rw[<- hS0]
  clear hS0 e1 e2 e3 e4 e5 e6 e7 e8 e9 e10 e11 e12 y2 y3 y4 hb1 rt cx
  refine uQ 10 b2 (by decide+kernel) f2 ?_
  repeat'(first|(refine wn ?_;intro bx hbx;try simp only[fb]at hbx)|refine wp c1 ?_|refine wp c2 ?_|refine wi ?_|simp -dsimp only[↓bp,bq,br,seval,lQ,zG, *]|refine wz ?_|fail)
  exact aE σ ((l0.setBox z2 _).setBox z3 _) ⟨Le.tup (.cons (Le.refl _) (.cons (rU _ _) (.cons (Le.refl _) .nil))),rfl⟩
 ·refine aJ.of_awp mixed Tryz.func23 rfl (by kernel_rfl) (by kernel_rfl) (by simp[Tryz.ntmps23]) Tryz.results23 ?_
  repeat'(first|(refine wn ?_;intro bx hbx;try simp only[fb]at hbx)|refine wp rt ?_|refine wp cx ?_|refine wi ?_|simp -dsimp only[↓bp,bq,br,seval,lQ, *]|refine wz ?_|fail)
  rename_i b1 hb1 b2 hb2 b3 hb3
  obtain⟨⟨⟨y4,e1,e2⟩,e3,e4⟩,e5,e6⟩:=hbx
  obtain⟨⟨y3,e7,e8⟩,e9,e10⟩:=hb3
  obtain⟨y2,e11,e12⟩:=hb2
  obtain⟨S0,hS0⟩:∃ S0:AS,S0=(((σ.setBox b1 [.int .u8 t.knd, .bool t.neg,bD t.limbs, .str t.text, .int .i64 t.num,aH t.items,aH t.tail]).setBox b2 [.int .u8 0, .bool false, .nil, .str [], .int .i64 0, .nil, .nil]).setBox b3 [.int .u8 0, .bool false, .nil, .str [], .int .i64 0, .nil, .nil]).setBox bx [.int .u8 x.knd, .bool x.neg,bD x.limbs, .str x.text, .int .i64 x.num,aH x.items,aH x.tail]:=⟨_,rfl⟩
  have l0:σ.le S0:=by rw[hS0];exact((((AS.le.refl σ).setBox hb1.1 _).setBox y2.1 _).setBox y3.1 _).setBox y4.1 _
  have f1:S0.box b1=some [.int .u8 t.knd, .bool t.neg,bD t.limbs, .str t.text, .int .i64 t.num,aH t.items,aH t.tail]:=by rw[hS0];simp only[AS.setBox,if_neg e2,if_neg e8,if_neg e12,if_true]
  have f2:S0.box b2=some [.int .u8 0, .bool false, .nil, .str [], .int .i64 0, .nil, .nil]:=by rw[hS0];simp only[AS.setBox,if_neg e4,if_neg e10,if_true]
  have f3:S0.box b3=some [.int .u8 0, .bool false, .nil, .str [], .int .i64 0, .nil, .nil]:=by rw[hS0];simp only[AS.setBox,if_neg e6,if_true]
  have f4:S0.box bx=some [.int .u8 x.knd, .bool x.neg,bD x.limbs, .str x.text, .int .i64 x.num,aH x.items,aH x.tail]:=by rw[hS0];exact AS.set_get
  have m1:(b2=bx)=False:=eq_false e4
  have m2:(bx=b2)=False:=eq_false e3
  have m3:(b2=b3)=False:=eq_false e10
  have m4:(b3=b2)=False:=eq_false e9
  have m5:(b1=b2)=False:=eq_false e12
  have m6:(b3=bx)=False:=eq_false e6
  have m7:(bx=b3)=False:=eq_false e5
  have m8:(b1=b3)=False:=eq_false e8
  have z2:=y2.1
  have z3:=y3.1
  rw[<- hS0]
  clear hS0 e1 e2 e3 e4 e5 e6 e7 e8 e9 e10 e11 e12 y2 y3 y4 hb1 rt cx
  refine uQ 10 b2 (by decide+kernel) f2 ?_
  repeat'(first|(refine wn ?_;intro bx hbx;try simp only[fb]at hbx)|refine wp c1 ?_|refine wp c2 ?_|refine wi ?_|simp -dsimp only[↓bp,bq,br,seval,lQ,zG, *]|refine wz ?_|fail)
  exact aE σ ((l0.setBox z2 _).setBox z3 _) ⟨Le.tup (.cons (Le.refl _) (.cons (rU _ _) (.cons (Le.refl _) .nil))),rfl⟩
theorem B6s(t:aA)(hb:t.bulk <=300000000):aB Tryz.prog G 23 [t.enc] (.tup [(dM t).1.enc,(dM t).2.1.enc, .bool (dM t).2.2]):=by
 have rt:=gD G t (by omega)
 have hbt:=t.bulk_eq
 by_cases hc:right t=true /\ t.knd=7 /\ t.items ≠ []
 ·obtain⟨et,h7,hne⟩:=hc
  have k7:=eq_true h7
  rw[et]at rt
  cases hi:t.items with
  |nil=>exact absurd hi hne
  | cons x l=>
   have hx:t.items[0]? =some x:=by rw[hi];rfl
   have hbx:x.bulk <=aV t.items:=eQ (by rw[hi];simp)
   have cx:=qE G x (by omega)
   have hl0: ¬ (t.items.length:Int)=0:=by rw[hi];simp;omega
   have c2:=rZ G t.tail (by omega)
   cases l with
   | nil=>
    have hl1:(t.items.length:Int)=1:=by rw[hi];rfl
    have e:dM t=(x,cR t,true):=by unfold dM split;rw[if_pos ⟨et,h7⟩,hi]
    rw[e]
    cases htl:t.tail with
    | nil=>
     have e2:cR t=bA [] t.tail:=by unfold cR;rw[htl]
     rw[e2]
     exact tS G t x [] k7 hl0 (.inl ⟨hl1,by rw[htl];rfl⟩) (by omega) hx (by rw[List.take_length,hi];rfl) (by rw[hi];rfl) rt cx (rZ G [] (by simp[aV])) c2
    | cons y r=>
     have hr1:r=[]:=by
      have:=((jV et).list h7).1
      rw[htl]at this
      exact List.eq_nil_of_length_eq_zero (by simpa using this)
     have e2:cR t=y:=by unfold cR;rw[htl]
     rw[e2]
     exact A6a G t x y k7 hl1 (by rw[htl,hr1];rfl) hx (by rw[htl];rfl) rt cx (qE G y (by have:=eQ (show y ∈ t.tail by rw[htl];simp);omega))
   | cons y r=>
    have e:dM t=(x,bA (y::r) t.tail,true):=by unfold dM split;rw[if_pos ⟨et,h7⟩,hi]
    rw[e]
    have hl1: ¬ (t.items.length:Int)=1:=by rw[hi];simp;omega
    have hbb:aV t.items=x.bulk+aV (y::r):=by rw[hi];rfl
    exact tS G t x (y::r) k7 hl0 (.inr hl1) (by omega) hx (by rw[List.take_length,hi];rfl) (by rw[hi];rfl) rt cx (rZ G (y::r) (by omega)) c2
 ·have e:dM t=(cN,cN,false):=by
   unfold dM split
   split
   ·rename_i h r he
    split at he
    ·rename_i hh
     exfalso
     refine hc ⟨hh.1,hh.2,fun e=> ?_⟩
     rw[e]at he;cases he
    ·cases he
   ·rfl
  rw[e]
  exact A5z G t rt hc
end
set_option maxRecDepth 20000
section
def fT:=And.intro (And.intro (And.intro (And.intro @jD (And.intro @iZ @jJ)) (And.intro (And.intro @eG @qI) (And.intro @tf2 @lU))) (And.intro (And.intro (And.intro @jE @dL) (And.intro @eN @dV)) (And.intro (And.intro @eD @qJ) (And.intro @aA.flat_enc @aA.isv_enc)))) (And.intro (And.intro (And.intro (And.intro @aA.fold_enc @aS) (And.intro @aN @aU)) (And.intro (And.intro @bW @bG) (And.intro @aQ @aM))) (And.intro (And.intro (And.intro @aZ @cH) (And.intro @bQ @bB)) (And.intro (And.intro @gP @iJ) (And.intro @gO @gQ))))
variable (G:Nat ->AV)
theorem E1g{l:List UInt32}{n:Nat}(h1:l.length=1)(h2:val l=n):l=[UInt32.ofNat n]:=by
 match l,h1 with
 | [x],_=>
  simp only[val,Nat.mul_zero,Nat.add_zero]at h2
  subst h2
  simp
theorem D6k(n:Nat)(hn:n < 256):ofT (n:Int)=hJ n:=by
 have e0:(n:Int).natAbs=n:=Int.natAbs_natCast n
 have e1:decide ((n:Int) < 0)=false:=by simp
 unfold ofT hJ
 rw[e0,e1]
 congr 1
 by_cases hz:n=0
 ·subst hz
  have hc:(cL (gR 0)).length=0:=(yK _).2 (uM 0)
  have hl:(eM (cL (gR 0))).length=0:=by rw[pU,hc]
  rw[List.eq_nil_of_length_eq_zero hl]
  rfl
 ·have hne:(cL (gR n)).length ≠ 0:=fun e=>hz (by rw[<- uM n];exact(yK _).1 e)
  have hle:(cL (gR n)).length <=8:=Nat.le_trans (iK _) (zY 8 n (by omega))
  have hl:(eM (cL (gR n))).length=1:=by rw[pU];omega
  rw[E1g hl (by rw[tB,nN,uM])]
  have hx:UInt32.ofNat n ≠ 0:=fun e=>by
   have:=congrArg UInt32.toNat e
   simp at this;omega
  simp[fR,hx]
theorem B6i(l:List aA):∀ n:Int,bH l n 1= -1 \/ n+2*l.length <=bH l n 1:=by
 induction l with
 |nil=>intro n;right;simp[bH]
 | cons x l ih=>
  intro n
  have hx:=(xP x).pos
  simp only[bH,List.length_cons]
  rcases hx with hx|hx
  ·left;rw[hx];simp
  ·rw[if_neg (by omega)]
   rcases ih (n+bY x+1)with h|h
   ·left;exact h
   ·right;omega
theorem D9g{s:List UInt8}(h:4096 < s.length):ofS s=cN:=by
 have hr:right (zA s)=false:=by
  rw[vF]
  have h7:(zA s).knd=7:=rfl
  have hl:=B6i (zA s).items 1
  have hlen:(zA s).items.length=4097:=by
   show(gI (s.take 4097)).length=4097
   unfold gI;rw[List.length_map,List.length_take];omega
  have ht:(zA s).tail=[]:=rfl
  have hz:bY (zA s)= -1 \/ 4096 < bY (zA s):=by
   rw[A2y h7,ht]
   have h0:∀ n:Int,bH [] n 0=n:=fun n=>by simp[bH]
   have key:∀ (c:Prop) [Decidable c] (r:Int),(r= -1 \/ 4096 < r) -> (if c then(if r < 0 then -1 else bH [] r 0)else -1)= -1 \/ 4096 < (if c then(if r < 0 then -1 else bH [] r 0)else(-1:Int)):=by
    intro c _ r hr
    by_cases hc:c
    ·rw[if_pos hc]
     by_cases h:r < 0
     ·left;rw[if_pos h]
     ·right;rw[if_neg h,h0];omega
    ·left;rw[if_neg hc]
   exact key _ _ (by omega)
  rcases hz with hz|hz
  ·rw[hz];rfl
  ·rw[decide_eq_false (show ¬ bY (zA s) <=4096 by omega),Bool.and_false]
 unfold ofS
 rw[hr]
 rfl
set_option maxHeartbeats 4000000 in
theorem A8b(s:List UInt8)(hs:s.length <=1000000000):aB Tryz.prog G 25 [.str s] (ofS s).enc:=by
 refine aB.of_le fun σ=> ?_
 by_cases hlong:4096 < s.length
 ·rw[D9g hlong]
  have hl:=eq_true (show(4096:Int) < s.length by omega)
  refine aJ.of_awp mixed Tryz.func25 rfl (by kernel_rfl) (by kernel_rfl) (by simp[Tryz.ntmps25]) Tryz.results25 ?_
  repeat'(first|refine xs ?_ ?_ <;>intros|(refine wn ?_;intro bx hbx;try simp only[fb]at hbx)|refine wj ?_|simp -dsimp only[↓bp,bq,br,seval,fT, *]|refine wz ?_|fail)
  exact aL (gT 0 false [] 0) (by repeat' first|exact lr _|assumption|refine ls ?_ ?_|refine lt ?_ ?_|simp only[*];done|simp only[fb, *,not_false_eq_true,and_self];done|exact lf ‹_› (by simp only[*]))
 ·have hl:=eq_false (show ¬ (4096:Int) < s.length by omega)
  have r0:=gD G (zA s) (by have:=A5k s;omega)
  refine aJ.of_awp mixed Tryz.func25 rfl (by kernel_rfl) (by kernel_rfl) (by simp[Tryz.ntmps25]) Tryz.results25 ?_
  repeat'(first|(refine wn ?_;intro bx hbx;try simp only[fb]at hbx)|refine wi ?_|simp -dsimp only[↓bp,bq,br,seval,fT, *]|refine wz ?_|fail)
  rename Nat=>b3
  have hb2:σ.fresh bx:=by assumption
  obtain⟨hb3,n1,n2⟩:σ.fresh b3 /\ ¬ b3=bx /\ ¬ bx=b3:=by assumption
  have m1:(b3=bx)=False:=eq_false n1
  have m2:(bx=b3)=False:=eq_false n2
  refine aI (fun n e σ'=>∃ (i:Nat) (v:AV),i <=s.length /\ n=s.length - i /\ e 4= .int .i64 i /\ σ'.box b3=some [.int .u8 7, .bool false, .nil, .str [], .int .i64 0,v, .nil] /\ σ'.box bx=some [.int .u8 0, .bool false, .nil, .str [], .int .i64 0, .nil, .nil] /\ kL 7 σ σ' v ((gI (s.take i)).map aA.enc)) s.length
   ⟨0, .nil,by omega,by omega,by first|(simp -dsimp only[↓bp,bq,br,seval,fT];done)|(simp -dsimp only[↓bp,bq,br,seval,fT];try rfl),AS.set_get,aO AS.set_get n2, .nil (((AS.le.refl σ).setBox hb2.1 _).setBox hb3.1 _)⟩ ?_
  clear n1 n2
  rintro n e1 σ2 ⟨i,v,hi,rfl,h4,f3,f2,hB⟩
  simp -dsimp only[↓bp,bq,br,seval,fT]at h4
  obtain⟨o1,o2,o3⟩:=nC hB
  by_cases hlt:i < s.length
  ·have hlt':((i:Int) < s.length)=True:=eq_true (by omega)
   obtain⟨c,hc⟩:∃ c,s[i]? =some c:=⟨_,List.getElem?_eq_getElem hlt⟩
   have hof:=B6j G (c.toNat:Int) (by omega) (by have:=UInt8.toNat_lt c;omega)
   rw[D6k _ (UInt8.toNat_lt c)]at hof
   have hwi:IntKind.i64.wrap ((i:Int)+1)=((i+1:Nat):Int):=by rw[aC (by omega) (by omega)];rfl
   have hwc:IntKind.i64.wrap (c.toNat:Int)=c.toNat:=by have:=UInt8.toNat_lt c;rw[aC (by omega) (by omega)]
   have hbl:(gI (s.take i)).length=i:=by unfold gI;rw[List.length_map,List.length_take];omega
   clear r0
   repeat'(first|(refine wn ?_;intro bx hbx;try simp only[fb]at hbx)|refine wi ?_|simp -dsimp only[↓bp,bq,br,seval,fT, *]|refine wz ?_|fail)
   refine vZ 8 [0,1,2,3,4,5,6,7] (by decide+kernel) rfl ?_
   intro hinf
   refine fD (v:= .ptr b3 5) rfl rfl (by simp only[tR];simp -dsimp only[↓bp,bq,br,seval,fT, *]) ?_
   refine fD (v:=v) rfl rfl (by simp only[tR];simp -dsimp only[↓bp,bq,br,seval,fT, *]) ?_
   refine fD (v:= .str s) rfl rfl (by simp only[tR];simp -dsimp only[↓bp,bq,br,seval,fT, *]) ?_
   refine fD (v:= .int .i64 i) rfl rfl (by simp only[tR];simp -dsimp only[↓bp,bq,br,seval,fT, *]) ?_
   refine vB rfl rfl ?_
   repeat'(first|(refine wn ?_;intro bx hbx;try simp only[fb]at hbx)|refine wi ?_|simp -dsimp only[↓bp,bq,br,seval,fT, *]|refine wz ?_|fail)
   refine⟨AS.le.refl _,?_⟩
   refine vB rfl rfl ?_
   repeat'(first|(refine wn ?_;intro bx hbx;try simp only[fb]at hbx)|refine wi ?_|simp -dsimp only[↓bp,bq,br,seval,fT, *]|refine wz ?_|fail)
   refine⟨AS.le.refl _,?_⟩
   refine vB rfl rfl ?_
   repeat'(first|(refine wn ?_;intro bx hbx;try simp only[fb]at hbx)|refine wp hof ?_|refine wi ?_|simp -dsimp only[↓bp,bq,br,seval,fT, *]|refine wz ?_|fail)
   refine⟨AS.le.refl _,?_⟩
   refine fD (v:= .sl .full [(hJ c.toNat).enc] []) rfl rfl (by simp only[tR];simp -dsimp only[↓bp,bq,br,seval,fT];exact A2u tW (aA.isv_enc _) (by rw[aA.flat_enc];rfl) (by omega)) ?_
   refine C2q ?_
   repeat'(first|(refine wn ?_;intro bx hbx;try simp only[fb]at hbx)|((refine iH (ys:=[(hJ c.toNat).enc]) hB tW (bJ tfE) (fun a ha=>by simp at ha;subst ha;rw[aA.flat_enc];rfl) (by simp;omega) (fun v5 σ5 hB5 hx5=> ?_);obtain⟨w1,w2,w3⟩:=nC hB5;have j3:σ5.box b3=_:=(congrFun hx5 b3).trans f3;have j2:σ5.box bx=_:=(congrFun hx5 bx).trans f2))|refine wi ?_|simp -dsimp only[↓bp,bq,br,seval,fT, *]|refine wz ?_|fail)
   have htk:(gI (s.take (i+1))).map aA.enc=(gI (s.take i)).map aA.enc++[(hJ c.toNat).enc]:=by unfold gI;rw[aW _ _ _ hc,List.map_append,List.map_append];rfl
   exact⟨s.length - (i+1),by omega,i+1,v5,by omega,rfl,rfl,rfl,by rw[htk];exact kL.setT hB5 hb3 _⟩
  ·have:i=s.length:=by omega
   subst this
   rw[List.take_length]at hB
   have hlt':((s.length:Int) < s.length)=False:=eq_false (by omega)
   have hv:Le v (aH (zA s).items):=by
    have e:(zA s).items=gI s:=by show gI (s.take 4097)=_;rw[List.take_of_length_le (by omega)]
    rw[e];exact hB.told
   have hle:Le (.agg [.int .u8 7, .bool false, .nil, .str [], .int .i64 0,v, .nil]) (zA s).enc:=fE (zA s) Le.nil hv Le.nil
   have r1:=r0.lessArgs (.cons hle .nil)
   have l2:=hB.le
   have e:ofS s=if right (zA s)=true then zA s else cN:=rfl
   rw[e]
   clear hB r0 hv e
   cases er:right (zA s)with
   | false=>
    rw[er]at r1
    repeat'(first|(refine wn ?_;intro bx hbx;try simp only[fb]at hbx)|refine wp r1 ?_|refine wi ?_|simp -dsimp only[↓bp,bq,br,seval,fT, *]|refine wz ?_|fail)
    exact aL (by rw[if_neg Bool.false_ne_true];exact gT 0 false [] 0) (l2.setBox hb2.1 _)
   | true=>
    rw[er]at r1
    repeat'(first|(refine wn ?_;intro bx hbx;try simp only[fb]at hbx)|refine wp r1 ?_|refine wi ?_|simp -dsimp only[↓bp,bq,br,seval,fT, *]|refine wz ?_|fail)
    exact aL (by rw[if_pos rfl];exact hle) (l2.setBox hb2.1 _)
end
section
structure oE where
 t:aA
 v:AV
 S:List Nat
 c:Nat
def stF(σ:AS)(L:List oE):AS:=L.foldl (fun s e=>s.setBox e.c (flat e.v)) σ
theorem A1c:∀ (L:List oE) (σ:AS) (b:Nat),b ∉ L.map oE.c -> (stF σ L).box b=σ.box b
 |[],_,_,_=>rfl
 | e::L,σ,b,h=>by
  simp only[List.map_cons,List.mem_cons,not_or]at h
  show(stF (σ.setBox e.c (flat e.v)) L).box b=_
  rw[A1c L _ b h.2]
  simp only[AS.setBox,if_neg h.1]
theorem C2u:∀ (L:List oE) (σ:AS),(L.map oE.c).Nodup ->∀ e,e ∈ L -> (stF σ L).box e.c=some (flat e.v)
 |[],_,_,e,h=>by cases h
 | d::L,σ,hd,e,h=>by
  simp only[List.map_cons,List.nodup_cons]at hd
  rcases List.mem_cons.1 h with rfl|h
  ·show(stF (σ.setBox e.c (flat e.v)) L).box e.c=_
   rw[A1c L _ _ hd.1]
   exact AS.set_get
  ·exact C2u L (σ.setBox d.c (flat d.v)) hd.2 e h
theorem D4a:∀ (L:List oE) (σ0 σ:AS),σ0.le σ -> (∀ e,e ∈ L ->σ0.box e.c=none) ->σ0.le (stF σ L)
 |[],_,_,h,_=>h
 |d::L,σ0,σ,h,hf=>D4a L σ0 (σ.setBox d.c (flat d.v)) (h.setBox (hf d List.mem_cons_self) _) fun e he=>hf e (List.mem_cons_of_mem _ he)
theorem B5s{σ:AS} :∀ (L:List oE),(∀ e,e ∈ L ->iB σ false [e.t] (.bs e.c 1 7 26) (e.c::e.S)) ->rH σ (L.map fun e=> [e.t]) (L.map fun e=> .bs e.c 1 7 26) (L.flatMap fun e=>e.c::e.S)
 |[],_=>by simp[rH]
 | e::L,h=>by
  simp only[List.map_cons,List.flatMap_cons,rH]
  exact⟨_,_,_,_,rfl,rfl,h e List.mem_cons_self,B5s L fun d hd=>h d (List.mem_cons_of_mem _ hd)⟩
theorem A5j{L:List oE}{b:Nat} :b ∈ (L.flatMap fun e=>e.c::e.S) ↔ b ∈ L.map oE.c \/ b ∈ L.flatMap oE.S:=by
 simp only[List.mem_flatMap,List.mem_map,List.mem_cons]
 constructor
 ·rintro⟨e,he,rfl|h⟩
  ·exact .inl ⟨e,he,rfl⟩
  ·exact .inr ⟨e,he,h⟩
 ·rintro(⟨e,he,rfl⟩|⟨e,he,h⟩)
  ·exact⟨e,he, .inl rfl⟩
  ·exact⟨e,he, .inr h⟩
theorem A5y:∀ (L:List oE),(L.map oE.c).Nodup -> (L.flatMap oE.S).Nodup -> (∀ c,c ∈ L.map oE.c ->c ∉ L.flatMap oE.S) -> (L.flatMap fun e=>e.c::e.S).Nodup
 |[],_,_,_=>by simp
 | e::L,h1,h2,h3=>by
  simp only[List.map_cons,List.nodup_cons]at h1
  simp only[List.flatMap_cons]at h2 h3 ⊢
  obtain⟨a1,a2,a3⟩:=List.nodup_append.1 h2
  have ih:=A5y L h1.2 a2 fun c hc hm=>h3 c (List.mem_cons_of_mem _ hc) (List.mem_append_right _ hm)
  refine List.nodup_append.2 ⟨List.nodup_cons.2 ⟨fun h=>h3 e.c (by simp) (List.mem_append_left _ h),a1⟩,ih,fun a ha b hb eq=> ?_⟩
  subst eq
  rcases List.mem_cons.1 ha with rfl|ha
  ·rcases A5j.1 hb with hb|hb
   ·exact h1.1 hb
   ·exact h3 e.c (by simp) (List.mem_append_right _ hb)
  ·rcases A5j.1 hb with hb|hb
   ·exact h3 a (List.mem_cons_of_mem _ hb) (List.mem_append_left _ ha)
   ·exact a3 a ha a hb rfl
theorem D3p{σ:AS}(L:List oE)(ho:∀ e,e ∈ L ->cW σ false e.t e.v e.S)(hc:(L.map oE.c).Nodup)(hf:∀ e,e ∈ L ->σ.box e.c=none)(hS:(L.flatMap oE.S).Nodup):
  rH (stF σ L) (L.map fun e=> [e.t]) (L.map fun e=> .bs e.c 1 7 26) (L.flatMap fun e=>e.c::e.S) /\ (L.flatMap fun e=>e.c::e.S).Nodup:=by
 have hnot:∀ c,c ∈ L.map oE.c ->c ∉ L.flatMap oE.S:=fun c hcm hs=>by
  obtain⟨e,he,rfl⟩:=List.mem_map.1 hcm
  obtain⟨d,hd,hd2⟩:=List.mem_flatMap.1 hs
  obtain⟨z,hz⟩:=eH _ _ _ (ho d hd) _ hd2
  rw[hf e he]at hz;cases hz
 refine⟨B5s L fun e he=>vA (aK _ _ _ (ho e he) fun b hb=>A1c L σ b fun hm=>hnot b hm (List.mem_flatMap.2 ⟨e,he,hb⟩)) (C2u L σ hc e he),A5y L hc hS hnot⟩
end
end Go.Proofs.YtdhbdhopnpmboaaGreatDoor
