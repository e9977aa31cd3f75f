/- pack's writer: terms. -/
import Derived.Test.YthoenjlenkpnnaaDoorY11
import Derived.Test.YthoenjlenkpnnaaDoorY13
import Derived.Test.YthoenjlenkpnnaaDoorY12
import Derived.Test.YthoenjlenkpnnaaDoorY10
import Derived.Test.YthoenjlenkpnnaaDoorY08
set_option linter.unusedVariables false
set_option linter.unusedSimpArgs false
set_option maxRecDepth 20000
set_option linter.defProp false
namespace Go.Proofs.YthoenjlenkpnnaaDoor
open Go Go.Av
section
def gC:=And.intro (And.intro (And.intro (And.intro @nK (And.intro @nL @lY)) (And.intro (And.intro @nA @kW) (And.intro @kI @kE))) (And.intro (And.intro @lC (And.intro @oU @jD)) (And.intro (And.intro @iF @A5y) (And.intro @A6c @A5z)))) (And.intro (And.intro (And.intro @C2r (And.intro @C2s @aF.flat_enc)) (And.intro (And.intro @aF.isv_enc @aF.fold_enc) (And.intro @cA @bL))) (And.intro (And.intro @dE (And.intro @fR @dL)) (And.intro (And.intro @cN @fA) (And.intro @gN @eO))))
variable {G:Nat ->AV}
mutual
theorem B4k:∀ t:aF,(dS t).length <=8*t.bulk
 | .mk k g l s n ks ts=>by
  have h1:=gZ ks
  have h2:=gZ ts
  have h3:=eB ks
  have hfl:(l.flatMap fun x=>bU 4 x.toNat).length=4*l.length:=by
   induction l with
   |nil=>rfl
   |cons x l ih=>rw[List.flatMap_cons,List.length_append,ih,bC,List.length_cons];omega
  have ht:∀ b,(eN b).length=1:=fun b=>bC _ _
  rw[iH,List.length_append,bC,aF.bulk]
  split
  ·rw[List.length_append,List.length_append,ht,bC,hfl];omega
  ·split
   ·rw[gK,List.length_append,bC];omega
   ·split
    ·rw[bC];omega
    ·split
     ·rw[List.length_append,List.length_append,bC,bC];omega
     ·split
      ·rw[List.length_append,bC];omega
      ·split
       ·rw[List.length_append,List.length_append,List.length_append,bC,ht];omega
       ·simp;omega
theorem gZ:∀ l:List aF,(bE l).length <=8*dI l
 |[]=>by simp[bE]
 | t::l=>by
  have h1:=B4k t
  have h2:=gZ l
  rw[bE,List.length_append,dI];omega
end
theorem tX(l:List aF)(x:aF):bE (l++[x])=bE l++dS x:=by rw[fH,fH];simp
def A9v(G:Nat ->AV)(t:aF):Prop:=∀ (σ0 σ:AS) (b:Nat) (xs:List UInt8),dZ σ0 σ b xs ->0 < xs.length ->xs.length+8*t.bulk <=900000000 ->aJ Tryd.prog G 44 [.ptr b 0,t.enc] σ fun r σ'=>r= .tup [] /\ dZ σ0 σ' b (xs++dS t)
theorem A3s{l:List aF}{i:Nat}{x:aF}(h:l[i]? =some x):dI (l.take i)+x.bulk <=dI l:=by
 have h1:=A7n l (i+1)
 rw[aK _ _ _ h,qN]at h1
 simp only[dI]at h1;omega
set_option maxHeartbeats 1000000 in
theorem xD(l:List aF)(hf:∀ x,x ∈ l ->A9v G x){σ0 σ:AS}{b:Nat}{xs:List UInt8}(h:dZ σ0 σ b xs)(h0:0 < xs.length)(hl:xs.length+8*dI l+2 <=900000000):aJ Tryd.prog G 21 [.ptr b 0,dK l] σ fun r σ'=>r= .tup [] /\ dZ σ0 σ' b (xs++(bU 2 l.length++bE l)):=by
 have hll:=eB l
 have t1:=dM (G:=G) h h0 2 (by omega) l.length (by omega) (by omega) (by omega) .full
 rw[Int.toNat_natCast]at t1
 clear h
 refine aJ.of_awp mixed Tryd.func21 rfl (by kernel_rfl) (by kernel_rfl) (by simp[Tryd.ntmps21]) Tryd.results21 ?_
 repeat'(first|refine xs ?_ ?_ <;>intros|(refine wn ?_;intro bx hbx;try simp only[fb]at hbx)|((refine aJ.mono t1 ?_;rintro r s3 ⟨rfl,hB1⟩;clear t1))|refine aQ ?_|(refine aB ?_;intro bx hbx;(try simp only[fb]at hbx))|refine aD ?_|((with_reducible refine And.intro ?_ ?_);omega)|refine aA (d':=⟨⟩) ?_|refine aR (by kernel_rfl) ?_|refine aP ?_ (by repeat' first|exact lr _|assumption|refine ls ?_ ?_|refine lt ?_ ?_|simp only[*];done|simp only[fb, *,not_false_eq_true,and_self];done|exact lf ‹_› (by simp only[*]))|refine aC ?_ (by repeat' first|exact lr _|assumption|refine ls ?_ ?_|refine lt ?_ ?_|simp only[*];done|simp only[fb, *,not_false_eq_true,and_self];done|exact lf ‹_› (by simp only[*]))|simp -dsimp only[↓bp,bq,br,seval,gC, *]|refine wz ?_|fail)
 refine aY (fun n e σ'=>∃ i:Nat,i <=(l).length /\ n=(l).length - i /\ e 13= .int .i64 i /\ dZ σ0 σ' b (xs++bU 2 l.length++bE (l.take i))) (l).length
   ⟨0,by omega,by omega,by simp -dsimp only[↓bp,bq,br,seval,gC];first|done|rfl,by simpa [bE] using hB1⟩ ?_
 rintro n v σ' ⟨i,hi,rfl,h13,hB⟩
 simp -dsimp only[↓bp,bq,br,seval,gC]at h13
 simp -dsimp only[↓bp,bq,br,seval,gC,h13]
 refine dQ (fun hlt=> ?_) (fun hge=> ?_)
 ·obtain⟨x,hx⟩:∃ x,l[i]? =some x:=⟨_,List.getElem?_eq_getElem (by omega)⟩
  have hp:=hf x (List.mem_of_getElem? hx)
  have hbk:=A3s hx
  have hi:i < l.length:=(List.getElem?_eq_some_iff.1 hx).1
  have hlen:=gZ (l.take i)
  have hle:(xs++bU 2 l.length++bE (l.take i)).length+8*x.bulk <=900000000:=by rw[List.length_append,List.length_append,bC];omega
  have hpos:0 < (xs++bU 2 l.length++bE (l.take i)).length:=by rw[List.length_append,List.length_append];omega
  have hB0:=hB.le
  clear hf hlen
  repeat'(first|refine xs ?_ ?_ <;>intros|(refine wn ?_;intro bx hbx;try simp only[fb]at hbx)|((refine aJ.mono (hp _ _ _ _ (hB.setBox (.inr hbx.1) _) hpos hle) ?_;rintro r s4 ⟨rfl,hB2⟩))|refine aQ ?_|(refine aB ?_;intro bx hbx;(try simp only[fb]at hbx))|refine aD ?_|((with_reducible refine And.intro ?_ ?_);omega)|refine aA (d':=⟨⟩) ?_|refine aR (by kernel_rfl) ?_|refine aP ?_ (by repeat' first|exact lr _|assumption|refine ls ?_ ?_|refine lt ?_ ?_|simp only[*];done|simp only[fb, *,not_false_eq_true,and_self];done|exact lf ‹_› (by simp only[*]))|refine aC ?_ (by repeat' first|exact lr _|assumption|refine ls ?_ ?_|refine lt ?_ ?_|simp only[*];done|simp only[fb, *,not_false_eq_true,and_self];done|exact lf ‹_› (by simp only[*]))|simp -dsimp only[↓bp,bq,br,seval,gC, *]|refine wz ?_|fail)
  have hB3:=hB2.less (AS.le.setBox (AS.le.refl σ0) (hB0.fresh hbx).1 _)
  rw[List.append_assoc (xs++bU 2 l.length),<- tX,<- aK _ _ _ hx]at hB3
  exact⟨l.length - (i+1),by omega,i+1,by omega,rfl,by rw[aH (by omega) (by omega)];rfl,hB3⟩
 ·have:i=l.length:=by omega
  subst this
  rw[List.take_length,List.append_assoc]at hB
  clear hi hge
  repeat'(first|refine xs ?_ ?_ <;>intros|(refine wn ?_;intro bx hbx;try simp only[fb]at hbx)|refine aQ ?_|(refine aB ?_;intro bx hbx;(try simp only[fb]at hbx))|refine aD ?_|((with_reducible refine And.intro ?_ ?_);omega)|refine aA (d':=⟨⟩) ?_|refine aR (by kernel_rfl) ?_|refine aP ?_ (by repeat' first|exact lr _|assumption|refine ls ?_ ?_|refine lt ?_ ?_|simp only[*];done|simp only[fb, *,not_false_eq_true,and_self];done|exact lf ‹_› (by simp only[*]))|refine aC ?_ (by repeat' first|exact lr _|assumption|refine ls ?_ ?_|refine lt ?_ ?_|simp only[*];done|simp only[fb, *,not_false_eq_true,and_self];done|exact lf ‹_› (by simp only[*]))|simp -dsimp only[↓bp,bq,br,seval,gC, *]|refine wz ?_|fail)
  exact aE _ (AS.le.refl _) ⟨rfl,hB⟩
theorem A9e{t:aF}(h:right t=true):(∀ x,x ∈ t.items ->right x=true) /\ ∀ x,x ∈ t.tail ->right x=true:=⟨(mS h).items,(mS h).tail⟩
theorem C8o{t:aF}(h:right t=true)(hk:t.knd=3 \/ t.knd=5 \/ t.knd=4):0 <=t.num /\ t.num <=9223372036854775807:=by
 rcases hk with hk|hk|hk
 ·have:=pZ h (.inl hk);omega
 ·have:=pZ h (.inr hk);omega
 ·have:=wP h hk;omega
def C9x(G:Nat ->AV)(l:List aF):Prop:=∀ (σ0 σ:AS) (b:Nat) (xs:List UInt8),dZ σ0 σ b xs ->0 < xs.length ->xs.length+8*dI l+2 <=900000000 ->aJ Tryd.prog G 21 [.ptr b 0,dK l] σ fun r σ'=>r= .tup [] /\ dZ σ0 σ' b (xs++(bU 2 l.length++bE l))
def mN(l:List UInt32):List UInt8:=l.flatMap fun x=>bU 4 x.toNat
theorem A8q(l:List UInt32):(mN l).length=4*l.length:=by
 induction l with
 |nil=>rfl
 |cons x l ih=>unfold mN at ih ⊢;rw[List.flatMap_cons,List.length_append,ih,bC,List.length_cons];omega
theorem C6p{t:aF}{m:Nat}(hm:m < 256)(h:t.knd=m):t.kind=UInt8.ofNat m:=by
 apply UInt8.toNat_inj.1
 rw[UInt8.toNat_ofNat',Nat.mod_eq_of_lt hm]
 have:(t.kind.toNat:Int)=m:=h
 omega
theorem mY(t:aF):dS t=bU 1 t.knd.toNat++(
  if t.knd=1 then eN t.neg++(bU 1 t.limbs.length++mN t.limbs)
  else if t.knd=2 then gK t.text
  else if t.knd=3 \/ t.knd=5 then bU 6 t.num.toNat
  else if t.knd=4 then bU 2 t.num.toNat++(bU 2 t.items.length++bE t.items)
  else if t.knd=6 then bU 2 t.items.length++bE t.items
  else if t.knd=7 then bU 2 t.items.length++bE t.items++(eN (!t.tail.isEmpty)++bE t.tail)
  else[]):=by
 have kk:∀ m:Nat,m < 256 -> (t.kind=UInt8.ofNat m ↔ t.knd=m):=fun m hm=> ⟨fun e=>by unfold aF.knd;rw[e,UInt8.toNat_ofNat',Nat.mod_eq_of_lt hm],C6p hm⟩
 have k1:=kk 1 (by omega);have k2:=kk 2 (by omega);have k3:=kk 3 (by omega);have k4:=kk 4 (by omega);have k5:=kk 5 (by omega);have k6:=kk 6 (by omega);have k7:=kk 7 (by omega)
 have h0:t.knd.toNat=t.kind.toNat:=rfl
 rw[h0]
 obtain⟨k,g,l,s,n,ks,ts⟩:=t
 rw[iH]
 simp only[aF.kind]at k1 k2 k3 k4 k5 k6 k7
 simp only[aF.kind,aF.neg,aF.limbs,aF.text,aF.num,aF.items,aF.tail,mN]
 congr 1
 simp only[show(1:UInt8)=UInt8.ofNat 1 from rfl,show(2:UInt8)=UInt8.ofNat 2 from rfl,show(3:UInt8)=UInt8.ofNat 3 from rfl,show(4:UInt8)=UInt8.ofNat 4 from rfl,show(5:UInt8)=UInt8.ofNat 5 from rfl,show(6:UInt8)=UInt8.ofNat 6 from rfl,show(7:UInt8)=UInt8.ofNat 7 from rfl,k1,k2,k3,k4,k5,k6,k7]
 rfl
structure TW(G:Nat ->AV)(t:aF)(σ0 σ:AS)(b:Nat)(xs:List UInt8):Prop where
 hB:dZ σ0 σ b xs
 h0:0 < xs.length
 hl:xs.length+8*t.bulk <=900000000
 w1:C9x G t.items
 w2:∀ x,x ∈ t.tail ->A9v G x
 num:t.knd=3 \/ t.knd=5 \/ t.knd=4 ->0 <=t.num /\ t.num <=9223372036854775807
theorem TW.first{t:aF}{σ0 σ:AS}{b:Nat}{xs:List UInt8}(H:TW G t σ0 σ b xs)(bx:Nat)(hbx:σ.fresh bx)(z:List AV):aJ Tryd.prog G 18 [.ptr b 0, .int .i64 1, .sl .full [.int .i64 t.knd] []] (σ.setBox bx z) fun r σ'=>r= .tup [] /\ dZ (σ0.setBox bx z) σ' b (xs++bU 1 t.knd.toNat):=by
 have:=t.knd_nn;have:=t.knd_lt;have:=t.bulk_eq;have:=H.hl
 exact dM (G:=G) (H.hB.setBox (.inr hbx.1) z) H.h0 1 (by omega) t.knd (by omega) (by omega) (by omega) .full
theorem nQ{xs:List UInt8}{m:Nat} :(xs++bU 1 m).length=xs.length+1:=by rw[List.length_append,bC]
theorem TW.done{t:aF}{σ0 σ s:AS}{b bx:Nat}{xs:List UInt8}{z:List AV}(H:TW G t σ0 σ b xs)(hbx:σ.fresh bx)(h:dZ (σ0.setBox bx z) s b (xs++dS t)):dZ σ0 s b (xs++dS t):=
 h.less (AS.le.setBox (AS.le.refl σ0) (H.hB.le.fresh hbx).1 _)
theorem zQ{t:aF}{σ0 σ:AS}{b:Nat}{xs:List UInt8}(H:TW G t σ0 σ b xs)(hk:t.knd=3 \/ t.knd=5):aJ Tryd.prog G 44 [.ptr b 0,t.enc] σ fun r σ'=>r= .tup [] /\ dZ σ0 σ' b (xs++dS t):=by
 have e:=mY t
 have hn:=H.num (by omega)
 have c1:(t.knd=1)=False:=eq_false (by omega)
 have c2:(t.knd=2)=False:=eq_false (by omega)
 have hwk:IntKind.i64.wrap t.knd=t.knd:=aH (by omega) (by omega)
 have t1:=H.first
 have t2:=fun s3 σ1 (hB1:dZ σ1 s3 b (xs++bU 1 t.knd.toNat))=>dM (G:=G) hB1 (by rw[nQ];omega) 6 (by omega) t.num hn.1 hn.2 (by rw[nQ];have:=H.hl;have:=t.bulk_eq;omega) .full
 have fin:∀ bx z s,σ.fresh bx ->dZ (σ0.setBox bx z) s b (xs++bU 1 t.knd.toNat++bU 6 t.num.toNat) ->dZ σ0 s b (xs++dS t):=fun bx z s hbx h=>H.done hbx (by
  rw[e];simp only[c1,c2,if_pos hk,if_false];rw[<- List.append_assoc];exact h)
 clear H e hn
 rcases hk with hk|hk
 all_goals rw[hk]at c1 c2 hwk t1 t2 fin
 all_goals clear c1 c2
 all_goals refine aJ.of_awp mixed Tryd.func44 rfl (by kernel_rfl) (by kernel_rfl) (by simp[Tryd.ntmps44]) Tryd.results44 ?_
 all_goals repeat'(first|refine xs ?_ ?_ <;>intros|(refine wn ?_;intro bx hbx;try simp only[fb]at hbx)|((refine aJ.mono (t1 _ hbx _) ?_;rintro r s3 ⟨rfl,hB1⟩;clear t1;have f1:=hB1.le.box bx _ AS.set_get))|((refine aJ.mono (t2 _ _ hB1) ?_;rintro r s4 ⟨rfl,hB2⟩;clear t2))|refine aQ ?_|(refine aB ?_;intro bx hbx;(try simp only[fb]at hbx))|refine aD ?_|((with_reducible refine And.intro ?_ ?_);omega)|refine aA (d':=⟨⟩) ?_|refine aR (by kernel_rfl) ?_|refine aP ?_ (by repeat' first|exact lr _|assumption|refine ls ?_ ?_|refine lt ?_ ?_|simp only[*];done|simp only[fb, *,not_false_eq_true,and_self];done|exact lf ‹_› (by simp only[*]))|refine aC ?_ (by repeat' first|exact lr _|assumption|refine ls ?_ ?_|refine lt ?_ ?_|simp only[*];done|simp only[fb, *,not_false_eq_true,and_self];done|exact lf ‹_› (by simp only[*]))|simp -dsimp only[↓bp,bq,br,seval,gC, *]|refine wz ?_|fail)
 all_goals exact aE _ (AS.le.refl _) ⟨rfl,fin _ _ _ hbx hB2⟩
theorem A9s{t:aF}{σ0 σ:AS}{b:Nat}{xs:List UInt8}(H:TW G t σ0 σ b xs)(hk:t.knd=2):aJ Tryd.prog G 44 [.ptr b 0,t.enc] σ fun r σ'=>r= .tup [] /\ dZ σ0 σ' b (xs++dS t):=by
 have e:=mY t
 have hwk:IntKind.i64.wrap t.knd=t.knd:=aH (by omega) (by omega)
 have t1:=H.first
 have t2:=fun s3 σ1 (hB1:dZ σ1 s3 b (xs++bU 1 t.knd.toNat))=>wJ (G:=G) hB1 (by rw[nQ];omega) t.text (by rw[nQ];have:=H.hl;have:=t.bulk_eq;omega)
 have fin:∀ bx z s,σ.fresh bx ->dZ (σ0.setBox bx z) s b (xs++bU 1 t.knd.toNat++gK t.text) ->dZ σ0 s b (xs++dS t):=fun bx z s hbx h=>H.done hbx (by
  rw[e];simp only[hk]at h ⊢;rw[<- List.append_assoc];exact h)
 clear H e
 rw[hk]at hwk t1 t2 fin
 refine aJ.of_awp mixed Tryd.func44 rfl (by kernel_rfl) (by kernel_rfl) (by simp[Tryd.ntmps44]) Tryd.results44 ?_
 repeat'(first|refine xs ?_ ?_ <;>intros|(refine wn ?_;intro bx hbx;try simp only[fb]at hbx)|((refine aJ.mono (t1 _ hbx _) ?_;rintro r s3 ⟨rfl,hB1⟩;clear t1;have f1:=hB1.le.box bx _ AS.set_get))|((refine aJ.mono (t2 _ _ hB1) ?_;rintro r s4 ⟨rfl,hB2⟩;clear t2))|refine aQ ?_|(refine aB ?_;intro bx hbx;(try simp only[fb]at hbx))|refine aD ?_|((with_reducible refine And.intro ?_ ?_);omega)|refine aA (d':=⟨⟩) ?_|refine aR (by kernel_rfl) ?_|refine aP ?_ (by repeat' first|exact lr _|assumption|refine ls ?_ ?_|refine lt ?_ ?_|simp only[*];done|simp only[fb, *,not_false_eq_true,and_self];done|exact lf ‹_› (by simp only[*]))|refine aC ?_ (by repeat' first|exact lr _|assumption|refine ls ?_ ?_|refine lt ?_ ?_|simp only[*];done|simp only[fb, *,not_false_eq_true,and_self];done|exact lf ‹_› (by simp only[*]))|simp -dsimp only[↓bp,bq,br,seval,gC, *]|refine wz ?_|fail)
 exact aE _ (AS.le.refl _) ⟨rfl,fin _ _ _ hbx hB2⟩
theorem B5d{t:aF}{σ0 σ:AS}{b:Nat}{xs:List UInt8}(H:TW G t σ0 σ b xs)(hk:t.knd=6):aJ Tryd.prog G 44 [.ptr b 0,t.enc] σ fun r σ'=>r= .tup [] /\ dZ σ0 σ' b (xs++dS t):=by
 have e:=mY t
 have hwk:IntKind.i64.wrap t.knd=t.knd:=aH (by omega) (by omega)
 have t1:=H.first
 have t2:=fun s3 σ1 (hB1:dZ σ1 s3 b (xs++bU 1 t.knd.toNat))=>H.w1 _ _ _ _ hB1 (by rw[nQ];omega) (by rw[nQ];have:=H.hl;have:=t.bulk_eq;omega)
 have fin:∀ bx z s,σ.fresh bx ->dZ (σ0.setBox bx z) s b (xs++bU 1 t.knd.toNat++(bU 2 t.items.length++bE t.items)) ->dZ σ0 s b (xs++dS t):=fun bx z s hbx h=>H.done hbx (by
  rw[e];simp only[hk]at h ⊢;rw[<- List.append_assoc];exact h)
 clear H e
 rw[hk]at hwk t1 t2 fin
 refine aJ.of_awp mixed Tryd.func44 rfl (by kernel_rfl) (by kernel_rfl) (by simp[Tryd.ntmps44]) Tryd.results44 ?_
 repeat'(first|refine xs ?_ ?_ <;>intros|(refine wn ?_;intro bx hbx;try simp only[fb]at hbx)|((refine aJ.mono (t1 _ hbx _) ?_;rintro r s3 ⟨rfl,hB1⟩;clear t1;have f1:=hB1.le.box bx _ AS.set_get))|((refine aJ.mono (t2 _ _ hB1) ?_;rintro r s4 ⟨rfl,hB2⟩;clear t2))|refine aQ ?_|(refine aB ?_;intro bx hbx;(try simp only[fb]at hbx))|refine aD ?_|((with_reducible refine And.intro ?_ ?_);omega)|refine aA (d':=⟨⟩) ?_|refine aR (by kernel_rfl) ?_|refine aP ?_ (by repeat' first|exact lr _|assumption|refine ls ?_ ?_|refine lt ?_ ?_|simp only[*];done|simp only[fb, *,not_false_eq_true,and_self];done|exact lf ‹_› (by simp only[*]))|refine aC ?_ (by repeat' first|exact lr _|assumption|refine ls ?_ ?_|refine lt ?_ ?_|simp only[*];done|simp only[fb, *,not_false_eq_true,and_self];done|exact lf ‹_› (by simp only[*]))|simp -dsimp only[↓bp,bq,br,seval,gC, *]|refine wz ?_|fail)
 exact aE _ (AS.le.refl _) ⟨rfl,fin _ _ _ hbx hB2⟩
theorem B4z{t:aF}{σ0 σ:AS}{b:Nat}{xs:List UInt8}(H:TW G t σ0 σ b xs)(hk:t.knd=4):aJ Tryd.prog G 44 [.ptr b 0,t.enc] σ fun r σ'=>r= .tup [] /\ dZ σ0 σ' b (xs++dS t):=by
 have e:=mY t
 have hn:=H.num (by omega)
 have hwk:IntKind.i64.wrap t.knd=t.knd:=aH (by omega) (by omega)
 have t1:=H.first
 have t2:=fun s3 σ1 (hB1:dZ σ1 s3 b (xs++bU 1 t.knd.toNat))=>dM (G:=G) hB1 (by rw[nQ];omega) 2 (by omega) t.num hn.1 hn.2 (by rw[nQ];have:=H.hl;have:=t.bulk_eq;omega) .full
 have t3:=fun s3 σ1 (hB1:dZ σ1 s3 b (xs++bU 1 t.knd.toNat++bU 2 t.num.toNat))=>H.w1 _ _ _ _ hB1 (by rw[List.length_append,nQ];omega) (by rw[List.length_append,nQ,bC];have:=H.hl;have:=t.bulk_eq;omega)
 have fin:∀ bx z s,σ.fresh bx ->dZ (σ0.setBox bx z) s b (xs++bU 1 t.knd.toNat++bU 2 t.num.toNat++(bU 2 t.items.length++bE t.items)) ->dZ σ0 s b (xs++dS t):=fun bx z s hbx h=>H.done hbx (by
  rw[e,if_neg (by omega),if_neg (by omega),if_neg (by omega),if_pos hk];simpa [List.append_assoc] using h)
 clear H e hn
 rw[hk]at hwk t1 t2 t3 fin
 refine aJ.of_awp mixed Tryd.func44 rfl (by kernel_rfl) (by kernel_rfl) (by simp[Tryd.ntmps44]) Tryd.results44 ?_
 repeat'(first|refine xs ?_ ?_ <;>intros|(refine wn ?_;intro bx hbx;try simp only[fb]at hbx)|((refine aJ.mono (t1 _ hbx _) ?_;rintro r s3 ⟨rfl,hB1⟩;clear t1;have f1:=hB1.le.box bx _ AS.set_get))|((refine aJ.mono (t2 _ _ hB1) ?_;rintro r s4 ⟨rfl,hB2⟩;clear t2;have f2:=hB2.le.box bx _ AS.set_get))|((refine aJ.mono (t3 _ _ hB2) ?_;rintro r s5 ⟨rfl,hB3⟩;clear t3))|refine aQ ?_|(refine aB ?_;intro bx hbx;(try simp only[fb]at hbx))|refine aD ?_|((with_reducible refine And.intro ?_ ?_);omega)|refine aA (d':=⟨⟩) ?_|refine aR (by kernel_rfl) ?_|refine aP ?_ (by repeat' first|exact lr _|assumption|refine ls ?_ ?_|refine lt ?_ ?_|simp only[*];done|simp only[fb, *,not_false_eq_true,and_self];done|exact lf ‹_› (by simp only[*]))|refine aC ?_ (by repeat' first|exact lr _|assumption|refine ls ?_ ?_|refine lt ?_ ?_|simp only[*];done|simp only[fb, *,not_false_eq_true,and_self];done|exact lf ‹_› (by simp only[*]))|simp -dsimp only[↓bp,bq,br,seval,gC, *]|refine wz ?_|fail)
 exact aE _ (AS.le.refl _) ⟨rfl,fin _ _ _ hbx hB3⟩
theorem B5b{t:aF}{σ0 σ:AS}{b:Nat}{xs:List UInt8}(H:TW G t σ0 σ b xs)(h1: ¬ t.knd=1)(h2: ¬ t.knd=2)(h3: ¬ t.knd=3)(h4: ¬ t.knd=4)(h5: ¬ t.knd=5)(h6: ¬ t.knd=6)(h7: ¬ t.knd=7):aJ Tryd.prog G 44 [.ptr b 0,t.enc] σ fun r σ'=>r= .tup [] /\ dZ σ0 σ' b (xs++dS t):=by
 have e:=mY t
 have hwk:IntKind.i64.wrap t.knd=t.knd:=aH (by have:=t.knd_nn;omega) (by have:=t.knd_lt;omega)
 have t1:=H.first
 have fin:∀ bx z s,σ.fresh bx ->dZ (σ0.setBox bx z) s b (xs++bU 1 t.knd.toNat) ->dZ σ0 s b (xs++dS t):=fun bx z s hbx h=>H.done hbx (by
  rw[e,if_neg h1,if_neg h2,if_neg (by omega),if_neg h4,if_neg h6,if_neg h7,List.append_nil];exact h)
 clear H e
 refine aJ.of_awp mixed Tryd.func44 rfl (by kernel_rfl) (by kernel_rfl) (by simp[Tryd.ntmps44]) Tryd.results44 ?_
 repeat'(first|refine xs ?_ ?_ <;>intros|(refine wn ?_;intro bx hbx;try simp only[fb]at hbx)|((refine aJ.mono (t1 _ hbx _) ?_;rintro r s3 ⟨rfl,hB1⟩;clear t1;have f1:=hB1.le.box bx _ AS.set_get))|refine aQ ?_|(refine aB ?_;intro bx hbx;(try simp only[fb]at hbx))|refine aD ?_|((with_reducible refine And.intro ?_ ?_);omega)|refine aA (d':=⟨⟩) ?_|refine aR (by kernel_rfl) ?_|refine aP ?_ (by repeat' first|exact lr _|assumption|refine ls ?_ ?_|refine lt ?_ ?_|simp only[*];done|simp only[fb, *,not_false_eq_true,and_self];done|exact lf ‹_› (by simp only[*]))|refine aC ?_ (by repeat' first|exact lr _|assumption|refine ls ?_ ?_|refine lt ?_ ?_|simp only[*];done|simp only[fb, *,not_false_eq_true,and_self];done|exact lf ‹_› (by simp only[*]))|simp -dsimp only[↓bp,bq,br,seval,gC, *]|refine wz ?_|fail)
 exact aE _ (AS.le.refl _) ⟨rfl,fin _ _ _ hbx hB1⟩
theorem B5a{t:aF}{σ0 σ:AS}{b:Nat}{xs:List UInt8}(H:TW G t σ0 σ b xs)(hk:t.knd=1):aJ Tryd.prog G 44 [.ptr b 0,t.enc] σ fun r σ'=>r= .tup [] /\ dZ σ0 σ' b (xs++dS t):=by
 have e:=mY t
 have hl:=H.hl
 have hbe:=t.bulk_eq
 have hwk:IntKind.i64.wrap t.knd=t.knd:=aH (by omega) (by omega)
 have hdt:(eN t.neg).length=1:=bC _ _
 have t1:=H.first
 have t2:=fun s3 σ1 (hB1:dZ σ1 s3 b (xs++bU 1 t.knd.toNat))=>zN (G:=G) hB1 (by rw[nQ];omega) t.neg (by rw[nQ];omega)
 have t3:=fun s3 σ1 (hB1:dZ σ1 s3 b (xs++bU 1 t.knd.toNat++eN t.neg))=>dM (G:=G) hB1 (by rw[List.length_append,nQ];omega) 1 (by omega) t.limbs.length (by omega) (by omega) (by rw[List.length_append,nQ,hdt];omega) .full
 rw[Int.toNat_natCast]at t3
 have t4:=fun s3 σ1 (x:UInt32) (i:Nat) (hi:i < t.limbs.length) (hB1:dZ σ1 s3 b (xs++bU 1 t.knd.toNat++eN t.neg++bU 1 t.limbs.length++mN (t.limbs.take i)))=>dM (G:=G) hB1 (by rw[List.length_append,List.length_append,List.length_append,nQ];omega) 4 (by omega) x.toNat (by omega) (by have:=x.toNat_lt;omega) (by rw[List.length_append,List.length_append,List.length_append,nQ,hdt,bC,A8q,List.length_take];omega) .full
 have fin:∀ bx z s,σ.fresh bx ->dZ (σ0.setBox bx z) s b (xs++bU 1 t.knd.toNat++eN t.neg++bU 1 t.limbs.length++mN t.limbs) ->dZ σ0 s b (xs++dS t):=fun bx z s hbx h=>H.done hbx (by
  rw[e,if_pos hk];simpa [List.append_assoc] using h)
 have hll:t.limbs.length <=1000000000:=by omega
 clear H e hdt hbe hl
 rw[hk]at hwk t1 t2 t3 t4 fin
 generalize xs++bU 1 (Int.toNat 1)=X at*
 generalize eN t.neg=T at*
 refine aJ.of_awp mixed Tryd.func44 rfl (by kernel_rfl) (by kernel_rfl) (by simp[Tryd.ntmps44]) Tryd.results44 ?_
 repeat'(first|refine xs ?_ ?_ <;>intros|(refine wn ?_;intro bx hbx;try simp only[fb]at hbx)|((refine aJ.mono (t1 _ hbx _) ?_;rintro r s3 ⟨rfl,hB1⟩;clear t1;have f1:=hB1.le.box bx _ AS.set_get))|((refine aJ.mono (t2 _ _ hB1) ?_;rintro r s4 ⟨rfl,hB2⟩;clear t2;have f2:=hB2.le.box bx _ AS.set_get))|((refine aJ.mono (t3 _ _ hB2) ?_;rintro r s5 ⟨rfl,hB3⟩;clear t3;have f3:=hB3.le.box bx _ AS.set_get))|refine aQ ?_|(refine aB ?_;intro bx hbx;(try simp only[fb]at hbx))|refine aD ?_|((with_reducible refine And.intro ?_ ?_);omega)|refine aA (d':=⟨⟩) ?_|refine aR (by kernel_rfl) ?_|refine aP ?_ (by repeat' first|exact lr _|assumption|refine ls ?_ ?_|refine lt ?_ ?_|simp only[*];done|simp only[fb, *,not_false_eq_true,and_self];done|exact lf ‹_› (by simp only[*]))|refine aC ?_ (by repeat' first|exact lr _|assumption|refine ls ?_ ?_|refine lt ?_ ?_|simp only[*];done|simp only[fb, *,not_false_eq_true,and_self];done|exact lf ‹_› (by simp only[*]))|simp -dsimp only[↓bp,bq,br,seval,gC, *]|refine wz ?_|fail)
 refine aY (fun n e σ'=>∃ i:Nat,i <=(t.limbs).length /\ n=(t.limbs).length - i /\ e 31= .int .i64 i /\ dZ (σ0.setBox bx [.int .u8 1, .bool t.neg,jF t.limbs, .str t.text, .int .i64 t.num,dK t.items,dK t.tail]) σ' b (X++T++bU 1 t.limbs.length++mN (t.limbs.take i))) (t.limbs).length
   ⟨0,by omega,by omega,by simp -dsimp only[↓bp,bq,br,seval,gC];first|done|rfl,by simpa [mN] using hB3⟩ ?_
 rintro n v σ' ⟨i,hi,rfl,h31,hB⟩
 simp -dsimp only[↓bp,bq,br,seval,gC]at h31
 simp -dsimp only[↓bp,bq,br,seval,gC,h31]
 refine dQ (fun hlt=> ?_) (fun hge=> ?_)
 ·obtain⟨x,hx⟩:∃ x,t.limbs[i]? =some x:=⟨_,List.getElem?_eq_getElem (by omega)⟩
  have hi:i < t.limbs.length:=(List.getElem?_eq_some_iff.1 hx).1
  have hwx:IntKind.i64.wrap (x.toNat:Int)=x.toNat:=aH (by omega) (by have:=x.toNat_lt;omega)
  replace t4:=t4 _ _ x i hi hB
  rw[Int.toNat_natCast]at t4
  clear fin hB1 hB2 hB3 hB
  repeat'(first|refine xs ?_ ?_ <;>intros|(refine wn ?_;intro bx hbx;try simp only[fb]at hbx)|((refine aJ.mono t4 ?_;rintro r s6 ⟨rfl,hB4⟩;clear t4))|refine aQ ?_|(refine aB ?_;intro bx hbx;(try simp only[fb]at hbx))|refine aD ?_|((with_reducible refine And.intro ?_ ?_);omega)|refine aA (d':=⟨⟩) ?_|refine aR (by kernel_rfl) ?_|refine aP ?_ (by repeat' first|exact lr _|assumption|refine ls ?_ ?_|refine lt ?_ ?_|simp only[*];done|simp only[fb, *,not_false_eq_true,and_self];done|exact lf ‹_› (by simp only[*]))|refine aC ?_ (by repeat' first|exact lr _|assumption|refine ls ?_ ?_|refine lt ?_ ?_|simp only[*];done|simp only[fb, *,not_false_eq_true,and_self];done|exact lf ‹_› (by simp only[*]))|simp -dsimp only[↓bp,bq,br,seval,gC,mM,hwx, *]|refine wz ?_|fail)
  refine⟨t.limbs.length - (i+1),by omega,i+1,by omega,rfl,by rw[aH (by omega) (by omega)];rfl,?_⟩
  rw[aK _ _ _ hx]
  unfold mN at hB4 ⊢
  rw[List.flatMap_append,List.flatMap_cons,List.flatMap_nil,List.append_nil,<- List.append_assoc]
  exact hB4
 ·have:i=t.limbs.length:=by omega
  subst this
  rw[List.take_length]at hB
  clear hi hge t4 hB1 hB2 hB3
  repeat'(first|refine xs ?_ ?_ <;>intros|(refine wn ?_;intro bx hbx;try simp only[fb]at hbx)|refine aQ ?_|(refine aB ?_;intro bx hbx;(try simp only[fb]at hbx))|refine aD ?_|((with_reducible refine And.intro ?_ ?_);omega)|refine aA (d':=⟨⟩) ?_|refine aR (by kernel_rfl) ?_|refine aP ?_ (by repeat' first|exact lr _|assumption|refine ls ?_ ?_|refine lt ?_ ?_|simp only[*];done|simp only[fb, *,not_false_eq_true,and_self];done|exact lf ‹_› (by simp only[*]))|refine aC ?_ (by repeat' first|exact lr _|assumption|refine ls ?_ ?_|refine lt ?_ ?_|simp only[*];done|simp only[fb, *,not_false_eq_true,and_self];done|exact lf ‹_› (by simp only[*]))|simp -dsimp only[↓bp,bq,br,seval,gC, *]|refine wz ?_|fail)
  exact aE _ (AS.le.refl _) ⟨rfl,fin _ _ _ hbx hB⟩
theorem A9t{t:aF}{σ0 σ:AS}{b:Nat}{xs:List UInt8}(H:TW G t σ0 σ b xs)(hk:t.knd=7):aJ Tryd.prog G 44 [.ptr b 0,t.enc] σ fun r σ'=>r= .tup [] /\ dZ σ0 σ' b (xs++dS t):=by
 have e:=mY t
 have hl:=H.hl
 have hbe:=t.bulk_eq
 have hlt:=eB t.tail
 have hli:=eB t.items
 have htl:=gZ t.items
 have hwk:IntKind.i64.wrap t.knd=t.knd:=aH (by omega) (by omega)
 have hdt:∀ g,(eN g).length=1:=fun g=>bC _ _
 have t1:=H.first
 have t2:=fun s3 σ1 (hB1:dZ σ1 s3 b (xs++bU 1 t.knd.toNat))=>H.w1 _ _ _ _ hB1 (by rw[nQ];omega) (by rw[nQ];omega)
 have t3:=fun s3 σ1 (hB1:dZ σ1 s3 b (xs++bU 1 t.knd.toNat++(bU 2 t.items.length++bE t.items)))=>zN (G:=G) hB1 (by rw[List.length_append,nQ];omega) (decide ((0:Int) < t.tail.length)) (by rw[List.length_append,nQ,List.length_append,bC];omega)
 have w2:=H.w2
 have hpl:∀ i,(xs++bU 1 t.knd.toNat++(bU 2 t.items.length++bE t.items)++eN (decide ((0:Int) < t.tail.length))++bE (t.tail.take i)).length=xs.length+4+(bE t.items).length+(bE (t.tail.take i)).length:=fun i=>by
  rw[List.length_append,List.length_append,List.length_append,nQ,List.length_append,bC,hdt];omega
 have hsz:∀ i x,t.tail[i]? =some x ->0 < (xs++bU 1 t.knd.toNat++(bU 2 t.items.length++bE t.items)++eN (decide ((0:Int) < t.tail.length))++bE (t.tail.take i)).length /\ (xs++bU 1 t.knd.toNat++(bU 2 t.items.length++bE t.items)++eN (decide ((0:Int) < t.tail.length))++bE (t.tail.take i)).length+8*x.bulk <=900000000:=fun i x hx=>by
  have h1:=A3s hx
  have h2:=gZ (t.tail.take i)
  rw[hpl];omega
 have he:(!t.tail.isEmpty)=decide ((0:Int) < t.tail.length):=by cases t.tail <;>simp
 have fin:∀ bx z s,σ.fresh bx ->dZ (σ0.setBox bx z) s b (xs++bU 1 t.knd.toNat++(bU 2 t.items.length++bE t.items)++eN (decide ((0:Int) < t.tail.length))++bE t.tail) ->dZ σ0 s b (xs++dS t):=fun bx z s hbx h=>H.done hbx (by
  rw[e,if_neg (by omega),if_neg (by omega),if_neg (by omega),if_neg (by omega),if_neg (by omega),if_pos hk,he];simpa [List.append_assoc] using h)
 have hll:t.tail.length <=1000000000:=by omega
 have hle:=H.hB.le
 clear H e hdt hbe hl hpl he hlt hli htl
 rw[hk]at hwk t1 t2 t3 fin
 simp only[hk]at hsz
 generalize xs++bU 1 (Int.toNat 7)++(bU 2 t.items.length++bE t.items)=X at*
 generalize hT:eN (decide ((0:Int) < t.tail.length))=T at*
 refine aJ.of_awp mixed Tryd.func44 rfl (by kernel_rfl) (by kernel_rfl) (by simp[Tryd.ntmps44]) Tryd.results44 ?_
 repeat'(first|refine xs ?_ ?_ <;>intros|(refine wn ?_;intro bx hbx;try simp only[fb]at hbx)|((refine aJ.mono (t1 _ hbx _) ?_;rintro r s3 ⟨rfl,hB1⟩;clear t1;have f1:=hB1.le.box bx _ AS.set_get))|((refine aJ.mono (t2 _ _ hB1) ?_;rintro r s4 ⟨rfl,hB2⟩;clear t2;have f2:=hB2.le.box bx _ AS.set_get))|((refine aJ.mono (t3 _ _ hB2) ?_;rintro r s5 ⟨rfl,hB3⟩;clear t3;have f3:=hB3.le.box bx _ AS.set_get))|refine aQ ?_|(refine aB ?_;intro bx hbx;(try simp only[fb]at hbx))|refine aD ?_|((with_reducible refine And.intro ?_ ?_);omega)|refine aA (d':=⟨⟩) ?_|refine aR (by kernel_rfl) ?_|refine aP ?_ (by repeat' first|exact lr _|assumption|refine ls ?_ ?_|refine lt ?_ ?_|simp only[*];done|simp only[fb, *,not_false_eq_true,and_self];done|exact lf ‹_› (by simp only[*]))|refine aC ?_ (by repeat' first|exact lr _|assumption|refine ls ?_ ?_|refine lt ?_ ?_|simp only[*];done|simp only[fb, *,not_false_eq_true,and_self];done|exact lf ‹_› (by simp only[*]))|simp -dsimp only[↓bp,bq,br,seval,gC, *]|refine wz ?_|fail)
 refine aY (fun n e σ'=>∃ i:Nat,i <=(t.tail).length /\ n=(t.tail).length - i /\ e 87= .int .i64 i /\ dZ (σ0.setBox bx [.int .u8 7, .bool t.neg,jF t.limbs, .str t.text, .int .i64 t.num,dK t.items,dK t.tail]) σ' b (X++T++bE (t.tail.take i))) (t.tail).length
   ⟨0,by omega,by omega,by simp -dsimp only[↓bp,bq,br,seval,gC];first|done|rfl,by simpa [bE] using hB3⟩ ?_
 rintro n v σ' ⟨i,hi,rfl,h87,hB⟩
 simp -dsimp only[↓bp,bq,br,seval,gC]at h87
 simp -dsimp only[↓bp,bq,br,seval,gC,h87]
 refine dQ (fun hlt=> ?_) (fun hge=> ?_)
 ·obtain⟨x,hx⟩:∃ x,t.tail[i]? =some x:=⟨_,List.getElem?_eq_getElem (by omega)⟩
  have hi:i < t.tail.length:=(List.getElem?_eq_some_iff.1 hx).1
  have hp:=w2 x (List.mem_of_getElem? hx)
  obtain⟨hz1,hz2⟩:=hsz i x hx
  have hle2:=hB.le
  clear fin hB1 hB2 hB3 hsz w2
  repeat'(first|refine xs ?_ ?_ <;>intros|(refine wn ?_;intro bx hbx;try simp only[fb]at hbx)|((refine aJ.mono (hp _ _ _ _ (hB.setBox (.inr hbx.1) _) hz1 hz2) ?_;rintro r s6 ⟨rfl,hB4⟩))|refine aQ ?_|(refine aB ?_;intro bx hbx;(try simp only[fb]at hbx))|refine aD ?_|((with_reducible refine And.intro ?_ ?_);omega)|refine aA (d':=⟨⟩) ?_|refine aR (by kernel_rfl) ?_|refine aP ?_ (by repeat' first|exact lr _|assumption|refine ls ?_ ?_|refine lt ?_ ?_|simp only[*];done|simp only[fb, *,not_false_eq_true,and_self];done|exact lf ‹_› (by simp only[*]))|refine aC ?_ (by repeat' first|exact lr _|assumption|refine ls ?_ ?_|refine lt ?_ ?_|simp only[*];done|simp only[fb, *,not_false_eq_true,and_self];done|exact lf ‹_› (by simp only[*]))|simp -dsimp only[↓bp,bq,br,seval,gC, *]|refine wz ?_|fail)
  have hB5:=hB4.less (AS.le.setBox (AS.le.refl _) (hle2.fresh hbx).1 _)
  rw[List.append_assoc (X++T),<- tX,<- aK _ _ _ hx]at hB5
  exact⟨t.tail.length - (i+1),by omega,i+1,by omega,rfl,by rw[aH (by omega) (by omega)];rfl,hB5⟩
 ·have:i=t.tail.length:=by omega
  subst this
  rw[List.take_length]at hB
  clear hi hge hB1 hB2 hB3 hsz w2
  repeat'(first|refine xs ?_ ?_ <;>intros|(refine wn ?_;intro bx hbx;try simp only[fb]at hbx)|refine aQ ?_|(refine aB ?_;intro bx hbx;(try simp only[fb]at hbx))|refine aD ?_|((with_reducible refine And.intro ?_ ?_);omega)|refine aA (d':=⟨⟩) ?_|refine aR (by kernel_rfl) ?_|refine aP ?_ (by repeat' first|exact lr _|assumption|refine ls ?_ ?_|refine lt ?_ ?_|simp only[*];done|simp only[fb, *,not_false_eq_true,and_self];done|exact lf ‹_› (by simp only[*]))|refine aC ?_ (by repeat' first|exact lr _|assumption|refine ls ?_ ?_|refine lt ?_ ?_|simp only[*];done|simp only[fb, *,not_false_eq_true,and_self];done|exact lf ‹_› (by simp only[*]))|simp -dsimp only[↓bp,bq,br,seval,gC, *]|refine wz ?_|fail)
  exact aE _ (AS.le.refl _) ⟨rfl,fin _ _ _ hbx hB⟩
theorem B5c(t:aF):right t=true ->A9v G t:=by
 refine aF.ind (P:=fun t=>right t=true ->A9v G t) (fun t ih1 ih2 hr=> ?_) t
 intro σ0 σ b xs hB h0 hl
 obtain⟨hk1,hk2⟩:=A9e hr
 have H:TW G t σ0 σ b xs:=⟨hB,h0,hl,fun σ0 σ b xs h h0 hl=>xD t.items (fun x hx=>ih1 x hx (hk1 x hx)) h h0 hl,fun x hx=>ih2 x hx (hk2 x hx),C8o hr⟩
 by_cases k1:t.knd=1
 ·exact B5a H k1
 by_cases k2:t.knd=2
 ·exact A9s H k2
 by_cases k3:t.knd=3
 ·exact zQ H (.inl k3)
 by_cases k4:t.knd=4
 ·exact B4z H k4
 by_cases k5:t.knd=5
 ·exact zQ H (.inr k5)
 by_cases k6:t.knd=6
 ·exact B5d H k6
 by_cases k7:t.knd=7
 ·exact A9t H k7
 exact B5b H k1 k2 k3 k4 k5 k6 k7
end
set_option maxRecDepth 20000
section
variable {G:Nat ->AV}
def vK(fs:List UInt8):Bool:=decide (fs.length <=4) && fs.all fun c=>decide (c.toNat < 128)
theorem A1b:∀ k:Fin 256,vK (cV (UInt8.ofNat k)).fields=true:=by decide+kernel
theorem B1i{fs:List UInt8}(h:vK fs=true){p:Nat}{c:UInt8}(hc:fs[p]? =some c):c.toNat < 128:=by
 unfold vK at h
 rw[Bool.and_eq_true,List.all_eq_true]at h
 simpa using h.2 c (List.mem_of_getElem? hc)
end
set_option maxRecDepth 20000
section
def oS:=And.intro (And.intro (And.intro (And.intro @nK (And.intro @nL @lY)) (And.intro (And.intro @kW @kE) (And.intro @oT @nP))) (And.intro (And.intro @jD (And.intro @iF @uH)) (And.intro (And.intro @oU @lC) (And.intro @nA @dH)))) (And.intro (And.intro (And.intro @cK (And.intro @dR @eF)) (And.intro (And.intro @aF.flat_enc @aF.isv_enc) (And.intro @aF.fold_enc @aO.flat_enc))) (And.intro (And.intro (And.intro @aO.isv_enc @aO.fold_enc) (And.intro @cA @bL)) (And.intro (And.intro @dE @fR) (And.intro @dL @cN))))
variable (G:Nat ->AV)
section ix
variable {α:Type}
def ixG(p:α ->Bool)(l:List α):Int:=match l.findIdx? p with
 |some i=>i
 |none=> -1
theorem wF{p:α ->Bool}{l:List α}{i:Nat}{k:α}(h:l[i]? =some k)(h1:p k=true)(h2:∀ x,x ∈ l.take i ->p x=false):ixG p l=i:=by
 obtain⟨hi,rfl⟩:=List.getElem?_eq_some_iff.1 h
 have:l.findIdx? p=some i:=by
  rw[List.findIdx?_eq_some_iff_getElem]
  refine⟨hi,h1,fun j hj=> ?_⟩
  have:=h2 l[j] (by rw[List.mem_take_iff_getElem];exact⟨j,by omega,rfl⟩)
  simp[this]
 simp[ixG,this]
theorem qY{p:α ->Bool}{l:List α}(h:∀ x,x ∈ l ->p x=false):ixG p l= -1:=by
 have:l.findIdx? p=none:=by rw[List.findIdx?_eq_none_iff];exact h
 simp[ixG,this]
theorem A1t(p:α ->Bool)(l:List α):decide (0 <=ixG p l)=l.any p:=by
 by_cases h:l.any p=true
 ·obtain⟨i,hi⟩:∃ i,l.findIdx? p=some i:=by
   cases hf:l.findIdx? p with
   |none=>rw[List.findIdx?_eq_none_iff]at hf;rw[List.any_eq_true]at h;obtain⟨x,hx,hp⟩:=h;rw[hf x hx]at hp;cases hp
   |some i=>exact⟨i,rfl⟩
  rw[h];simp[ixG,hi]
 ·have hf:l.any p=false:=by simpa using h
  rw[hf,qY (by simpa using hf)];rfl
end ix
set_option maxHeartbeats 1000000 in
theorem A1n{f:FuncId}{caps:List AV}{σ0:AS}(p:Int ->Bool)(l:List Int)(hl:l.length <=1099511627776)(hf:∀ x,x ∈ l ->bZ Tryd.prog G f ([kH x]++caps) σ0 (.bool (p x))):
  bZ Tryd.prog G 70 [aW (kH) l, .fn f caps] σ0 (.int .i64 (ixG p l)):=by
 intro σ hσ
 refine aJ.of_awp mixed Tryd.func70 rfl (by kernel_rfl) (by kernel_rfl) (by simp[Tryd.ntmps70]) Tryd.results70 ?_
 simp -dsimp only[↓bp,bq,br,seval,oS]
 refine aY (fun n e σ'=>∃ i:Nat,i <=l.length /\ n=l.length - i /\ e 8= .int .i64 i /\ σ'=σ /\ ∀ x,x ∈ l.take i ->p x=false) l.length
  ⟨0,by omega,by omega,by first|(simp -dsimp only[↓bp,bq,br,seval,oS];done)|(simp -dsimp only[↓bp,bq,br,seval,oS];try rfl),rfl,by simp⟩ ?_
 rintro n v σ' ⟨i,hi,rfl,h8,rfl,hno⟩
 simp -dsimp only[↓bp,bq,br,seval,oS]at h8
 by_cases hlt:(i:Int) < l.length
 ·obtain⟨k,hk⟩:∃ k,l[i]? =some k:=⟨_,List.getElem?_eq_getElem (by omega)⟩
  have hp:=hf k (List.mem_of_getElem? hk)
  have hlt':=eq_true hlt
  have hwi:IntKind.i64.wrap ((i:Int)+1)=((i+1:Nat):Int):=by rw[aH (by omega) (by omega)];rfl
  clear hf hi hlt
  cases hpk:p k with
  | true=>
   rw[hpk]at hp
   have hix:=wF hk hpk hno
   clear hno
   repeat'(first|refine xs ?_ ?_ <;>intros|(refine wn ?_;intro bx hbx;try simp only[fb]at hbx)|refine bZ.use (hp) (by repeat' first|exact lr _|assumption|refine ls ?_ ?_|refine lt ?_ ?_|simp only[*];done|simp only[fb, *,not_false_eq_true,and_self];done|exact lf ‹_› (by simp only[*])) ?_|refine aQ ?_|(refine aB ?_;intro bx hbx;(try simp only[fb]at hbx))|refine aD ?_|((with_reducible refine And.intro ?_ ?_);omega)|refine aA (d':=⟨⟩) ?_|refine aR (by kernel_rfl) ?_|refine aP ?_ (by repeat' first|exact lr _|assumption|refine ls ?_ ?_|refine lt ?_ ?_|simp only[*];done|simp only[fb, *,not_false_eq_true,and_self];done|exact lf ‹_› (by simp only[*]))|refine aC ?_ (by repeat' first|exact lr _|assumption|refine ls ?_ ?_|refine lt ?_ ?_|simp only[*];done|simp only[fb, *,not_false_eq_true,and_self];done|exact lf ‹_› (by simp only[*]))|simp -dsimp only[↓bp,bq,br,seval,oS,iQ, *]|refine wz ?_|fail)
   all_goals rw[hix]
  | false=>
   rw[hpk]at hp
   repeat'(first|refine xs ?_ ?_ <;>intros|(refine wn ?_;intro bx hbx;try simp only[fb]at hbx)|refine bZ.use (hp) (by repeat' first|exact lr _|assumption|refine ls ?_ ?_|refine lt ?_ ?_|simp only[*];done|simp only[fb, *,not_false_eq_true,and_self];done|exact lf ‹_› (by simp only[*])) ?_|refine aQ ?_|(refine aB ?_;intro bx hbx;(try simp only[fb]at hbx))|refine aD ?_|((with_reducible refine And.intro ?_ ?_);omega)|refine aA (d':=⟨⟩) ?_|refine aR (by kernel_rfl) ?_|refine aP ?_ (by repeat' first|exact lr _|assumption|refine ls ?_ ?_|refine lt ?_ ?_|simp only[*];done|simp only[fb, *,not_false_eq_true,and_self];done|exact lf ‹_› (by simp only[*]))|refine aC ?_ (by repeat' first|exact lr _|assumption|refine ls ?_ ?_|refine lt ?_ ?_|simp only[*];done|simp only[fb, *,not_false_eq_true,and_self];done|exact lf ‹_› (by simp only[*]))|simp -dsimp only[↓bp,bq,br,seval,oS,iQ, *]|refine wz ?_|fail)
   all_goals(have hlt:=(List.getElem?_eq_some_iff.1 hk).1)
   all_goals refine⟨l.length - (i+1),by omega,i+1,by omega,rfl,rfl,fun x hx=> ?_⟩
   all_goals(rw[aK _ _ _ hk,List.mem_append,List.mem_singleton]at hx;rcases hx with hx|rfl)
   all_goals first|exact hno _ hx|exact hpk
 ·have:i=l.length:=by omega
  subst this
  have hix:=qY (p:=p) (l:=l) fun x hx=>hno x (by rw[List.take_length];exact hx)
  have hlt':=eq_false hlt
  clear hno hf hi hlt
  repeat'(first|refine xs ?_ ?_ <;>intros|(refine wn ?_;intro bx hbx;try simp only[fb]at hbx)|refine aQ ?_|(refine aB ?_;intro bx hbx;(try simp only[fb]at hbx))|refine aD ?_|((with_reducible refine And.intro ?_ ?_);omega)|refine aA (d':=⟨⟩) ?_|refine aR (by kernel_rfl) ?_|refine aP ?_ (by repeat' first|exact lr _|assumption|refine ls ?_ ?_|refine lt ?_ ?_|simp only[*];done|simp only[fb, *,not_false_eq_true,and_self];done|exact lf ‹_› (by simp only[*]))|refine aC ?_ (by repeat' first|exact lr _|assumption|refine ls ?_ ?_|refine lt ?_ ?_|simp only[*];done|simp only[fb, *,not_false_eq_true,and_self];done|exact lf ‹_› (by simp only[*]))|simp -dsimp only[↓bp,bq,br,seval,oS, *]|refine wz ?_|fail)
  all_goals rw[hix]
theorem uB{f:FuncId}{caps:List AV}{σ0:AS}(p:Int ->Bool)(l:List Int)(hl:l.length <=1099511627776)(hf:∀ x,x ∈ l ->bZ Tryd.prog G f ([kH x]++caps) σ0 (.bool (p x))):
  bZ Tryd.prog G 53 [aW (kH) l, .fn f caps] σ0 (.bool (l.any p)):=by
 intro σ hσ
 refine aJ.of_awp mixed Tryd.func53 rfl (by kernel_rfl) (by kernel_rfl) (by simp[Tryd.ntmps53]) Tryd.results53 ?_
 repeat'(first|refine xs ?_ ?_ <;>intros|(refine wn ?_;intro bx hbx;try simp only[fb]at hbx)|refine bZ.use (A1n G p l hl hf) (by repeat' first|exact lr _|assumption|refine ls ?_ ?_|refine lt ?_ ?_|simp only[*];done|simp only[fb, *,not_false_eq_true,and_self];done|exact lf ‹_› (by simp only[*])) ?_|refine aQ ?_|(refine aB ?_;intro bx hbx;(try simp only[fb]at hbx))|refine aD ?_|((with_reducible refine And.intro ?_ ?_);omega)|refine aA (d':=⟨⟩) ?_|refine aR (by kernel_rfl) ?_|refine aP ?_ (by repeat' first|exact lr _|assumption|refine ls ?_ ?_|refine lt ?_ ?_|simp only[*];done|simp only[fb, *,not_false_eq_true,and_self];done|exact lf ‹_› (by simp only[*]))|refine aC ?_ (by repeat' first|exact lr _|assumption|refine ls ?_ ?_|refine lt ?_ ?_|simp only[*];done|simp only[fb, *,not_false_eq_true,and_self];done|exact lf ‹_› (by simp only[*]))|simp -dsimp only[↓bp,bq,br,seval,oS, *]|refine wz ?_|fail)
 all_goals rw[A1t]
end
set_option maxRecDepth 20000
section
def mX:=And.intro (And.intro (And.intro (And.intro (And.intro @nK @nL) (And.intro @lY @kW)) (And.intro (And.intro @uH @oT) (And.intro @nP @kE))) (And.intro (And.intro (And.intro @C2p @C2q) (And.intro @uI @sV)) (And.intro (And.intro @yJ @iF) (And.intro @D3k (And.intro @C9t @dH))))) (And.intro (And.intro (And.intro (And.intro @cK @dR) (And.intro @eF @cA)) (And.intro (And.intro @bL @dE) (And.intro @aO.flat_enc @aO.isv_enc))) (And.intro (And.intro (And.intro @aO.fold_enc @dA.flat_enc) (And.intro @dA.isv_enc @dA.fold_enc)) (And.intro (And.intro @cU.flat_enc @cU.isv_enc) (And.intro @cU.fold_enc (And.intro @hU @fW)))))
variable {G:Nat ->AV}
def uA(c:cU)(e:dA)(b z:Int):List AV:=[aW dA.enc c.entries,aW aO.enc c.instrs,dK c.consts, .str e.name, .int .i64 e.arity, .int .i64 e.extra, .int .i64 e.slots, .int .i64 e.pos, .int .i64 b, .int .i64 z]
theorem opF(i:aO){k:Nat}(hk:k < 256):(i.opI=(k:Int))=(i.op=UInt8.ofNat k):=propext ⟨fun h=>UInt8.toNat_inj.1 (by rw[UInt8.toNat_ofNat'];unfold aO.opI at h;omega),fun h=>by unfold aO.opI;rw[h,UInt8.toNat_ofNat'];omega⟩
theorem uP{c:cU}{e:dA}{b z:Int}{σ0:AS}{bx:Nat}(hb:σ0.box bx=some (uA c e b z))(n:Int):bZ Tryd.prog G 49 [.int .i64 n, .ptr bx 0] σ0 (.bool (cZ e n)):=by
 intro σ hσ
 have hb':=hσ.box _ _ hb
 unfold uA at hb'
 clear hb
 refine aJ.of_awp mixed Tryd.func49 rfl (by kernel_rfl) (by kernel_rfl) (by simp[Tryd.ntmps49]) Tryd.results49 ?_
 repeat'(first|refine xs ?_ ?_ <;>intros|(refine wn ?_;intro bx hbx;try simp only[fb]at hbx)|refine aQ ?_|(refine aB ?_;intro bx hbx;(try simp only[fb]at hbx))|refine aD ?_|((with_reducible refine And.intro ?_ ?_);omega)|refine aA (d':=⟨⟩) ?_|refine aR (by kernel_rfl) ?_|refine aP ?_ (by repeat' first|exact lr _|assumption|refine ls ?_ ?_|refine lt ?_ ?_|simp only[*];done|simp only[fb, *,not_false_eq_true,and_self];done|exact lf ‹_› (by simp only[*]))|refine aC ?_ (by repeat' first|exact lr _|assumption|refine ls ?_ ?_|refine lt ?_ ?_|simp only[*];done|simp only[fb, *,not_false_eq_true,and_self];done|exact lf ‹_› (by simp only[*]))|simp -dsimp only[↓bp,bq,br,seval,mX, *]|refine wz ?_|fail)
 all_goals(first|(simp only[cZ, *,Bool.and_true,Bool.true_and,Bool.and_false,Bool.false_and,Bool.or_true,Bool.true_or,Bool.or_false,Bool.false_or,Bool.not_true,Bool.not_false,if_true,if_false,Bool.and_self,Bool.or_self];done)|(simp[cZ, *];done)|(simp_all [cZ];done))
theorem D2g{i:aO}{σ0:AS}{bx:Nat}(hb:σ0.box bx=some (flat i.enc))(n:Int):bZ Tryd.prog G 50 [.int .i64 n, .ptr bx 0] σ0 (.bool (jB i.op n)):=by
 intro σ hσ
 have hb':=hσ.box _ _ hb
 rw[aO.flat_enc]at hb'
 have h13:=opF i (k:=13) (by omega)
 have h17:=opF i (k:=17) (by omega)
 unfold jB
 clear hb
 by_cases k1:i.op=13
 ·rw[if_pos k1]
  have h13:(i.opI=13)=True:=by rw[show(13:Int)=((13:Nat):Int) from rfl,h13];exact eq_true k1
  clear h17 k1
  refine aJ.of_awp mixed Tryd.func50 rfl (by kernel_rfl) (by kernel_rfl) (by simp[Tryd.ntmps50]) Tryd.results50 ?_
  repeat'(first|refine xs ?_ ?_ <;>intros|(refine wn ?_;intro bx hbx;try simp only[fb]at hbx)|refine aQ ?_|(refine aB ?_;intro bx hbx;(try simp only[fb]at hbx))|refine aD ?_|((with_reducible refine And.intro ?_ ?_);omega)|refine aA (d':=⟨⟩) ?_|refine aR (by kernel_rfl) ?_|refine aP ?_ (by repeat' first|exact lr _|assumption|refine ls ?_ ?_|refine lt ?_ ?_|simp only[*];done|simp only[fb, *,not_false_eq_true,and_self];done|exact lf ‹_› (by simp only[*]))|refine aC ?_ (by repeat' first|exact lr _|assumption|refine ls ?_ ?_|refine lt ?_ ?_|simp only[*];done|simp only[fb, *,not_false_eq_true,and_self];done|exact lf ‹_› (by simp only[*]))|simp -dsimp only[↓bp,bq,br,seval,mX, *]|refine wz ?_|fail)
  all_goals(first|(simp only[jB, *,Bool.and_true,Bool.true_and,Bool.and_false,Bool.false_and,Bool.or_true,Bool.true_or,Bool.or_false,Bool.false_or,Bool.not_true,Bool.not_false,if_true,if_false,Bool.and_self,Bool.or_self];done)|(simp[jB, *];done)|(simp_all [jB];done))
 rw[if_neg k1]
 have h13:(i.opI=13)=False:=by rw[show(13:Int)=((13:Nat):Int) from rfl,h13];exact eq_false k1
 by_cases k2:i.op=17
 ·rw[if_pos k2]
  have h17:(i.opI=17)=True:=by rw[show(17:Int)=((17:Nat):Int) from rfl,h17];exact eq_true k2
  clear k1 k2
  refine aJ.of_awp mixed Tryd.func50 rfl (by kernel_rfl) (by kernel_rfl) (by simp[Tryd.ntmps50]) Tryd.results50 ?_
  repeat'(first|refine xs ?_ ?_ <;>intros|(refine wn ?_;intro bx hbx;try simp only[fb]at hbx)|refine aQ ?_|(refine aB ?_;intro bx hbx;(try simp only[fb]at hbx))|refine aD ?_|((with_reducible refine And.intro ?_ ?_);omega)|refine aA (d':=⟨⟩) ?_|refine aR (by kernel_rfl) ?_|refine aP ?_ (by repeat' first|exact lr _|assumption|refine ls ?_ ?_|refine lt ?_ ?_|simp only[*];done|simp only[fb, *,not_false_eq_true,and_self];done|exact lf ‹_› (by simp only[*]))|refine aC ?_ (by repeat' first|exact lr _|assumption|refine ls ?_ ?_|refine lt ?_ ?_|simp only[*];done|simp only[fb, *,not_false_eq_true,and_self];done|exact lf ‹_› (by simp only[*]))|simp -dsimp only[↓bp,bq,br,seval,mX, *]|refine wz ?_|fail)
  all_goals(first|(simp only[jB, *,Bool.and_true,Bool.true_and,Bool.and_false,Bool.false_and,Bool.or_true,Bool.true_or,Bool.or_false,Bool.false_or,Bool.not_true,Bool.not_false,if_true,if_false,Bool.and_self,Bool.or_self];done)|(simp[jB, *];done)|(simp_all [jB];done))
 ·rw[if_neg k2]
  have h17:(i.opI=17)=False:=by rw[show(17:Int)=((17:Nat):Int) from rfl,h17];exact eq_false k2
  clear k1 k2
  refine aJ.of_awp mixed Tryd.func50 rfl (by kernel_rfl) (by kernel_rfl) (by simp[Tryd.ntmps50]) Tryd.results50 ?_
  repeat'(first|refine xs ?_ ?_ <;>intros|(refine wn ?_;intro bx hbx;try simp only[fb]at hbx)|refine aQ ?_|(refine aB ?_;intro bx hbx;(try simp only[fb]at hbx))|refine aD ?_|((with_reducible refine And.intro ?_ ?_);omega)|refine aA (d':=⟨⟩) ?_|refine aR (by kernel_rfl) ?_|refine aP ?_ (by repeat' first|exact lr _|assumption|refine ls ?_ ?_|refine lt ?_ ?_|simp only[*];done|simp only[fb, *,not_false_eq_true,and_self];done|exact lf ‹_› (by simp only[*]))|refine aC ?_ (by repeat' first|exact lr _|assumption|refine ls ?_ ?_|refine lt ?_ ?_|simp only[*];done|simp only[fb, *,not_false_eq_true,and_self];done|exact lf ‹_› (by simp only[*]))|simp -dsimp only[↓bp,bq,br,seval,mX, *]|refine wz ?_|fail)
  all_goals(first|(simp only[jB, *,Bool.and_true,Bool.true_and,Bool.and_false,Bool.false_and,Bool.or_true,Bool.true_or,Bool.or_false,Bool.false_or,Bool.not_true,Bool.not_false,if_true,if_false,Bool.and_self,Bool.or_self];done)|(simp[jB, *];done)|(simp_all [jB];done))
theorem B3q{c:cU}{e:dA}{b z:Int}{σ0:AS}{bx bs:Nat}(hb:σ0.box bx=some (uA c e b z))(hs:σ0.box bs=some [.fn 49 [.ptr bx 0]])(n:Int):bZ Tryd.prog G 54 [kH n, .ptr bs 0] σ0 (.bool (!cZ e n)):=by
 intro σ hσ
 have hs':=hσ.box _ _ hs
 have hp:=(uP (G:=G) hb n)
 unfold kH
 generalize cZ e n=r at*
 clear hb hs
 refine aJ.of_awp mixed Tryd.func54 rfl (by kernel_rfl) (by kernel_rfl) (by simp[Tryd.ntmps54]) Tryd.results54 ?_
 repeat'(first|refine xs ?_ ?_ <;>intros|(refine wn ?_;intro bx hbx;try simp only[fb]at hbx)|refine bZ.use (hp) (by repeat' first|exact lr _|assumption|refine ls ?_ ?_|refine lt ?_ ?_|simp only[*];done|simp only[fb, *,not_false_eq_true,and_self];done|exact lf ‹_› (by simp only[*])) ?_|refine aQ ?_|(refine aB ?_;intro bx hbx;(try simp only[fb]at hbx))|refine aD ?_|((with_reducible refine And.intro ?_ ?_);omega)|refine aA (d':=⟨⟩) ?_|refine aR (by kernel_rfl) ?_|refine aP ?_ (by repeat' first|exact lr _|assumption|refine ls ?_ ?_|refine lt ?_ ?_|simp only[*];done|simp only[fb, *,not_false_eq_true,and_self];done|exact lf ‹_› (by simp only[*]))|refine aC ?_ (by repeat' first|exact lr _|assumption|refine ls ?_ ?_|refine lt ?_ ?_|simp only[*];done|simp only[fb, *,not_false_eq_true,and_self];done|exact lf ‹_› (by simp only[*]))|simp -dsimp only[↓bp,bq,br,seval,mX, *]|refine wz ?_|fail)
 all_goals rfl
theorem B8m(c:cU)(e:dA)(b z:Int)(i:aO)(hc:c.bulk <=1000000000):aN Tryd.prog G 51 [.agg (uA c e b z),i.enc] (.bool (tN c i)):=by
 have hl:c.entries.length <=1000000000:=by have:=iS dA.bulk_pos c.entries;unfold cU.bulk at hc;omega
 unfold tN uA
 clear hc
 by_cases h0:0 <=i.n
 ·obtain⟨n,hn⟩:=Int.eq_ofNat_of_zero_le h0
  rw[if_pos h0]
  have hneg:(i.n < 0)=False:=eq_false (by omega)
  rw[hn]at hneg ⊢
  rw[Int.toNat_natCast]
  cases hx:c.entries[n]? with
  | none=>
   have hge:((c.entries.length:Int) <=(n:Int))=True:=eq_true (by have:=List.getElem?_eq_none_iff.1 hx;omega)
   clear h0 hl
   intro σ
   refine aJ.of_awp mixed Tryd.func51 rfl (by kernel_rfl) (by kernel_rfl) (by simp[Tryd.ntmps51]) Tryd.results51 ?_
   repeat'(first|refine xs ?_ ?_ <;>intros|(refine wn ?_;intro bx hbx;try simp only[fb]at hbx)|refine aQ ?_|(refine aB ?_;intro bx hbx;(try simp only[fb]at hbx))|refine aD ?_|((with_reducible refine And.intro ?_ ?_);omega)|refine aA (d':=⟨⟩) ?_|refine aR (by kernel_rfl) ?_|refine aP ?_ (by repeat' first|exact lr _|assumption|refine ls ?_ ?_|refine lt ?_ ?_|simp only[*];done|simp only[fb, *,not_false_eq_true,and_self];done|exact lf ‹_› (by simp only[*]))|refine aC ?_ (by repeat' first|exact lr _|assumption|refine ls ?_ ?_|refine lt ?_ ?_|simp only[*];done|simp only[fb, *,not_false_eq_true,and_self];done|exact lf ‹_› (by simp only[*]))|simp -dsimp only[↓bp,bq,br,seval,mX, *]|refine wz ?_|fail)
   all_goals rfl
  | some x=>
   have hge:((c.entries.length:Int) <=(n:Int))=False:=eq_false (by have:=(List.getElem?_eq_some_iff.1 hx).1;omega)
   have h5:=opF i (k:=5) (by omega)
   simp only
   by_cases k5:i.op=5
   ·have h5:(i.opI=5)=True:=by rw[show(5:Int)=((5:Nat):Int) from rfl,h5];exact eq_true k5
    rw[if_pos k5]
    clear h0 hl k5
    intro σ
    refine aJ.of_awp mixed Tryd.func51 rfl (by kernel_rfl) (by kernel_rfl) (by simp[Tryd.ntmps51]) Tryd.results51 ?_
    repeat'(first|refine xs ?_ ?_ <;>intros|(refine wn ?_;intro bx hbx;try simp only[fb]at hbx)|refine aQ ?_|(refine aB ?_;intro bx hbx;(try simp only[fb]at hbx))|refine aD ?_|((with_reducible refine And.intro ?_ ?_);omega)|refine aA (d':=⟨⟩) ?_|refine aR (by kernel_rfl) ?_|refine aP ?_ (by repeat' first|exact lr _|assumption|refine ls ?_ ?_|refine lt ?_ ?_|simp only[*];done|simp only[fb, *,not_false_eq_true,and_self];done|exact lf ‹_› (by simp only[*]))|refine aC ?_ (by repeat' first|exact lr _|assumption|refine ls ?_ ?_|refine lt ?_ ?_|simp only[*];done|simp only[fb, *,not_false_eq_true,and_self];done|exact lf ‹_› (by simp only[*]))|simp -dsimp only[↓bp,bq,br,seval,mX, *]|refine wz ?_|fail)
    all_goals rfl
   ·have h5:(i.opI=5)=False:=by rw[show(5:Int)=((5:Nat):Int) from rfl,h5];exact eq_false k5
    rw[if_neg k5]
    clear h0 hl k5
    intro σ
    refine aJ.of_awp mixed Tryd.func51 rfl (by kernel_rfl) (by kernel_rfl) (by simp[Tryd.ntmps51]) Tryd.results51 ?_
    repeat'(first|refine xs ?_ ?_ <;>intros|(refine wn ?_;intro bx hbx;try simp only[fb]at hbx)|refine aQ ?_|(refine aB ?_;intro bx hbx;(try simp only[fb]at hbx))|refine aD ?_|((with_reducible refine And.intro ?_ ?_);omega)|refine aA (d':=⟨⟩) ?_|refine aR (by kernel_rfl) ?_|refine aP ?_ (by repeat' first|exact lr _|assumption|refine ls ?_ ?_|refine lt ?_ ?_|simp only[*];done|simp only[fb, *,not_false_eq_true,and_self];done|exact lf ‹_› (by simp only[*]))|refine aC ?_ (by repeat' first|exact lr _|assumption|refine ls ?_ ?_|refine lt ?_ ?_|simp only[*];done|simp only[fb, *,not_false_eq_true,and_self];done|exact lf ‹_› (by simp only[*]))|simp -dsimp only[↓bp,bq,br,seval,mX, *]|refine wz ?_|fail)
    all_goals(first|(simp only[decide_true,decide_false, *,Bool.and_true,Bool.true_and,Bool.and_false,Bool.false_and,Bool.or_true,Bool.true_or,Bool.or_false,Bool.false_or,Bool.not_true,Bool.not_false,if_true,if_false,Bool.and_self,Bool.or_self];done)|(simp[decide_true,decide_false, *];done)|(simp_all [decide_true,decide_false];done))
 ·have hneg:(i.n < 0)=True:=eq_true (by omega)
  rw[if_neg h0]
  clear h0 hl
  intro σ
  refine aJ.of_awp mixed Tryd.func51 rfl (by kernel_rfl) (by kernel_rfl) (by simp[Tryd.ntmps51]) Tryd.results51 ?_
  repeat'(first|refine xs ?_ ?_ <;>intros|(refine wn ?_;intro bx hbx;try simp only[fb]at hbx)|refine aQ ?_|(refine aB ?_;intro bx hbx;(try simp only[fb]at hbx))|refine aD ?_|((with_reducible refine And.intro ?_ ?_);omega)|refine aA (d':=⟨⟩) ?_|refine aR (by kernel_rfl) ?_|refine aP ?_ (by repeat' first|exact lr _|assumption|refine ls ?_ ?_|refine lt ?_ ?_|simp only[*];done|simp only[fb, *,not_false_eq_true,and_self];done|exact lf ‹_› (by simp only[*]))|refine aC ?_ (by repeat' first|exact lr _|assumption|refine ls ?_ ?_|refine lt ?_ ?_|simp only[*];done|simp only[fb, *,not_false_eq_true,and_self];done|exact lf ‹_› (by simp only[*]))|simp -dsimp only[↓bp,bq,br,seval,mX, *]|refine wz ?_|fail)
  all_goals rfl
def cL(i:aO)(l:List UInt8):List AV:=[.int .u8 i.opI, .int .i64 (if 97 ∈ l then i.a else 0), .int .i64 (if 98 ∈ l then i.b else 0), .int .i64 (if 99 ∈ l then i.c else 0), .int .i64 (if 107 ∈ l \/ 102 ∈ l \/ 110 ∈ l then i.n else 0), .int .i64 (if 108 ∈ l then i.l else 0), .str (if 116 ∈ l then i.text else[]),if 115 ∈ l then aW kH i.slots else .nil]
theorem B1x(i:aO):cL i []=[.int .u8 i.opI, .int .i64 0, .int .i64 0, .int .i64 0, .int .i64 0, .int .i64 0, .str [], .nil]:=by simp[cL]
theorem B6e(i:aO)(l:List UInt8)(A B C N L:Int)(T:List UInt8)(W:AV)(h:cL i l=[.int .u8 i.opI, .int .i64 A, .int .i64 B, .int .i64 C, .int .i64 N, .int .i64 L, .str T,W]):cL i (l++[97])=[.int .u8 i.opI, .int .i64 i.a, .int .i64 B, .int .i64 C, .int .i64 N, .int .i64 L, .str T,W]:=by
 simp only[cL,List.cons.injEq,AV.int.injEq,AV.str.injEq,true_and,and_true]at h
 obtain⟨h1,h2,h3,h4,h5,h6,h7⟩:=h
 simp[cL,List.mem_append,h1,h2,h3,h4,h5,h6,h7]
theorem B6f(i:aO)(l:List UInt8)(A B C N L:Int)(T:List UInt8)(W:AV)(h:cL i l=[.int .u8 i.opI, .int .i64 A, .int .i64 B, .int .i64 C, .int .i64 N, .int .i64 L, .str T,W]):cL i (l++[98])=[.int .u8 i.opI, .int .i64 A, .int .i64 i.b, .int .i64 C, .int .i64 N, .int .i64 L, .str T,W]:=by
 simp only[cL,List.cons.injEq,AV.int.injEq,AV.str.injEq,true_and,and_true]at h
 obtain⟨h1,h2,h3,h4,h5,h6,h7⟩:=h
 simp[cL,List.mem_append,h1,h2,h3,h4,h5,h6,h7]
theorem B6g(i:aO)(l:List UInt8)(A B C N L:Int)(T:List UInt8)(W:AV)(h:cL i l=[.int .u8 i.opI, .int .i64 A, .int .i64 B, .int .i64 C, .int .i64 N, .int .i64 L, .str T,W]):cL i (l++[99])=[.int .u8 i.opI, .int .i64 A, .int .i64 B, .int .i64 i.c, .int .i64 N, .int .i64 L, .str T,W]:=by
 simp only[cL,List.cons.injEq,AV.int.injEq,AV.str.injEq,true_and,and_true]at h
 obtain⟨h1,h2,h3,h4,h5,h6,h7⟩:=h
 simp[cL,List.mem_append,h1,h2,h3,h4,h5,h6,h7]
theorem B1s(i:aO)(l:List UInt8)(A B C N L:Int)(T:List UInt8)(W:AV)(h:cL i l=[.int .u8 i.opI, .int .i64 A, .int .i64 B, .int .i64 C, .int .i64 N, .int .i64 L, .str T,W]):cL i (l++[107])=[.int .u8 i.opI, .int .i64 A, .int .i64 B, .int .i64 C, .int .i64 i.n, .int .i64 L, .str T,W]:=by
 simp only[cL,List.cons.injEq,AV.int.injEq,AV.str.injEq,true_and,and_true]at h
 obtain⟨h1,h2,h3,h4,h5,h6,h7⟩:=h
 simp[cL,List.mem_append,h1,h2,h3,h4,h5,h6,h7]
theorem B1r(i:aO)(l:List UInt8)(A B C N L:Int)(T:List UInt8)(W:AV)(h:cL i l=[.int .u8 i.opI, .int .i64 A, .int .i64 B, .int .i64 C, .int .i64 N, .int .i64 L, .str T,W]):cL i (l++[102])=[.int .u8 i.opI, .int .i64 A, .int .i64 B, .int .i64 C, .int .i64 i.n, .int .i64 L, .str T,W]:=by
 simp only[cL,List.cons.injEq,AV.int.injEq,AV.str.injEq,true_and,and_true]at h
 obtain⟨h1,h2,h3,h4,h5,h6,h7⟩:=h
 simp[cL,List.mem_append,h1,h2,h3,h4,h5,h6,h7]
theorem B1u(i:aO)(l:List UInt8)(A B C N L:Int)(T:List UInt8)(W:AV)(h:cL i l=[.int .u8 i.opI, .int .i64 A, .int .i64 B, .int .i64 C, .int .i64 N, .int .i64 L, .str T,W]):cL i (l++[110])=[.int .u8 i.opI, .int .i64 A, .int .i64 B, .int .i64 C, .int .i64 i.n, .int .i64 L, .str T,W]:=by
 simp only[cL,List.cons.injEq,AV.int.injEq,AV.str.injEq,true_and,and_true]at h
 obtain⟨h1,h2,h3,h4,h5,h6,h7⟩:=h
 simp[cL,List.mem_append,h1,h2,h3,h4,h5,h6,h7]
theorem B1w(i:aO)(l:List UInt8)(A B C N L:Int)(T:List UInt8)(W:AV)(h:cL i l=[.int .u8 i.opI, .int .i64 A, .int .i64 B, .int .i64 C, .int .i64 N, .int .i64 L, .str T,W]):cL i (l++[116])=[.int .u8 i.opI, .int .i64 A, .int .i64 B, .int .i64 C, .int .i64 N, .int .i64 L, .str i.text,W]:=by
 simp only[cL,List.cons.injEq,AV.int.injEq,AV.str.injEq,true_and,and_true]at h
 obtain⟨h1,h2,h3,h4,h5,h6,h7⟩:=h
 simp[cL,List.mem_append,h1,h2,h3,h4,h5,h6,h7]
theorem B1v(i:aO)(l:List UInt8)(A B C N L:Int)(T:List UInt8)(W:AV)(h:cL i l=[.int .u8 i.opI, .int .i64 A, .int .i64 B, .int .i64 C, .int .i64 N, .int .i64 L, .str T,W]):cL i (l++[115])=[.int .u8 i.opI, .int .i64 A, .int .i64 B, .int .i64 C, .int .i64 N, .int .i64 L, .str T,aW kH i.slots]:=by
 simp only[cL,List.cons.injEq,AV.int.injEq,AV.str.injEq,true_and,and_true]at h
 obtain⟨h1,h2,h3,h4,h5,h6,h7⟩:=h
 simp[cL,List.mem_append,h1,h2,h3,h4,h5,h6,h7]
theorem B1t(i:aO)(l:List UInt8)(A B C N L:Int)(T:List UInt8)(W:AV)(h:cL i l=[.int .u8 i.opI, .int .i64 A, .int .i64 B, .int .i64 C, .int .i64 N, .int .i64 L, .str T,W]):cL i (l++[108])=[.int .u8 i.opI, .int .i64 A, .int .i64 B, .int .i64 C, .int .i64 N, .int .i64 i.l, .str T,W]:=by
 simp only[cL,List.cons.injEq,AV.int.injEq,AV.str.injEq,true_and,and_true]at h
 obtain⟨h1,h2,h3,h4,h5,h6,h7⟩:=h
 simp[cL,List.mem_append,h1,h2,h3,h4,h5,h6,h7]
theorem A3o(i:aO)(l:List UInt8)(c:UInt8)(k97: ¬ c=97)(k98: ¬ c=98)(k99: ¬ c=99)(k107: ¬ c=107)(k102: ¬ c=102)(k110: ¬ c=110)(k116: ¬ c=116)(k115: ¬ c=115)(k108: ¬ c=108):cL i (l++[c])=cL i l:=by
 simp[cL,List.mem_append,Ne.symm k97,Ne.symm k98,Ne.symm k99,Ne.symm k107,Ne.symm k102,Ne.symm k110,Ne.symm k116,Ne.symm k115,Ne.symm k108]
end
end Go.Proofs.YthoenjlenkpnnaaDoor
