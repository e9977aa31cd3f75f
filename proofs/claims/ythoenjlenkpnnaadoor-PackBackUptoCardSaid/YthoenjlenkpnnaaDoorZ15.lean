/- pack's writer: terms. -/
import Derived.Test.YthoenjlenkpnnaaDoorZ11
import Derived.Test.YthoenjlenkpnnaaDoorZ13
import Derived.Test.YthoenjlenkpnnaaDoorZ12
import Derived.Test.YthoenjlenkpnnaaDoorZ10
import Derived.Test.YthoenjlenkpnnaaDoorZ08
set_option linter.unusedVariables false
set_option linter.unusedSimpArgs false
set_option maxRecDepth 20000
set_option linter.defProp false
namespace Go.Proofs.YthoenjlenkpnnaaDoor
open Go Go.Av
section
def gR:=And.intro (And.intro (And.intro (And.intro @mD (And.intro @mE @mA)) (And.intro (And.intro @mB @lG) (And.intro @lJ @kN))) (And.intro (And.intro @lF (And.intro @oB @jF)) (And.intro (And.intro @iB @A7j) (And.intro @A7n @A7k)))) (And.intro (And.intro (And.intro @C4h (And.intro @C4i @aF.flat_enc)) (And.intro (And.intro @aF.isv_enc @aF.fold_enc) (And.intro @bX @bL))) (And.intro (And.intro @dC (And.intro @fF @dO)) (And.intro (And.intro @cQ @eX) (And.intro @gY @eJ))))
variable {G:Nat ->AV}
mutual
theorem B6b:∀ t:aF,(dX t).length <=8*t.bulk
 | .mk k g l s n ks ts=>by
  have h1:=gT ks
  have h2:=gT ts
  have h3:=dE ks
  have hfl:(l.flatMap fun x=>cA 4 x.toNat).length=4*l.length:=by
   induction l with
   |nil=>rfl
   |cons x l ih=>rw[List.flatMap_cons,List.length_append,ih,bA,List.length_cons];omega
  have ht:∀ b,(eT b).length=1:=fun b=>bA _ _
  rw[jD,List.length_append,bA,aF.bulk]
  split
  ·rw[List.length_append,List.length_append,ht,bA,hfl];omega
  ·split
   ·rw[iA,List.length_append,bA];omega
   ·split
    ·rw[bA];omega
    ·split
     ·rw[List.length_append,List.length_append,bA,bA];omega
     ·split
      ·rw[List.length_append,bA];omega
      ·split
       ·rw[List.length_append,List.length_append,List.length_append,bA,ht];omega
       ·simp;omega
theorem gT:∀ l:List aF,(bF l).length <=8*bQ l
 |[]=>by simp[bF]
 | t::l=>by
  have h1:=B6b t
  have h2:=gT l
  rw[bF,List.length_append,bQ];omega
end
theorem uV(l:List aF)(x:aF):bF (l++[x])=bF l++dX x:=by rw[fT,fT];simp
def B1h(G:Nat ->AV)(t:aF):Prop:=∀ (σ0 σ:AS) (b:Nat) (xs:List UInt8),eG σ0 σ b xs ->0 < xs.length ->xs.length+8*t.bulk <=900000000 ->aJ Tryd.prog G 44 [.ptr b 0,t.enc] σ fun r σ'=>r= .tup [] /\ eG σ0 σ' b (xs++dX t)
theorem A4y{l:List aF}{i:Nat}{x:aF}(h:l[i]? =some x):bQ (l.take i)+x.bulk <=bQ l:=by
 have h1:=nG l (i+1)
 rw[aM _ _ _ h,jB]at h1
 simp only[bQ]at h1;omega
set_option maxHeartbeats 1000000 in
theorem yE(l:List aF)(hf:∀ x,x ∈ l ->B1h G x){σ0 σ:AS}{b:Nat}{xs:List UInt8}(h:eG σ0 σ b xs)(h0:0 < xs.length)(hl:xs.length+8*bQ l+2 <=900000000):aJ Tryd.prog G 21 [.ptr b 0,cZ l] σ fun r σ'=>r= .tup [] /\ eG σ0 σ' b (xs++(cA 2 l.length++bF l)):=by
 have hll:=dE l
 have t1:=dT (G:=G) h h0 2 (by omega) l.length (by omega) (by omega) (by omega) .full
 rw[Int.toNat_natCast]at t1
 clear h
 refine aJ.of_awp mixed Tryd.func21 rfl (by kernel_rfl) (by kernel_rfl) (by simp[Tryd.ntmps21]) Tryd.results21 ?_
 repeat'(first|refine xs ?_ ?_ <;>intros|(refine wn ?_;intro bx hbx;try simp only[fb]at hbx)|((refine aJ.mono t1 ?_;rintro r s3 ⟨rfl,hB1⟩;clear t1))|refine aP ?_|(refine aB ?_;intro bx hbx;(try simp only[fb]at hbx))|refine aD ?_|((with_reducible refine And.intro ?_ ?_);omega)|refine aA (d':=⟨⟩) ?_|refine aR (by kernel_rfl) ?_|refine aO ?_ (by repeat' first|exact lr _|assumption|refine ls ?_ ?_|refine lt ?_ ?_|simp only[*];done|simp only[fb, *,not_false_eq_true,and_self];done|exact lf ‹_› (by simp only[*]))|refine aC ?_ (by repeat' first|exact lr _|assumption|refine ls ?_ ?_|refine lt ?_ ?_|simp only[*];done|simp only[fb, *,not_false_eq_true,and_self];done|exact lf ‹_› (by simp only[*]))|simp -dsimp only[↓bp,bq,br,seval,gR, *]|refine wz ?_|fail)
 refine aU (fun n e σ'=>∃ i:Nat,i <=(l).length /\ n=(l).length - i /\ e 13= .int .i64 i /\ eG σ0 σ' b (xs++cA 2 l.length++bF (l.take i))) (l).length
   ⟨0,by omega,by omega,by simp -dsimp only[↓bp,bq,br,seval,gR];first|done|rfl,by simpa [bF] using hB1⟩ ?_
 rintro n v σ' ⟨i,hi,rfl,h13,hB⟩
 simp -dsimp only[↓bp,bq,br,seval,gR]at h13
 simp -dsimp only[↓bp,bq,br,seval,gR,h13]
 refine cX (fun hlt=> ?_) (fun hge=> ?_)
 ·obtain⟨x,hx⟩:∃ x,l[i]? =some x:=⟨_,List.getElem?_eq_getElem (by omega)⟩
  have hp:=hf x (List.mem_of_getElem? hx)
  have hbk:=A4y hx
  have hi:i < l.length:=(List.getElem?_eq_some_iff.1 hx).1
  have hlen:=gT (l.take i)
  have hle:(xs++cA 2 l.length++bF (l.take i)).length+8*x.bulk <=900000000:=by rw[List.length_append,List.length_append,bA];omega
  have hpos:0 < (xs++cA 2 l.length++bF (l.take i)).length:=by rw[List.length_append,List.length_append];omega
  have hB0:=hB.le
  clear hf hlen
  repeat'(first|refine xs ?_ ?_ <;>intros|(refine wn ?_;intro bx hbx;try simp only[fb]at hbx)|((refine aJ.mono (hp _ _ _ _ (hB.setBox (.inr hbx.1) _) hpos hle) ?_;rintro r s4 ⟨rfl,hB2⟩))|refine aP ?_|(refine aB ?_;intro bx hbx;(try simp only[fb]at hbx))|refine aD ?_|((with_reducible refine And.intro ?_ ?_);omega)|refine aA (d':=⟨⟩) ?_|refine aR (by kernel_rfl) ?_|refine aO ?_ (by repeat' first|exact lr _|assumption|refine ls ?_ ?_|refine lt ?_ ?_|simp only[*];done|simp only[fb, *,not_false_eq_true,and_self];done|exact lf ‹_› (by simp only[*]))|refine aC ?_ (by repeat' first|exact lr _|assumption|refine ls ?_ ?_|refine lt ?_ ?_|simp only[*];done|simp only[fb, *,not_false_eq_true,and_self];done|exact lf ‹_› (by simp only[*]))|simp -dsimp only[↓bp,bq,br,seval,gR, *]|refine wz ?_|fail)
  have hB3:=hB2.less (AS.le.setBox (AS.le.refl σ0) (hB0.fresh hbx).1 _)
  rw[List.append_assoc (xs++cA 2 l.length),<- uV,<- aM _ _ _ hx]at hB3
  exact⟨l.length - (i+1),by omega,i+1,by omega,rfl,by rw[aG (by omega) (by omega)];rfl,hB3⟩
 ·have:i=l.length:=by omega
  subst this
  rw[List.take_length,List.append_assoc]at hB
  clear hi hge
  repeat'(first|refine xs ?_ ?_ <;>intros|(refine wn ?_;intro bx hbx;try simp only[fb]at hbx)|refine aP ?_|(refine aB ?_;intro bx hbx;(try simp only[fb]at hbx))|refine aD ?_|((with_reducible refine And.intro ?_ ?_);omega)|refine aA (d':=⟨⟩) ?_|refine aR (by kernel_rfl) ?_|refine aO ?_ (by repeat' first|exact lr _|assumption|refine ls ?_ ?_|refine lt ?_ ?_|simp only[*];done|simp only[fb, *,not_false_eq_true,and_self];done|exact lf ‹_› (by simp only[*]))|refine aC ?_ (by repeat' first|exact lr _|assumption|refine ls ?_ ?_|refine lt ?_ ?_|simp only[*];done|simp only[fb, *,not_false_eq_true,and_self];done|exact lf ‹_› (by simp only[*]))|simp -dsimp only[↓bp,bq,br,seval,gR, *]|refine wz ?_|fail)
  exact aE _ (AS.le.refl _) ⟨rfl,hB⟩
theorem B0r{t:aF}(h:right t=true):(∀ x,x ∈ t.items ->right x=true) /\ ∀ x,x ∈ t.tail ->right x=true:=⟨(nS h).items,(nS h).tail⟩
theorem D0i{t:aF}(h:right t=true)(hk:t.knd=3 \/ t.knd=5 \/ t.knd=4):0 <=t.num /\ t.num <=9223372036854775807:=by
 rcases hk with hk|hk|hk
 ·have:=qW h (.inl hk);omega
 ·have:=qW h (.inr hk);omega
 ·have:=xO h hk;omega
def D1o(G:Nat ->AV)(l:List aF):Prop:=∀ (σ0 σ:AS) (b:Nat) (xs:List UInt8),eG σ0 σ b xs ->0 < xs.length ->xs.length+8*bQ l+2 <=900000000 ->aJ Tryd.prog G 21 [.ptr b 0,cZ l] σ fun r σ'=>r= .tup [] /\ eG σ0 σ' b (xs++(cA 2 l.length++bF l))
def nN(l:List UInt32):List UInt8:=l.flatMap fun x=>cA 4 x.toNat
theorem B0d(l:List UInt32):(nN l).length=4*l.length:=by
 induction l with
 |nil=>rfl
 |cons x l ih=>unfold nN at ih ⊢;rw[List.flatMap_cons,List.length_append,ih,bA,List.length_cons];omega
theorem C8j{t:aF}{m:Nat}(hm:m < 256)(h:t.knd=m):t.kind=UInt8.ofNat m:=by
 apply UInt8.toNat_inj.1
 rw[UInt8.toNat_ofNat',Nat.mod_eq_of_lt hm]
 have:(t.kind.toNat:Int)=m:=h
 omega
theorem nY(t:aF):dX t=cA 1 t.knd.toNat++(
  if t.knd=1 then eT t.neg++(cA 1 t.limbs.length++nN t.limbs)
  else if t.knd=2 then iA t.text
  else if t.knd=3 \/ t.knd=5 then cA 6 t.num.toNat
  else if t.knd=4 then cA 2 t.num.toNat++(cA 2 t.items.length++bF t.items)
  else if t.knd=6 then cA 2 t.items.length++bF t.items
  else if t.knd=7 then cA 2 t.items.length++bF t.items++(eT (!t.tail.isEmpty)++bF t.tail)
  else[]):=by
 have kk:∀ m:Nat,m < 256 -> (t.kind=UInt8.ofNat m ↔ t.knd=m):=fun m hm=> ⟨fun e=>by unfold aF.knd;rw[e,UInt8.toNat_ofNat',Nat.mod_eq_of_lt hm],C8j hm⟩
 have k1:=kk 1 (by omega);have k2:=kk 2 (by omega);have k3:=kk 3 (by omega);have k4:=kk 4 (by omega);have k5:=kk 5 (by omega);have k6:=kk 6 (by omega);have k7:=kk 7 (by omega)
 have h0:t.knd.toNat=t.kind.toNat:=rfl
 rw[h0]
 obtain⟨k,g,l,s,n,ks,ts⟩:=t
 rw[jD]
 simp only[aF.kind]at k1 k2 k3 k4 k5 k6 k7
 simp only[aF.kind,aF.neg,aF.limbs,aF.text,aF.num,aF.items,aF.tail,nN]
 congr 1
 simp only[show(1:UInt8)=UInt8.ofNat 1 from rfl,show(2:UInt8)=UInt8.ofNat 2 from rfl,show(3:UInt8)=UInt8.ofNat 3 from rfl,show(4:UInt8)=UInt8.ofNat 4 from rfl,show(5:UInt8)=UInt8.ofNat 5 from rfl,show(6:UInt8)=UInt8.ofNat 6 from rfl,show(7:UInt8)=UInt8.ofNat 7 from rfl,k1,k2,k3,k4,k5,k6,k7]
 rfl
structure TW(G:Nat ->AV)(t:aF)(σ0 σ:AS)(b:Nat)(xs:List UInt8):Prop where
 hB:eG σ0 σ b xs
 h0:0 < xs.length
 hl:xs.length+8*t.bulk <=900000000
 w1:D1o G t.items
 w2:∀ x,x ∈ t.tail ->B1h G x
 num:t.knd=3 \/ t.knd=5 \/ t.knd=4 ->0 <=t.num /\ t.num <=9223372036854775807
theorem TW.first{t:aF}{σ0 σ:AS}{b:Nat}{xs:List UInt8}(H:TW G t σ0 σ b xs)(bx:Nat)(hbx:σ.fresh bx)(z:List AV):aJ Tryd.prog G 18 [.ptr b 0, .int .i64 1, .sl .full [.int .i64 t.knd] []] (σ.setBox bx z) fun r σ'=>r= .tup [] /\ eG (σ0.setBox bx z) σ' b (xs++cA 1 t.knd.toNat):=by
 have:=t.knd_nn;have:=t.knd_lt;have:=t.bulk_eq;have:=H.hl
 exact dT (G:=G) (H.hB.setBox (.inr hbx.1) z) H.h0 1 (by omega) t.knd (by omega) (by omega) (by omega) .full
theorem oP{xs:List UInt8}{m:Nat} :(xs++cA 1 m).length=xs.length+1:=by rw[List.length_append,bA]
theorem TW.done{t:aF}{σ0 σ s:AS}{b bx:Nat}{xs:List UInt8}{z:List AV}(H:TW G t σ0 σ b xs)(hbx:σ.fresh bx)(h:eG (σ0.setBox bx z) s b (xs++dX t)):eG σ0 s b (xs++dX t):=
 h.less (AS.le.setBox (AS.le.refl σ0) (H.hB.le.fresh hbx).1 _)
theorem A0q{t:aF}{σ0 σ:AS}{b:Nat}{xs:List UInt8}(H:TW G t σ0 σ b xs)(hk:t.knd=3 \/ t.knd=5):aJ Tryd.prog G 44 [.ptr b 0,t.enc] σ fun r σ'=>r= .tup [] /\ eG σ0 σ' b (xs++dX t):=by
 have e:=nY t
 have hn:=H.num (by omega)
 have c1:(t.knd=1)=False:=eq_false (by omega)
 have c2:(t.knd=2)=False:=eq_false (by omega)
 have hwk:IntKind.i64.wrap t.knd=t.knd:=aG (by omega) (by omega)
 have t1:=H.first
 have t2:=fun s3 σ1 (hB1:eG σ1 s3 b (xs++cA 1 t.knd.toNat))=>dT (G:=G) hB1 (by rw[oP];omega) 6 (by omega) t.num hn.1 hn.2 (by rw[oP];have:=H.hl;have:=t.bulk_eq;omega) .full
 have fin:∀ bx z s,σ.fresh bx ->eG (σ0.setBox bx z) s b (xs++cA 1 t.knd.toNat++cA 6 t.num.toNat) ->eG σ0 s b (xs++dX t):=fun bx z s hbx h=>H.done hbx (by
  rw[e];simp only[c1,c2,if_pos hk,if_false];rw[<- List.append_assoc];exact h)
 clear H e hn
 rcases hk with hk|hk
 all_goals rw[hk]at c1 c2 hwk t1 t2 fin
 all_goals clear c1 c2
 all_goals refine aJ.of_awp mixed Tryd.func44 rfl (by kernel_rfl) (by kernel_rfl) (by simp[Tryd.ntmps44]) Tryd.results44 ?_
 all_goals repeat'(first|refine xs ?_ ?_ <;>intros|(refine wn ?_;intro bx hbx;try simp only[fb]at hbx)|((refine aJ.mono (t1 _ hbx _) ?_;rintro r s3 ⟨rfl,hB1⟩;clear t1;have f1:=hB1.le.box bx _ AS.set_get))|((refine aJ.mono (t2 _ _ hB1) ?_;rintro r s4 ⟨rfl,hB2⟩;clear t2))|refine aP ?_|(refine aB ?_;intro bx hbx;(try simp only[fb]at hbx))|refine aD ?_|((with_reducible refine And.intro ?_ ?_);omega)|refine aA (d':=⟨⟩) ?_|refine aR (by kernel_rfl) ?_|refine aO ?_ (by repeat' first|exact lr _|assumption|refine ls ?_ ?_|refine lt ?_ ?_|simp only[*];done|simp only[fb, *,not_false_eq_true,and_self];done|exact lf ‹_› (by simp only[*]))|refine aC ?_ (by repeat' first|exact lr _|assumption|refine ls ?_ ?_|refine lt ?_ ?_|simp only[*];done|simp only[fb, *,not_false_eq_true,and_self];done|exact lf ‹_› (by simp only[*]))|simp -dsimp only[↓bp,bq,br,seval,gR, *]|refine wz ?_|fail)
 all_goals exact aE _ (AS.le.refl _) ⟨rfl,fin _ _ _ hbx hB2⟩
theorem B1e{t:aF}{σ0 σ:AS}{b:Nat}{xs:List UInt8}(H:TW G t σ0 σ b xs)(hk:t.knd=2):aJ Tryd.prog G 44 [.ptr b 0,t.enc] σ fun r σ'=>r= .tup [] /\ eG σ0 σ' b (xs++dX t):=by
 have e:=nY t
 have hwk:IntKind.i64.wrap t.knd=t.knd:=aG (by omega) (by omega)
 have t1:=H.first
 have t2:=fun s3 σ1 (hB1:eG σ1 s3 b (xs++cA 1 t.knd.toNat))=>xH (G:=G) hB1 (by rw[oP];omega) t.text (by rw[oP];have:=H.hl;have:=t.bulk_eq;omega)
 have fin:∀ bx z s,σ.fresh bx ->eG (σ0.setBox bx z) s b (xs++cA 1 t.knd.toNat++iA t.text) ->eG σ0 s b (xs++dX t):=fun bx z s hbx h=>H.done hbx (by
  rw[e];simp only[hk]at h ⊢;rw[<- List.append_assoc];exact h)
 clear H e
 rw[hk]at hwk t1 t2 fin
 refine aJ.of_awp mixed Tryd.func44 rfl (by kernel_rfl) (by kernel_rfl) (by simp[Tryd.ntmps44]) Tryd.results44 ?_
 repeat'(first|refine xs ?_ ?_ <;>intros|(refine wn ?_;intro bx hbx;try simp only[fb]at hbx)|((refine aJ.mono (t1 _ hbx _) ?_;rintro r s3 ⟨rfl,hB1⟩;clear t1;have f1:=hB1.le.box bx _ AS.set_get))|((refine aJ.mono (t2 _ _ hB1) ?_;rintro r s4 ⟨rfl,hB2⟩;clear t2))|refine aP ?_|(refine aB ?_;intro bx hbx;(try simp only[fb]at hbx))|refine aD ?_|((with_reducible refine And.intro ?_ ?_);omega)|refine aA (d':=⟨⟩) ?_|refine aR (by kernel_rfl) ?_|refine aO ?_ (by repeat' first|exact lr _|assumption|refine ls ?_ ?_|refine lt ?_ ?_|simp only[*];done|simp only[fb, *,not_false_eq_true,and_self];done|exact lf ‹_› (by simp only[*]))|refine aC ?_ (by repeat' first|exact lr _|assumption|refine ls ?_ ?_|refine lt ?_ ?_|simp only[*];done|simp only[fb, *,not_false_eq_true,and_self];done|exact lf ‹_› (by simp only[*]))|simp -dsimp only[↓bp,bq,br,seval,gR, *]|refine wz ?_|fail)
 exact aE _ (AS.le.refl _) ⟨rfl,fin _ _ _ hbx hB2⟩
theorem B6q{t:aF}{σ0 σ:AS}{b:Nat}{xs:List UInt8}(H:TW G t σ0 σ b xs)(hk:t.knd=6):aJ Tryd.prog G 44 [.ptr b 0,t.enc] σ fun r σ'=>r= .tup [] /\ eG σ0 σ' b (xs++dX t):=by
 have e:=nY t
 have hwk:IntKind.i64.wrap t.knd=t.knd:=aG (by omega) (by omega)
 have t1:=H.first
 have t2:=fun s3 σ1 (hB1:eG σ1 s3 b (xs++cA 1 t.knd.toNat))=>H.w1 _ _ _ _ hB1 (by rw[oP];omega) (by rw[oP];have:=H.hl;have:=t.bulk_eq;omega)
 have fin:∀ bx z s,σ.fresh bx ->eG (σ0.setBox bx z) s b (xs++cA 1 t.knd.toNat++(cA 2 t.items.length++bF t.items)) ->eG σ0 s b (xs++dX t):=fun bx z s hbx h=>H.done hbx (by
  rw[e];simp only[hk]at h ⊢;rw[<- List.append_assoc];exact h)
 clear H e
 rw[hk]at hwk t1 t2 fin
 refine aJ.of_awp mixed Tryd.func44 rfl (by kernel_rfl) (by kernel_rfl) (by simp[Tryd.ntmps44]) Tryd.results44 ?_
 repeat'(first|refine xs ?_ ?_ <;>intros|(refine wn ?_;intro bx hbx;try simp only[fb]at hbx)|((refine aJ.mono (t1 _ hbx _) ?_;rintro r s3 ⟨rfl,hB1⟩;clear t1;have f1:=hB1.le.box bx _ AS.set_get))|((refine aJ.mono (t2 _ _ hB1) ?_;rintro r s4 ⟨rfl,hB2⟩;clear t2))|refine aP ?_|(refine aB ?_;intro bx hbx;(try simp only[fb]at hbx))|refine aD ?_|((with_reducible refine And.intro ?_ ?_);omega)|refine aA (d':=⟨⟩) ?_|refine aR (by kernel_rfl) ?_|refine aO ?_ (by repeat' first|exact lr _|assumption|refine ls ?_ ?_|refine lt ?_ ?_|simp only[*];done|simp only[fb, *,not_false_eq_true,and_self];done|exact lf ‹_› (by simp only[*]))|refine aC ?_ (by repeat' first|exact lr _|assumption|refine ls ?_ ?_|refine lt ?_ ?_|simp only[*];done|simp only[fb, *,not_false_eq_true,and_self];done|exact lf ‹_› (by simp only[*]))|simp -dsimp only[↓bp,bq,br,seval,gR, *]|refine wz ?_|fail)
 exact aE _ (AS.le.refl _) ⟨rfl,fin _ _ _ hbx hB2⟩
theorem B6m{t:aF}{σ0 σ:AS}{b:Nat}{xs:List UInt8}(H:TW G t σ0 σ b xs)(hk:t.knd=4):aJ Tryd.prog G 44 [.ptr b 0,t.enc] σ fun r σ'=>r= .tup [] /\ eG σ0 σ' b (xs++dX t):=by
 have e:=nY t
 have hn:=H.num (by omega)
 have hwk:IntKind.i64.wrap t.knd=t.knd:=aG (by omega) (by omega)
 have t1:=H.first
 have t2:=fun s3 σ1 (hB1:eG σ1 s3 b (xs++cA 1 t.knd.toNat))=>dT (G:=G) hB1 (by rw[oP];omega) 2 (by omega) t.num hn.1 hn.2 (by rw[oP];have:=H.hl;have:=t.bulk_eq;omega) .full
 have t3:=fun s3 σ1 (hB1:eG σ1 s3 b (xs++cA 1 t.knd.toNat++cA 2 t.num.toNat))=>H.w1 _ _ _ _ hB1 (by rw[List.length_append,oP];omega) (by rw[List.length_append,oP,bA];have:=H.hl;have:=t.bulk_eq;omega)
 have fin:∀ bx z s,σ.fresh bx ->eG (σ0.setBox bx z) s b (xs++cA 1 t.knd.toNat++cA 2 t.num.toNat++(cA 2 t.items.length++bF t.items)) ->eG σ0 s b (xs++dX t):=fun bx z s hbx h=>H.done hbx (by
  rw[e,if_neg (by omega),if_neg (by omega),if_neg (by omega),if_pos hk];simpa [List.append_assoc] using h)
 clear H e hn
 rw[hk]at hwk t1 t2 t3 fin
 refine aJ.of_awp mixed Tryd.func44 rfl (by kernel_rfl) (by kernel_rfl) (by simp[Tryd.ntmps44]) Tryd.results44 ?_
 repeat'(first|refine xs ?_ ?_ <;>intros|(refine wn ?_;intro bx hbx;try simp only[fb]at hbx)|((refine aJ.mono (t1 _ hbx _) ?_;rintro r s3 ⟨rfl,hB1⟩;clear t1;have f1:=hB1.le.box bx _ AS.set_get))|((refine aJ.mono (t2 _ _ hB1) ?_;rintro r s4 ⟨rfl,hB2⟩;clear t2;have f2:=hB2.le.box bx _ AS.set_get))|((refine aJ.mono (t3 _ _ hB2) ?_;rintro r s5 ⟨rfl,hB3⟩;clear t3))|refine aP ?_|(refine aB ?_;intro bx hbx;(try simp only[fb]at hbx))|refine aD ?_|((with_reducible refine And.intro ?_ ?_);omega)|refine aA (d':=⟨⟩) ?_|refine aR (by kernel_rfl) ?_|refine aO ?_ (by repeat' first|exact lr _|assumption|refine ls ?_ ?_|refine lt ?_ ?_|simp only[*];done|simp only[fb, *,not_false_eq_true,and_self];done|exact lf ‹_› (by simp only[*]))|refine aC ?_ (by repeat' first|exact lr _|assumption|refine ls ?_ ?_|refine lt ?_ ?_|simp only[*];done|simp only[fb, *,not_false_eq_true,and_self];done|exact lf ‹_› (by simp only[*]))|simp -dsimp only[↓bp,bq,br,seval,gR, *]|refine wz ?_|fail)
 exact aE _ (AS.le.refl _) ⟨rfl,fin _ _ _ hbx hB3⟩
theorem B6o{t:aF}{σ0 σ:AS}{b:Nat}{xs:List UInt8}(H:TW G t σ0 σ b xs)(h1: ¬ t.knd=1)(h2: ¬ t.knd=2)(h3: ¬ t.knd=3)(h4: ¬ t.knd=4)(h5: ¬ t.knd=5)(h6: ¬ t.knd=6)(h7: ¬ t.knd=7):aJ Tryd.prog G 44 [.ptr b 0,t.enc] σ fun r σ'=>r= .tup [] /\ eG σ0 σ' b (xs++dX t):=by
 have e:=nY t
 have hwk:IntKind.i64.wrap t.knd=t.knd:=aG (by have:=t.knd_nn;omega) (by have:=t.knd_lt;omega)
 have t1:=H.first
 have fin:∀ bx z s,σ.fresh bx ->eG (σ0.setBox bx z) s b (xs++cA 1 t.knd.toNat) ->eG σ0 s b (xs++dX t):=fun bx z s hbx h=>H.done hbx (by
  rw[e,if_neg h1,if_neg h2,if_neg (by omega),if_neg h4,if_neg h6,if_neg h7,List.append_nil];exact h)
 clear H e
 refine aJ.of_awp mixed Tryd.func44 rfl (by kernel_rfl) (by kernel_rfl) (by simp[Tryd.ntmps44]) Tryd.results44 ?_
 repeat'(first|refine xs ?_ ?_ <;>intros|(refine wn ?_;intro bx hbx;try simp only[fb]at hbx)|((refine aJ.mono (t1 _ hbx _) ?_;rintro r s3 ⟨rfl,hB1⟩;clear t1;have f1:=hB1.le.box bx _ AS.set_get))|refine aP ?_|(refine aB ?_;intro bx hbx;(try simp only[fb]at hbx))|refine aD ?_|((with_reducible refine And.intro ?_ ?_);omega)|refine aA (d':=⟨⟩) ?_|refine aR (by kernel_rfl) ?_|refine aO ?_ (by repeat' first|exact lr _|assumption|refine ls ?_ ?_|refine lt ?_ ?_|simp only[*];done|simp only[fb, *,not_false_eq_true,and_self];done|exact lf ‹_› (by simp only[*]))|refine aC ?_ (by repeat' first|exact lr _|assumption|refine ls ?_ ?_|refine lt ?_ ?_|simp only[*];done|simp only[fb, *,not_false_eq_true,and_self];done|exact lf ‹_› (by simp only[*]))|simp -dsimp only[↓bp,bq,br,seval,gR, *]|refine wz ?_|fail)
 exact aE _ (AS.le.refl _) ⟨rfl,fin _ _ _ hbx hB1⟩
theorem B6n{t:aF}{σ0 σ:AS}{b:Nat}{xs:List UInt8}(H:TW G t σ0 σ b xs)(hk:t.knd=1):aJ Tryd.prog G 44 [.ptr b 0,t.enc] σ fun r σ'=>r= .tup [] /\ eG σ0 σ' b (xs++dX t):=by
 have e:=nY t
 have hl:=H.hl
 have hbe:=t.bulk_eq
 have hwk:IntKind.i64.wrap t.knd=t.knd:=aG (by omega) (by omega)
 have hdt:(eT t.neg).length=1:=bA _ _
 have t1:=H.first
 have t2:=fun s3 σ1 (hB1:eG σ1 s3 b (xs++cA 1 t.knd.toNat))=>A0n (G:=G) hB1 (by rw[oP];omega) t.neg (by rw[oP];omega)
 have t3:=fun s3 σ1 (hB1:eG σ1 s3 b (xs++cA 1 t.knd.toNat++eT t.neg))=>dT (G:=G) hB1 (by rw[List.length_append,oP];omega) 1 (by omega) t.limbs.length (by omega) (by omega) (by rw[List.length_append,oP,hdt];omega) .full
 rw[Int.toNat_natCast]at t3
 have t4:=fun s3 σ1 (x:UInt32) (i:Nat) (hi:i < t.limbs.length) (hB1:eG σ1 s3 b (xs++cA 1 t.knd.toNat++eT t.neg++cA 1 t.limbs.length++nN (t.limbs.take i)))=>dT (G:=G) hB1 (by rw[List.length_append,List.length_append,List.length_append,oP];omega) 4 (by omega) x.toNat (by omega) (by have:=x.toNat_lt;omega) (by rw[List.length_append,List.length_append,List.length_append,oP,hdt,bA,B0d,List.length_take];omega) .full
 have fin:∀ bx z s,σ.fresh bx ->eG (σ0.setBox bx z) s b (xs++cA 1 t.knd.toNat++eT t.neg++cA 1 t.limbs.length++nN t.limbs) ->eG σ0 s b (xs++dX t):=fun bx z s hbx h=>H.done hbx (by
  rw[e,if_pos hk];simpa [List.append_assoc] using h)
 have hll:t.limbs.length <=1000000000:=by omega
 clear H e hdt hbe hl
 rw[hk]at hwk t1 t2 t3 t4 fin
 generalize xs++cA 1 (Int.toNat 1)=X at*
 generalize eT t.neg=T at*
 refine aJ.of_awp mixed Tryd.func44 rfl (by kernel_rfl) (by kernel_rfl) (by simp[Tryd.ntmps44]) Tryd.results44 ?_
 repeat'(first|refine xs ?_ ?_ <;>intros|(refine wn ?_;intro bx hbx;try simp only[fb]at hbx)|((refine aJ.mono (t1 _ hbx _) ?_;rintro r s3 ⟨rfl,hB1⟩;clear t1;have f1:=hB1.le.box bx _ AS.set_get))|((refine aJ.mono (t2 _ _ hB1) ?_;rintro r s4 ⟨rfl,hB2⟩;clear t2;have f2:=hB2.le.box bx _ AS.set_get))|((refine aJ.mono (t3 _ _ hB2) ?_;rintro r s5 ⟨rfl,hB3⟩;clear t3;have f3:=hB3.le.box bx _ AS.set_get))|refine aP ?_|(refine aB ?_;intro bx hbx;(try simp only[fb]at hbx))|refine aD ?_|((with_reducible refine And.intro ?_ ?_);omega)|refine aA (d':=⟨⟩) ?_|refine aR (by kernel_rfl) ?_|refine aO ?_ (by repeat' first|exact lr _|assumption|refine ls ?_ ?_|refine lt ?_ ?_|simp only[*];done|simp only[fb, *,not_false_eq_true,and_self];done|exact lf ‹_› (by simp only[*]))|refine aC ?_ (by repeat' first|exact lr _|assumption|refine ls ?_ ?_|refine lt ?_ ?_|simp only[*];done|simp only[fb, *,not_false_eq_true,and_self];done|exact lf ‹_› (by simp only[*]))|simp -dsimp only[↓bp,bq,br,seval,gR, *]|refine wz ?_|fail)
 refine aU (fun n e σ'=>∃ i:Nat,i <=(t.limbs).length /\ n=(t.limbs).length - i /\ e 31= .int .i64 i /\ eG (σ0.setBox bx [.int .u8 1, .bool t.neg,hU t.limbs, .str t.text, .int .i64 t.num,cZ t.items,cZ t.tail]) σ' b (X++T++cA 1 t.limbs.length++nN (t.limbs.take i))) (t.limbs).length
   ⟨0,by omega,by omega,by simp -dsimp only[↓bp,bq,br,seval,gR];first|done|rfl,by simpa [nN] using hB3⟩ ?_
 rintro n v σ' ⟨i,hi,rfl,h31,hB⟩
 simp -dsimp only[↓bp,bq,br,seval,gR]at h31
 simp -dsimp only[↓bp,bq,br,seval,gR,h31]
 refine cX (fun hlt=> ?_) (fun hge=> ?_)
 ·obtain⟨x,hx⟩:∃ x,t.limbs[i]? =some x:=⟨_,List.getElem?_eq_getElem (by omega)⟩
  have hi:i < t.limbs.length:=(List.getElem?_eq_some_iff.1 hx).1
  have hwx:IntKind.i64.wrap (x.toNat:Int)=x.toNat:=aG (by omega) (by have:=x.toNat_lt;omega)
  replace t4:=t4 _ _ x i hi hB
  rw[Int.toNat_natCast]at t4
  clear fin hB1 hB2 hB3 hB
  repeat'(first|refine xs ?_ ?_ <;>intros|(refine wn ?_;intro bx hbx;try simp only[fb]at hbx)|((refine aJ.mono t4 ?_;rintro r s6 ⟨rfl,hB4⟩;clear t4))|refine aP ?_|(refine aB ?_;intro bx hbx;(try simp only[fb]at hbx))|refine aD ?_|((with_reducible refine And.intro ?_ ?_);omega)|refine aA (d':=⟨⟩) ?_|refine aR (by kernel_rfl) ?_|refine aO ?_ (by repeat' first|exact lr _|assumption|refine ls ?_ ?_|refine lt ?_ ?_|simp only[*];done|simp only[fb, *,not_false_eq_true,and_self];done|exact lf ‹_› (by simp only[*]))|refine aC ?_ (by repeat' first|exact lr _|assumption|refine ls ?_ ?_|refine lt ?_ ?_|simp only[*];done|simp only[fb, *,not_false_eq_true,and_self];done|exact lf ‹_› (by simp only[*]))|simp -dsimp only[↓bp,bq,br,seval,gR,lY,hwx, *]|refine wz ?_|fail)
  refine⟨t.limbs.length - (i+1),by omega,i+1,by omega,rfl,by rw[aG (by omega) (by omega)];rfl,?_⟩
  rw[aM _ _ _ hx]
  unfold nN at hB4 ⊢
  rw[List.flatMap_append,List.flatMap_cons,List.flatMap_nil,List.append_nil,<- List.append_assoc]
  exact hB4
 ·have:i=t.limbs.length:=by omega
  subst this
  rw[List.take_length]at hB
  clear hi hge t4 hB1 hB2 hB3
  repeat'(first|refine xs ?_ ?_ <;>intros|(refine wn ?_;intro bx hbx;try simp only[fb]at hbx)|refine aP ?_|(refine aB ?_;intro bx hbx;(try simp only[fb]at hbx))|refine aD ?_|((with_reducible refine And.intro ?_ ?_);omega)|refine aA (d':=⟨⟩) ?_|refine aR (by kernel_rfl) ?_|refine aO ?_ (by repeat' first|exact lr _|assumption|refine ls ?_ ?_|refine lt ?_ ?_|simp only[*];done|simp only[fb, *,not_false_eq_true,and_self];done|exact lf ‹_› (by simp only[*]))|refine aC ?_ (by repeat' first|exact lr _|assumption|refine ls ?_ ?_|refine lt ?_ ?_|simp only[*];done|simp only[fb, *,not_false_eq_true,and_self];done|exact lf ‹_› (by simp only[*]))|simp -dsimp only[↓bp,bq,br,seval,gR, *]|refine wz ?_|fail)
  exact aE _ (AS.le.refl _) ⟨rfl,fin _ _ _ hbx hB⟩
theorem B1f{t:aF}{σ0 σ:AS}{b:Nat}{xs:List UInt8}(H:TW G t σ0 σ b xs)(hk:t.knd=7):aJ Tryd.prog G 44 [.ptr b 0,t.enc] σ fun r σ'=>r= .tup [] /\ eG σ0 σ' b (xs++dX t):=by
 have e:=nY t
 have hl:=H.hl
 have hbe:=t.bulk_eq
 have hlt:=dE t.tail
 have hli:=dE t.items
 have htl:=gT t.items
 have hwk:IntKind.i64.wrap t.knd=t.knd:=aG (by omega) (by omega)
 have hdt:∀ g,(eT g).length=1:=fun g=>bA _ _
 have t1:=H.first
 have t2:=fun s3 σ1 (hB1:eG σ1 s3 b (xs++cA 1 t.knd.toNat))=>H.w1 _ _ _ _ hB1 (by rw[oP];omega) (by rw[oP];omega)
 have t3:=fun s3 σ1 (hB1:eG σ1 s3 b (xs++cA 1 t.knd.toNat++(cA 2 t.items.length++bF t.items)))=>A0n (G:=G) hB1 (by rw[List.length_append,oP];omega) (decide ((0:Int) < t.tail.length)) (by rw[List.length_append,oP,List.length_append,bA];omega)
 have w2:=H.w2
 have hpl:∀ i,(xs++cA 1 t.knd.toNat++(cA 2 t.items.length++bF t.items)++eT (decide ((0:Int) < t.tail.length))++bF (t.tail.take i)).length=xs.length+4+(bF t.items).length+(bF (t.tail.take i)).length:=fun i=>by
  rw[List.length_append,List.length_append,List.length_append,oP,List.length_append,bA,hdt];omega
 have hsz:∀ i x,t.tail[i]? =some x ->0 < (xs++cA 1 t.knd.toNat++(cA 2 t.items.length++bF t.items)++eT (decide ((0:Int) < t.tail.length))++bF (t.tail.take i)).length /\ (xs++cA 1 t.knd.toNat++(cA 2 t.items.length++bF t.items)++eT (decide ((0:Int) < t.tail.length))++bF (t.tail.take i)).length+8*x.bulk <=900000000:=fun i x hx=>by
  have h1:=A4y hx
  have h2:=gT (t.tail.take i)
  rw[hpl];omega
 have he:(!t.tail.isEmpty)=decide ((0:Int) < t.tail.length):=by cases t.tail <;>simp
 have fin:∀ bx z s,σ.fresh bx ->eG (σ0.setBox bx z) s b (xs++cA 1 t.knd.toNat++(cA 2 t.items.length++bF t.items)++eT (decide ((0:Int) < t.tail.length))++bF t.tail) ->eG σ0 s b (xs++dX t):=fun bx z s hbx h=>H.done hbx (by
  rw[e,if_neg (by omega),if_neg (by omega),if_neg (by omega),if_neg (by omega),if_neg (by omega),if_pos hk,he];simpa [List.append_assoc] using h)
 have hll:t.tail.length <=1000000000:=by omega
 have hle:=H.hB.le
 clear H e hdt hbe hl hpl he hlt hli htl
 rw[hk]at hwk t1 t2 t3 fin
 simp only[hk]at hsz
 generalize xs++cA 1 (Int.toNat 7)++(cA 2 t.items.length++bF t.items)=X at*
 generalize hT:eT (decide ((0:Int) < t.tail.length))=T at*
 refine aJ.of_awp mixed Tryd.func44 rfl (by kernel_rfl) (by kernel_rfl) (by simp[Tryd.ntmps44]) Tryd.results44 ?_
 repeat'(first|refine xs ?_ ?_ <;>intros|(refine wn ?_;intro bx hbx;try simp only[fb]at hbx)|((refine aJ.mono (t1 _ hbx _) ?_;rintro r s3 ⟨rfl,hB1⟩;clear t1;have f1:=hB1.le.box bx _ AS.set_get))|((refine aJ.mono (t2 _ _ hB1) ?_;rintro r s4 ⟨rfl,hB2⟩;clear t2;have f2:=hB2.le.box bx _ AS.set_get))|((refine aJ.mono (t3 _ _ hB2) ?_;rintro r s5 ⟨rfl,hB3⟩;clear t3;have f3:=hB3.le.box bx _ AS.set_get))|refine aP ?_|(refine aB ?_;intro bx hbx;(try simp only[fb]at hbx))|refine aD ?_|((with_reducible refine And.intro ?_ ?_);omega)|refine aA (d':=⟨⟩) ?_|refine aR (by kernel_rfl) ?_|refine aO ?_ (by repeat' first|exact lr _|assumption|refine ls ?_ ?_|refine lt ?_ ?_|simp only[*];done|simp only[fb, *,not_false_eq_true,and_self];done|exact lf ‹_› (by simp only[*]))|refine aC ?_ (by repeat' first|exact lr _|assumption|refine ls ?_ ?_|refine lt ?_ ?_|simp only[*];done|simp only[fb, *,not_false_eq_true,and_self];done|exact lf ‹_› (by simp only[*]))|simp -dsimp only[↓bp,bq,br,seval,gR, *]|refine wz ?_|fail)
 refine aU (fun n e σ'=>∃ i:Nat,i <=(t.tail).length /\ n=(t.tail).length - i /\ e 87= .int .i64 i /\ eG (σ0.setBox bx [.int .u8 7, .bool t.neg,hU t.limbs, .str t.text, .int .i64 t.num,cZ t.items,cZ t.tail]) σ' b (X++T++bF (t.tail.take i))) (t.tail).length
   ⟨0,by omega,by omega,by simp -dsimp only[↓bp,bq,br,seval,gR];first|done|rfl,by simpa [bF] using hB3⟩ ?_
 rintro n v σ' ⟨i,hi,rfl,h87,hB⟩
 simp -dsimp only[↓bp,bq,br,seval,gR]at h87
 simp -dsimp only[↓bp,bq,br,seval,gR,h87]
 refine cX (fun hlt=> ?_) (fun hge=> ?_)
 ·obtain⟨x,hx⟩:∃ x,t.tail[i]? =some x:=⟨_,List.getElem?_eq_getElem (by omega)⟩
  have hi:i < t.tail.length:=(List.getElem?_eq_some_iff.1 hx).1
  have hp:=w2 x (List.mem_of_getElem? hx)
  obtain⟨hz1,hz2⟩:=hsz i x hx
  have hle2:=hB.le
  clear fin hB1 hB2 hB3 hsz w2
  repeat'(first|refine xs ?_ ?_ <;>intros|(refine wn ?_;intro bx hbx;try simp only[fb]at hbx)|((refine aJ.mono (hp _ _ _ _ (hB.setBox (.inr hbx.1) _) hz1 hz2) ?_;rintro r s6 ⟨rfl,hB4⟩))|refine aP ?_|(refine aB ?_;intro bx hbx;(try simp only[fb]at hbx))|refine aD ?_|((with_reducible refine And.intro ?_ ?_);omega)|refine aA (d':=⟨⟩) ?_|refine aR (by kernel_rfl) ?_|refine aO ?_ (by repeat' first|exact lr _|assumption|refine ls ?_ ?_|refine lt ?_ ?_|simp only[*];done|simp only[fb, *,not_false_eq_true,and_self];done|exact lf ‹_› (by simp only[*]))|refine aC ?_ (by repeat' first|exact lr _|assumption|refine ls ?_ ?_|refine lt ?_ ?_|simp only[*];done|simp only[fb, *,not_false_eq_true,and_self];done|exact lf ‹_› (by simp only[*]))|simp -dsimp only[↓bp,bq,br,seval,gR, *]|refine wz ?_|fail)
  have hB5:=hB4.less (AS.le.setBox (AS.le.refl _) (hle2.fresh hbx).1 _)
  rw[List.append_assoc (X++T),<- uV,<- aM _ _ _ hx]at hB5
  exact⟨t.tail.length - (i+1),by omega,i+1,by omega,rfl,by rw[aG (by omega) (by omega)];rfl,hB5⟩
 ·have:i=t.tail.length:=by omega
  subst this
  rw[List.take_length]at hB
  clear hi hge hB1 hB2 hB3 hsz w2
  repeat'(first|refine xs ?_ ?_ <;>intros|(refine wn ?_;intro bx hbx;try simp only[fb]at hbx)|refine aP ?_|(refine aB ?_;intro bx hbx;(try simp only[fb]at hbx))|refine aD ?_|((with_reducible refine And.intro ?_ ?_);omega)|refine aA (d':=⟨⟩) ?_|refine aR (by kernel_rfl) ?_|refine aO ?_ (by repeat' first|exact lr _|assumption|refine ls ?_ ?_|refine lt ?_ ?_|simp only[*];done|simp only[fb, *,not_false_eq_true,and_self];done|exact lf ‹_› (by simp only[*]))|refine aC ?_ (by repeat' first|exact lr _|assumption|refine ls ?_ ?_|refine lt ?_ ?_|simp only[*];done|simp only[fb, *,not_false_eq_true,and_self];done|exact lf ‹_› (by simp only[*]))|simp -dsimp only[↓bp,bq,br,seval,gR, *]|refine wz ?_|fail)
  exact aE _ (AS.le.refl _) ⟨rfl,fin _ _ _ hbx hB⟩
theorem B6p(t:aF):right t=true ->B1h G t:=by
 refine aF.ind (P:=fun t=>right t=true ->B1h G t) (fun t ih1 ih2 hr=> ?_) t
 intro σ0 σ b xs hB h0 hl
 obtain⟨hk1,hk2⟩:=B0r hr
 have H:TW G t σ0 σ b xs:=⟨hB,h0,hl,fun σ0 σ b xs h h0 hl=>yE t.items (fun x hx=>ih1 x hx (hk1 x hx)) h h0 hl,fun x hx=>ih2 x hx (hk2 x hx),D0i hr⟩
 by_cases k1:t.knd=1
 ·exact B6n H k1
 by_cases k2:t.knd=2
 ·exact B1e H k2
 by_cases k3:t.knd=3
 ·exact A0q H (.inl k3)
 by_cases k4:t.knd=4
 ·exact B6m H k4
 by_cases k5:t.knd=5
 ·exact A0q H (.inr k5)
 by_cases k6:t.knd=6
 ·exact B6q H k6
 by_cases k7:t.knd=7
 ·exact B1f H k7
 exact B6o H k1 k2 k3 k4 k5 k6 k7
end
set_option maxRecDepth 20000
section
variable {G:Nat ->AV}
def wI(fs:List UInt8):Bool:=decide (fs.length <=4) && fs.all fun c=>decide (c.toNat < 128)
theorem A2b:∀ k:Fin 256,wI (dF (UInt8.ofNat k)).fields=true:=by decide+kernel
theorem B2w{fs:List UInt8}(h:wI fs=true){p:Nat}{c:UInt8}(hc:fs[p]? =some c):c.toNat < 128:=by
 unfold wI at h
 rw[Bool.and_eq_true,List.all_eq_true]at h
 simpa using h.2 c (List.mem_of_getElem? hc)
end
set_option maxRecDepth 20000
section
def pT:=And.intro (And.intro (And.intro (And.intro @mD (And.intro @mE @mA)) (And.intro (And.intro @lG @kN) (And.intro @oO @oA))) (And.intro (And.intro @jF (And.intro @iB @tR)) (And.intro (And.intro @oB @lF) (And.intro @mB @dJ)))) (And.intro (And.intro (And.intro @cL (And.intro @dR @eF)) (And.intro (And.intro @aF.flat_enc @aF.isv_enc) (And.intro @aF.fold_enc @aQ.flat_enc))) (And.intro (And.intro (And.intro @aQ.isv_enc @aQ.fold_enc) (And.intro @bX @bL)) (And.intro (And.intro @dC @fF) (And.intro @dO @cQ))))
variable (G:Nat ->AV)
section ix
variable {α:Type}
def ixG(p:α ->Bool)(l:List α):Int:=match l.findIdx? p with
 |some i=>i
 |none=> -1
theorem xD{p:α ->Bool}{l:List α}{i:Nat}{k:α}(h:l[i]? =some k)(h1:p k=true)(h2:∀ x,x ∈ l.take i ->p x=false):ixG p l=i:=by
 obtain⟨hi,rfl⟩:=List.getElem?_eq_some_iff.1 h
 have:l.findIdx? p=some i:=by
  rw[List.findIdx?_eq_some_iff_getElem]
  refine⟨hi,h1,fun j hj=> ?_⟩
  have:=h2 l[j] (by rw[List.mem_take_iff_getElem];exact⟨j,by omega,rfl⟩)
  simp[this]
 simp[ixG,this]
theorem rX{p:α ->Bool}{l:List α}(h:∀ x,x ∈ l ->p x=false):ixG p l= -1:=by
 have:l.findIdx? p=none:=by rw[List.findIdx?_eq_none_iff];exact h
 simp[ixG,this]
theorem A2t(p:α ->Bool)(l:List α):decide (0 <=ixG p l)=l.any p:=by
 by_cases h:l.any p=true
 ·obtain⟨i,hi⟩:∃ i,l.findIdx? p=some i:=by
   cases hf:l.findIdx? p with
   |none=>rw[List.findIdx?_eq_none_iff]at hf;rw[List.any_eq_true]at h;obtain⟨x,hx,hp⟩:=h;rw[hf x hx]at hp;cases hp
   |some i=>exact⟨i,rfl⟩
  rw[h];simp[ixG,hi]
 ·have hf:l.any p=false:=by simpa using h
  rw[hf,rX (by simpa using hf)];rfl
end ix
set_option maxHeartbeats 1000000 in
theorem A2n{f:FuncId}{caps:List AV}{σ0:AS}(p:Int ->Bool)(l:List Int)(hl:l.length <=1099511627776)(hf:∀ x,x ∈ l ->cF Tryd.prog G f ([jW x]++caps) σ0 (.bool (p x))):
  cF Tryd.prog G 70 [aV (jW) l, .fn f caps] σ0 (.int .i64 (ixG p l)):=by
 intro σ hσ
 refine aJ.of_awp mixed Tryd.func70 rfl (by kernel_rfl) (by kernel_rfl) (by simp[Tryd.ntmps70]) Tryd.results70 ?_
 simp -dsimp only[↓bp,bq,br,seval,pT]
 refine aU (fun n e σ'=>∃ i:Nat,i <=l.length /\ n=l.length - i /\ e 8= .int .i64 i /\ σ'=σ /\ ∀ x,x ∈ l.take i ->p x=false) l.length
  ⟨0,by omega,by omega,by first|(simp -dsimp only[↓bp,bq,br,seval,pT];done)|(simp -dsimp only[↓bp,bq,br,seval,pT];try rfl),rfl,by simp⟩ ?_
 rintro n v σ' ⟨i,hi,rfl,h8,rfl,hno⟩
 simp -dsimp only[↓bp,bq,br,seval,pT]at h8
 by_cases hlt:(i:Int) < l.length
 ·obtain⟨k,hk⟩:∃ k,l[i]? =some k:=⟨_,List.getElem?_eq_getElem (by omega)⟩
  have hp:=hf k (List.mem_of_getElem? hk)
  have hlt':=eq_true hlt
  have hwi:IntKind.i64.wrap ((i:Int)+1)=((i+1:Nat):Int):=by rw[aG (by omega) (by omega)];rfl
  clear hf hi hlt
  cases hpk:p k with
  | true=>
   rw[hpk]at hp
   have hix:=xD hk hpk hno
   clear hno
   repeat'(first|refine xs ?_ ?_ <;>intros|(refine wn ?_;intro bx hbx;try simp only[fb]at hbx)|refine cF.use (hp) (by repeat' first|exact lr _|assumption|refine ls ?_ ?_|refine lt ?_ ?_|simp only[*];done|simp only[fb, *,not_false_eq_true,and_self];done|exact lf ‹_› (by simp only[*])) ?_|refine aP ?_|(refine aB ?_;intro bx hbx;(try simp only[fb]at hbx))|refine aD ?_|((with_reducible refine And.intro ?_ ?_);omega)|refine aA (d':=⟨⟩) ?_|refine aR (by kernel_rfl) ?_|refine aO ?_ (by repeat' first|exact lr _|assumption|refine ls ?_ ?_|refine lt ?_ ?_|simp only[*];done|simp only[fb, *,not_false_eq_true,and_self];done|exact lf ‹_› (by simp only[*]))|refine aC ?_ (by repeat' first|exact lr _|assumption|refine ls ?_ ?_|refine lt ?_ ?_|simp only[*];done|simp only[fb, *,not_false_eq_true,and_self];done|exact lf ‹_› (by simp only[*]))|simp -dsimp only[↓bp,bq,br,seval,pT,jM, *]|refine wz ?_|fail)
   all_goals rw[hix]
  | false=>
   rw[hpk]at hp
   repeat'(first|refine xs ?_ ?_ <;>intros|(refine wn ?_;intro bx hbx;try simp only[fb]at hbx)|refine cF.use (hp) (by repeat' first|exact lr _|assumption|refine ls ?_ ?_|refine lt ?_ ?_|simp only[*];done|simp only[fb, *,not_false_eq_true,and_self];done|exact lf ‹_› (by simp only[*])) ?_|refine aP ?_|(refine aB ?_;intro bx hbx;(try simp only[fb]at hbx))|refine aD ?_|((with_reducible refine And.intro ?_ ?_);omega)|refine aA (d':=⟨⟩) ?_|refine aR (by kernel_rfl) ?_|refine aO ?_ (by repeat' first|exact lr _|assumption|refine ls ?_ ?_|refine lt ?_ ?_|simp only[*];done|simp only[fb, *,not_false_eq_true,and_self];done|exact lf ‹_› (by simp only[*]))|refine aC ?_ (by repeat' first|exact lr _|assumption|refine ls ?_ ?_|refine lt ?_ ?_|simp only[*];done|simp only[fb, *,not_false_eq_true,and_self];done|exact lf ‹_› (by simp only[*]))|simp -dsimp only[↓bp,bq,br,seval,pT,jM, *]|refine wz ?_|fail)
   all_goals(have hlt:=(List.getElem?_eq_some_iff.1 hk).1)
   all_goals refine⟨l.length - (i+1),by omega,i+1,by omega,rfl,rfl,fun x hx=> ?_⟩
   all_goals(rw[aM _ _ _ hk,List.mem_append,List.mem_singleton]at hx;rcases hx with hx|rfl)
   all_goals first|exact hno _ hx|exact hpk
 ·have:i=l.length:=by omega
  subst this
  have hix:=rX (p:=p) (l:=l) fun x hx=>hno x (by rw[List.take_length];exact hx)
  have hlt':=eq_false hlt
  clear hno hf hi hlt
  repeat'(first|refine xs ?_ ?_ <;>intros|(refine wn ?_;intro bx hbx;try simp only[fb]at hbx)|refine aP ?_|(refine aB ?_;intro bx hbx;(try simp only[fb]at hbx))|refine aD ?_|((with_reducible refine And.intro ?_ ?_);omega)|refine aA (d':=⟨⟩) ?_|refine aR (by kernel_rfl) ?_|refine aO ?_ (by repeat' first|exact lr _|assumption|refine ls ?_ ?_|refine lt ?_ ?_|simp only[*];done|simp only[fb, *,not_false_eq_true,and_self];done|exact lf ‹_› (by simp only[*]))|refine aC ?_ (by repeat' first|exact lr _|assumption|refine ls ?_ ?_|refine lt ?_ ?_|simp only[*];done|simp only[fb, *,not_false_eq_true,and_self];done|exact lf ‹_› (by simp only[*]))|simp -dsimp only[↓bp,bq,br,seval,pT, *]|refine wz ?_|fail)
  all_goals rw[hix]
theorem uZ{f:FuncId}{caps:List AV}{σ0:AS}(p:Int ->Bool)(l:List Int)(hl:l.length <=1099511627776)(hf:∀ x,x ∈ l ->cF Tryd.prog G f ([jW x]++caps) σ0 (.bool (p x))):
  cF Tryd.prog G 53 [aV (jW) l, .fn f caps] σ0 (.bool (l.any p)):=by
 intro σ hσ
 refine aJ.of_awp mixed Tryd.func53 rfl (by kernel_rfl) (by kernel_rfl) (by simp[Tryd.ntmps53]) Tryd.results53 ?_
 repeat'(first|refine xs ?_ ?_ <;>intros|(refine wn ?_;intro bx hbx;try simp only[fb]at hbx)|refine cF.use (A2n G p l hl hf) (by repeat' first|exact lr _|assumption|refine ls ?_ ?_|refine lt ?_ ?_|simp only[*];done|simp only[fb, *,not_false_eq_true,and_self];done|exact lf ‹_› (by simp only[*])) ?_|refine aP ?_|(refine aB ?_;intro bx hbx;(try simp only[fb]at hbx))|refine aD ?_|((with_reducible refine And.intro ?_ ?_);omega)|refine aA (d':=⟨⟩) ?_|refine aR (by kernel_rfl) ?_|refine aO ?_ (by repeat' first|exact lr _|assumption|refine ls ?_ ?_|refine lt ?_ ?_|simp only[*];done|simp only[fb, *,not_false_eq_true,and_self];done|exact lf ‹_› (by simp only[*]))|refine aC ?_ (by repeat' first|exact lr _|assumption|refine ls ?_ ?_|refine lt ?_ ?_|simp only[*];done|simp only[fb, *,not_false_eq_true,and_self];done|exact lf ‹_› (by simp only[*]))|simp -dsimp only[↓bp,bq,br,seval,pT, *]|refine wz ?_|fail)
 all_goals rw[A2t]
end
set_option maxRecDepth 20000
section
def nX:=And.intro (And.intro (And.intro (And.intro (And.intro @mD @mE) (And.intro @mA @lG)) (And.intro (And.intro @tR @oO) (And.intro @oA @kN))) (And.intro (And.intro (And.intro @C4f @C4g) (And.intro @tS @sJ)) (And.intro (And.intro @xY @iB) (And.intro @D5b (And.intro @D1l @dJ))))) (And.intro (And.intro (And.intro (And.intro @cL @dR) (And.intro @eF @bX)) (And.intro (And.intro @bL @dC) (And.intro @aQ.flat_enc @aQ.isv_enc))) (And.intro (And.intro (And.intro @aQ.fold_enc @cM.flat_enc) (And.intro @cM.isv_enc @cM.fold_enc)) (And.intro (And.intro @cH.flat_enc @cH.isv_enc) (And.intro @cH.fold_enc (And.intro @gU @fO)))))
variable {G:Nat ->AV}
def uY(c:cH)(e:cM)(b z:Int):List AV:=[aV cM.enc c.entries,aV aQ.enc c.instrs,cZ c.consts, .str e.name, .int .i64 e.arity, .int .i64 e.extra, .int .i64 e.slots, .int .i64 e.pos, .int .i64 b, .int .i64 z]
theorem opF(i:aQ){k:Nat}(hk:k < 256):(i.opI=(k:Int))=(i.op=UInt8.ofNat k):=propext ⟨fun h=>UInt8.toNat_inj.1 (by rw[UInt8.toNat_ofNat'];unfold aQ.opI at h;omega),fun h=>by unfold aQ.opI;rw[h,UInt8.toNat_ofNat'];omega⟩
theorem vM{c:cH}{e:cM}{b z:Int}{σ0:AS}{bx:Nat}(hb:σ0.box bx=some (uY c e b z))(n:Int):cF Tryd.prog G 49 [.int .i64 n, .ptr bx 0] σ0 (.bool (dK e n)):=by
 intro σ hσ
 have hb':=hσ.box _ _ hb
 unfold uY at hb'
 clear hb
 refine aJ.of_awp mixed Tryd.func49 rfl (by kernel_rfl) (by kernel_rfl) (by simp[Tryd.ntmps49]) Tryd.results49 ?_
 repeat'(first|refine xs ?_ ?_ <;>intros|(refine wn ?_;intro bx hbx;try simp only[fb]at hbx)|refine aP ?_|(refine aB ?_;intro bx hbx;(try simp only[fb]at hbx))|refine aD ?_|((with_reducible refine And.intro ?_ ?_);omega)|refine aA (d':=⟨⟩) ?_|refine aR (by kernel_rfl) ?_|refine aO ?_ (by repeat' first|exact lr _|assumption|refine ls ?_ ?_|refine lt ?_ ?_|simp only[*];done|simp only[fb, *,not_false_eq_true,and_self];done|exact lf ‹_› (by simp only[*]))|refine aC ?_ (by repeat' first|exact lr _|assumption|refine ls ?_ ?_|refine lt ?_ ?_|simp only[*];done|simp only[fb, *,not_false_eq_true,and_self];done|exact lf ‹_› (by simp only[*]))|simp -dsimp only[↓bp,bq,br,seval,nX, *]|refine wz ?_|fail)
 all_goals(first|(simp only[dK, *,Bool.and_true,Bool.true_and,Bool.and_false,Bool.false_and,Bool.or_true,Bool.true_or,Bool.or_false,Bool.false_or,Bool.not_true,Bool.not_false,if_true,if_false,Bool.and_self,Bool.or_self];done)|(simp[dK, *];done)|(simp_all [dK];done))
theorem D3x{i:aQ}{σ0:AS}{bx:Nat}(hb:σ0.box bx=some (flat i.enc))(n:Int):cF Tryd.prog G 50 [.int .i64 n, .ptr bx 0] σ0 (.bool (jY i.op n)):=by
 intro σ hσ
 have hb':=hσ.box _ _ hb
 rw[aQ.flat_enc]at hb'
 have h13:=opF i (k:=13) (by omega)
 have h17:=opF i (k:=17) (by omega)
 unfold jY
 clear hb
 by_cases k1:i.op=13
 ·rw[if_pos k1]
  have h13:(i.opI=13)=True:=by rw[show(13:Int)=((13:Nat):Int) from rfl,h13];exact eq_true k1
  clear h17 k1
  refine aJ.of_awp mixed Tryd.func50 rfl (by kernel_rfl) (by kernel_rfl) (by simp[Tryd.ntmps50]) Tryd.results50 ?_
  repeat'(first|refine xs ?_ ?_ <;>intros|(refine wn ?_;intro bx hbx;try simp only[fb]at hbx)|refine aP ?_|(refine aB ?_;intro bx hbx;(try simp only[fb]at hbx))|refine aD ?_|((with_reducible refine And.intro ?_ ?_);omega)|refine aA (d':=⟨⟩) ?_|refine aR (by kernel_rfl) ?_|refine aO ?_ (by repeat' first|exact lr _|assumption|refine ls ?_ ?_|refine lt ?_ ?_|simp only[*];done|simp only[fb, *,not_false_eq_true,and_self];done|exact lf ‹_› (by simp only[*]))|refine aC ?_ (by repeat' first|exact lr _|assumption|refine ls ?_ ?_|refine lt ?_ ?_|simp only[*];done|simp only[fb, *,not_false_eq_true,and_self];done|exact lf ‹_› (by simp only[*]))|simp -dsimp only[↓bp,bq,br,seval,nX, *]|refine wz ?_|fail)
  all_goals(first|(simp only[jY, *,Bool.and_true,Bool.true_and,Bool.and_false,Bool.false_and,Bool.or_true,Bool.true_or,Bool.or_false,Bool.false_or,Bool.not_true,Bool.not_false,if_true,if_false,Bool.and_self,Bool.or_self];done)|(simp[jY, *];done)|(simp_all [jY];done))
 rw[if_neg k1]
 have h13:(i.opI=13)=False:=by rw[show(13:Int)=((13:Nat):Int) from rfl,h13];exact eq_false k1
 by_cases k2:i.op=17
 ·rw[if_pos k2]
  have h17:(i.opI=17)=True:=by rw[show(17:Int)=((17:Nat):Int) from rfl,h17];exact eq_true k2
  clear k1 k2
  refine aJ.of_awp mixed Tryd.func50 rfl (by kernel_rfl) (by kernel_rfl) (by simp[Tryd.ntmps50]) Tryd.results50 ?_
  repeat'(first|refine xs ?_ ?_ <;>intros|(refine wn ?_;intro bx hbx;try simp only[fb]at hbx)|refine aP ?_|(refine aB ?_;intro bx hbx;(try simp only[fb]at hbx))|refine aD ?_|((with_reducible refine And.intro ?_ ?_);omega)|refine aA (d':=⟨⟩) ?_|refine aR (by kernel_rfl) ?_|refine aO ?_ (by repeat' first|exact lr _|assumption|refine ls ?_ ?_|refine lt ?_ ?_|simp only[*];done|simp only[fb, *,not_false_eq_true,and_self];done|exact lf ‹_› (by simp only[*]))|refine aC ?_ (by repeat' first|exact lr _|assumption|refine ls ?_ ?_|refine lt ?_ ?_|simp only[*];done|simp only[fb, *,not_false_eq_true,and_self];done|exact lf ‹_› (by simp only[*]))|simp -dsimp only[↓bp,bq,br,seval,nX, *]|refine wz ?_|fail)
  all_goals(first|(simp only[jY, *,Bool.and_true,Bool.true_and,Bool.and_false,Bool.false_and,Bool.or_true,Bool.true_or,Bool.or_false,Bool.false_or,Bool.not_true,Bool.not_false,if_true,if_false,Bool.and_self,Bool.or_self];done)|(simp[jY, *];done)|(simp_all [jY];done))
 ·rw[if_neg k2]
  have h17:(i.opI=17)=False:=by rw[show(17:Int)=((17:Nat):Int) from rfl,h17];exact eq_false k2
  clear k1 k2
  refine aJ.of_awp mixed Tryd.func50 rfl (by kernel_rfl) (by kernel_rfl) (by simp[Tryd.ntmps50]) Tryd.results50 ?_
  repeat'(first|refine xs ?_ ?_ <;>intros|(refine wn ?_;intro bx hbx;try simp only[fb]at hbx)|refine aP ?_|(refine aB ?_;intro bx hbx;(try simp only[fb]at hbx))|refine aD ?_|((with_reducible refine And.intro ?_ ?_);omega)|refine aA (d':=⟨⟩) ?_|refine aR (by kernel_rfl) ?_|refine aO ?_ (by repeat' first|exact lr _|assumption|refine ls ?_ ?_|refine lt ?_ ?_|simp only[*];done|simp only[fb, *,not_false_eq_true,and_self];done|exact lf ‹_› (by simp only[*]))|refine aC ?_ (by repeat' first|exact lr _|assumption|refine ls ?_ ?_|refine lt ?_ ?_|simp only[*];done|simp only[fb, *,not_false_eq_true,and_self];done|exact lf ‹_› (by simp only[*]))|simp -dsimp only[↓bp,bq,br,seval,nX, *]|refine wz ?_|fail)
  all_goals(first|(simp only[jY, *,Bool.and_true,Bool.true_and,Bool.and_false,Bool.false_and,Bool.or_true,Bool.true_or,Bool.or_false,Bool.false_or,Bool.not_true,Bool.not_false,if_true,if_false,Bool.and_self,Bool.or_self];done)|(simp[jY, *];done)|(simp_all [jY];done))
theorem B5f{c:cH}{e:cM}{b z:Int}{σ0:AS}{bx bs:Nat}(hb:σ0.box bx=some (uY c e b z))(hs:σ0.box bs=some [.fn 49 [.ptr bx 0]])(n:Int):cF Tryd.prog G 54 [jW n, .ptr bs 0] σ0 (.bool (!dK e n)):=by
 intro σ hσ
 have hs':=hσ.box _ _ hs
 have hp:=(vM (G:=G) hb n)
 unfold jW
 generalize dK e n=r at*
 clear hb hs
 refine aJ.of_awp mixed Tryd.func54 rfl (by kernel_rfl) (by kernel_rfl) (by simp[Tryd.ntmps54]) Tryd.results54 ?_
 repeat'(first|refine xs ?_ ?_ <;>intros|(refine wn ?_;intro bx hbx;try simp only[fb]at hbx)|refine cF.use (hp) (by repeat' first|exact lr _|assumption|refine ls ?_ ?_|refine lt ?_ ?_|simp only[*];done|simp only[fb, *,not_false_eq_true,and_self];done|exact lf ‹_› (by simp only[*])) ?_|refine aP ?_|(refine aB ?_;intro bx hbx;(try simp only[fb]at hbx))|refine aD ?_|((with_reducible refine And.intro ?_ ?_);omega)|refine aA (d':=⟨⟩) ?_|refine aR (by kernel_rfl) ?_|refine aO ?_ (by repeat' first|exact lr _|assumption|refine ls ?_ ?_|refine lt ?_ ?_|simp only[*];done|simp only[fb, *,not_false_eq_true,and_self];done|exact lf ‹_› (by simp only[*]))|refine aC ?_ (by repeat' first|exact lr _|assumption|refine ls ?_ ?_|refine lt ?_ ?_|simp only[*];done|simp only[fb, *,not_false_eq_true,and_self];done|exact lf ‹_› (by simp only[*]))|simp -dsimp only[↓bp,bq,br,seval,nX, *]|refine wz ?_|fail)
 all_goals rfl
theorem C0c(c:cH)(e:cM)(b z:Int)(i:aQ)(hc:c.bulk <=1000000000):aN Tryd.prog G 51 [.agg (uY c e b z),i.enc] (.bool (uK c i)):=by
 have hl:c.entries.length <=1000000000:=by have:=gZ cM.bulk_pos c.entries;unfold cH.bulk at hc;omega
 unfold uK uY
 clear hc
 by_cases h0:0 <=i.n
 ·obtain⟨n,hn⟩:=Int.eq_ofNat_of_zero_le h0
  rw[if_pos h0]
  have hneg:(i.n < 0)=False:=eq_false (by omega)
  rw[hn]at hneg ⊢
  rw[Int.toNat_natCast]
  cases hx:c.entries[n]? with
  | none=>
   have hge:((c.entries.length:Int) <=(n:Int))=True:=eq_true (by have:=List.getElem?_eq_none_iff.1 hx;omega)
   clear h0 hl
   intro σ
   refine aJ.of_awp mixed Tryd.func51 rfl (by kernel_rfl) (by kernel_rfl) (by simp[Tryd.ntmps51]) Tryd.results51 ?_
   repeat'(first|refine xs ?_ ?_ <;>intros|(refine wn ?_;intro bx hbx;try simp only[fb]at hbx)|refine aP ?_|(refine aB ?_;intro bx hbx;(try simp only[fb]at hbx))|refine aD ?_|((with_reducible refine And.intro ?_ ?_);omega)|refine aA (d':=⟨⟩) ?_|refine aR (by kernel_rfl) ?_|refine aO ?_ (by repeat' first|exact lr _|assumption|refine ls ?_ ?_|refine lt ?_ ?_|simp only[*];done|simp only[fb, *,not_false_eq_true,and_self];done|exact lf ‹_› (by simp only[*]))|refine aC ?_ (by repeat' first|exact lr _|assumption|refine ls ?_ ?_|refine lt ?_ ?_|simp only[*];done|simp only[fb, *,not_false_eq_true,and_self];done|exact lf ‹_› (by simp only[*]))|simp -dsimp only[↓bp,bq,br,seval,nX, *]|refine wz ?_|fail)
   all_goals rfl
  | some x=>
   have hge:((c.entries.length:Int) <=(n:Int))=False:=eq_false (by have:=(List.getElem?_eq_some_iff.1 hx).1;omega)
   have h5:=opF i (k:=5) (by omega)
   simp only
   by_cases k5:i.op=5
   ·have h5:(i.opI=5)=True:=by rw[show(5:Int)=((5:Nat):Int) from rfl,h5];exact eq_true k5
    rw[if_pos k5]
    clear h0 hl k5
    intro σ
    refine aJ.of_awp mixed Tryd.func51 rfl (by kernel_rfl) (by kernel_rfl) (by simp[Tryd.ntmps51]) Tryd.results51 ?_
    repeat'(first|refine xs ?_ ?_ <;>intros|(refine wn ?_;intro bx hbx;try simp only[fb]at hbx)|refine aP ?_|(refine aB ?_;intro bx hbx;(try simp only[fb]at hbx))|refine aD ?_|((with_reducible refine And.intro ?_ ?_);omega)|refine aA (d':=⟨⟩) ?_|refine aR (by kernel_rfl) ?_|refine aO ?_ (by repeat' first|exact lr _|assumption|refine ls ?_ ?_|refine lt ?_ ?_|simp only[*];done|simp only[fb, *,not_false_eq_true,and_self];done|exact lf ‹_› (by simp only[*]))|refine aC ?_ (by repeat' first|exact lr _|assumption|refine ls ?_ ?_|refine lt ?_ ?_|simp only[*];done|simp only[fb, *,not_false_eq_true,and_self];done|exact lf ‹_› (by simp only[*]))|simp -dsimp only[↓bp,bq,br,seval,nX, *]|refine wz ?_|fail)
    all_goals rfl
   ·have h5:(i.opI=5)=False:=by rw[show(5:Int)=((5:Nat):Int) from rfl,h5];exact eq_false k5
    rw[if_neg k5]
    clear h0 hl k5
    intro σ
    refine aJ.of_awp mixed Tryd.func51 rfl (by kernel_rfl) (by kernel_rfl) (by simp[Tryd.ntmps51]) Tryd.results51 ?_
    repeat'(first|refine xs ?_ ?_ <;>intros|(refine wn ?_;intro bx hbx;try simp only[fb]at hbx)|refine aP ?_|(refine aB ?_;intro bx hbx;(try simp only[fb]at hbx))|refine aD ?_|((with_reducible refine And.intro ?_ ?_);omega)|refine aA (d':=⟨⟩) ?_|refine aR (by kernel_rfl) ?_|refine aO ?_ (by repeat' first|exact lr _|assumption|refine ls ?_ ?_|refine lt ?_ ?_|simp only[*];done|simp only[fb, *,not_false_eq_true,and_self];done|exact lf ‹_› (by simp only[*]))|refine aC ?_ (by repeat' first|exact lr _|assumption|refine ls ?_ ?_|refine lt ?_ ?_|simp only[*];done|simp only[fb, *,not_false_eq_true,and_self];done|exact lf ‹_› (by simp only[*]))|simp -dsimp only[↓bp,bq,br,seval,nX, *]|refine wz ?_|fail)
    all_goals(first|(simp only[decide_true,decide_false, *,Bool.and_true,Bool.true_and,Bool.and_false,Bool.false_and,Bool.or_true,Bool.true_or,Bool.or_false,Bool.false_or,Bool.not_true,Bool.not_false,if_true,if_false,Bool.and_self,Bool.or_self];done)|(simp[decide_true,decide_false, *];done)|(simp_all [decide_true,decide_false];done))
 ·have hneg:(i.n < 0)=True:=eq_true (by omega)
  rw[if_neg h0]
  clear h0 hl
  intro σ
  refine aJ.of_awp mixed Tryd.func51 rfl (by kernel_rfl) (by kernel_rfl) (by simp[Tryd.ntmps51]) Tryd.results51 ?_
  repeat'(first|refine xs ?_ ?_ <;>intros|(refine wn ?_;intro bx hbx;try simp only[fb]at hbx)|refine aP ?_|(refine aB ?_;intro bx hbx;(try simp only[fb]at hbx))|refine aD ?_|((with_reducible refine And.intro ?_ ?_);omega)|refine aA (d':=⟨⟩) ?_|refine aR (by kernel_rfl) ?_|refine aO ?_ (by repeat' first|exact lr _|assumption|refine ls ?_ ?_|refine lt ?_ ?_|simp only[*];done|simp only[fb, *,not_false_eq_true,and_self];done|exact lf ‹_› (by simp only[*]))|refine aC ?_ (by repeat' first|exact lr _|assumption|refine ls ?_ ?_|refine lt ?_ ?_|simp only[*];done|simp only[fb, *,not_false_eq_true,and_self];done|exact lf ‹_› (by simp only[*]))|simp -dsimp only[↓bp,bq,br,seval,nX, *]|refine wz ?_|fail)
  all_goals rfl
def cV(i:aQ)(l:List UInt8):List AV:=[.int .u8 i.opI, .int .i64 (if 97 ∈ l then i.a else 0), .int .i64 (if 98 ∈ l then i.b else 0), .int .i64 (if 99 ∈ l then i.c else 0), .int .i64 (if 107 ∈ l \/ 102 ∈ l \/ 110 ∈ l then i.n else 0), .int .i64 (if 108 ∈ l then i.l else 0), .str (if 116 ∈ l then i.text else[]),if 115 ∈ l then aV jW i.slots else .nil]
theorem B3o(i:aQ):cV i []=[.int .u8 i.opI, .int .i64 0, .int .i64 0, .int .i64 0, .int .i64 0, .int .i64 0, .str [], .nil]:=by simp[cV]
theorem B7t(i:aQ)(l:List UInt8)(A B C N L:Int)(T:List UInt8)(W:AV)(h:cV i l=[.int .u8 i.opI, .int .i64 A, .int .i64 B, .int .i64 C, .int .i64 N, .int .i64 L, .str T,W]):cV i (l++[97])=[.int .u8 i.opI, .int .i64 i.a, .int .i64 B, .int .i64 C, .int .i64 N, .int .i64 L, .str T,W]:=by
 simp only[cV,List.cons.injEq,AV.int.injEq,AV.str.injEq,true_and,and_true]at h
 obtain⟨h1,h2,h3,h4,h5,h6,h7⟩:=h
 simp[cV,List.mem_append,h1,h2,h3,h4,h5,h6,h7]
theorem B7u(i:aQ)(l:List UInt8)(A B C N L:Int)(T:List UInt8)(W:AV)(h:cV i l=[.int .u8 i.opI, .int .i64 A, .int .i64 B, .int .i64 C, .int .i64 N, .int .i64 L, .str T,W]):cV i (l++[98])=[.int .u8 i.opI, .int .i64 A, .int .i64 i.b, .int .i64 C, .int .i64 N, .int .i64 L, .str T,W]:=by
 simp only[cV,List.cons.injEq,AV.int.injEq,AV.str.injEq,true_and,and_true]at h
 obtain⟨h1,h2,h3,h4,h5,h6,h7⟩:=h
 simp[cV,List.mem_append,h1,h2,h3,h4,h5,h6,h7]
theorem B7v(i:aQ)(l:List UInt8)(A B C N L:Int)(T:List UInt8)(W:AV)(h:cV i l=[.int .u8 i.opI, .int .i64 A, .int .i64 B, .int .i64 C, .int .i64 N, .int .i64 L, .str T,W]):cV i (l++[99])=[.int .u8 i.opI, .int .i64 A, .int .i64 B, .int .i64 i.c, .int .i64 N, .int .i64 L, .str T,W]:=by
 simp only[cV,List.cons.injEq,AV.int.injEq,AV.str.injEq,true_and,and_true]at h
 obtain⟨h1,h2,h3,h4,h5,h6,h7⟩:=h
 simp[cV,List.mem_append,h1,h2,h3,h4,h5,h6,h7]
theorem B3j(i:aQ)(l:List UInt8)(A B C N L:Int)(T:List UInt8)(W:AV)(h:cV i l=[.int .u8 i.opI, .int .i64 A, .int .i64 B, .int .i64 C, .int .i64 N, .int .i64 L, .str T,W]):cV i (l++[107])=[.int .u8 i.opI, .int .i64 A, .int .i64 B, .int .i64 C, .int .i64 i.n, .int .i64 L, .str T,W]:=by
 simp only[cV,List.cons.injEq,AV.int.injEq,AV.str.injEq,true_and,and_true]at h
 obtain⟨h1,h2,h3,h4,h5,h6,h7⟩:=h
 simp[cV,List.mem_append,h1,h2,h3,h4,h5,h6,h7]
theorem B3i(i:aQ)(l:List UInt8)(A B C N L:Int)(T:List UInt8)(W:AV)(h:cV i l=[.int .u8 i.opI, .int .i64 A, .int .i64 B, .int .i64 C, .int .i64 N, .int .i64 L, .str T,W]):cV i (l++[102])=[.int .u8 i.opI, .int .i64 A, .int .i64 B, .int .i64 C, .int .i64 i.n, .int .i64 L, .str T,W]:=by
 simp only[cV,List.cons.injEq,AV.int.injEq,AV.str.injEq,true_and,and_true]at h
 obtain⟨h1,h2,h3,h4,h5,h6,h7⟩:=h
 simp[cV,List.mem_append,h1,h2,h3,h4,h5,h6,h7]
theorem B3l(i:aQ)(l:List UInt8)(A B C N L:Int)(T:List UInt8)(W:AV)(h:cV i l=[.int .u8 i.opI, .int .i64 A, .int .i64 B, .int .i64 C, .int .i64 N, .int .i64 L, .str T,W]):cV i (l++[110])=[.int .u8 i.opI, .int .i64 A, .int .i64 B, .int .i64 C, .int .i64 i.n, .int .i64 L, .str T,W]:=by
 simp only[cV,List.cons.injEq,AV.int.injEq,AV.str.injEq,true_and,and_true]at h
 obtain⟨h1,h2,h3,h4,h5,h6,h7⟩:=h
 simp[cV,List.mem_append,h1,h2,h3,h4,h5,h6,h7]
theorem B3n(i:aQ)(l:List UInt8)(A B C N L:Int)(T:List UInt8)(W:AV)(h:cV i l=[.int .u8 i.opI, .int .i64 A, .int .i64 B, .int .i64 C, .int .i64 N, .int .i64 L, .str T,W]):cV i (l++[116])=[.int .u8 i.opI, .int .i64 A, .int .i64 B, .int .i64 C, .int .i64 N, .int .i64 L, .str i.text,W]:=by
 simp only[cV,List.cons.injEq,AV.int.injEq,AV.str.injEq,true_and,and_true]at h
 obtain⟨h1,h2,h3,h4,h5,h6,h7⟩:=h
 simp[cV,List.mem_append,h1,h2,h3,h4,h5,h6,h7]
theorem B3m(i:aQ)(l:List UInt8)(A B C N L:Int)(T:List UInt8)(W:AV)(h:cV i l=[.int .u8 i.opI, .int .i64 A, .int .i64 B, .int .i64 C, .int .i64 N, .int .i64 L, .str T,W]):cV i (l++[115])=[.int .u8 i.opI, .int .i64 A, .int .i64 B, .int .i64 C, .int .i64 N, .int .i64 L, .str T,aV jW i.slots]:=by
 simp only[cV,List.cons.injEq,AV.int.injEq,AV.str.injEq,true_and,and_true]at h
 obtain⟨h1,h2,h3,h4,h5,h6,h7⟩:=h
 simp[cV,List.mem_append,h1,h2,h3,h4,h5,h6,h7]
theorem B3k(i:aQ)(l:List UInt8)(A B C N L:Int)(T:List UInt8)(W:AV)(h:cV i l=[.int .u8 i.opI, .int .i64 A, .int .i64 B, .int .i64 C, .int .i64 N, .int .i64 L, .str T,W]):cV i (l++[108])=[.int .u8 i.opI, .int .i64 A, .int .i64 B, .int .i64 C, .int .i64 N, .int .i64 i.l, .str T,W]:=by
 simp only[cV,List.cons.injEq,AV.int.injEq,AV.str.injEq,true_and,and_true]at h
 obtain⟨h1,h2,h3,h4,h5,h6,h7⟩:=h
 simp[cV,List.mem_append,h1,h2,h3,h4,h5,h6,h7]
theorem A4u(i:aQ)(l:List UInt8)(c:UInt8)(k97: ¬ c=97)(k98: ¬ c=98)(k99: ¬ c=99)(k107: ¬ c=107)(k102: ¬ c=102)(k110: ¬ c=110)(k116: ¬ c=116)(k115: ¬ c=115)(k108: ¬ c=108):cV i (l++[c])=cV i l:=by
 simp[cV,List.mem_append,Ne.symm k97,Ne.symm k98,Ne.symm k99,Ne.symm k107,Ne.symm k102,Ne.symm k110,Ne.symm k116,Ne.symm k115,Ne.symm k108]
end
end Go.Proofs.YthoenjlenkpnnaaDoor
