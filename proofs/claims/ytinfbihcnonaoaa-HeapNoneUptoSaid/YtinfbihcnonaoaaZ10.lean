/- How great a term is, up to a bound; whether some are too great. -/
import Derived.Test.YtinfbihcnonaoaaZ09
import Derived.Test.YtinfbihcnonaoaaZ08
set_option linter.unusedVariables false
set_option linter.unusedSimpArgs false
set_option maxRecDepth 20000
set_option linter.defProp false
namespace Go.Proofs.Ytinfbihcnonaoaa
open Go Go.Av
section
def bI:=And.intro (And.intro (And.intro (And.intro @jN @kI) (And.intro @kJ (And.intro @eW @jO))) (And.intro (And.intro @eJ (And.intro @eY @eQ)) (And.intro @eZ (And.intro @aE.flat_enc @aE.isv_enc)))) (And.intro (And.intro (And.intro @aE.fold_enc (And.intro @aW @aO)) (And.intro @aX (And.intro @bP @dN))) (And.intro (And.intro @aP (And.intro @aM @aQ)) (And.intro @bJ (And.intro @dD @cJ))))
mutual
def dF:aE ->Int ->Int
 | .mk _ _ l s _ ks ts,m=>aY ts (aY ks (1+l.length+(s.length / 8:Nat)) m) m
def aY:List aE ->Int ->Int ->Int
 |[],n,_=>n
 |k::ks,n,m=>if n <=m then aY ks (n+dF k (m - n)) m else n
end
theorem tH(t:aE)(m:Int):dF t m=aY t.tail (aY t.items (1+t.limbs.length+(t.text.length / 8:Nat)) m) m:=by cases t;rw[dF];rfl
theorem fZ(l:List aE)(ih:∀ k,k ∈ l ->∀ m,0 < dF k m /\ dF k m <=k.bulk):∀ n m,n <=aY l n m /\ aY l n m <=n+aL l:=by
 induction l with
 |nil=>intro n m;simp[aY,aL]
 | cons x l ih2=>
  intro n m
  have h1:=ih x (by simp) (m - n)
  have h2:=ih2 (fun k hk=>ih k (by simp[hk])) (n+dF x (m - n)) m
  simp only[aY,aL]
  split <;>omega
theorem fL(t:aE):∀ m,0 < dF t m /\ dF t m <=t.bulk:=by
 refine aE.ind (P:=fun t=>∀ m,0 < dF t m /\ dF t m <=t.bulk) (fun t ih1 ih2 m=> ?_) t
 have h1:=fZ t.items ih1 (1+t.limbs.length+(t.text.length / 8:Nat)) m
 have h2:=fZ t.tail ih2 (aY t.items (1+t.limbs.length+(t.text.length / 8:Nat)) m) m
 rw[tH,aE.bulk_eq]
 omega
theorem nF(l:List aE)(i:Nat):aL (l.take i) <=aL l:=by
 have:=fU (l.take i) (l.drop i)
 rw[List.take_append_drop]at this
 omega
variable (G:Nat ->AV)
theorem xU(t:aE):∀ m:Int,0 <=m ->m <=1000000 ->t.bulk <=1000000000 ->aN Try.prog G 32 [t.enc, .int .i64 m] (.int .i64 (dF t m)):=by
 refine aE.ind (P:=fun t=>∀ m:Int,0 <=m ->m <=1000000 ->t.bulk <=1000000000 ->aN Try.prog G 32 [t.enc, .int .i64 m] (.int .i64 (dF t m))) (fun t ih1 ih2 m hm0 hm1 hbulk=> ?_) t
 intro σ
 have hbe:=t.bulk_eq
 have hl1:=iG t.items
 have hl2:=iG t.tail
 have hde:=tH t m
 obtain⟨n0,hn0⟩:∃ n0:Int,n0=1+t.limbs.length+(t.text.length / 8:Nat):=⟨_,rfl⟩
 rw[<- hn0]at hde
 have hq:IntKind.i64.wrap (IntKind.i64.wrap (1+(t.limbs.length:Int))+IntKind.i64.wrap ((t.text.length:Int).tdiv 8))=n0:=by
  have:((t.text.length:Int).tdiv 8)=((t.text.length / 8:Nat):Int):=by
   rw[Int.tdiv_eq_ediv_of_nonneg (by omega)];omega
  have hi:IntKind.i64.wrap ((t.text.length / 8:Nat):Int)=(t.text.length / 8:Nat):=aF (by omega) (by omega)
  rw[this,hi,aF (x:=1+(t.limbs.length:Int)) (by omega) (by omega),aF (by omega) (by omega),hn0]
 have hn1:n0 <=1+t.limbs.length+t.text.length:=by omega
 have hn2:0 < n0:=by omega
 clear hn0
 have e1:=fZ t.items (fun k _=>fL k) n0 m
 refine aH.of_awp aG Try.func32 rfl (by kernel_rfl) (by kernel_rfl) (by simp[Try.ntmps32]) Try.results32 ?_
 simp -dsimp only[↓bp,bq,br,seval,bI]
 intro b hb
 simp -dsimp only[↓bp,bq,br,seval,bI,hq]
 refine bM (fun n e σ'=>∃ (i:Nat) (z:Int),i <=t.items.length /\ n=t.items.length - i /\ e 6= .int .i64 i /\ e 5= .int .i64 z /\ 0 < z /\ z <=n0+aL (t.items.take i) /\ aY (t.items.drop i) z m=aY t.items n0 m /\
   σ'=σ.setBox b [.int .u8 t.knd, .bool t.neg,cO t.limbs, .str t.text, .int .i64 t.num,bR t.items,bR t.tail]) t.items.length
  ⟨0,n0,by omega,by omega,by simp -dsimp only[↓bp,bq,br,seval,bI];try rfl,by simp -dsimp only[↓bp,bq,br,seval,bI,hq],by omega,by simp[aL],by rw[List.drop_zero],rfl⟩ ?_
 rintro n v σ' ⟨i,z,hi,rfl,h6,h5,hz0,hz1,hz,rfl⟩
 have hbt:=nF t.items i
 simp -dsimp only[↓bp,bq,br,seval,bI]at h6 h5
 simp -dsimp only[↓bp,bq,br,seval,bI,h6,h5]
 refine sN (fun hlt=> ?_) (fun hge=> ?_)
 ·obtain⟨k,hk⟩:∃ k,t.items[i]? =some k:=⟨_,List.getElem?_eq_getElem (by omega)⟩
  have hkm:k ∈ t.items:=List.mem_of_getElem? hk
  have hkb:=iO hkm
  have hko:=fL k (m - z)
  have hdr:=iQ _ _ _ hk
  simp -dsimp only[↓bp,bq,br,seval,bI,h6,h5,hk,hlt]
  refine eU (fun hle=> ?_) (fun hnle=> ?_)
  ·have hw:IntKind.i64.wrap (m - z)=m - z:=aF (by omega) (by omega)
   simp -dsimp only[↓bp,bq,br,seval,bI,h6,h5,hk,hlt,hle,hw]
   refine aN.use (ih1 k hkm (m - z) (by omega) (by omega) (by omega)) ?_
   simp -dsimp only[↓bp,bq,br,seval,bI,h6,h5,hk,hlt,hle,hw]
   refine⟨t.items.length - (i+1),by omega,i+1,z+dF k (m - z),by omega,rfl,?_,?_,by omega,?_,?_⟩
   ·rw[aF (by omega) (by omega)];rfl
   ·rw[aF (by omega) (by omega)]
   ·rw[bV _ _ _ hk,fU]
    simp only[aL]
    omega
   ·rw[<- hz,hdr,aY,if_pos hle]
  ·have hz':aY t.items n0 m=z:=by rw[<- hz,hdr,aY,if_neg hnle]
   simp -dsimp only[↓bp,bq,br,seval,bI,h6,h5,hk,hlt,hnle]
   have hz3:z <=n0+aL t.items:=by omega
   have hz4:=fZ t.tail (fun k _=>fL k) z m
   rw[hz']at hde
   refine bM (fun n e σ'=>∃ (i:Nat) (y:Int),i <=t.tail.length /\ n=t.tail.length - i /\ e 7= .int .i64 i /\ e 5= .int .i64 y /\ 0 < y /\ y <=z+aL (t.tail.take i) /\ aY (t.tail.drop i) y m=aY t.tail z m /\
     σ'=σ.setBox b [.int .u8 t.knd, .bool t.neg,cO t.limbs, .str t.text, .int .i64 t.num,bR t.items,bR t.tail]) t.tail.length
    ⟨0,z,by omega,by omega,by simp -dsimp only[↓bp,bq,br,seval,bI];try rfl,by simp -dsimp only[↓bp,bq,br,seval,bI,h5],by omega,by simp[aL],by rw[List.drop_zero],rfl⟩ ?_
   rintro n2 v2 σ' ⟨j,y,hj,rfl,h7,h5',hy0,hy1,hy,rfl⟩
   have hbt2:=nF t.tail j
   simp -dsimp only[↓bp,bq,br,seval,bI]at h7 h5'
   simp -dsimp only[↓bp,bq,br,seval,bI,h7,h5']
   refine sN (fun hlt2=> ?_) (fun hge2=> ?_)
   ·obtain⟨k,hk⟩:∃ k,t.tail[j]? =some k:=⟨_,List.getElem?_eq_getElem (by omega)⟩
    have hkm:k ∈ t.tail:=List.mem_of_getElem? hk
    have hkb:=iO hkm
    have hko:=fL k (m - y)
    have hdr:=iQ _ _ _ hk
    simp -dsimp only[↓bp,bq,br,seval,bI,h7,h5',hk,hlt2]
    refine eU (fun hle=> ?_) (fun hnle=> ?_)
    ·have hw:IntKind.i64.wrap (m - y)=m - y:=aF (by omega) (by omega)
     simp -dsimp only[↓bp,bq,br,seval,bI,h7,h5',hk,hlt2,hle,hw]
     refine aN.use (ih2 k hkm (m - y) (by omega) (by omega) (by omega)) ?_
     simp -dsimp only[↓bp,bq,br,seval,bI,h7,h5',hk,hlt2,hle,hw]
     refine⟨t.tail.length - (j+1),by omega,j+1,y+dF k (m - y),by omega,rfl,?_,?_,by omega,?_,?_⟩
     ·rw[aF (by omega) (by omega)];rfl
     ·rw[aF (by omega) (by omega)]
     ·rw[bV _ _ _ hk,fU]
      simp only[aL]
      omega
     ·rw[<- hy,hdr,aY,if_pos hle]
    ·simp -dsimp only[↓bp,bq,br,seval,bI,h7,h5',hk,hlt2,hnle]
     refine aI ?_ (bH hb (AS.le.refl σ))
     rw[hde,<- hy,hdr,aY,if_neg hnle]
   ·have:j=t.tail.length:=by omega
    subst this
    simp -dsimp only[↓bp,bq,br,seval,bI,h7,h5',hge2]
    refine aI ?_ (bH hb (AS.le.refl σ))
    rw[hde,<- hy,List.drop_length,aY]
 ·have:i=t.items.length:=by omega
  subst this
  have hz':aY t.items n0 m=z:=by rw[<- hz,List.drop_length,aY]
  simp -dsimp only[↓bp,bq,br,seval,bI,h6,h5,hge]
  have hz3:z <=n0+aL t.items:=by omega
  have hz4:=fZ t.tail (fun k _=>fL k) z m
  rw[hz']at hde
  refine bM (fun n e σ'=>∃ (i:Nat) (y:Int),i <=t.tail.length /\ n=t.tail.length - i /\ e 7= .int .i64 i /\ e 5= .int .i64 y /\ 0 < y /\ y <=z+aL (t.tail.take i) /\ aY (t.tail.drop i) y m=aY t.tail z m /\
    σ'=σ.setBox b [.int .u8 t.knd, .bool t.neg,cO t.limbs, .str t.text, .int .i64 t.num,bR t.items,bR t.tail]) t.tail.length
   ⟨0,z,by omega,by omega,by simp -dsimp only[↓bp,bq,br,seval,bI];try rfl,by simp -dsimp only[↓bp,bq,br,seval,bI,h5],by omega,by simp[aL],by rw[List.drop_zero],rfl⟩ ?_
  rintro n2 v2 σ' ⟨j,y,hj,rfl,h7,h5',hy0,hy1,hy,rfl⟩
  have hbt2:=nF t.tail j
  simp -dsimp only[↓bp,bq,br,seval,bI]at h7 h5'
  simp -dsimp only[↓bp,bq,br,seval,bI,h7,h5']
  refine sN (fun hlt2=> ?_) (fun hge2=> ?_)
  ·obtain⟨k,hk⟩:∃ k,t.tail[j]? =some k:=⟨_,List.getElem?_eq_getElem (by omega)⟩
   have hkm:k ∈ t.tail:=List.mem_of_getElem? hk
   have hkb:=iO hkm
   have hko:=fL k (m - y)
   have hdr:=iQ _ _ _ hk
   simp -dsimp only[↓bp,bq,br,seval,bI,h7,h5',hk,hlt2]
   refine eU (fun hle=> ?_) (fun hnle=> ?_)
   ·have hw:IntKind.i64.wrap (m - y)=m - y:=aF (by omega) (by omega)
    simp -dsimp only[↓bp,bq,br,seval,bI,h7,h5',hk,hlt2,hle,hw]
    refine aN.use (ih2 k hkm (m - y) (by omega) (by omega) (by omega)) ?_
    simp -dsimp only[↓bp,bq,br,seval,bI,h7,h5',hk,hlt2,hle,hw]
    refine⟨t.tail.length - (j+1),by omega,j+1,y+dF k (m - y),by omega,rfl,?_,?_,by omega,?_,?_⟩
    ·rw[aF (by omega) (by omega)];rfl
    ·rw[aF (by omega) (by omega)]
    ·rw[bV _ _ _ hk,fU]
     simp only[aL]
     omega
    ·rw[<- hy,hdr,aY,if_pos hle]
   ·simp -dsimp only[↓bp,bq,br,seval,bI,h7,h5',hk,hlt2,hnle]
    refine aI ?_ (bH hb (AS.le.refl σ))
    rw[hde,<- hy,hdr,aY,if_neg hnle]
  ·have:j=t.tail.length:=by omega
   subst this
   simp -dsimp only[↓bp,bq,br,seval,bI,h7,h5',hge2]
   refine aI ?_ (bH hb (AS.le.refl σ))
   rw[hde,<- hy,List.drop_length,aY]
end
set_option maxRecDepth 20000
section
def nP:=And.intro (And.intro (And.intro (And.intro @jN @kI) (And.intro @kJ (And.intro @eW @jO))) (And.intro (And.intro @eJ (And.intro @eY @eQ)) (And.intro @eZ (And.intro @aE.flat_enc @aE.isv_enc)))) (And.intro (And.intro (And.intro @aE.fold_enc (And.intro @aW @aO)) (And.intro @aX (And.intro @bP @dN))) (And.intro (And.intro @aP (And.intro @aM @aQ)) (And.intro @bJ (And.intro @dD @cJ))))
variable (G:Nat ->AV)
def xK(l:List UInt32):Bool:=match l[l.length - 1]? with|some x=>decide ((x.toNat:Int) ≠ 0)|none=>false
def wr(t:aE):Bool:=
 decide (t.knd=1) && decide (t.text=[]) && decide (t.num=0) && decide ((t.items.length:Int)+t.tail.length=0) && decide ((t.limbs.length:Int) <=32) && (decide ((t.limbs.length:Int)=0) && !t.neg||decide (0 < (t.limbs.length:Int)) && xK t.limbs)
set_option maxHeartbeats 2000000 in
theorem gQ(t:aE)(hb:t.bulk <=1000000000):aN Try.prog G 60 [t.enc] (.bool (wr t)):=by
 have h1:=eD t
 have h2:=cV t
 have h3:=dR t
 have hw1:IntKind.i64.wrap ((t.items.length:Int)+t.tail.length)=t.items.length+t.tail.length:=aF (by omega) (by omega)
 intro σ
 by_cases hl:0 < (t.limbs.length:Int)
 ·have hw2:IntKind.i64.wrap ((t.limbs.length:Int) - 1)=((t.limbs.length - 1:Nat):Int):=by rw[aF (by omega) (by omega)];omega
  obtain⟨x,hx⟩:∃ x,t.limbs[t.limbs.length - 1]? =some x:=⟨_,List.getElem?_eq_getElem (by omega)⟩
  have hlo:xK t.limbs=decide ((x.toNat:Int) ≠ 0):=by simp[xK,hx]
  have hl0: ¬ (t.limbs.length:Int)=0:=by omega
  clear h1 h2 h3 hb
  refine aH.of_awp aG Try.func60 rfl (by kernel_rfl) (by kernel_rfl) (by simp[Try.ntmps60]) Try.results60 ?_
  repeat'(first|refine xs ?_ ?_ <;>intros|(refine wn ?_;intro bx hbx;try simp only[fb]at hbx)|refine bE ?_|(refine aB ?_;intro bx hbx;(try simp only[fb]at hbx))|refine aD ?_|((with_reducible refine And.intro ?_ ?_);omega)|refine aA (d':=⟨⟩) ?_|refine bG (by kernel_rfl) ?_|refine bD ?_ (by repeat' first|exact lr _|assumption|refine ls ?_ ?_|refine lt ?_ ?_|simp only[*];done|simp only[fb, *,not_false_eq_true,and_self];done|exact lf ‹_› (by simp only[*]))|refine aC ?_ (by repeat' first|exact lr _|assumption|refine ls ?_ ?_|refine lt ?_ ?_|simp only[*];done|simp only[fb, *,not_false_eq_true,and_self];done|exact lf ‹_› (by simp only[*]))|simp -dsimp only[↓bp,bq,br,seval,nP,kV, *]|refine wz ?_|fail)
  all_goals(first|(simp only[wr, *,Bool.and_true,Bool.true_and,Bool.and_false,Bool.false_and,Bool.or_true,Bool.true_or,Bool.or_false,Bool.false_or,Bool.not_true,Bool.not_false,if_true,if_false,Bool.and_self,Bool.or_self];done)|(simp[wr, *];done)|(simp_all [wr];done))
 ·have hl0:(t.limbs.length:Int)=0:=by omega
  clear h1 h2 h3 hb
  refine aH.of_awp aG Try.func60 rfl (by kernel_rfl) (by kernel_rfl) (by simp[Try.ntmps60]) Try.results60 ?_
  repeat'(first|refine xs ?_ ?_ <;>intros|(refine wn ?_;intro bx hbx;try simp only[fb]at hbx)|refine bE ?_|(refine aB ?_;intro bx hbx;(try simp only[fb]at hbx))|refine aD ?_|((with_reducible refine And.intro ?_ ?_);omega)|refine aA (d':=⟨⟩) ?_|refine bG (by kernel_rfl) ?_|refine bD ?_ (by repeat' first|exact lr _|assumption|refine ls ?_ ?_|refine lt ?_ ?_|simp only[*];done|simp only[fb, *,not_false_eq_true,and_self];done|exact lf ‹_› (by simp only[*]))|refine aC ?_ (by repeat' first|exact lr _|assumption|refine ls ?_ ?_|refine lt ?_ ?_|simp only[*];done|simp only[fb, *,not_false_eq_true,and_self];done|exact lf ‹_› (by simp only[*]))|simp -dsimp only[↓bp,bq,br,seval,nP,kV, *]|refine wz ?_|fail)
  all_goals(first|(simp only[wr, *,Bool.and_true,Bool.true_and,Bool.and_false,Bool.false_and,Bool.or_true,Bool.true_or,Bool.or_false,Bool.false_or,Bool.not_true,Bool.not_false,if_true,if_false,Bool.and_self,Bool.or_self];done)|(simp[wr, *];done)|(simp_all [wr];done))
def dW(t:aE)(text num items tail:Bool):Bool:=
 !t.neg && decide ((t.limbs.length:Int)=0) && (text||decide (t.text=[])) && (num||decide (t.num=0)) && (items||decide ((t.items.length:Int)=0)) && (tail||decide ((t.tail.length:Int)=0))
set_option maxHeartbeats 2000000 in
theorem fH(t:aE):aN Try.prog G 61 [t.enc, .bool true, .bool false, .bool false, .bool false] (.bool (dW t true false false false)):=by
 intro σ
 refine aH.of_awp aG Try.func61 rfl (by kernel_rfl) (by kernel_rfl) (by simp[Try.ntmps61]) Try.results61 ?_
 repeat'(first|refine xs ?_ ?_ <;>intros|(refine wn ?_;intro bx hbx;try simp only[fb]at hbx)|refine bE ?_|(refine aB ?_;intro bx hbx;(try simp only[fb]at hbx))|refine aD ?_|((with_reducible refine And.intro ?_ ?_);omega)|refine aA (d':=⟨⟩) ?_|refine bG (by kernel_rfl) ?_|refine bD ?_ (by repeat' first|exact lr _|assumption|refine ls ?_ ?_|refine lt ?_ ?_|simp only[*];done|simp only[fb, *,not_false_eq_true,and_self];done|exact lf ‹_› (by simp only[*]))|refine aC ?_ (by repeat' first|exact lr _|assumption|refine ls ?_ ?_|refine lt ?_ ?_|simp only[*];done|simp only[fb, *,not_false_eq_true,and_self];done|exact lf ‹_› (by simp only[*]))|simp -dsimp only[↓bp,bq,br,seval,nP, *]|refine wz ?_|fail)
 all_goals(first|(simp only[dW, *,Bool.and_true,Bool.true_and,Bool.and_false,Bool.false_and,Bool.or_true,Bool.true_or,Bool.or_false,Bool.false_or,Bool.not_true,Bool.not_false,if_true,if_false,Bool.and_self,Bool.or_self];done)|(simp[dW, *];done)|(simp_all [dW];done))
set_option maxHeartbeats 2000000 in
theorem fI(t:aE):aN Try.prog G 61 [t.enc, .bool false, .bool true, .bool false, .bool false] (.bool (dW t false true false false)):=by
 intro σ
 refine aH.of_awp aG Try.func61 rfl (by kernel_rfl) (by kernel_rfl) (by simp[Try.ntmps61]) Try.results61 ?_
 repeat'(first|refine xs ?_ ?_ <;>intros|(refine wn ?_;intro bx hbx;try simp only[fb]at hbx)|refine bE ?_|(refine aB ?_;intro bx hbx;(try simp only[fb]at hbx))|refine aD ?_|((with_reducible refine And.intro ?_ ?_);omega)|refine aA (d':=⟨⟩) ?_|refine bG (by kernel_rfl) ?_|refine bD ?_ (by repeat' first|exact lr _|assumption|refine ls ?_ ?_|refine lt ?_ ?_|simp only[*];done|simp only[fb, *,not_false_eq_true,and_self];done|exact lf ‹_› (by simp only[*]))|refine aC ?_ (by repeat' first|exact lr _|assumption|refine ls ?_ ?_|refine lt ?_ ?_|simp only[*];done|simp only[fb, *,not_false_eq_true,and_self];done|exact lf ‹_› (by simp only[*]))|simp -dsimp only[↓bp,bq,br,seval,nP, *]|refine wz ?_|fail)
 all_goals(first|(simp only[dW, *,Bool.and_true,Bool.true_and,Bool.and_false,Bool.false_and,Bool.or_true,Bool.true_or,Bool.or_false,Bool.false_or,Bool.not_true,Bool.not_false,if_true,if_false,Bool.and_self,Bool.or_self];done)|(simp[dW, *];done)|(simp_all [dW];done))
set_option maxHeartbeats 2000000 in
theorem fJ(t:aE):aN Try.prog G 61 [t.enc, .bool false, .bool true, .bool true, .bool false] (.bool (dW t false true true false)):=by
 intro σ
 refine aH.of_awp aG Try.func61 rfl (by kernel_rfl) (by kernel_rfl) (by simp[Try.ntmps61]) Try.results61 ?_
 repeat'(first|refine xs ?_ ?_ <;>intros|(refine wn ?_;intro bx hbx;try simp only[fb]at hbx)|refine bE ?_|(refine aB ?_;intro bx hbx;(try simp only[fb]at hbx))|refine aD ?_|((with_reducible refine And.intro ?_ ?_);omega)|refine aA (d':=⟨⟩) ?_|refine bG (by kernel_rfl) ?_|refine bD ?_ (by repeat' first|exact lr _|assumption|refine ls ?_ ?_|refine lt ?_ ?_|simp only[*];done|simp only[fb, *,not_false_eq_true,and_self];done|exact lf ‹_› (by simp only[*]))|refine aC ?_ (by repeat' first|exact lr _|assumption|refine ls ?_ ?_|refine lt ?_ ?_|simp only[*];done|simp only[fb, *,not_false_eq_true,and_self];done|exact lf ‹_› (by simp only[*]))|simp -dsimp only[↓bp,bq,br,seval,nP, *]|refine wz ?_|fail)
 all_goals(first|(simp only[dW, *,Bool.and_true,Bool.true_and,Bool.and_false,Bool.false_and,Bool.or_true,Bool.true_or,Bool.or_false,Bool.false_or,Bool.not_true,Bool.not_false,if_true,if_false,Bool.and_self,Bool.or_self];done)|(simp[dW, *];done)|(simp_all [dW];done))
set_option maxHeartbeats 2000000 in
theorem fK(t:aE):aN Try.prog G 61 [t.enc, .bool false, .bool false, .bool true, .bool false] (.bool (dW t false false true false)):=by
 intro σ
 refine aH.of_awp aG Try.func61 rfl (by kernel_rfl) (by kernel_rfl) (by simp[Try.ntmps61]) Try.results61 ?_
 repeat'(first|refine xs ?_ ?_ <;>intros|(refine wn ?_;intro bx hbx;try simp only[fb]at hbx)|refine bE ?_|(refine aB ?_;intro bx hbx;(try simp only[fb]at hbx))|refine aD ?_|((with_reducible refine And.intro ?_ ?_);omega)|refine aA (d':=⟨⟩) ?_|refine bG (by kernel_rfl) ?_|refine bD ?_ (by repeat' first|exact lr _|assumption|refine ls ?_ ?_|refine lt ?_ ?_|simp only[*];done|simp only[fb, *,not_false_eq_true,and_self];done|exact lf ‹_› (by simp only[*]))|refine aC ?_ (by repeat' first|exact lr _|assumption|refine ls ?_ ?_|refine lt ?_ ?_|simp only[*];done|simp only[fb, *,not_false_eq_true,and_self];done|exact lf ‹_› (by simp only[*]))|simp -dsimp only[↓bp,bq,br,seval,nP, *]|refine wz ?_|fail)
 all_goals(first|(simp only[dW, *,Bool.and_true,Bool.true_and,Bool.and_false,Bool.false_and,Bool.or_true,Bool.true_or,Bool.or_false,Bool.false_or,Bool.not_true,Bool.not_false,if_true,if_false,Bool.and_self,Bool.or_self];done)|(simp[dW, *];done)|(simp_all [dW];done))
set_option maxHeartbeats 2000000 in
theorem eO(t:aE):aN Try.prog G 61 [t.enc, .bool false, .bool false, .bool true, .bool true] (.bool (dW t false false true true)):=by
 intro σ
 refine aH.of_awp aG Try.func61 rfl (by kernel_rfl) (by kernel_rfl) (by simp[Try.ntmps61]) Try.results61 ?_
 repeat'(first|refine xs ?_ ?_ <;>intros|(refine wn ?_;intro bx hbx;try simp only[fb]at hbx)|refine bE ?_|(refine aB ?_;intro bx hbx;(try simp only[fb]at hbx))|refine aD ?_|((with_reducible refine And.intro ?_ ?_);omega)|refine aA (d':=⟨⟩) ?_|refine bG (by kernel_rfl) ?_|refine bD ?_ (by repeat' first|exact lr _|assumption|refine ls ?_ ?_|refine lt ?_ ?_|simp only[*];done|simp only[fb, *,not_false_eq_true,and_self];done|exact lf ‹_› (by simp only[*]))|refine aC ?_ (by repeat' first|exact lr _|assumption|refine ls ?_ ?_|refine lt ?_ ?_|simp only[*];done|simp only[fb, *,not_false_eq_true,and_self];done|exact lf ‹_› (by simp only[*]))|simp -dsimp only[↓bp,bq,br,seval,nP, *]|refine wz ?_|fail)
 all_goals(first|(simp only[dW, *,Bool.and_true,Bool.true_and,Bool.and_false,Bool.false_and,Bool.or_true,Bool.true_or,Bool.or_false,Bool.false_or,Bool.not_true,Bool.not_false,if_true,if_false,Bool.and_self,Bool.or_self];done)|(simp[dW, *];done)|(simp_all [dW];done))
end
set_option maxRecDepth 20000
section
def kF:=And.intro (And.intro (And.intro (And.intro @jN (And.intro @rA @kI)) (And.intro @gT (And.intro @eC @kJ))) (And.intro (And.intro @jO (And.intro @gX @gC)) (And.intro (And.intro @gY @eY) (And.intro @eZ @eQ)))) (And.intro (And.intro (And.intro @eJ (And.intro @eW @aE.flat_enc)) (And.intro (And.intro @aE.isv_enc @aE.fold_enc) (And.intro @aW @aO))) (And.intro (And.intro @aP (And.intro @aM @aX)) (And.intro (And.intro @bP @aQ) (And.intro @bJ @cJ))))
variable {G:Nat ->AV}
theorem B9i(l:List UInt32)(i:Nat)(x:UInt32)(hx:l[i]? =some x)(hi:i < 2):IntKind.u64.wrap ↑(BitVec.ofInt IntKind.u64.bits (val (l.take i):Int)|||BitVec.ofInt IntKind.u64.bits (IntKind.u64.wrap (IntKind.u64.wrap (x.toNat:Int)*2 ^ min (32*(i:Int)).toNat IntKind.u64.bits))).toNat=(val (l.take (i+1)):Int):=by
 have hxl:x.toNat < 4294967296:=x.toNat_lt
 have hw:IntKind.u64.wrap (x.toNat:Int)=x.toNat:=by rw[lC];omega
 rw[hw]
 match i,hi with
 | 0,_=>
  match l,hx with
  | y::l,hx=>
   obtain rfl:y=x:=by simpa using hx
   have e0:(2:Int) ^ min (32*((0:Nat):Int)).toNat IntKind.u64.bits=1:=rfl
   have h0:=xP 0 (y.toNat:Int) 32 (by decide) (by omega) (by omega) (by omega) ⟨0,by simp,by simp⟩
   rw[e0,Int.mul_one,hw]
   simp only[List.take_zero,val,List.take_succ_cons,Nat.mul_zero,Nat.add_zero,Int.ofNat_zero]at h0 ⊢
   rw[h0];omega
 | 1,_=>
  match l,hx with
  | z::y::l,hx=>
   obtain rfl:y=x:=by simpa using hx
   have hzl:z.toNat < 4294967296:=z.toNat_lt
   have e0:(2:Int) ^ min (32*((1:Nat):Int)).toNat IntKind.u64.bits=4294967296:=rfl
   have hw2:IntKind.u64.wrap ((y.toNat:Int)*4294967296)=(y.toNat:Int)*4294967296:=by rw[lC];omega
   have h0:=xP ((y.toNat:Int)*4294967296) (z.toNat:Int) 32 (by decide) (by omega) (by omega) (by omega) ⟨y.toNat,by simp,by omega⟩
   rw[e0,hw2,BitVec.or_comm]
   simp only[List.take_zero,val,List.take_succ_cons,Nat.mul_zero,Nat.add_zero]
   rw[h0];omega
theorem B3y(m:Nat)(h:m <=9223372036854775808):IntKind.i64.wrap (IntKind.u64.wrap (0 - (m:Int)))= -(m:Int):=by
 rw[lC]
 first
  |(simp[IntKind.wrap,IntKind.bits,IntKind.signed];omega)
  |(simp[IntKind.wrap];omega)
theorem B4l(m:Nat)(h:m < 9223372036854775808):IntKind.i64.wrap (m:Int)=(m:Int):=by
 first
  |(simp[IntKind.wrap,IntKind.bits,IntKind.signed];omega)
  |(simp[IntKind.wrap];omega)
def vM(t:aE):AV:=if wr t=true /\ t.limbs.length <=2 then(if t.neg then(if val t.limbs <=9223372036854775808 then .tup [.int .i64 (-(val t.limbs:Int)), .bool true]else .tup [.int .i64 0, .bool false])else if val t.limbs < 9223372036854775808 then .tup [.int .i64 (val t.limbs), .bool true]else .tup [.int .i64 0, .bool false])else .tup [.int .i64 0, .bool false]
set_option maxHeartbeats 2000000 in
theorem A8s(t:aE)(hb:t.bulk <=1000000000):aN Try.prog G 94 [t.enc] (vM t):=by
 intro σ
 have hwr:=gQ G t hb
 have h1:=eD t
 have hfe:flat t.enc=[.int .u8 t.knd, .bool t.neg,cO t.limbs, .str t.text, .int .i64 t.num,bR t.items,bR t.tail]:=t.flat_enc
 unfold vM
 cases hw:wr t with
 | false=>
  rw[if_neg (by simp)]
  rw[hw]at hwr
  refine aH.of_awp aG Try.func94 rfl (by kernel_rfl) (by kernel_rfl) (by simp[Try.ntmps94]) Try.results94 ?_
  repeat'(first|refine xs ?_ ?_ <;>intros|(refine wn ?_;intro bx hbx;try simp only[fb]at hbx)|refine wp hwr ?_|refine bE ?_|(refine aB ?_;intro bx hbx;(try simp only[fb]at hbx))|refine aD ?_|((with_reducible refine And.intro ?_ ?_);omega)|refine aA (d':=⟨⟩) ?_|refine bG (by kernel_rfl) ?_|refine bD ?_ (by repeat' first|exact lr _|assumption|refine ls ?_ ?_|refine lt ?_ ?_|simp only[*];done|simp only[fb, *,not_false_eq_true,and_self];done|exact lf ‹_› (by simp only[*]))|refine aC ?_ (by repeat' first|exact lr _|assumption|refine ls ?_ ?_|refine lt ?_ ?_|simp only[*];done|simp only[fb, *,not_false_eq_true,and_self];done|exact lf ‹_› (by simp only[*]))|simp -dsimp only[↓bp,bq,br,seval,kF, *]|refine wz ?_|fail)
  exact⟨_,σ,rfl,(AS.le.refl σ).setBox hbx.1 _,rfl,rfl⟩
 | true=>
  rw[hw]at hwr
  by_cases hl:t.limbs.length <=2
  ·rw [if_pos ⟨rfl,hl⟩]
   have c1:((2:Int) < t.limbs.length)=False:=eq_false (by omega)
   refine aH.of_awp aG Try.func94 rfl (by kernel_rfl) (by kernel_rfl) (by simp[Try.ntmps94]) Try.results94 ?_
   repeat'(first|refine xs ?_ ?_ <;>intros|(refine wn ?_;intro bx hbx;try simp only[fb]at hbx)|refine wp hwr ?_|refine bE ?_|(refine aB ?_;intro bx hbx;(try simp only[fb]at hbx))|refine aD ?_|((with_reducible refine And.intro ?_ ?_);omega)|refine aA (d':=⟨⟩) ?_|refine bG (by kernel_rfl) ?_|refine bD ?_ (by repeat' first|exact lr _|assumption|refine ls ?_ ?_|refine lt ?_ ?_|simp only[*];done|simp only[fb, *,not_false_eq_true,and_self];done|exact lf ‹_› (by simp only[*]))|refine aC ?_ (by repeat' first|exact lr _|assumption|refine ls ?_ ?_|refine lt ?_ ?_|simp only[*];done|simp only[fb, *,not_false_eq_true,and_self];done|exact lf ‹_› (by simp only[*]))|simp -dsimp only[↓bp,bq,br,seval,kF, *]|refine wz ?_|fail)
   refine bM (fun m e σ'=>∃ i:Nat,e 19= .int .i64 i /\ i+m=t.limbs.length /\ e 4= .int .u64 (val (t.limbs.take i)) /\ σ'=σ.setBox bx [.int .u8 t.knd, .bool t.neg,cO t.limbs, .str t.text, .int .i64 t.num,bR t.items,bR t.tail]) t.limbs.length ⟨0,by simp -dsimp only[↓bp,bq,br,seval,kF],by omega,by(simp -dsimp only[↓bp,bq,br,seval,kF]);rfl,rfl⟩ ?_
   rintro m e σ' ⟨i,h19,him,h4,rfl⟩
   simp -dsimp only[↓bp,bq,br,seval,kF]at h19
   simp -dsimp only[↓bp,bq,br,seval,kF]at h4
   have hwi:IntKind.i64.wrap ((i:Int)+1)=((i+1:Nat):Int):=by rw[aF (by omega) (by omega)];omega
   by_cases hi:i < t.limbs.length
   ·have c2:((i:Int) < t.limbs.length)=True:=eq_true (by omega)
    obtain⟨x,hx⟩:∃ x,t.limbs[i]? =some x:=⟨t.limbs[i],List.getElem?_eq_getElem hi⟩
    repeat'(first|refine xs ?_ ?_ <;>intros|(refine wn ?_;intro bx hbx;try simp only[fb]at hbx)|refine bE ?_|(refine aB ?_;intro bx hbx;(try simp only[fb]at hbx))|refine aD ?_|((with_reducible refine And.intro ?_ ?_);omega)|refine aA (d':=⟨⟩) ?_|refine bG (by kernel_rfl) ?_|refine bD ?_ (by repeat' first|exact lr _|assumption|refine ls ?_ ?_|refine lt ?_ ?_|simp only[*];done|simp only[fb, *,not_false_eq_true,and_self];done|exact lf ‹_› (by simp only[*]))|refine aC ?_ (by repeat' first|exact lr _|assumption|refine ls ?_ ?_|refine lt ?_ ?_|simp only[*];done|simp only[fb, *,not_false_eq_true,and_self];done|exact lf ‹_› (by simp only[*]))|simp -dsimp only[↓bp,bq,br,seval,kF,hwi,hx,kV, *]|refine wz ?_|fail)
    have hw32:IntKind.i64.wrap (32*(i:Int))=32*i:=by
     have:(32*(i:Int))=((32*i:Nat):Int):=by omega
     rw[this,aF (by omega) (by omega)]
    refine⟨by rw[hw32];omega,m - 1,by omega,i+1,rfl,by omega,?_⟩
    rw[hw32]
    exact congrArg (AV.int _) (B9i t.limbs i x hx (by omega))
   ·have c2:((i:Int) < t.limbs.length)=False:=eq_false (by omega)
    obtain rfl:i=t.limbs.length:=by omega
    repeat'(first|refine xs ?_ ?_ <;>intros|(refine wn ?_;intro bx hbx;try simp only[fb]at hbx)|refine bE ?_|(refine aB ?_;intro bx hbx;(try simp only[fb]at hbx))|refine aD ?_|((with_reducible refine And.intro ?_ ?_);omega)|refine aA (d':=⟨⟩) ?_|refine bG (by kernel_rfl) ?_|refine bD ?_ (by repeat' first|exact lr _|assumption|refine ls ?_ ?_|refine lt ?_ ?_|simp only[*];done|simp only[fb, *,not_false_eq_true,and_self];done|exact lf ‹_› (by simp only[*]))|refine aC ?_ (by repeat' first|exact lr _|assumption|refine ls ?_ ?_|refine lt ?_ ?_|simp only[*];done|simp only[fb, *,not_false_eq_true,and_self];done|exact lf ‹_› (by simp only[*]))|simp -dsimp only[↓bp,bq,br,seval,kF, *]|refine wz ?_|fail)
    all_goals refine⟨_,σ,rfl,(AS.le.refl σ).setBox hbx.1 _,?_,rfl⟩
    all_goals show AV.tup _=_
    all_goals simp only[decide_eq_true_eq,decide_eq_false_iff_not,Decidable.not_not]at*
    all_goals repeat' split
    all_goals first
     |rfl
     |(exfalso;simp_all;done)
     |(exfalso;omega)
     |(rw[B3y _ (by omega)])
     |(rw[B4l _ (by omega)])
     |trace_state
  ·rw[if_neg (by simp;omega)]
   have c1:((2:Int) < t.limbs.length)=True:=eq_true (by omega)
   refine aH.of_awp aG Try.func94 rfl (by kernel_rfl) (by kernel_rfl) (by simp[Try.ntmps94]) Try.results94 ?_
   repeat'(first|refine xs ?_ ?_ <;>intros|(refine wn ?_;intro bx hbx;try simp only[fb]at hbx)|refine wp hwr ?_|refine bE ?_|(refine aB ?_;intro bx hbx;(try simp only[fb]at hbx))|refine aD ?_|((with_reducible refine And.intro ?_ ?_);omega)|refine aA (d':=⟨⟩) ?_|refine bG (by kernel_rfl) ?_|refine bD ?_ (by repeat' first|exact lr _|assumption|refine ls ?_ ?_|refine lt ?_ ?_|simp only[*];done|simp only[fb, *,not_false_eq_true,and_self];done|exact lf ‹_› (by simp only[*]))|refine aC ?_ (by repeat' first|exact lr _|assumption|refine ls ?_ ?_|refine lt ?_ ?_|simp only[*];done|simp only[fb, *,not_false_eq_true,and_self];done|exact lf ‹_› (by simp only[*]))|simp -dsimp only[↓bp,bq,br,seval,kF, *]|refine wz ?_|fail)
   exact⟨_,σ,rfl,(AS.le.refl σ).setBox hbx.1 _,rfl,rfl⟩
def A3k(t:aE):Int × Bool:=match vM t with
 | .tup [.int _ n, .bool b]=> (n,b && (decide (-576460752303423488 <=n) && decide (n < 576460752303423488)))
 |_=> (0,false)
set_option maxHeartbeats 1000000 in
theorem qH(t:aE)(hb:t.bulk <=1000000000):aN Try.prog G 64 [t.enc] (.tup [.int .i64 (A3k t).1, .bool (A3k t).2]):=by
 have hfe:flat t.enc=[.int .u8 t.knd, .bool t.neg,cO t.limbs, .str t.text, .int .i64 t.num,bR t.items,bR t.tail]:=t.flat_enc
 have key:∀ (n:Int) (b:Bool),aN Try.prog G 94 [t.enc] (.tup [.int .i64 n, .bool b]) ->aN Try.prog G 64 [t.enc] (.tup [.int .i64 n, .bool (b && (decide (-576460752303423488 <=n) && decide (n < 576460752303423488)))]):=by
  intro n b hw σ
  cases b with
  | false=>
   refine aH.of_awp aG Try.func64 rfl (by kernel_rfl) (by kernel_rfl) (by simp[Try.ntmps64]) Try.results64 ?_
   repeat'(first|refine xs ?_ ?_ <;>intros|(refine wn ?_;intro bx hbx;try simp only[fb]at hbx)|refine wp hw ?_|refine bE ?_|(refine aB ?_;intro bx hbx;(try simp only[fb]at hbx))|refine aD ?_|((with_reducible refine And.intro ?_ ?_);omega)|refine aA (d':=⟨⟩) ?_|refine bG (by kernel_rfl) ?_|refine bD ?_ (by repeat' first|exact lr _|assumption|refine ls ?_ ?_|refine lt ?_ ?_|simp only[*];done|simp only[fb, *,not_false_eq_true,and_self];done|exact lf ‹_› (by simp only[*]))|refine aC ?_ (by repeat' first|exact lr _|assumption|refine ls ?_ ?_|refine lt ?_ ?_|simp only[*];done|simp only[fb, *,not_false_eq_true,and_self];done|exact lf ‹_› (by simp only[*]))|simp -dsimp only[↓bp,bq,br,seval,kF, *]|refine wz ?_|fail)
   exact⟨_,σ,rfl,(AS.le.refl σ).setBox hbx.1 _,rfl,rfl⟩
  | true=>
   by_cases h1: -576460752303423488 <=n
   ·by_cases h2:n < 576460752303423488
    ·rw[decide_eq_true h1,decide_eq_true h2]
     have c1:(-576460752303423488 <=n)=True:=eq_true h1
     have c2:(n < 576460752303423488)=True:=eq_true h2
     clear h1 h2
     refine aH.of_awp aG Try.func64 rfl (by kernel_rfl) (by kernel_rfl) (by simp[Try.ntmps64]) Try.results64 ?_
     repeat'(first|refine xs ?_ ?_ <;>intros|(refine wn ?_;intro bx hbx;try simp only[fb]at hbx)|refine wp hw ?_|refine bE ?_|(refine aB ?_;intro bx hbx;(try simp only[fb]at hbx))|refine aD ?_|((with_reducible refine And.intro ?_ ?_);omega)|refine aA (d':=⟨⟩) ?_|refine bG (by kernel_rfl) ?_|refine bD ?_ (by repeat' first|exact lr _|assumption|refine ls ?_ ?_|refine lt ?_ ?_|simp only[*];done|simp only[fb, *,not_false_eq_true,and_self];done|exact lf ‹_› (by simp only[*]))|refine aC ?_ (by repeat' first|exact lr _|assumption|refine ls ?_ ?_|refine lt ?_ ?_|simp only[*];done|simp only[fb, *,not_false_eq_true,and_self];done|exact lf ‹_› (by simp only[*]))|simp -dsimp only[↓bp,bq,br,seval,kF, *]|refine wz ?_|fail)
     exact⟨_,σ,rfl,(AS.le.refl σ).setBox hbx.1 _,rfl,rfl⟩
    ·rw[decide_eq_true h1,decide_eq_false h2]
     have c1:(-576460752303423488 <=n)=True:=eq_true h1
     have c2:(n < 576460752303423488)=False:=eq_false h2
     clear h1 h2
     refine aH.of_awp aG Try.func64 rfl (by kernel_rfl) (by kernel_rfl) (by simp[Try.ntmps64]) Try.results64 ?_
     repeat'(first|refine xs ?_ ?_ <;>intros|(refine wn ?_;intro bx hbx;try simp only[fb]at hbx)|refine wp hw ?_|refine bE ?_|(refine aB ?_;intro bx hbx;(try simp only[fb]at hbx))|refine aD ?_|((with_reducible refine And.intro ?_ ?_);omega)|refine aA (d':=⟨⟩) ?_|refine bG (by kernel_rfl) ?_|refine bD ?_ (by repeat' first|exact lr _|assumption|refine ls ?_ ?_|refine lt ?_ ?_|simp only[*];done|simp only[fb, *,not_false_eq_true,and_self];done|exact lf ‹_› (by simp only[*]))|refine aC ?_ (by repeat' first|exact lr _|assumption|refine ls ?_ ?_|refine lt ?_ ?_|simp only[*];done|simp only[fb, *,not_false_eq_true,and_self];done|exact lf ‹_› (by simp only[*]))|simp -dsimp only[↓bp,bq,br,seval,kF, *]|refine wz ?_|fail)
     exact⟨_,σ,rfl,(AS.le.refl σ).setBox hbx.1 _,rfl,rfl⟩
   ·rw[decide_eq_false h1]
    have c1:(-576460752303423488 <=n)=False:=eq_false h1
    clear h1
    refine aH.of_awp aG Try.func64 rfl (by kernel_rfl) (by kernel_rfl) (by simp[Try.ntmps64]) Try.results64 ?_
    repeat'(first|refine xs ?_ ?_ <;>intros|(refine wn ?_;intro bx hbx;try simp only[fb]at hbx)|refine wp hw ?_|refine bE ?_|(refine aB ?_;intro bx hbx;(try simp only[fb]at hbx))|refine aD ?_|((with_reducible refine And.intro ?_ ?_);omega)|refine aA (d':=⟨⟩) ?_|refine bG (by kernel_rfl) ?_|refine bD ?_ (by repeat' first|exact lr _|assumption|refine ls ?_ ?_|refine lt ?_ ?_|simp only[*];done|simp only[fb, *,not_false_eq_true,and_self];done|exact lf ‹_› (by simp only[*]))|refine aC ?_ (by repeat' first|exact lr _|assumption|refine ls ?_ ?_|refine lt ?_ ?_|simp only[*];done|simp only[fb, *,not_false_eq_true,and_self];done|exact lf ‹_› (by simp only[*]))|simp -dsimp only[↓bp,bq,br,seval,kF, *]|refine wz ?_|fail)
    exact⟨_,σ,rfl,(AS.le.refl σ).setBox hbx.1 _,rfl,rfl⟩
 have hw:=A8s (G:=G) t hb
 unfold A3k
 have hv:∃ n b,vM t= .tup [.int .i64 n, .bool b]:=by unfold vM;split <;> (try split) <;> (try split) <;>exact⟨_,_,rfl⟩
 obtain⟨n,b,hv⟩:=hv
 rw[hv]at hw ⊢
 exact key n b hw
theorem A7t{t:aE}(hw:wr t=true){n:Int}(hn:A7s t=some n):A3k t=(n,true):=by
 unfold A7s B9k at hn
 unfold A3k vM
 generalize wr t=w at*
 generalize t.neg=g at*
 generalize t.limbs.length=k at*
 generalize val t.limbs=m at*
 by_cases h:k <=2 /\ -576460752303423488 <=(if g=true then -(m:Int)else m) /\ (if g=true then -(m:Int)else m) < 576460752303423488
 ·rw[if_pos h]at hn
  simp only[Option.some.injEq]at hn
  obtain⟨h1,h2,h3⟩:=h
  rw[if_pos ⟨hw,h1⟩]
  cases g with
  | true=>
   simp only[if_true]at h2 h3 hn ⊢
   rw[if_pos (by omega)]
   rw[hn]at h2 h3
   simp only[Bool.true_and,hn,decide_eq_true h2,decide_eq_true h3,Bool.and_self]
  | false=>
   simp only[Bool.false_eq_true,if_false]at h2 h3 hn ⊢
   rw[if_pos (by omega)]
   rw[hn]at h2 h3
   simp only[Bool.true_and,hn,decide_eq_true h2,decide_eq_true h3,Bool.and_self]
 ·rw[if_neg h]at hn;cases hn
end
set_option maxRecDepth 20000
section
def D0b:=And.intro (And.intro (And.intro (And.intro (And.intro @jN @rA) (And.intro @kI @gT)) (And.intro (And.intro @eC @kJ) (And.intro @jO @gX))) (And.intro (And.intro (And.intro @gC @gY) (And.intro @fP @jF)) (And.intro (And.intro @jC @jE) (And.intro @jD (And.intro @gF @eY))))) (And.intro (And.intro (And.intro (And.intro @eZ @eQ) (And.intro @eJ @eW)) (And.intro (And.intro @cQ @cP) (And.intro @cD (And.intro @aE.flat_enc @aE.isv_enc)))) (And.intro (And.intro (And.intro @aE.fold_enc @aW) (And.intro @aO @aP)) (And.intro (And.intro @aM @aX) (And.intro @bP (And.intro @aQ @bJ)))))
variable {G:Nat ->AV}
theorem A3h(t:aE){l:List AV}(h:tL l [.int .u8 t.knd, .bool t.neg,cO t.limbs, .str t.text, .int .i64 t.num,bR t.items,bR t.tail]):LeE (.agg l) t.enc:=by
 refine⟨?_,t.isv_enc,C9m t⟩
 rw[t.flat_enc];exact h
def oP:aE:= .mk 1 false [1] [] 0 [] []
def aT:aE:= .mk 2 false [] [97] 0 [] []
def qT:aE:= .mk 7 false [] [] 0 [oP] []
def fW:aE:= .mk 6 false [] [] 0 [aT,qT] []
set_option maxHeartbeats 1000000 in
theorem A8c:aN Try.prog G 17 [] fW.enc:=by
 refine aN.of_le fun σ=> ?_
 refine aH.of_awp aG Try.func17 rfl (by kernel_rfl) (by kernel_rfl) (by simp[Try.ntmps17]) Try.results17 ?_
 repeat'(first|refine xs ?_ ?_ <;>intros|(refine wn ?_;intro bx hbx;try simp only[fb]at hbx)|refine bE ?_|(refine aB ?_;intro bx hbx;(try simp only[fb]at hbx))|refine aD ?_|((with_reducible refine And.intro ?_ ?_);omega)|refine aA (d':=⟨⟩) ?_|refine bG (by kernel_rfl) ?_|refine bD ?_ (by repeat' first|exact lr _|assumption|refine ls ?_ ?_|refine lt ?_ ?_|simp only[*];done|simp only[fb, *,not_false_eq_true,and_self];done|exact lf ‹_› (by simp only[*]))|refine aC ?_ (by repeat' first|exact lr _|assumption|refine ls ?_ ?_|refine lt ?_ ?_|simp only[*];done|simp only[fb, *,not_false_eq_true,and_self];done|exact lf ‹_› (by simp only[*]))|simp -dsimp only[↓bp,bq,br,seval,D0b, *]|refine wz ?_|fail)
 refine⟨_,σ,rfl,by repeat' first|exact lr _|assumption|refine ls ?_ ?_|refine lt ?_ ?_|simp only[*];done|simp only[fb, *,not_false_eq_true,and_self];done|exact lf ‹_› (by simp only[*]),?_,rfl⟩
 show Le (AV.agg _) _
 rw[<- fW.fold_enc]
 refine Le.agg (.cons (Le.refl _) (.cons (Le.refl _) (.cons Le.nil (.cons (Le.refl _) (.cons (Le.refl _) (.cons ?_ (.cons Le.nil .nil))))))) (fun d hd=>by simp at hd;rcases hd with rfl|rfl|rfl|rfl|rfl|rfl|rfl <;>rfl)
 refine Le.sl (.cons (A3h aT (.cons (Le.refl _) (.cons (Le.refl _) (.cons Le.nil (.cons (Le.refl _) (.cons (Le.refl _) (.cons Le.nil (.cons Le.nil .nil)))))))) (.cons (A3h qT (.cons (Le.refl _) (.cons (Le.refl _) (.cons Le.nil (.cons (Le.refl _) (.cons (Le.refl _) (.cons ?_ (.cons Le.nil .nil)))))))) .nil))
 refine Le.sl (.cons (A3h oP (.cons (Le.refl _) (.cons (Le.refl _) (.cons ?_ (.cons (Le.refl _) (.cons (Le.refl _) (.cons Le.nil (.cons Le.nil .nil)))))))) .nil)
 exact Le.gh
end
set_option maxRecDepth 20000
section
def gP:=And.intro (And.intro (And.intro (And.intro @jN @kI) (And.intro @kJ (And.intro @eW @jO))) (And.intro (And.intro @eJ (And.intro @eY @eQ)) (And.intro @eZ (And.intro @aE.flat_enc @aE.isv_enc)))) (And.intro (And.intro (And.intro @aE.fold_enc (And.intro @aW @aO)) (And.intro @aX (And.intro @bP @dN))) (And.intro (And.intro @aP (And.intro @aM @aQ)) (And.intro @bJ (And.intro @dD @cJ))))
variable (G:Nat ->AV)
def head(t:aE):Int × Int × Bool:=
 if t.knd=2 then(1,0,dW t true false false false && decide ((t.text.length:Int) <=40))
 else if t.knd=3 \/ t.knd=5 then(1,0,dW t false true false false && decide (0 <=t.num) && decide (t.num <=1099511627776))
 else if t.knd=4 then(2,0,dW t false true true false && decide (0 <=t.num) && decide (t.num <=16384))
 else if t.knd=6 then(1,0,dW t false false true false)
 else if t.knd=7 then(1,1,dW t false false true true && decide ((t.tail.length:Int) <=if(t.items.length:Int) < 1 then(t.items.length:Int)else 1) && t.tail.all fun x=>decide (x.knd ≠ 7))
 else(1,0,false)
mutual
def size:aE ->Int
 | .mk k g l s n ks ts=>
  if(k.toNat:Int)=1 then(if wr (.mk k g l s n ks ts)=true then 1+l.length else 0)else
   let h:=head (.mk k g l s n ks ts)
   let a:=aR ks h.2.1 (h.1,h.2.2)
   let b:=aR ts 0 a
   if b.2=true then b.1 else 0
def aR:List aE ->Int ->Int × Bool ->Int × Bool
 |[],_,a=>a
 |k::ks,each,a=>if a.2=true then aR ks each (a.1+size k+each,decide (0 < size k) && decide (a.1+size k+each <=4096))else a
end
theorem gO(t:aE):size t=if t.knd=1 then(if wr t=true then(1+t.limbs.length:Int)else 0)else
  if(aR t.tail 0 (aR t.items (head t).2.1 ((head t).1,(head t).2.2))).2=true then(aR t.tail 0 (aR t.items (head t).2.1 ((head t).1,(head t).2.2))).1 else 0:=by
 cases t;rw[size];rfl
theorem dI(l:List aE)(h:∀ x,x ∈ l ->0 <=size x /\ size x <=4096)(each:Int)(he0:0 <=each)(he1:each <=1):∀ a:Int × Bool,0 < a.1 -> (a.2=true ->a.1 <=4096) ->a.1 <=10000 ->
  0 < (aR l each a).1 /\ ((aR l each a).2=true -> (aR l each a).1 <=4096) /\ (aR l each a).1 <=10000:=by
 induction l with
 |nil=>intro a h1 h2 h3;exact⟨h1,h2,h3⟩
 | cons x l ih=>
  intro a h1 h2 h3
  have hx:=h x (by simp)
  simp only[aR]
  split
  ·rename_i hf
   have:=h2 hf
   refine ih (fun y hy=>h y (by simp[hy])) _ (by simp only;omega) (fun hh=> ?_) (by simp only;omega)
   simp only[Bool.and_eq_true,decide_eq_true_eq]at hh
   exact hh.2
  ·exact⟨h1,h2,h3⟩
theorem B8h(t:aE):0 < (head t).1 /\ (head t).1 <=2 /\ 0 <=(head t).2.1 /\ (head t).2.1 <=1:=by
 unfold head;split <;> (try split) <;> (try split) <;> (try split) <;> (try split) <;>simp
theorem iK(t:aE):0 <=size t /\ size t <=4096:=by
 refine aE.ind (P:=fun t=>0 <=size t /\ size t <=4096) (fun t ih1 ih2=> ?_) t
 obtain⟨h1,h2,h3,h4⟩:=B8h t
 have a:=dI t.items ih1 _ h3 h4 ((head t).1,(head t).2.2) h1 (fun _=>by simp only;omega) (by simp only;omega)
 have b:=dI t.tail ih2 0 (by omega) (by omega) _ a.1 a.2.1 a.2.2
 rw[gO]
 split
 ·split
  ·rename_i hw
   simp only[wr,Bool.and_eq_true,decide_eq_true_eq]at hw
   omega
  ·omega
 ·split
  ·rename_i hf
   have:=b.2.1 hf
   omega
  ·omega
theorem A1p(l:List aE)(each n:Int):aR l each (n,false)=(n,false):=by cases l <;>simp[aR]
theorem aV (l:List aE) (each:Int) (he0:0 <=each) (he1:each <=1) (hl:l.length <=1000000000) (hf:∀ x,x ∈ l ->aN Try.prog G 36 [x.enc] (.int .i64 (size x))) (σ:AS) (bf bn:Nat) (hne:bf ≠ bn) (n:Int) (f:Bool)
  (hbf:σ.box bf=some [.bool f]) (hbn:σ.box bn=some [.int .i64 n]) (hn0:0 < n) (hn1:f=true ->n <=4096) (hn2:n <=10000):
  aH Try.prog G 62 [bR l, .int .i64 each, .ptr bf 0, .ptr bn 0] σ fun r σ'=>σ'=(σ.setBox bn [.int .i64 (aR l each (n,f)).1]).setBox bf [.bool (aR l each (n,f)).2]:=by
 have hnb:bn ≠ bf:=Ne.symm hne
 have hid:σ=(σ.setBox bn [.int .i64 n]).setBox bf [.bool f]:=by
  unfold AS.setBox;cases σ with
  | mk box tip ty=>
   simp only[AS.mk.injEq,and_true]
   funext i
   split
   ·rename_i h;subst h;exact hbf
   ·split
    ·rename_i h;subst h;exact hbn
    ·rfl
 have sw:∀ (m m':Int) (g g':Bool),(((σ.setBox bn [.int .i64 m]).setBox bf [.bool g]).setBox bn [.int .i64 m']).setBox bf [.bool g']=(σ.setBox bn [.int .i64 m']).setBox bf [.bool g']:=fun m m' g g'=>by
  unfold AS.setBox
  congr 1
  funext i
  simp only
  by_cases h1:i=bf
  ·simp[h1]
  ·by_cases h2:i=bn
   ·simp[h1,h2]
   ·simp[h1,h2]
 refine aH.of_awp aG Try.func62 rfl (by kernel_rfl) (by kernel_rfl) (by simp[Try.ntmps62]) Try.results62 ?_
 simp -dsimp only[↓bp,bq,br,seval,gP]
 refine bM (fun k e σ'=>∃ (i:Nat) (a:Int × Bool),i <=l.length /\ k=l.length - i /\ e 6= .int .i64 i /\ 0 < a.1 /\ (a.2=true ->a.1 <=4096) /\ a.1 <=10000 /\ aR (l.drop i) each a=aR l each (n,f) /\ σ'=(σ.setBox bn [.int .i64 a.1]).setBox bf [.bool a.2]) l.length
  ⟨0,(n,f),by omega,by omega,by simp -dsimp only[↓bp,bq,br,seval,gP];try rfl,hn0,hn1,hn2,by rw[List.drop_zero],hid⟩ ?_
 rintro k v σ' ⟨i,⟨m,g⟩,hi,rfl,h6,hm0,hm1,hm2,ha,rfl⟩
 simp only at hm0 hm1 hm2 ⊢
 simp -dsimp only[↓bp,bq,br,seval,gP]at h6
 simp -dsimp only[↓bp,bq,br,seval,gP,h6]
 refine sN (fun hlt=> ?_) (fun hge=> ?_)
 ·obtain⟨x,hx⟩:∃ x,l[i]? =some x:=⟨_,List.getElem?_eq_getElem (by omega)⟩
  have hxm:x ∈ l:=List.mem_of_getElem? hx
  have hs:=iK x
  have hdr:=iQ _ _ _ hx
  have hp:=hf x hxm
  cases g with
  | false=>
   simp -dsimp only[↓bp,bq,br,seval,gP,h6,hx,hlt,hne,hnb]
   refine⟨_,_,rfl,AS.le.refl _,?_⟩
   rw[<- ha,A1p]
  | true=>
   have hm1:=hm1 rfl
   have hw1:IntKind.i64.wrap (size x+each)=size x+each:=aF (by omega) (by omega)
   have hw2:IntKind.i64.wrap (m+(size x+each))=m+size x+each:=by rw[aF (by omega) (by omega)];omega
   simp -dsimp only[↓bp,bq,br,seval,gP,h6,hx,hlt,hne,hnb]
   refine aN.use hp ?_
   simp -dsimp only[↓bp,bq,br,seval,gP,h6,hx,hlt,hne,hnb,hw1,hw2]
   have hnx:aR (l.drop (i+1)) each (m+size x+each,decide (0 < size x) && decide (m+size x+each <=4096))=aR l each (n,f):=by rw[<- ha,hdr];simp[aR]
   refine sN (fun h0=> ?_) (fun h0=> ?_)
   ·simp -dsimp only[↓bp,bq,br,seval,gP,h6,hx,hlt,hne,hnb,hw1,hw2,h0]
    refine⟨l.length - (i+1),by omega,i+1,(m+size x+each,decide (0 < size x) && decide (m+size x+each <=4096)),by omega,rfl,by rw[aF (by omega) (by omega)];rfl,by simp only;omega,?_,by simp only;omega,hnx,?_⟩
    ·intro hh
     simp only[Bool.and_eq_true,decide_eq_true_eq]at hh
     exact hh.2
    ·simp only[h0,decide_true,Bool.true_and]
     exact sw _ _ _ _
   ·simp -dsimp only[↓bp,bq,br,seval,gP,h6,hx,hlt,hne,hnb,hw1,hw2,h0]
    refine⟨l.length - (i+1),by omega,i+1,(m+size x+each,decide (0 < size x) && decide (m+size x+each <=4096)),by omega,rfl,by rw[aF (by omega) (by omega)];rfl,by simp only;omega,?_,by simp only;omega,hnx,?_⟩
    ·intro hh
     simp only[Bool.and_eq_true,decide_eq_true_eq]at hh
     exact hh.2
    ·simp only[h0,decide_false,Bool.false_and]
     exact sw _ _ _ _
 ·have:i=l.length:=by omega
  subst this
  rw[List.drop_length]at ha
  simp -dsimp only[↓bp,bq,br,seval,gP,h6,hge]
  refine⟨_,_,rfl,AS.le.refl _,?_⟩
  rw[<- ha];rfl
end
section
def dB(a b:Int):Int:=if a < b then -1 else if b < a then 1 else 0
def lex(a b:Int):Int:=if a=0 then b else a
def kT:List UInt8 ->List UInt8 ->Int
 |[],[]=>0
 |[],_::_=> -1
 |_::_,[]=>1
 |a::l,b::r=>lex (dB a.toNat b.toNat) (kT l r)
def pL:List UInt32 ->List UInt32 ->Int
 |[],[]=>0
 |[],_::_=> -1
 |_::_,[]=>1
 |a::l,b::r=>lex (dB a.toNat b.toNat) (pL l r)
def A2j(a b:List UInt32):Int:=lex (dB a.length b.length) (pL a.reverse b.reverse)
def sgn(t:aE):Int:=if t.neg=true then -1 else 1
def B0n(a b:aE):Int:=if sgn a ≠ sgn b then sgn a else A2j a.limbs b.limbs*sgn a
def R3(x:Int):Prop:=x= -1 \/ x=0 \/ x=1
theorem R3.lex{x x':Int}(h:R3 x)(h':R3 x'):R3 (Proofs.Ytinfbihcnonaoaa.lex x x'):=by
 unfold Proofs.Ytinfbihcnonaoaa.lex;split <;>assumption
theorem B3l{x y:Int} :lex x y=0 ↔ x=0 /\ y=0:=by
 unfold lex
 by_cases h:x=0
 ·simp[h]
 ·simp[h]
theorem A2k(a b:Int):R3 (dB a b):=by unfold dB R3;split <;> (try split) <;>simp
theorem A6m(a b:Int):dB a b=0 ↔ a=b:=by
 unfold dB
 by_cases h1:a < b
 ·simp[h1];omega
 ·by_cases h2:b < a
  ·simp[h1,h2];omega
  ·simp[h1,h2];omega
theorem A2l:∀ a b,R3 (pL a b)
 |[],[]=> .inr (.inl rfl)
 |[],_::_=> .inl rfl
 |_::_,[]=> .inr (.inr rfl)
 |a::l,b::r=> (A2k _ _).lex (A2l l r)
theorem B0m:∀ a b,R3 (kT a b)
 |[],[]=> .inr (.inl rfl)
 |[],_::_=> .inl rfl
 |_::_,[]=> .inr (.inr rfl)
 |a::l,b::r=> (A2k _ _).lex (B0m l r)
theorem pM:∀ a b,kT a b=0 ↔ a=b
 |[],[]=>by simp[kT]
 |[],_::_=>by simp[kT]
 |_::_,[]=>by simp[kT]
 | a::l,b::r=>by
  simp only[kT]
  rw[B3l,A6m,pM l r,List.cons.injEq]
  constructor
  ·rintro⟨h,rfl⟩;exact⟨UInt8.toNat_inj.1 (by omega),rfl⟩
  ·rintro⟨rfl,rfl⟩;exact⟨rfl,rfl⟩
theorem C2x(a b:List UInt32):R3 (A2j a b):=(A2k _ _).lex (A2l _ _)
theorem C5y(a:aE):sgn a= -1 \/ sgn a=1:=by unfold sgn;cases a.neg <;>simp
mutual
def hZ:aE ->aE ->Int
 | .mk k g l s n ks ts,b=>
  if(k.toNat:Int) ≠ b.knd then dB k.toNat b.knd
  else if(k.toNat:Int)=1 then B0n (.mk k g l s n ks ts) b
  else if(k.toNat:Int)=7 then lex (lex (kY ks b.items) (dB ks.length b.items.length)) (tl ts b.tail)
  else lex (lex (kT s b.text) (lex (dB n b.num) (dB ks.length b.items.length))) (kY ks b.items)
def tl:List aE ->List aE ->Int
 |[],[]=>0
 |[],b::_=>dB 7 b.knd
 |a::_,[]=>dB a.knd 7
 |a::_,b::_=>hZ a b
def kY:List aE ->List aE ->Int
 |[],_=>0
 |_,[]=>0
 |a::l,b::r=>lex (hZ a b) (kY l r)
end
theorem oQ(a b:aE):hZ a b=if a.knd ≠ b.knd then dB a.knd b.knd
  else if a.knd=1 then B0n a b
  else if a.knd=7 then lex (lex (kY a.items b.items) (dB a.items.length b.items.length)) (tl a.tail b.tail)
  else lex (lex (kT a.text b.text) (lex (dB a.num b.num) (dB a.items.length b.items.length))) (kY a.items b.items):=by
 cases a;rw[hZ];rfl
theorem pQ(a b c:Int):lex (lex a b) c=lex a (lex b c):=by
 unfold lex;by_cases h:a=0 <;>simp[h]
def rl:List aE ->List aE ->Int
 |[],[]=>0
 |[],_::_=> -1
 |_::_,[]=>1
 |a::l,b::r=>lex (hZ a b) (rl l r)
theorem A6l(a b:Nat):dB ((a+1:Nat):Int) ((b+1:Nat):Int)=dB a b:=by
 unfold dB
 by_cases h1:(a:Int) < b
 ·rw[if_pos h1,if_pos (by omega)]
 ·by_cases h2:(b:Int) < a
  ·rw[if_neg h1,if_pos h2,if_neg (by omega),if_pos (by omega)]
  ·rw[if_neg h1,if_neg h2,if_neg (by omega),if_neg (by omega)]
theorem B4s:∀ l r,lex (kY l r) (dB l.length r.length)=rl l r
 |[],[]=>by simp[kY,rl,lex,dB]
 | [],_::_=>by
  simp only[kY,rl,lex,if_true,dB,List.length_cons,List.length_nil]
  rw[if_pos (by omega)]
 | _::_,[]=>by
  simp only[kY,rl,lex,if_true,dB,List.length_cons,List.length_nil]
  rw[if_neg (by omega),if_pos (by omega)]
 | a::l,b::r=>by
  simp only[kY,rl,List.length_cons]
  rw[pQ,A6l,B4s l r]
theorem C0p(l r:List aE):lex (dB l.length r.length) (kY l r)=lex (dB l.length r.length) (rl l r):=by
 by_cases h:dB l.length r.length=0
 ·rw[<- B4s,h]
  unfold lex
  by_cases h2:kY l r=0 <;>simp[h2]
 ·unfold lex;rw[if_neg h,if_neg h]
theorem A8b(a b:aE):hZ a b=if a.knd ≠ b.knd then dB a.knd b.knd
  else if a.knd=1 then B0n a b
  else if a.knd=7 then lex (rl a.items b.items) (tl a.tail b.tail)
  else lex (kT a.text b.text) (lex (dB a.num b.num) (lex (dB a.items.length b.items.length) (rl a.items b.items))):=by
 rw[oQ,B4s,pQ,pQ,C0p]
def right(t:aE):Bool:=decide (0 < size t)
theorem pF{each:Int} :∀ (l:List aE) (a:Int × Bool),(aR l each a).2=true ->a.2=true /\ ∀ x,x ∈ l ->0 < size x
 |[],a,h=> ⟨h,fun x hx=>by cases hx⟩
 | k::ks,a,h=>by
  simp only[aR]at h
  split at h
  ·rename_i ha
   obtain⟨h1,h2⟩:=pF ks _ h
   simp only[Bool.and_eq_true,decide_eq_true_eq]at h1
   refine⟨ha,fun x hx=> ?_⟩
   rcases List.mem_cons.1 hx with rfl|hx
   ·exact h1.1
   ·exact h2 x hx
  ·rename_i ha;exact absurd h ha
structure Rt(t:aE):Prop where
 items:∀ x,x ∈ t.items ->right x=true
 tail:∀ x,x ∈ t.tail ->right x=true
 kind:1 <=t.knd /\ t.knd <=7
 int:t.knd=1 ->wr t=true
 rest:t.knd ≠ 1 ->t.neg=false /\ t.limbs=[] /\ (t.knd ≠ 2 ->t.text=[]) /\ (t.knd ≠ 7 ->t.tail=[]) /\ (t.knd=2 \/ t.knd=6 \/ t.knd=7 ->t.num=0) /\ (t.knd=2 \/ t.knd=3 \/ t.knd=5 ->t.items=[])
 list:t.knd=7 ->t.tail.length <=1 /\ t.tail.length <=t.items.length /\ ∀ x,x ∈ t.tail ->x.knd ≠ 7
theorem A5e{t:aE}(h:wr t=true):t.knd=1 /\ t.text=[] /\ t.num=0 /\ t.items=[] /\ t.tail=[] /\ t.limbs.length <=32 /\ (t.limbs=[] ->t.neg=false) /\ (t.limbs ≠ [] ->xK t.limbs=true):=by
 simp only[wr,Bool.and_eq_true,Bool.or_eq_true,decide_eq_true_eq,Bool.not_eq_true']at h
 obtain⟨⟨⟨⟨⟨h1,h2⟩,h3⟩,h4⟩,h5⟩,h6⟩:=h
 refine⟨h1,h2,h3,List.eq_nil_of_length_eq_zero (by omega),List.eq_nil_of_length_eq_zero (by omega),by omega,fun hl=> ?_,fun hl=> ?_⟩
 ·rcases h6 with h6|h6
  ·exact h6.2
  ·rw[hl]at h6;simp at h6
 ·rcases h6 with h6|h6
  ·have:t.limbs.length=0:=by have:=h6.1;omega
   exact absurd (List.eq_nil_of_length_eq_zero this) hl
  ·exact h6.2
theorem jX{t:aE}{a b c d:Bool}(h:dW t a b c d=true):t.neg=false /\ t.limbs=[] /\ (a=false ->t.text=[]) /\ (b=false ->t.num=0) /\ (c=false ->t.items=[]) /\ (d=false ->t.tail=[]):=by
 simp only[dW,Bool.and_eq_true,Bool.or_eq_true,decide_eq_true_eq,Bool.not_eq_true']at h
 obtain⟨⟨⟨⟨⟨h1,h2⟩,h3⟩,h4⟩,h5⟩,h6⟩:=h
 refine⟨h1,List.eq_nil_of_length_eq_zero (by omega),fun e=> ?_,fun e=> ?_,fun e=> ?_,fun e=> ?_⟩
 ·subst e;simpa using h3
 ·subst e;simpa using h4
 ·subst e;simp at h5;exact h5
 ·subst e;simp at h6;exact h6
theorem sW{t:aE}(h:right t=true):Rt t:=by
 simp only[right,decide_eq_true_eq]at h
 rw[gO]at h
 by_cases h1:t.knd=1
 ·rw[if_pos h1]at h
  split at h
  ·rename_i hw
   obtain⟨_,w2,w3,w4,w5,w6,w7,w8⟩:=A5e hw
   refine⟨fun x hx=> (by rw[w4]at hx;cases hx),fun x hx=> (by rw[w5]at hx;cases hx),by omega,fun _=>hw,fun e=>absurd h1 e,fun e=>by omega⟩
  ·omega
 ·rw [if_neg h1]at h
  split at h
  ·rename_i hf
   obtain⟨f1,f2⟩:=pF _ _ hf
   obtain⟨f3,f4⟩:=pF _ _ f1
   simp only at f3
   refine⟨fun x hx=>by simp[right,f4 x hx],fun x hx=>by simp[right,f2 x hx],?_,fun e=>absurd e h1,fun _=> ?_,fun h7=> ?_⟩
   ·have:=t.knd_nn
    unfold head at f3
    by_cases e2:t.knd=2
    ·omega
    by_cases e3:t.knd=3 \/ t.knd=5
    ·omega
    by_cases e4:t.knd=4
    ·omega
    by_cases e6:t.knd=6
    ·omega
    by_cases e7:t.knd=7
    ·omega
    simp[e2,e3,e4,e6,e7]at f3
   ·unfold head at f3
    by_cases e2:t.knd=2
    ·rw[if_pos e2]at f3
     simp only[Bool.and_eq_true]at f3
     obtain⟨b1,b2,b3,b4,b5,b6⟩:=jX f3.1
     exact⟨b1,b2,fun e=>absurd e2 e,fun _=>b6 rfl,fun _=>b4 rfl,fun _=>b5 rfl⟩
    rw[if_neg e2]at f3
    by_cases e3:t.knd=3 \/ t.knd=5
    ·rw[if_pos e3]at f3
     simp only[Bool.and_eq_true]at f3
     obtain⟨b1,b2,b3,b4,b5,b6⟩:=jX f3.1.1
     exact⟨b1,b2,fun _=>b3 rfl,fun _=>b6 rfl,fun e=>by omega,fun _=>b5 rfl⟩
    rw[if_neg e3]at f3
    by_cases e4:t.knd=4
    ·rw[if_pos e4]at f3
     simp only[Bool.and_eq_true]at f3
     obtain⟨b1,b2,b3,b4,b5,b6⟩:=jX f3.1.1
     exact⟨b1,b2,fun _=>b3 rfl,fun _=>b6 rfl,fun e=>by omega,fun e=>by omega⟩
    rw[if_neg e4]at f3
    by_cases e6:t.knd=6
    ·rw[if_pos e6]at f3
     obtain⟨b1,b2,b3,b4,b5,b6⟩:=jX f3
     exact⟨b1,b2,fun _=>b3 rfl,fun _=>b6 rfl,fun _=>b4 rfl,fun e=>by omega⟩
    rw[if_neg e6]at f3
    by_cases e7:t.knd=7
    ·rw[if_pos e7]at f3
     simp only[Bool.and_eq_true]at f3
     obtain⟨b1,b2,b3,b4,b5,b6⟩:=jX f3.1.1
     exact⟨b1,b2,fun _=>b3 rfl,fun e=>absurd e7 e,fun _=>b4 rfl,fun e=>by omega⟩
    rw[if_neg e7]at f3
    cases f3
   ·unfold head at f3
    rw[if_neg (by omega),if_neg (by omega),if_neg (by omega),if_neg (by omega),if_pos h7]at f3
    simp only[Bool.and_eq_true,decide_eq_true_eq,List.all_eq_true]at f3
    obtain⟨⟨_,f5⟩,f6⟩:=f3
    refine⟨?_,?_,fun x hx=>f6 x hx⟩
    ·split at f5 <;>omega
    ·split at f5 <;>omega
  ·omega
theorem A3t{a b:aE}(h:a.knd ≠ b.knd):hZ a b=dB a.knd b.knd:=by rw[A8b,if_pos h]
def oM(ks ts:List aE):aE:= .mk 7 false [] [] 0 ks ts
def dS(t:aE):aE:=match t.tail with|[]=>oM [] []|x::_=>x
def B4z(a b:aE):Bool:=right a && right b && decide (hZ a b=0)
end
set_option maxRecDepth 20000
section
def kE:=And.intro (And.intro (And.intro (And.intro @jN (And.intro @kI @kJ)) (And.intro @eW (And.intro @jO @eJ))) (And.intro (And.intro @eY (And.intro @eQ @eZ)) (And.intro @gC (And.intro @aE.flat_enc @aE.isv_enc)))) (And.intro (And.intro (And.intro @aE.fold_enc (And.intro @aW @aO)) (And.intro @aX (And.intro @bP @dN))) (And.intro (And.intro @aP (And.intro @aM @aQ)) (And.intro @bJ (And.intro @dD @cJ))))
variable (G:Nat ->AV)
theorem iY{a b:List UInt8} :mT .gtr a b=some (.bool (!(Op.bytesLess a b||a==b))):=rfl
theorem kC(a:Int):(a=a)=True:=eq_true rfl
theorem uZ(a:Int):aN Try.prog G 97 [.int .u8 a] (.bool false):=by
 intro σ
 refine aH.of_awp aG Try.func97 rfl (by kernel_rfl) (by kernel_rfl) (by simp[Try.ntmps97]) Try.results97 ?_
 repeat'(first|refine xs ?_ ?_ <;>intros|(refine wn ?_;intro bx hbx;try simp only[fb]at hbx)|refine bE ?_|(refine aB ?_;intro bx hbx;(try simp only[fb]at hbx))|refine aD ?_|((with_reducible refine And.intro ?_ ?_);omega)|refine aA (d':=⟨⟩) ?_|refine bG (by kernel_rfl) ?_|refine bD ?_ (by repeat' first|exact lr _|assumption|refine ls ?_ ?_|refine lt ?_ ?_|simp only[*];done|simp only[fb, *,not_false_eq_true,and_self];done|exact lf ‹_› (by simp only[*]))|refine aC ?_ (by repeat' first|exact lr _|assumption|refine ls ?_ ?_|refine lt ?_ ?_|simp only[*];done|simp only[fb, *,not_false_eq_true,and_self];done|exact lf ‹_› (by simp only[*]))|simp -dsimp only[↓bp,bq,br,seval,kE,iY,kC, *]|refine wz ?_|fail)
 all_goals simp
theorem uY(a:Int):aN Try.prog G 98 [.int .i64 a] (.bool false):=by
 intro σ
 refine aH.of_awp aG Try.func98 rfl (by kernel_rfl) (by kernel_rfl) (by simp[Try.ntmps98]) Try.results98 ?_
 repeat'(first|refine xs ?_ ?_ <;>intros|(refine wn ?_;intro bx hbx;try simp only[fb]at hbx)|refine bE ?_|(refine aB ?_;intro bx hbx;(try simp only[fb]at hbx))|refine aD ?_|((with_reducible refine And.intro ?_ ?_);omega)|refine aA (d':=⟨⟩) ?_|refine bG (by kernel_rfl) ?_|refine bD ?_ (by repeat' first|exact lr _|assumption|refine ls ?_ ?_|refine lt ?_ ?_|simp only[*];done|simp only[fb, *,not_false_eq_true,and_self];done|exact lf ‹_› (by simp only[*]))|refine aC ?_ (by repeat' first|exact lr _|assumption|refine ls ?_ ?_|refine lt ?_ ?_|simp only[*];done|simp only[fb, *,not_false_eq_true,and_self];done|exact lf ‹_› (by simp only[*]))|simp -dsimp only[↓bp,bq,br,seval,kE,iY,kC, *]|refine wz ?_|fail)
 all_goals simp
theorem vA(a:List UInt8):aN Try.prog G 101 [.str a] (.bool false):=by
 intro σ
 refine aH.of_awp aG Try.func101 rfl (by kernel_rfl) (by kernel_rfl) (by simp[Try.ntmps101]) Try.results101 ?_
 repeat'(first|refine xs ?_ ?_ <;>intros|(refine wn ?_;intro bx hbx;try simp only[fb]at hbx)|refine bE ?_|(refine aB ?_;intro bx hbx;(try simp only[fb]at hbx))|refine aD ?_|((with_reducible refine And.intro ?_ ?_);omega)|refine aA (d':=⟨⟩) ?_|refine bG (by kernel_rfl) ?_|refine bD ?_ (by repeat' first|exact lr _|assumption|refine ls ?_ ?_|refine lt ?_ ?_|simp only[*];done|simp only[fb, *,not_false_eq_true,and_self];done|exact lf ‹_› (by simp only[*]))|refine aC ?_ (by repeat' first|exact lr _|assumption|refine ls ?_ ?_|refine lt ?_ ?_|simp only[*];done|simp only[fb, *,not_false_eq_true,and_self];done|exact lf ‹_› (by simp only[*]))|simp -dsimp only[↓bp,bq,br,seval,kE,iY,kC, *]|refine wz ?_|fail)
 all_goals simp
theorem A6n(a b:Int):aN Try.prog G 71 [.int .u8 a, .int .u8 b] (.int .i64 (dB a b)):=by
 have h1:=uZ G a
 have h2:=uZ G b
 intro σ
 refine aH.of_awp aG Try.func71 rfl (by kernel_rfl) (by kernel_rfl) (by simp[Try.ntmps71]) Try.results71 ?_
 repeat'(first|refine xs ?_ ?_ <;>intros|(refine wn ?_;intro bx hbx;try simp only[fb]at hbx)|refine wp h1 ?_|refine wp h2 ?_|refine bE ?_|(refine aB ?_;intro bx hbx;(try simp only[fb]at hbx))|refine aD ?_|((with_reducible refine And.intro ?_ ?_);omega)|refine aA (d':=⟨⟩) ?_|refine bG (by kernel_rfl) ?_|refine bD ?_ (by repeat' first|exact lr _|assumption|refine ls ?_ ?_|refine lt ?_ ?_|simp only[*];done|simp only[fb, *,not_false_eq_true,and_self];done|exact lf ‹_› (by simp only[*]))|refine aC ?_ (by repeat' first|exact lr _|assumption|refine ls ?_ ?_|refine lt ?_ ?_|simp only[*];done|simp only[fb, *,not_false_eq_true,and_self];done|exact lf ‹_› (by simp only[*]))|simp -dsimp only[↓bp,bq,br,seval,kE,iY,kC, *]|refine wz ?_|fail)
 all_goals(first|(simp only[dB, *,Bool.and_true,Bool.true_and,Bool.and_false,Bool.false_and,Bool.or_true,Bool.true_or,Bool.or_false,Bool.false_or,Bool.not_true,Bool.not_false,if_true,if_false,Bool.and_self,Bool.or_self];done)|(simp[dB, *];done)|(simp_all [dB];done))
theorem uR(a b:Int):aN Try.prog G 72 [.int .i64 a, .int .i64 b] (.int .i64 (dB a b)):=by
 have h1:=uY G a
 have h2:=uY G b
 intro σ
 refine aH.of_awp aG Try.func72 rfl (by kernel_rfl) (by kernel_rfl) (by simp[Try.ntmps72]) Try.results72 ?_
 repeat'(first|refine xs ?_ ?_ <;>intros|(refine wn ?_;intro bx hbx;try simp only[fb]at hbx)|refine wp h1 ?_|refine wp h2 ?_|refine bE ?_|(refine aB ?_;intro bx hbx;(try simp only[fb]at hbx))|refine aD ?_|((with_reducible refine And.intro ?_ ?_);omega)|refine aA (d':=⟨⟩) ?_|refine bG (by kernel_rfl) ?_|refine bD ?_ (by repeat' first|exact lr _|assumption|refine ls ?_ ?_|refine lt ?_ ?_|simp only[*];done|simp only[fb, *,not_false_eq_true,and_self];done|exact lf ‹_› (by simp only[*]))|refine aC ?_ (by repeat' first|exact lr _|assumption|refine ls ?_ ?_|refine lt ?_ ?_|simp only[*];done|simp only[fb, *,not_false_eq_true,and_self];done|exact lf ‹_› (by simp only[*]))|simp -dsimp only[↓bp,bq,br,seval,kE,iY,kC, *]|refine wz ?_|fail)
 all_goals(first|(simp only[dB, *,Bool.and_true,Bool.true_and,Bool.and_false,Bool.false_and,Bool.or_true,Bool.true_or,Bool.or_false,Bool.false_or,Bool.not_true,Bool.not_false,if_true,if_false,Bool.and_self,Bool.or_self];done)|(simp[dB, *];done)|(simp_all [dB];done))
theorem oF:∀ a b:List UInt8,Op.bytesLess a b=decide (kT a b= -1) /\ (a==b)=decide (kT a b=0)
 |[],[]=>by simp[Op.bytesLess,kT]
 |[],_::_=>by simp[Op.bytesLess,kT]
 |_::_,[]=>by simp[Op.bytesLess,kT]
 | a ::l,b::r=>by
  obtain⟨h1,h2⟩:=oF l r
  have hz:=pM (a::l) (b::r)
  refine⟨?_,by rw[Bool.eq_iff_iff];simp only[decide_eq_true_eq,beq_iff_eq];rw[pM]⟩
  simp only[Op.bytesLess,h1,kT,lex,dB,UInt8.lt_iff_toNat_lt]
  by_cases c1:a.toNat < b.toNat
  ·have c2:(a.toNat:Int) < b.toNat:=by omega
   simp[c1,c2]
  ·have c2: ¬ (a.toNat:Int) < b.toNat:=by omega
   by_cases c3:b.toNat < a.toNat
   ·have c4:(b.toNat:Int) < a.toNat:=by omega
    have c5: ¬ a=b:=fun e=>by subst e;omega
    simp[c1,c2,c3,c4,c5]
   ·have c4: ¬ (b.toNat:Int) < a.toNat:=by omega
    have c5:a=b:=UInt8.toNat_inj.1 (by omega)
    subst c5
    simp
theorem A6o(a b:List UInt8):aN Try.prog G 78 [.str a, .str b] (.int .i64 (kT a b)):=by
 have h1:=vA G a
 have h2:=vA G b
 obtain⟨e1,e2⟩:=oF a b
 have hr:=B0m a b
 intro σ
 rcases hr with hr|hr|hr <;>rw[hr]at e1 e2 ⊢
 all_goals
  simp at e1 e2
  refine aH.of_awp aG Try.func78 rfl (by kernel_rfl) (by kernel_rfl) (by simp[Try.ntmps78]) Try.results78 ?_
  repeat'(first|refine xs ?_ ?_ <;>intros|(refine wn ?_;intro bx hbx;try simp only[fb]at hbx)|refine wp h1 ?_|refine wp h2 ?_|refine bE ?_|(refine aB ?_;intro bx hbx;(try simp only[fb]at hbx))|refine aD ?_|((with_reducible refine And.intro ?_ ?_);omega)|refine aA (d':=⟨⟩) ?_|refine bG (by kernel_rfl) ?_|refine bD ?_ (by repeat' first|exact lr _|assumption|refine ls ?_ ?_|refine lt ?_ ?_|simp only[*];done|simp only[fb, *,not_false_eq_true,and_self];done|exact lf ‹_› (by simp only[*]))|refine aC ?_ (by repeat' first|exact lr _|assumption|refine ls ?_ ?_|refine lt ?_ ?_|simp only[*];done|simp only[fb, *,not_false_eq_true,and_self];done|exact lf ‹_› (by simp only[*]))|simp -dsimp only[↓bp,bq,br,seval,kE,iY,kC, *]|refine wz ?_|fail)
  all_goals first|rfl|(simp_all;done)
def C4k(l:List Int):AV:= .sl .none (l.map fun n=> .int .i64 n) []
def orI:List Int ->Int
 |[]=>0
 |x::l=>if x=0 then orI l else x
theorem A4x(l:List Int)(hl:l.length <=1000000000):aN Try.prog G 76 [C4k l] (.int .i64 (orI l)):=by
 intro σ
 unfold C4k
 refine aH.of_awp aG Try.func76 rfl (by kernel_rfl) (by kernel_rfl) (by simp[Try.ntmps76]) Try.results76 ?_
 repeat'(first|refine xs ?_ ?_ <;>intros|(refine wn ?_;intro bx hbx;try simp only[fb]at hbx)|refine bE ?_|(refine aB ?_;intro bx hbx;(try simp only[fb]at hbx))|refine aD ?_|((with_reducible refine And.intro ?_ ?_);omega)|refine aA (d':=⟨⟩) ?_|refine bG (by kernel_rfl) ?_|refine bD ?_ (by repeat' first|exact lr _|assumption|refine ls ?_ ?_|refine lt ?_ ?_|simp only[*];done|simp only[fb, *,not_false_eq_true,and_self];done|exact lf ‹_› (by simp only[*]))|refine aC ?_ (by repeat' first|exact lr _|assumption|refine ls ?_ ?_|refine lt ?_ ?_|simp only[*];done|simp only[fb, *,not_false_eq_true,and_self];done|exact lf ‹_› (by simp only[*]))|simp -dsimp only[↓bp,bq,br,seval,kE,iY,kC, *]|refine wz ?_|fail)
 refine pR aG (fun n e=>∃ i:Nat,i <=(l).length /\ n=(l).length - i /\ e 8= .int .i64 i /\ orI (l.drop i)=orI l) (l).length
   ⟨0,by omega,by omega,by simp -dsimp only[↓bp,bq,br,seval,kE,iY,kC];first|done|rfl,rfl⟩ ?_
 rintro n v ⟨i,hi,rfl,h8,htk⟩
 simp -dsimp only[↓bp,bq,br,seval,kE,iY,kC]at h8
 simp -dsimp only[↓bp,bq,br,seval,kE,iY,kC,h8]
 refine eU (fun hlt=> ?_) (fun hge=> ?_)
 ·obtain⟨x,hx⟩:∃ x,l[i]? =some x:=⟨_,List.getElem?_eq_getElem (by omega)⟩
  have hd:=iQ _ _ _ hx
  rw[hd]at htk
  clear hi hlt hd
  by_cases h0:x=0
  ·subst h0
   repeat'(first|refine xs ?_ ?_ <;>intros|(refine wn ?_;intro bx hbx;try simp only[fb]at hbx)|refine bE ?_|(refine aB ?_;intro bx hbx;(try simp only[fb]at hbx))|refine aD ?_|((with_reducible refine And.intro ?_ ?_);omega)|refine aA (d':=⟨⟩) ?_|refine bG (by kernel_rfl) ?_|refine bD ?_ (by repeat' first|exact lr _|assumption|refine ls ?_ ?_|refine lt ?_ ?_|simp only[*];done|simp only[fb, *,not_false_eq_true,and_self];done|exact lf ‹_› (by simp only[*]))|refine aC ?_ (by repeat' first|exact lr _|assumption|refine ls ?_ ?_|refine lt ?_ ?_|simp only[*];done|simp only[fb, *,not_false_eq_true,and_self];done|exact lf ‹_› (by simp only[*]))|simp -dsimp only[↓bp,bq,br,seval,kE,iY,kC, *]|refine wz ?_|fail)
   all_goals(have hlt:=(List.getElem?_eq_some_iff.1 hx).1)
   all_goals exact⟨l.length - (i+1),by omega,i+1,by omega,rfl,by rw[aF (by omega) (by omega)];rfl,by simpa [orI] using htk⟩
  ·repeat'(first|refine xs ?_ ?_ <;>intros|(refine wn ?_;intro bx hbx;try simp only[fb]at hbx)|refine bE ?_|(refine aB ?_;intro bx hbx;(try simp only[fb]at hbx))|refine aD ?_|((with_reducible refine And.intro ?_ ?_);omega)|refine aA (d':=⟨⟩) ?_|refine bG (by kernel_rfl) ?_|refine bD ?_ (by repeat' first|exact lr _|assumption|refine ls ?_ ?_|refine lt ?_ ?_|simp only[*];done|simp only[fb, *,not_false_eq_true,and_self];done|exact lf ‹_› (by simp only[*]))|refine aC ?_ (by repeat' first|exact lr _|assumption|refine ls ?_ ?_|refine lt ?_ ?_|simp only[*];done|simp only[fb, *,not_false_eq_true,and_self];done|exact lf ‹_› (by simp only[*]))|simp -dsimp only[↓bp,bq,br,seval,kE,iY,kC, *]|refine wz ?_|fail)
   all_goals simp_all [orI]
 ·have:i=l.length:=by omega
  subst this
  rw[List.drop_length]at htk
  clear hi hge
  repeat'(first|refine xs ?_ ?_ <;>intros|(refine wn ?_;intro bx hbx;try simp only[fb]at hbx)|refine bE ?_|(refine aB ?_;intro bx hbx;(try simp only[fb]at hbx))|refine aD ?_|((with_reducible refine And.intro ?_ ?_);omega)|refine aA (d':=⟨⟩) ?_|refine bG (by kernel_rfl) ?_|refine bD ?_ (by repeat' first|exact lr _|assumption|refine ls ?_ ?_|refine lt ?_ ?_|simp only[*];done|simp only[fb, *,not_false_eq_true,and_self];done|exact lf ‹_› (by simp only[*]))|refine aC ?_ (by repeat' first|exact lr _|assumption|refine ls ?_ ?_|refine lt ?_ ?_|simp only[*];done|simp only[fb, *,not_false_eq_true,and_self];done|exact lf ‹_› (by simp only[*]))|simp -dsimp only[↓bp,bq,br,seval,kE,iY,kC, *]|refine wz ?_|fail)
  all_goals simp[<- htk,orI]
theorem B4f(a b:Int):aN Try.prog G 76 [.sl .full [.int .i64 a, .int .i64 b] []] (.int .i64 (lex a b)):=by
 have h:=(A4x G [a,b] (by simp)).lessArgs (args:=[.sl .full [.int .i64 a, .int .i64 b] []]) (.cons Le.gh .nil)
 have e:orI [a,b]=lex a b:=by simp only[orI,lex];split <;> (try split) <;>simp_all
 rwa [e]at h
theorem B4g(a b c:Int):aN Try.prog G 76 [.sl .full [.int .i64 a, .int .i64 b, .int .i64 c] []] (.int .i64 (lex a (lex b c))):=by
 have h:=(A4x G [a,b,c] (by simp)).lessArgs (args:=[.sl .full [.int .i64 a, .int .i64 b, .int .i64 c] []]) (.cons Le.gh .nil)
 have e:orI [a,b,c]=lex a (lex b c):=by simp only[orI,lex];split <;> (try split) <;> (try split) <;>simp_all
 rwa [e]at h
end
end Go.Proofs.Ytinfbihcnonaoaa
