/- The reference's text of a term. -/
import Derived.Test.YtdhbdhopnpmboaaGreatDoorZ14
import Derived.Test.YtdhbdhopnpmboaaGreatDoorZ18
import Derived.Test.YtdhbdhopnpmboaaGreatDoorZ12
import Derived.Test.YtdhbdhopnpmboaaGreatDoorZ08
import Derived.Test.YtdhbdhopnpmboaaGreatDoorZ07
import Derived.Test.YtdhbdhopnpmboaaGreatDoorZ05
import Derived.Test.YtdhbdhopnpmboaaGreatDoorZ06
import Derived.Test.YtdhbdhopnpmboaaGreatDoorChecked
import Derived.KernelRfl
set_option linter.unusedVariables false
set_option linter.unusedSimpArgs false
set_option maxRecDepth 20000
set_option linter.defProp false
namespace Go.Proofs.YtdhbdhopnpmboaaGreatDoor
open Go Go.Av
section
def iQ:=And.intro (And.intro (And.intro (And.intro @jD @iZ) (And.intro @jJ (And.intro @eG @jE))) (And.intro (And.intro @dL @eN) (And.intro @dV (And.intro @eD @aA.flat_enc)))) (And.intro (And.intro (And.intro @aA.isv_enc @aA.fold_enc) (And.intro @aS (And.intro @aN @aU))) (And.intro (And.intro @bW @bG) (And.intro @aQ (And.intro @aM @aZ))))
variable (G:Nat ->AV)
theorem A0p:maxLen=9223372036854775807:=rfl
theorem D9y(t:aA)(hk:t.knd=1)(hp:aB Tryz.prog G 85 [t.enc] (.str (tX t))):aB Tryz.prog G 56 [t.enc] (.str (iP t)):=by
 have k1:(t.knd=1)=True:=by first|exact eq_true hk|exact eq_false (by omega)
 have k2:(t.knd=2)=False:=by first|exact eq_true hk|exact eq_false (by omega)
 have k3:(t.knd=3)=False:=by first|exact eq_true hk|exact eq_false (by omega)
 have k4:(t.knd=4)=False:=by first|exact eq_true hk|exact eq_false (by omega)
 have k5:(t.knd=5)=False:=by first|exact eq_true hk|exact eq_false (by omega)
 have hs:iP t=_:=oM t
 simp only[k1,k2,k3,k4,k5,if_true,if_false]at hs
 rw[hs]
 clear hs hk
 intro σ
 have hmx:=A0p
 refine aJ.of_awp mixed Tryz.func56 rfl (by kernel_rfl) (by kernel_rfl) (by simp[Tryz.ntmps56]) Tryz.results56 ?_
 repeat'(first|refine xs ?_ ?_ <;>intros|(refine wn ?_;intro bx hbx;try simp only[fb]at hbx)|refine wp hp ?_|refine wj ?_|simp -dsimp only[↓bp,bq,br,seval,iQ, *]|refine wz ?_|fail)
 all_goals rfl
theorem D9z(t:aA)(hk:t.knd=2)(hp:aB Tryz.prog G 86 [.str t.text] (.str (A3y t.text))):aB Tryz.prog G 56 [t.enc] (.str (iP t)):=by
 have k1:(t.knd=1)=False:=by first|exact eq_true hk|exact eq_false (by omega)
 have k2:(t.knd=2)=True:=by first|exact eq_true hk|exact eq_false (by omega)
 have k3:(t.knd=3)=False:=by first|exact eq_true hk|exact eq_false (by omega)
 have k4:(t.knd=4)=False:=by first|exact eq_true hk|exact eq_false (by omega)
 have k5:(t.knd=5)=False:=by first|exact eq_true hk|exact eq_false (by omega)
 have hs:iP t=_:=oM t
 simp only[k1,k2,k3,k4,k5,if_true,if_false]at hs
 rw[hs]
 clear hs hk
 intro σ
 have hmx:=A0p
 refine aJ.of_awp mixed Tryz.func56 rfl (by kernel_rfl) (by kernel_rfl) (by simp[Tryz.ntmps56]) Tryz.results56 ?_
 repeat'(first|refine xs ?_ ?_ <;>intros|(refine wn ?_;intro bx hbx;try simp only[fb]at hbx)|refine wp hp ?_|refine wj ?_|simp -dsimp only[↓bp,bq,br,seval,iQ, *]|refine wz ?_|fail)
 all_goals rfl
theorem E0a(t:aA)(hk:t.knd=3)(hl:(itoa t.num).length <=31)(hp:aB Tryz.prog G 87 [.int .i64 t.num] (.str (itoa t.num))):aB Tryz.prog G 56 [t.enc] (.str (iP t)):=by
 have k1:(t.knd=1)=False:=by first|exact eq_true hk|exact eq_false (by omega)
 have k2:(t.knd=2)=False:=by first|exact eq_true hk|exact eq_false (by omega)
 have k3:(t.knd=3)=True:=by first|exact eq_true hk|exact eq_false (by omega)
 have k4:(t.knd=4)=False:=by first|exact eq_true hk|exact eq_false (by omega)
 have k5:(t.knd=5)=False:=by first|exact eq_true hk|exact eq_false (by omega)
 have hs:iP t=_:=oM t
 simp only[k1,k2,k3,k4,k5,if_true,if_false]at hs
 rw[hs]
 clear hs hk
 intro σ
 have hmx:=A0p
 refine aJ.of_awp mixed Tryz.func56 rfl (by kernel_rfl) (by kernel_rfl) (by simp[Tryz.ntmps56]) Tryz.results56 ?_
 repeat'(first|refine xs ?_ ?_ <;>intros|(refine wn ?_;intro bx hbx;try simp only[fb]at hbx)|refine wp hp ?_|refine wj ?_|simp -dsimp only[↓bp,bq,br,seval,iQ,List.length_append, *]|refine wz ?_|fail)
 all_goals rfl
theorem E0b(t:aA)(hk:t.knd=4)(hl:(itoa t.num).length <=31)(hp:aB Tryz.prog G 87 [.int .i64 t.num] (.str (itoa t.num))):aB Tryz.prog G 56 [t.enc] (.str (iP t)):=by
 have k1:(t.knd=1)=False:=by first|exact eq_true hk|exact eq_false (by omega)
 have k2:(t.knd=2)=False:=by first|exact eq_true hk|exact eq_false (by omega)
 have k3:(t.knd=3)=False:=by first|exact eq_true hk|exact eq_false (by omega)
 have k4:(t.knd=4)=True:=by first|exact eq_true hk|exact eq_false (by omega)
 have k5:(t.knd=5)=False:=by first|exact eq_true hk|exact eq_false (by omega)
 have hs:iP t=_:=oM t
 simp only[k1,k2,k3,k4,k5,if_true,if_false]at hs
 rw[hs]
 clear hs hk
 intro σ
 have hmx:=A0p
 refine aJ.of_awp mixed Tryz.func56 rfl (by kernel_rfl) (by kernel_rfl) (by simp[Tryz.ntmps56]) Tryz.results56 ?_
 repeat'(first|refine xs ?_ ?_ <;>intros|(refine wn ?_;intro bx hbx;try simp only[fb]at hbx)|refine wp hp ?_|refine wj ?_|simp -dsimp only[↓bp,bq,br,seval,iQ,List.length_append, *]|refine wz ?_|fail)
 all_goals rfl
theorem E0c(t:aA)(hk:t.knd=5)(hl:(itoa t.num).length <=31)(hp:aB Tryz.prog G 87 [.int .i64 t.num] (.str (itoa t.num))):aB Tryz.prog G 56 [t.enc] (.str (iP t)):=by
 have k1:(t.knd=1)=False:=by first|exact eq_true hk|exact eq_false (by omega)
 have k2:(t.knd=2)=False:=by first|exact eq_true hk|exact eq_false (by omega)
 have k3:(t.knd=3)=False:=by first|exact eq_true hk|exact eq_false (by omega)
 have k4:(t.knd=4)=False:=by first|exact eq_true hk|exact eq_false (by omega)
 have k5:(t.knd=5)=True:=by first|exact eq_true hk|exact eq_false (by omega)
 have hs:iP t=_:=oM t
 simp only[k1,k2,k3,k4,k5,if_true,if_false]at hs
 rw[hs]
 clear hs hk
 intro σ
 have hmx:=A0p
 refine aJ.of_awp mixed Tryz.func56 rfl (by kernel_rfl) (by kernel_rfl) (by simp[Tryz.ntmps56]) Tryz.results56 ?_
 repeat'(first|refine xs ?_ ?_ <;>intros|(refine wn ?_;intro bx hbx;try simp only[fb]at hbx)|refine wp hp ?_|refine wj ?_|simp -dsimp only[↓bp,bq,br,seval,iQ,List.length_append, *]|refine wz ?_|fail)
 all_goals rfl
set_option maxHeartbeats 2000000 in
theorem B6p (t:aA) (hk:t.knd=6 \/ t.knd=7) (hb:t.bulk <=2000000) (htl:t.tail.length <=1) (hlen:(fY t.items).length+(gM t.tail).length <=1000000000)
  (hi:∀ x,x ∈ t.items ->aB Tryz.prog G 56 [x.enc] (.str (iP x))) (ht:∀ x,x ∈ t.tail ->aB Tryz.prog G 56 [x.enc] (.str (iP x))):aB Tryz.prog G 56 [t.enc] (.str (iP t)):=by
 have k1:(t.knd=1)=False:=eq_false (by omega)
 have k2:(t.knd=2)=False:=eq_false (by omega)
 have k3:(t.knd=3)=False:=eq_false (by omega)
 have k4:(t.knd=4)=False:=eq_false (by omega)
 have k5:(t.knd=5)=False:=eq_false (by omega)
 have hil:=cA t
 have hLI:=B6t t.items
 refine aB.of_le fun σ=> ?_
 have hmx:=A0p
 refine aJ.of_awp mixed Tryz.func56 rfl (by kernel_rfl) (by kernel_rfl) (by simp[Tryz.ntmps56]) Tryz.results56 ?_
 simp -dsimp only[↓bp,bq,br,seval,iQ]
 refine cX fun b1 h1=> ?_
 obtain⟨S,hS⟩:∃ S,S=σ.setBox b1 [.int .u8 t.knd, .bool t.neg,bD t.limbs, .str t.text, .int .i64 t.num,aH t.items,aH t.tail]:=⟨_,rfl⟩
 have hSb:S.box b1=some [.int .u8 t.knd, .bool t.neg,bD t.limbs, .str t.text, .int .i64 t.num,aH t.items,aH t.tail]:=by rw[hS];simp[AS.setBox]
 have hle:σ.le S:=by rw[hS];exact(AS.le.refl σ).setBox h1.1 _
 rw[<- hS]
 clear hS
 simp -dsimp only[↓bp,bq,br,seval,iQ,hSb,k1,k2,k3,k4,k5]
 refine aD mixed (fun n e=>∃ i:Nat,i <=t.items.length /\ n=t.items.length - i /\ e 4= .int .i64 i /\ e 3= .str (fY (t.items.take i))) t.items.length
  ⟨0,by omega,by omega,by first|(simp -dsimp only[↓bp,bq,br,seval,iQ];done)|(simp -dsimp only[↓bp,bq,br,seval,iQ];try rfl),by rw[List.take_zero,fY];first|(simp -dsimp only[↓bp,bq,br,seval,iQ];done)|(simp -dsimp only[↓bp,bq,br,seval,iQ];try rfl)⟩ ?_
 rintro n e ⟨i,hin,rfl,h4,h3⟩
 simp -dsimp only[↓bp,bq,br,seval,iQ]at h4 h3
 by_cases hlt:(i:Int) < t.items.length
 ·obtain⟨x,hx⟩:∃ x,t.items[i]? =some x:=⟨_,List.getElem?_eq_getElem (by omega)⟩
  have hp:=hi x (List.mem_of_getElem? hx)
  have hwi:IntKind.i64.wrap ((i:Int)+1)=((i+1:Nat):Int):=by rw[aC (by omega) (by omega)];rfl
  have hst:=A6d t.items i x hx
  have hl1:=hLI (i+1)
  have hlt':=eq_true hlt
  rw[hst,List.length_append]at hl1
  have hm:t.items.length - (i+1) < t.items.length - i:=by omega
  have hi1:i+1 <=t.items.length:=by omega
  by_cases e0:i=0
  ·subst e0
   have z:fY (t.items.take 0)=[]:=by rw[List.take_zero,fY]
   rw[if_pos rfl,z,List.nil_append]at hst
   rw[if_pos rfl]at hl1
   rw[z]at h3
   have c0:((0:Int) < ((0:Nat):Int))=False:=eq_false (by omega)
   replace hlt':((0:Int) < (t.items.length:Int))=True:=hlt'
   have hw1:IntKind.i64.wrap 1=1:=by decide
   clear hi ht hk hLI hlt z
   repeat'(first|refine xs ?_ ?_ <;>intros|(refine wn ?_;intro bx hbx;try simp only[fb]at hbx)|refine wp hp ?_|refine wj ?_|simp -dsimp only[↓bp,bq,br,seval,iQ,List.length_append, *]|refine wz ?_|fail)
   all_goals exact⟨t.items.length - (0+1),hm,0+1,hi1,rfl,rfl,by rw[hst]⟩
  ·rw[if_neg e0]at hst hl1
   simp only[List.length_cons]at hl1
   have c0:((0:Int) < (i:Int))=True:=eq_true (by omega)
   generalize fY (t.items.take i)=s at*
   clear hi ht hk hLI hlt e0
   repeat'(first|refine xs ?_ ?_ <;>intros|(refine wn ?_;intro bx hbx;try simp only[fb]at hbx)|refine wp hp ?_|refine wj ?_|simp -dsimp only[↓bp,bq,br,seval,iQ,List.length_append, *]|refine wz ?_|fail)
   all_goals exact⟨t.items.length - (i+1),hm,i+1,hi1,rfl,rfl,by rw[hst];simp⟩
 ·have:i=t.items.length:=by omega
  subst this
  rw[List.take_length]at h3
  have hlt':=eq_false (Int.lt_irrefl (t.items.length:Int))
  clear hi hlt hin hLI hil
  have hs6:t.knd=6 ->iP t=[123]++(fY t.items++gM t.tail)++[125]:=fun k=>by
   rw[oM];simp[k]
  have hs7:t.knd=7 ->iP t=[91]++(fY t.items++gM t.tail)++[93]:=fun k=>by
   rw[oM];simp[k]
  generalize fY t.items=s at*
  rcases htt:t.tail with _|⟨x,r⟩
  ·have hT:gM t.tail=[]:=by rw[htt,gM]
   have ht0:((0:Int) < (t.tail.length:Int))=False:=eq_false (by rw[htt];simp)
   rw[hT]at hlen
   replace hT:s++gM t.tail=s:=by rw[hT,List.append_nil]
   clear ht htl htt hb
   rcases hk with k6|k7
   ·have k6':=eq_true k6
    rw[hs6 k6]
    rw[hT]
    clear hs6 hs7 k6 hT
    repeat'(first|refine xs ?_ ?_ <;>intros|(refine wn ?_;intro bx hbx;try simp only[fb]at hbx)|refine wj ?_|simp -dsimp only[↓bp,bq,br,seval,iQ,List.length_append, *]|refine wz ?_|fail)
    all_goals first|exact aL (Le.refl _) hle|exact aL (by simp only[List.append_assoc,List.cons_append,List.nil_append];exact Le.refl _) hle
   ·have k6':(t.knd=6)=False:=eq_false (by omega)
    rw[hs7 k7]
    rw[hT]
    clear hs6 hs7 k7 hT
    repeat'(first|refine xs ?_ ?_ <;>intros|(refine wn ?_;intro bx hbx;try simp only[fb]at hbx)|refine wj ?_|simp -dsimp only[↓bp,bq,br,seval,iQ,List.length_append, *]|refine wz ?_|fail)
    all_goals first|exact aL (Le.refl _) hle|exact aL (by simp only[List.append_assoc,List.cons_append,List.nil_append];exact Le.refl _) hle
  ·have hr:r=[]:=by rw[htt]at htl;simp only[List.length_cons]at htl;exact List.eq_nil_of_length_eq_zero (by omega)
   subst hr
   have hx:t.tail[0]? =some x:=by rw[htt];rfl
   have hp:=ht x (by rw[htt];simp)
   have hT:gM t.tail=124::iP x:=by rw[htt,gM,gM,List.append_nil]
   have ht0:((0:Int) < (t.tail.length:Int))=True:=eq_true (by rw[htt];simp)
   rw[hT]at hlen
   simp only[List.length_cons]at hlen
   replace hT:s++gM t.tail=s++[124]++iP x:=by rw[hT];simp
   have hl3:(s++[124]++iP x).length <=1000000001:=by simp only[List.length_append,List.length_cons,List.length_nil];omega
   clear ht htl htt hb hl3
   rcases hk with k6|k7
   ·have k6':=eq_true k6
    rw[hs6 k6]
    rw[hT]
    clear hs6 hs7 k6 hT
    repeat'(first|refine xs ?_ ?_ <;>intros|(refine wn ?_;intro bx hbx;try simp only[fb]at hbx)|refine wp hp ?_|refine wj ?_|simp -dsimp only[↓bp,bq,br,seval,iQ,List.length_append, *]|refine wz ?_|fail)
    all_goals first|exact aL (Le.refl _) hle|exact aL (by simp only[List.append_assoc,List.cons_append,List.nil_append];exact Le.refl _) hle
   ·have k6':(t.knd=6)=False:=eq_false (by omega)
    rw[hs7 k7]
    rw[hT]
    clear hs6 hs7 k7 hT
    repeat'(first|refine xs ?_ ?_ <;>intros|(refine wn ?_;intro bx hbx;try simp only[fb]at hbx)|refine wp hp ?_|refine wj ?_|simp -dsimp only[↓bp,bq,br,seval,iQ,List.length_append, *]|refine wz ?_|fail)
    all_goals first|exact aL (Le.refl _) hle|exact aL (by simp only[List.append_assoc,List.cons_append,List.nil_append];exact Le.refl _) hle
theorem C0r(t:aA):t.bulk <=2000000 ->right t=true ->aB Tryz.prog G 56 [t.enc] (.str (iP t)):=by
 refine aA.ind (P:=fun t=>t.bulk <=2000000 ->right t=true ->aB Tryz.prog G 56 [t.enc] (.str (iP t))) (fun t ih1 ih2 hb hr=> ?_) t
 have A:=jV hr
 have h1:∀ x,x ∈ t.items -> (iP x).length+1 <=400*x.bulk:=fun x hx=>A6g x (A.items x hx)
 have h2:∀ x,x ∈ t.tail -> (iP x).length+1 <=400*x.bulk:=fun x hx=>A6g x (A.tail x hx)
 have hL:=A9u t.items h1
 have hT:=A0w t.tail h2
 have hbe:=t.bulk_eq
 have hi:∀ x,x ∈ t.items ->aB Tryz.prog G 56 [x.enc] (.str (iP x)):=fun x hx=>ih1 x hx (by have:=dJ hx;omega) (A.items x hx)
 have ht:∀ x,x ∈ t.tail ->aB Tryz.prog G 56 [x.enc] (.str (iP x)):=fun x hx=>ih2 x hx (by have:=dK hx;omega) (A.tail x hx)
 have hk:=A.kind
 have hnum:t.knd=3 \/ t.knd=4 \/ t.knd=5 -> (itoa t.num).length <=31 /\ aB Tryz.prog G 87 [.int .i64 t.num] (.str (itoa t.num)):=fun h=>by
  obtain⟨n0,n1⟩:=mK hr h
  exact⟨Nat.le_trans (yT n0 n1) (by omega),C6m G t.num (by omega) (by omega)⟩
 rcases(show t.knd=1 \/ t.knd=2 \/ t.knd=3 \/ t.knd=4 \/ t.knd=5 \/ t.knd=6 \/ t.knd=7 by omega)with h|h|h|h|h|h|h
 ·obtain⟨_,w2,_,w4,w5,w6,_⟩:=oR (A.int h)
  have hw:=A2f G t (by rw[hbe,w2,w4,w5];simp only[List.length_nil,aV];omega)
  rw[A.int h,if_pos rfl]at hw
  exact D9y G t h hw
 ·exact D9z G t h (C0m G t.text (by omega))
 ·exact E0a G t h (hnum (.inl h)).1 (hnum (.inl h)).2
 ·exact E0b G t h (hnum (.inr (.inl h))).1 (hnum (.inr (.inl h))).2
 ·exact E0c G t h (hnum (.inr (.inr h))).1 (hnum (.inr (.inr h))).2
 ·have htl:t.tail.length <=1:=by rw[(A.rest (by omega)).2.2.2.1 (by omega)];simp
  exact B6p G t (.inl h) (by omega) htl (by omega) hi ht
 ·exact B6p G t (.inr h) (by omega) (A.list h).1 (by omega) hi ht
theorem A6c(t:aA)(hb:t.bulk <=2000000):aB Tryz.prog G 17 [t.enc] (.str (text t)):=by
 have hr:=zE G t (A6b G t (by omega))
 unfold text
 cases e:right t with
 | false=>
  rw[e]at hr
  intro σ
  refine aJ.of_awp mixed Tryz.func17 rfl (by kernel_rfl) (by kernel_rfl) (by simp[Tryz.ntmps17]) Tryz.results17 ?_
  repeat'(first|refine xs ?_ ?_ <;>intros|(refine wn ?_;intro bx hbx;try simp only[fb]at hbx)|refine wp hr ?_|refine wj ?_|simp -dsimp only[↓bp,bq,br,seval,iQ, *]|refine wz ?_|fail)
  all_goals rfl
 | true=>
  rw[e]at hr
  have hs:=C0r G t hb e
  clear hb
  intro σ
  refine aJ.of_awp mixed Tryz.func17 rfl (by kernel_rfl) (by kernel_rfl) (by simp[Tryz.ntmps17]) Tryz.results17 ?_
  repeat'(first|refine xs ?_ ?_ <;>intros|(refine wn ?_;intro bx hbx;try simp only[fb]at hbx)|refine wp hr ?_|refine wp hs ?_|refine wj ?_|simp -dsimp only[↓bp,bq,br,seval,iQ, *]|refine wz ?_|fail)
  all_goals rfl
end
set_option maxRecDepth 20000
section
def fF:=And.intro (And.intro (And.intro @jD (And.intro @iZ @jJ)) (And.intro @eG (And.intro @jE @dL))) (And.intro (And.intro @eN (And.intro @dV @eD)) (And.intro @aA.flat_enc (And.intro @aA.isv_enc @aA.fold_enc)))
variable (G:Nat ->AV)
theorem nM.weak{S T:Nat ->Prop}{σ σ':AS}(h:nM S σ σ')(hs:∀ c,S c ->T c):nM T σ σ':=⟨fun b cs hn hc=>h.box b cs (fun e=>hn (hs b e)) hc,h.tip,h.ty⟩
set_option maxHeartbeats 2000000 in
theorem C6b(b n:Nat)(hn:n <=1000000000)(σ:AS)(cs:List AV)(hb:σ.box b=some cs)(hc:cs.length=n+12):aJ Tryz.prog G 53 [.bs b n 1 47] σ fun r σ'=>r= .tup [] /\ nM (fun c=>c=b) σ σ':=by
 have hw0:IntKind.i64.wrap ((n:Int)+12)=((n+12:Nat):Int):=by rw[aC (by omega) (by omega)];rfl
 have h12:((n+12)*1 <=n+12)=True:=eq_true (by omega)
 have h13:(n+12 <=n)=False:=eq_false (by omega)
 refine aJ.of_awp mixed Tryz.func53 rfl (by kernel_rfl) (by kernel_rfl) (by simp[Tryz.ntmps53]) Tryz.results53 ?_
 repeat'(first|(refine wn ?_;intro bx hbx;try simp only[fb]at hbx)|refine wj ?_|simp -dsimp only[↓bp,bq,br,seval,fF, *]|refine wz ?_|fail)
 refine aI (fun m e σ'=>∃ (i:Nat) (ds:List AV),i <=n+12 /\ m=n+12 - i /\ e 3= .int .i64 i /\ ds.length=n+12 /\ σ'.box b=some ds /\ nM (fun c=>c=b) σ σ') (n+12)
  ⟨0,cs,by omega,by omega,by first|(simp -dsimp only[↓bp,bq,br,seval,fF];done)|(simp -dsimp only[↓bp,bq,br,seval,fF];try rfl),hc,hb,nM.refl _ _⟩ ?_
 clear h12 h13 hw0 hb hc
 rintro m e σ2 ⟨i,ds,hi,rfl,h3,hd,hb,hL⟩
 simp -dsimp only[↓bp,bq,br,seval,fF]at h3
 by_cases hlt:i < n+12
 ·have hlt':((i:Int) < ((n+12:Nat):Int))=True:=eq_true (by omega)
  have hp:=dZ G 2 i
  have hwi:IntKind.i64.wrap ((i:Int)+1)=((i+1:Nat):Int):=by rw[aC (by omega) (by omega)];rfl
  have hii:0 <=(i:Int) /\ (i:Int) < ((n+12:Nat):Int):=by omega
  have hco:i*1+1 <=n+12:=by omega
  repeat'(first|(refine wn ?_;intro bx hbx;try simp only[fb]at hbx)|refine wp hp ?_|refine wj ?_|simp -dsimp only[↓bp,bq,br,seval,fF, *]|refine wz ?_|fail)
  refine⟨n+12 - (i+1),by omega,i+1,_,by omega,rfl,rfl,?_,rfl,hL.set_in rfl _⟩
  simp only[List.length_append,List.length_take,List.length_drop,List.length_cons,List.length_nil];omega
 ·have:i=n+12:=by omega
  subst this
  have hlt':(((n+12:Nat):Int) < ((n+12:Nat):Int))=False:=eq_false (by omega)
  repeat'(first|(refine wn ?_;intro bx hbx;try simp only[fb]at hbx)|refine wj ?_|simp -dsimp only[↓bp,bq,br,seval,fF, *]|refine wz ?_|fail)
  all_goals exact aE _ (AS.le.refl _) ⟨rfl,hL⟩
theorem iB.on{σ:AS}{m:Bool}{l:List aA}{v:AV}{S:List Nat}(h:iB σ m l v S):∀ b,b ∈ S ->∃ z,σ.box b=some z:=fun b hb=>by
 rcases h with⟨_,_,_,rfl⟩|⟨c,cs,rest,S',_,rfl,hc,_,hO⟩
 ·cases hb
 ·rcases List.mem_cons.1 hb with rfl|hb
  ·exact⟨_,hc⟩
  ·exact hO.on b hb
def C3i(G:Nat ->AV)(t:aA):Prop:=∀ (σ:AS) (v:AV) (S:List Nat),cW σ true t v S ->S.Nodup ->aJ Tryz.prog G 14 [v] σ fun r σ'=>r= .tup [] /\ nM (fun c=>c ∈ S) σ σ'
theorem C5t:(eO.flatMap flat).length=84:=by
 simp[eO,hZ,aA.flat_enc,List.range,List.range.loop]
set_option maxHeartbeats 4000000 in
theorem A5n(ks:List aA)(hl:ks.length <=1000000000)(hP:∀ t,t ∈ ks ->C3i G t)(σ:AS)(v:AV)(S:List Nat)(h:iB σ true ks v S)(hS:S.Nodup):aJ Tryz.prog G 54 [v] σ fun r σ'=>r= .tup [] /\ nM (fun c=>c ∈ S) σ σ':=by
 rcases h with⟨h,_⟩|⟨b,cs,rest,S',rfl,rfl,hb,hm,hC⟩
 ·cases h
 obtain rfl:=hm
 replace hb:σ.box b=some (cs++eO.flatMap flat):=hb
 have hcl:=A9m ks cs S' hC
 obtain⟨hbS,hS'⟩:=List.nodup_cons.1 hS
 refine aJ.of_awp mixed Tryz.func54 rfl (by kernel_rfl) (by kernel_rfl) (by simp[Tryz.ntmps54]) Tryz.results54 ?_
 repeat'(first|(refine wn ?_;intro bx hbx;try simp only[fb]at hbx)|refine wj ?_|simp -dsimp only[↓bp,bq,br,seval,fF, *]|refine wz ?_|fail)
 refine aI (fun m e σ'=>∃ (i:Nat) (S2:List Nat),i <=ks.length /\ m=ks.length - i /\ e 2= .int .i64 i /\ σ'.box b=some (cs++eO.flatMap flat) /\ nM (fun c=>c ∈ S') σ σ' /\ S2.Nodup /\ (∀ c,c ∈ S2 ->c ∈ S') /\ cF σ' true (ks.drop i) (cs.drop (i*7)) S2) ks.length
  ⟨0,S',by omega,by omega,by first|(simp -dsimp only[↓bp,bq,br,seval,fF];done)|(simp -dsimp only[↓bp,bq,br,seval,fF];try rfl),hb,nM.refl _ _,hS',fun _ h=>h,by simpa using hC⟩ ?_
 clear hb hC
 rintro m e σ2 ⟨i,S2,hi,rfl,h2,hb,hL,hN,hI,hC⟩
 simp -dsimp only[↓bp,bq,br,seval,fF]at h2
 by_cases hlt:i < ks.length
 ·have hlt':((i:Int) < ks.length)=True:=eq_true (by omega)
  obtain⟨k,hk⟩:∃ k,ks[i]? =some k:=⟨_,List.getElem?_eq_getElem hlt⟩
  have hwi:IntKind.i64.wrap ((i:Int)+1)=((i+1:Nat):Int):=by rw[aC (by omega) (by omega)];rfl
  rw[dC _ _ _ hk]at hC
  simp only[cF]at hC
  obtain⟨v,c',Sa,Sb,hcs,rfl,hT,hC⟩:=hC
  have ho:=hP k (List.mem_of_getElem? hk) σ2 v Sa hT (List.nodup_append.1 hN).1
  have hsh:=(kW hT).1
  obtain⟨vl,vk,vt,Sl,Sk,St,rfl,hSS,g1,g2,g3⟩:=(bX _ _ _ _ _).1 hT
  have hdr:(cs++eO.flatMap flat).drop (i*7)=[.int .u8 k.knd, .bool k.neg,vl, .str k.text, .int .i64 k.num,vk,vt]++(c'++eO.flatMap flat):=by
   rw[List.drop_append_of_le_length (by omega),hcs,List.append_assoc];rfl
  have hnx:cs.drop ((i+1)*7)=c':=by
   have:cs.drop ((i+1)*7)=(cs.drop (i*7)).drop 7:=by rw[List.drop_drop];congr 1;omega
   rw[this,hcs];rfl
  clear hP g1 g2 g3 hT hcs hcl
  generalize cs++eO.flatMap flat=X at*
  repeat'(first|(refine wn ?_;intro bx hbx;try simp only[fb]at hbx)|((refine aJ.mono ho ?_;rintro r σ3 ⟨rfl,hX⟩))|refine wj ?_|simp -dsimp only[↓bp,bq,br,seval,fF, *]|refine wz ?_|fail)
  refine⟨ks.length - (i+1),by omega,i+1,Sb,by omega,rfl,rfl,hX.box b _ (fun hin=>hbS (hI b (List.mem_append_left _ hin))) hb,hL.trans (hX.weak fun c hc=>hI c (List.mem_append_left _ hc)),(List.nodup_append.1 hN).2.1,fun c hc=>hI c (List.mem_append_right _ hc),?_⟩
  rw[hnx]
  exact hC.keep fun c hc=>by
   obtain⟨z,hz⟩:=hC.on c hc
   rw[hz]
   exact hX.box c z (fun hin=> (List.nodup_append.1 hN).2.2 c hin c hc rfl) hz
 ·have:i=ks.length:=by omega
  subst this
  have hlt':((ks.length:Int) < ks.length)=False:=eq_false (by omega)
  have hw0:IntKind.i64.wrap ((ks.length:Int)+12)=((ks.length+12:Nat):Int):=by rw[aC (by omega) (by omega)];rfl
  have hXl:(cs++eO.flatMap flat).length=(ks.length+12)*7:=by rw[List.length_append,hcl,C5t];omega
  generalize cs++eO.flatMap flat=X at*
  have h12:((ks.length+12)*7 <=X.length)=True:=eq_true (by omega)
  have h13:(ks.length+12 <=ks.length)=False:=eq_false (by omega)
  have hL':nM (fun c=>c ∈ b::S') σ σ2:=hL.weak fun c hc=>List.mem_cons_of_mem _ hc
  clear hP hC hN hI hL hcl hlt hi hS hS' hbS
  repeat'(first|(refine wn ?_;intro bx hbx;try simp only[fb]at hbx)|refine wj ?_|simp -dsimp only[↓bp,bq,br,seval,fF, *]|refine wz ?_|fail)
  refine aI (fun m e σ'=>∃ (i:Nat) (ds:List AV),i <=ks.length+12 /\ m=ks.length+12 - i /\ e 4= .int .i64 i /\ ds.length=(ks.length+12)*7 /\ σ'.box b=some ds /\ nM (fun c=>c ∈ b::S') σ σ') (ks.length+12)
   ⟨0,X,by omega,by omega,by first|(simp -dsimp only[↓bp,bq,br,seval,fF];done)|(simp -dsimp only[↓bp,bq,br,seval,fF];try rfl),hXl,hb,hL'⟩ ?_
  clear h12 h13 hw0 hb hXl hL'
  rintro m e σ3 ⟨j,ds,hj,rfl,h4,hd,hb,hL⟩
  simp -dsimp only[↓bp,bq,br,seval,fF]at h4
  by_cases hltj:j < ks.length+12
  ·have hltj':((j:Int) < ((ks.length+12:Nat):Int))=True:=eq_true (by omega)
   have hp:=kH G 2 j
   have hwi:IntKind.i64.wrap ((j:Int)+1)=((j+1:Nat):Int):=by rw[aC (by omega) (by omega)];rfl
   have hii:0 <=(j:Int) /\ (j:Int) < ((ks.length+12:Nat):Int):=by omega
   have hco:j*7+7 <=(ks.length+12)*7:=by omega
   repeat'(first|(refine wn ?_;intro bx hbx;try simp only[fb]at hbx)|refine wp hp ?_|refine wj ?_|simp -dsimp only[↓bp,bq,br,seval,fF, *]|refine wz ?_|fail)
   refine⟨ks.length+12 - (j+1),by omega,j+1,_,by omega,rfl,rfl,?_,rfl,(hL.set_in (S:=fun c=>c ∈ b::S') List.mem_cons_self _).weak fun c hc=>by simpa using hc⟩
   simp only[List.length_append,List.length_take,List.length_drop,List.length_cons,List.length_nil];omega
  ·have:j=ks.length+12:=by omega
   subst this
   have hltj':(((ks.length+12:Nat):Int) < ((ks.length+12:Nat):Int))=False:=eq_false (by omega)
   repeat'(first|(refine wn ?_;intro bx hbx;try simp only[fb]at hbx)|refine wj ?_|simp -dsimp only[↓bp,bq,br,seval,fF, *]|refine wz ?_|fail)
   all_goals exact aE _ (AS.le.refl _) ⟨rfl,hL⟩
theorem A5o(t:aA)(hb:t.bulk <=1000000000):C3i G t:=by
 revert hb
 refine aA.ind (P:=fun t=>t.bulk <=1000000000 ->C3i G t) (fun t ih1 ih2 hb=> ?_) t
 have h1:=A5n G t.items (by have:=cA t;omega) (fun x hx=>ih1 x hx (by have:=dJ hx;omega))
 have h2:=A5n G t.tail (by have:=dD t;omega) (fun x hx=>ih2 x hx (by have:=dK hx;omega))
 have hll:=cQ t
 clear ih1 ih2
 intro σ v S h hS
 rw[bX]at h
 obtain⟨vl,vk,vt,Sl,Sk,St,rfl,rfl,g1,g2,g3⟩:=h
 obtain⟨n1,n2,d1⟩:=List.nodup_append.1 hS
 obtain⟨n3,n4,d2⟩:=List.nodup_append.1 n2
 rcases g1 with⟨g1,_⟩|⟨b,rest,rfl,rfl,hbx,hm⟩
 ·cases g1
 obtain rfl:=hm
 replace hbx:σ.box b=some (t.limbs.map bC++dS):=hbx
 have hon:∀ c,c ∈ [b]++(Sk++St) ->∃ z,σ.box c=some z:=fun c hc=>by
  rcases List.mem_append.1 hc with hc|hc
  ·simp at hc;subst hc;exact⟨_,hbx⟩
  rcases List.mem_append.1 hc with hc|hc
  ·exact g2.on c hc
  ·exact g3.on c hc
 obtain⟨a3,a4,a8⟩:=g2.one
 obtain⟨a5,a6,a9⟩:=g3.one
 refine aJ.of_awp mixed Tryz.func14 rfl (by kernel_rfl) (by kernel_rfl) (by simp[Tryz.ntmps14]) Tryz.results14 ?_
 simp -dsimp only[↓bp,bq,br,seval,fF]
 refine cX fun b1 hb1=> ?_
 obtain⟨A0,hA0⟩:∃ S,S=σ.setBox b1 [.int .u8 t.knd, .bool t.neg, .bs b t.limbs.length 1 47, .str t.text, .int .i64 t.num,vk,vt]:=⟨_,rfl⟩
 have e1:A0.box b1=some [.int .u8 t.knd, .bool t.neg, .bs b t.limbs.length 1 47, .str t.text, .int .i64 t.num,vk,vt]:=by rw[hA0];exact AS.set_get
 have hx0:nM (fun c=>c ∈ [b]++(Sk++St)) σ A0:=by rw[hA0];exact(nM.refl _ σ).set_new hb1.1 _
 have hne:∀ c,c ∈ [b]++(Sk++St) ->c ≠ b1:=fun c hc e=>by
  obtain⟨z,hz⟩:=hon c hc
  rw[e,hb1.1]at hz;cases hz
 have hk0:∀ c,c ∈ [b]++(Sk++St) ->A0.box c=σ.box c:=fun c hc=>by rw[hA0];simp only[AS.setBox,if_neg (hne c hc)]
 rw[<- hA0]
 clear hA0
 have q1:=C6b G b t.limbs.length (by omega) A0 _ (by rw[hk0 b (by simp)];exact hbx) (by rw[List.length_append,List.length_map];rfl)
 have g2':=g2.keep (σ':=A0) fun c hc=>hk0 c (by simp[hc])
 have g3':=g3.keep (σ':=A0) fun c hc=>hk0 c (by simp[hc])
 clear g2 g3 hk0 hbx
 repeat'(first|(refine wn ?_;intro bx hbx;try simp only[fb]at hbx)|refine wj ?_|simp -dsimp only[↓bp,bq,br,seval,fF, *]|refine wz ?_|fail)
 refine aJ.mono q1 ?_
 rintro _ s1 ⟨rfl,x1⟩
 have f1:=x1.box b1 _ (fun e=>hne b (by simp) e.symm) e1
 have m2:=g2'.keep (σ':=s1) fun c hc=>by
  obtain⟨z,hz⟩:=g2'.on c hc
  rw[hz];exact x1.box c z (fun e=>d1 b (by simp) c (by simp[hc]) e.symm) hz
 have m3:=g3'.keep (σ':=s1) fun c hc=>by
  obtain⟨z,hz⟩:=g3'.on c hc
  rw[hz];exact x1.box c z (fun e=>d1 b (by simp) c (by simp[hc]) e.symm) hz
 have q2:=h1 s1 vk Sk m2 n3
 clear q1 e1 g2' g3' h1
 repeat'(first|(refine wn ?_;intro bx hbx;try simp only[fb]at hbx)|refine wj ?_|simp -dsimp only[↓bp,bq,br,seval,fF, *]|refine wz ?_|fail)
 refine aJ.mono q2 ?_
 rintro _ s2 ⟨rfl,x2⟩
 have f2:=x2.box b1 _ (fun e=>hne b1 (by simp[e]) rfl) f1
 have k3:=m3.keep (σ':=s2) fun c hc=>by
  obtain⟨z,hz⟩:=m3.on c hc
  rw[hz];exact x2.box c z (fun e=>d2 c e c hc rfl) hz
 have q3:=h2 s2 vt St k3 n4
 clear q2 f1 m2 m3 h2
 repeat'(first|(refine wn ?_;intro bx hbx;try simp only[fb]at hbx)|refine wj ?_|simp -dsimp only[↓bp,bq,br,seval,fF, *]|refine wz ?_|fail)
 refine aJ.mono q3 ?_
 rintro _ s3 ⟨rfl,x3⟩
 clear q3
 repeat'(first|(refine wn ?_;intro bx hbx;try simp only[fb]at hbx)|refine wj ?_|simp -dsimp only[↓bp,bq,br,seval,fF, *]|refine wz ?_|fail)
 all_goals exact aE _ (AS.le.refl _) ⟨rfl,((hx0.trans (x1.weak fun c hc=>by simp[hc])).trans (x2.weak fun c hc=>by simp[hc])).trans (x3.weak fun c hc=>by simp[hc])⟩
end
set_option maxRecDepth 20000
section
def cZ:List jX ->List Nat
 |[]=> []
 |none::r=>cZ r
 |some (b,_)::r=>b::cZ r
theorem eX:∀ (a b:List jX),cZ (a++b)=cZ a++cZ b
 |[],_=>rfl
 |none::r,b=>by simp only[List.cons_append,cZ,eX r b]
 |some (c,_)::r,b=>by simp only[List.cons_append,cZ,eX r b]
theorem lB:∀ (rs:List jX) (b:Nat),zQ rs b ->b ∈ cZ rs
 |[],b,⟨n,h⟩=>by cases h
 | none::r,b,⟨n,h⟩=>by
  simp only[List.mem_cons,reduceCtorEq,false_or]at h
  simp only[cZ]
  exact lB r b ⟨n,h⟩
 | some (c,m)::r,b,⟨n,h⟩=>by
  simp only[cZ,List.mem_cons]
  rcases List.mem_cons.1 h with h|h
  ·cases h;exact .inl rfl
  ·exact .inr (lB r b ⟨n,h⟩)
theorem xD:∀ (rs:List jX) (j b n:Nat),rs[j]? =some (some (b,n)) ->b ∈ cZ rs:=fun rs j b n h=>lB rs b ⟨n,List.mem_of_getElem? h⟩
theorem qS:∀ (rs:List jX),(cZ rs).Nodup ->pC rs
 |[],_=>fun i j b n m hi=>by simp at hi
 | none::r,h=>fun i j b n m hi hj=>by
  simp only[cZ]at h
  match i,j,hi,hj with
  |0,_,hi,_=>simp at hi
  |_+1,0,_,hj=>simp at hj
  |i+1,j+1,hi,hj=>simp at hi hj;rw[qS r h i j b n m hi hj]
 | some (c,k)::r,h=>fun i j b n m hi hj=>by
  simp only[cZ,List.nodup_cons]at h
  match i,j,hi,hj with
  |0,0,_,_=>rfl
  |0,j+1,hi,hj=>simp at hi hj;obtain⟨rfl,rfl⟩:=hi;exact absurd (xD r j _ m hj) h.1
  |i+1,0,hi,hj=>simp at hi hj;obtain⟨rfl,rfl⟩:=hj;exact absurd (xD r i _ n hi) h.1
  |i+1,j+1,hi,hj=>simp at hi hj;rw[qS r h.2 i j b n m hi hj]
mutual
def B0l(σ:AS):aA ->AV ->List jX ->List jX ->Prop
 | .mk k g l s n ks ts,v,Ls,Ts=>∃ vk vt r0 Lk Lt rk Tk rt Tt,v= .agg [.int .u8 k.toNat, .bool g,jB 1 47 r0, .str s, .int .i64 n,vk,vt] /\ Ls=r0::(Lk++Lt) /\ Ts=(rk::Tk)++(rt::Tt) /\ (∀ b n,r0=some (b,n) ->n=l.length /\ ∃ cs,σ.box b=some cs /\ n*1 <=cs.length) /\
  (vk=jB 7 26 rk /\ bL rk=ks.length /\ ((rk=none /\ Lk=[] /\ Tk=[]) \/ ∃ b cs rest,rk=some (b,ks.length) /\ σ.box b=some (cs++rest) /\ rI σ ks cs Lk Tk)) /\
  (vt=jB 7 26 rt /\ bL rt=ts.length /\ ((rt=none /\ Lt=[] /\ Tt=[]) \/ ∃ b cs rest,rt=some (b,ts.length) /\ σ.box b=some (cs++rest) /\ rI σ ts cs Lt Tt))
def rI(σ:AS):List aA ->List AV ->List jX ->List jX ->Prop
 |[],cs,Ls,Ts=>cs=[] /\ Ls=[] /\ Ts=[]
 |t::r,cs,Ls,Ts=>∃ v c' L1 L2 T1 T2,cs=flat v++c' /\ Ls=L1++L2 /\ Ts=T1++T2 /\ B0l σ t v L1 T1 /\ rI σ r c' L2 T2
end
def B7m(σ:AS)(ks:List aA)(v:AV)(Lk:List jX)(r:jX)(Tk:List jX):Prop:=v=jB 7 26 r /\ bL r=ks.length /\ ((r=none /\ Lk=[] /\ Tk=[]) \/ ∃ b cs rest,r=some (b,ks.length) /\ σ.box b=some (cs++rest) /\ rI σ ks cs Lk Tk)
theorem zD(σ:AS)(t:aA)(v:AV)(Ls Ts:List jX):B0l σ t v Ls Ts ↔ ∃ vk vt r0 Lk Lt rk Tk rt Tt,v= .agg [.int .u8 t.knd, .bool t.neg,jB 1 47 r0, .str t.text, .int .i64 t.num,vk,vt] /\ Ls=r0::(Lk++Lt) /\ Ts=(rk::Tk)++(rt::Tt) /\ (∀ b n,r0=some (b,n) ->n=t.limbs.length /\ ∃ cs,σ.box b=some cs /\ n*1 <=cs.length) /\ B7m σ t.items vk Lk rk Tk /\ B7m σ t.tail vt Lt rt Tt:=by
 cases t
 simp only[B0l,B7m,aA.knd,aA.kind,aA.neg,aA.limbs,aA.text,aA.num,aA.items,aA.tail]
theorem A9n{σ:AS}{m:Bool} :∀ (l:List aA) (cs:List AV) (S:List Nat),(∀ t,t ∈ l ->∀ v S,cW σ m t v S ->∃ Ls Ts,B0l σ t v Ls Ts /\ S.Perm (cZ (Ls++Ts))) ->cF σ m l cs S ->∃ Ls Ts,rI σ l cs Ls Ts /\ S.Perm (cZ (Ls++Ts))
 | [],cs,S,_,h=>by
  simp only[cF]at h
  obtain⟨rfl,rfl⟩:=h
  exact⟨[],[],by simp[rI], .nil⟩
 | t::r,cs,S,hP,h=>by
  simp only[cF]at h
  obtain⟨v,c',S1,S2,rfl,rfl,h1,h2⟩:=h
  obtain⟨L1,T1,p1,q1⟩:=hP t List.mem_cons_self v S1 h1
  obtain⟨L2,T2,p2,q2⟩:=A9n r c' S2 (fun t ht=>hP t (List.mem_cons_of_mem _ ht)) h2
  refine⟨L1++L2,T1++T2,by simp only[rI];exact⟨v,c',L1,L2,T1,T2,rfl,rfl,rfl,p1,p2⟩,(q1.append q2).trans ?_⟩
  simp only[eX,List.append_assoc]
  refine List.Perm.append_left _ ?_
  rw[<- List.append_assoc,<- List.append_assoc]
  exact List.Perm.append_right _ List.perm_append_comm
theorem A5p{σ:AS}{m:Bool}(l:List aA)(hP:∀ t,t ∈ l ->∀ v S,cW σ m t v S ->∃ Ls Ts,B0l σ t v Ls Ts /\ S.Perm (cZ (Ls++Ts)))(v:AV)(S:List Nat)(h:iB σ m l v S):∃ Lk r Tk,B7m σ l v Lk r Tk /\ S.Perm (cZ (Lk++r::Tk)):=by
 rcases h with⟨_,rfl,rfl,rfl⟩|⟨b,cs,rest,S',rfl,rfl,hb,_,hc⟩
 ·exact⟨[],none,[],⟨rfl,rfl, .inl ⟨rfl,rfl,rfl⟩⟩, .nil⟩
 ·obtain⟨Ls,Ts,hp,hq⟩:=A9n l cs S' hP hc
  refine⟨Ls,some (b,l.length),Ts,⟨rfl,rfl, .inr ⟨b,cs,rest,rfl,hb,hp⟩⟩,?_⟩
  rw[eX]at hq ⊢
  simp only[cZ]
  exact(List.Perm.cons b hq).trans List.perm_middle.symm
theorem D2u{σ:AS}{m:Bool}(t:aA):∀ (v:AV) (S:List Nat),cW σ m t v S ->∃ Ls Ts,B0l σ t v Ls Ts /\ S.Perm (cZ (Ls++Ts)):=by
 refine aA.ind (P:=fun t=>∀ (v:AV) (S:List Nat),cW σ m t v S ->∃ Ls Ts,B0l σ t v Ls Ts /\ S.Perm (cZ (Ls++Ts))) (fun t ih1 ih2=> ?_) t
 intro v S h
 rw[bX]at h
 obtain⟨vl,vk,vt,Sl,Sk,St,rfl,rfl,h1,h2,h3⟩:=h
 obtain⟨Lk,rk,Tk,p2,q2⟩:=A5p t.items ih1 vk Sk h2
 obtain⟨Lt,rt,Tt,p3,q3⟩:=A5p t.tail ih2 vt St h3
 have hq:∀ r0,Sl.Perm (cZ [r0]) -> (Sl++(Sk++St)).Perm (cZ ((r0::(Lk++Lt))++((rk::Tk)++(rt::Tt)))):=fun r0 h0=>by
  refine(h0.append (q2.append q3)).trans ?_
  rw[show r0::(Lk++Lt)=[r0]++(Lk++Lt) from rfl]
  simp only[eX,List.append_assoc]
  refine List.Perm.append_left _ (List.Perm.append_left _ ?_)
  rw[<- List.append_assoc,<- List.append_assoc]
  exact List.Perm.append_right _ List.perm_append_comm
 rcases h1 with⟨_,hl,rfl,rfl⟩|⟨b,rest,rfl,rfl,hb,_⟩
 ·exact⟨_,_,(zD _ _ _ _ _).2 ⟨vk,vt,none,Lk,Lt,rk,Tk,rt,Tt,rfl,rfl,rfl,fun b n h=> (by cases h),p2,p3⟩,hq none .nil⟩
 ·exact⟨_,_,(zD _ _ _ _ _).2 ⟨vk,vt,some (b,t.limbs.length),Lk,Lt,rk,Tk,rt,Tt,rfl,rfl,rfl,fun c n h=> (by cases h;exact⟨rfl,_,hb,by simp⟩),p2,p3⟩,hq _ (List.Perm.refl _)⟩
end
section
def C6c:AV ->Option Nat
 | .sl (.own b) _ _=>some b
 |_=>none
def zV(v w:AV):Prop:=∀ b,C6c v=some b ->C6c w ≠ some b
theorem C1x{m:Nat}{σ0 σ σ':AS}{w:AV}{ws:List AV}(h:kL m σ0 σ w ws)(hl:σ0.le σ')(ht:∀ b,C6c w=some b ->σ'.tip b=σ.tip b):kL m σ0 σ' w ws:=by
 cases h with
 |nil _=>exact .nil hl
 |own b xs h h0 ht' hx=>exact .own b ws hl h0 (by rw[ht b rfl];exact ht') hx
theorem C1w{m:Nat}{σ0 σ:AS}{w:AV}{ws:List AV}(h:kL m σ0 σ w ws){b:Nat}(hb:C6c w=some b):∃ x,σ.tip b=some x:=by
 cases h with
 |nil _=>cases hb
 |own c xs h h0 ht hx=>cases hb;exact⟨_,ht⟩
theorem B3p {P:Program} {n m bZ:Nat} {σ0 σ:AS} {v w x:AV} {xs ys ws:List AV} {t tx e:TypeId} {K:AV ->AS ->Prop} {d:Dum σ} {d':Dum K} (hB:kL n σ0 σ v xs) (hW:kL m σ0 σ w ws) (ha:zV v w) (he:dU P t=some (e,n,bZ)) (hs:lJ P tx x=some ys)
  (hys:∀ a,a ∈ ys -> (Av.flat a).length=n) (hb:(xs.length+ys.length)*bZ <=140737488355328) (hK:∀ v' σ',kL n σ0 σ' v' (xs++ys) ->kL m σ0 σ' w ws ->zV v' w ->σ'.box=σ.box ->K v' σ'):B0y P σ t tx v x K d d':=by
 refine .inl ?_
 unfold mS
 rw[he,hs]
 refine⟨hys,?_⟩
 cases hB with
 | nil h=>
  refine⟨by simpa using hb,fun hy=> ?_,fun hy b hf=> ?_⟩
  ·subst hy;exact hK _ _ (.nil h) hW (fun b hb=>by cases hb) rfl
  ·have hf0:=h.fresh hf
   have hne:∀ c,C6c w=some c ->c ≠ b:=fun c hc e=>by
    obtain⟨z,hz⟩:=C1w hW hc
    rw[e,hf.2.1]at hz;cases hz
   refine hK _ _ ?_ (C1x hW (h.setTip hf0.2.1 _) fun c hc=>by simp[AS.setTip,hne c hc]) (fun c hc=> ?_) rfl
   ·rw[List.nil_append]
    exact .own b ys (h.setTip hf0.2.1 _) hf0.2.1 (by simp[AS.setTip]) hys
   ·cases hc
    exact fun hc=>hne _ hc rfl
 | own b xs h h0 ht hx=>
  refine⟨ht,hx,hb,fun b' hb'=> ?_⟩
  have h0':σ0.tip b'=none:=by
   rcases hb' with rfl|hf
   ·exact h0
   ·exact(h.fresh hf).2.1
  have hne:∀ c,C6c w=some c ->c ≠ b /\ c ≠ b':=fun c hc=>by
   have h1:c ≠ b:=fun e=>ha b rfl (by rw[<- e];exact hc)
   refine⟨h1,?_⟩
   rcases hb' with rfl|hf
   ·exact h1
   ·intro e
    obtain⟨z,hz⟩:=C1w hW hc
    rw[e,hf.2.1]at hz;cases hz
  refine hK _ _ ?_ (C1x hW ((h.delTip h0).setTip h0' _) fun c hc=>by simp[AS.setTip,AS.delTip,hne c hc]) (fun c hc=> ?_) rfl
  ·refine .own b' (xs++ys) ((h.delTip h0).setTip h0' _) h0' (by simp[AS.setTip]) fun a ha=> ?_
   rcases List.mem_append.1 ha with ha|ha
   ·exact hx a ha
   ·exact hys a ha
  ·cases hc
   exact fun hc=> (hne _ hc).2 rfl
theorem zV.symm{v w:AV}(h:zV v w):zV w v:=fun b h1 h2=>h b h2 h1
end
set_option maxRecDepth 100000
section
theorem E9r:tk Tryz.prog 72=some (false,1) /\ sk Tryz.prog 72= .ptr 93 /\ (Tryz.prog.underlying 72).isSome=true /\ el Tryz.prog 72=none /\ zc Tryz.prog 72=some [.nilptr] /\ bZ Tryz.prog 72=some 8:=⟨by kernel_rfl,by kernel_rfl,by kernel_rfl,by kernel_rfl,by kernel_rfl,by kernel_rfl⟩
theorem C6y:tk Tryz.prog 73=some (false,1) /\ sk Tryz.prog 73= .sl 23 /\ (Tryz.prog.underlying 73).isSome=true /\ el Tryz.prog 73=some 23 /\ zc Tryz.prog 73=some [.nil] /\ bZ Tryz.prog 73=some 24 /\ dU Tryz.prog 73=some (23,1,24):=⟨by kernel_rfl,by kernel_rfl,by kernel_rfl,by kernel_rfl,by kernel_rfl,by kernel_rfl,by kernel_rfl⟩
theorem E5r:tk Tryz.prog 74=some (false,1) /\ sk Tryz.prog 74= .sl 146 /\ (Tryz.prog.underlying 74).isSome=true /\ el Tryz.prog 74=some 146 /\ zc Tryz.prog 74=some [.nil] /\ bZ Tryz.prog 74=some 24 /\ dU Tryz.prog 74=some (146,1,24):=⟨by kernel_rfl,by kernel_rfl,by kernel_rfl,by kernel_rfl,by kernel_rfl,by kernel_rfl,by kernel_rfl⟩
theorem E5s:tk Tryz.prog 75=some (false,1) /\ sk Tryz.prog 75= .sl 147 /\ (Tryz.prog.underlying 75).isSome=true /\ el Tryz.prog 75=some 147 /\ zc Tryz.prog 75=some [.nil] /\ bZ Tryz.prog 75=some 24 /\ dU Tryz.prog 75=some (147,1,24):=⟨by kernel_rfl,by kernel_rfl,by kernel_rfl,by kernel_rfl,by kernel_rfl,by kernel_rfl,by kernel_rfl⟩
theorem E5t:tk Tryz.prog 76=some (false,1) /\ sk Tryz.prog 76= .sl 148 /\ (Tryz.prog.underlying 76).isSome=true /\ el Tryz.prog 76=some 148 /\ zc Tryz.prog 76=some [.nil] /\ bZ Tryz.prog 76=some 24 /\ dU Tryz.prog 76=some (148,1,24):=⟨by kernel_rfl,by kernel_rfl,by kernel_rfl,by kernel_rfl,by kernel_rfl,by kernel_rfl,by kernel_rfl⟩
theorem E5u:tk Tryz.prog 77=some (false,1) /\ sk Tryz.prog 77= .sl 44 /\ (Tryz.prog.underlying 77).isSome=true /\ el Tryz.prog 77=some 44 /\ zc Tryz.prog 77=some [.nil] /\ bZ Tryz.prog 77=some 24 /\ dU Tryz.prog 77=some (44,1,24):=⟨by kernel_rfl,by kernel_rfl,by kernel_rfl,by kernel_rfl,by kernel_rfl,by kernel_rfl,by kernel_rfl⟩
theorem E5v:tk Tryz.prog 78=some (false,1) /\ sk Tryz.prog 78= .sl 45 /\ (Tryz.prog.underlying 78).isSome=true /\ el Tryz.prog 78=some 45 /\ zc Tryz.prog 78=some [.nil] /\ bZ Tryz.prog 78=some 24 /\ dU Tryz.prog 78=some (45,1,24):=⟨by kernel_rfl,by kernel_rfl,by kernel_rfl,by kernel_rfl,by kernel_rfl,by kernel_rfl,by kernel_rfl⟩
theorem E5w:tk Tryz.prog 79=some (false,1) /\ sk Tryz.prog 79= .sl 151 /\ (Tryz.prog.underlying 79).isSome=true /\ el Tryz.prog 79=some 151 /\ zc Tryz.prog 79=some [.nil] /\ bZ Tryz.prog 79=some 24 /\ dU Tryz.prog 79=some (151,1,24):=⟨by kernel_rfl,by kernel_rfl,by kernel_rfl,by kernel_rfl,by kernel_rfl,by kernel_rfl,by kernel_rfl⟩
theorem E5x:tk Tryz.prog 80=some (false,1) /\ sk Tryz.prog 80= .sl 156 /\ (Tryz.prog.underlying 80).isSome=true /\ el Tryz.prog 80=some 156 /\ zc Tryz.prog 80=some [.nil] /\ bZ Tryz.prog 80=some 24 /\ dU Tryz.prog 80=some (156,1,24):=⟨by kernel_rfl,by kernel_rfl,by kernel_rfl,by kernel_rfl,by kernel_rfl,by kernel_rfl,by kernel_rfl⟩
theorem E5y:tk Tryz.prog 81=some (false,1) /\ sk Tryz.prog 81= .sl 161 /\ (Tryz.prog.underlying 81).isSome=true /\ el Tryz.prog 81=some 161 /\ zc Tryz.prog 81=some [.nil] /\ bZ Tryz.prog 81=some 24 /\ dU Tryz.prog 81=some (161,1,24):=⟨by kernel_rfl,by kernel_rfl,by kernel_rfl,by kernel_rfl,by kernel_rfl,by kernel_rfl,by kernel_rfl⟩
theorem E5z:tk Tryz.prog 82=some (false,1) /\ sk Tryz.prog 82= .sl 167 /\ (Tryz.prog.underlying 82).isSome=true /\ el Tryz.prog 82=some 167 /\ zc Tryz.prog 82=some [.nil] /\ bZ Tryz.prog 82=some 24 /\ dU Tryz.prog 82=some (167,1,24):=⟨by kernel_rfl,by kernel_rfl,by kernel_rfl,by kernel_rfl,by kernel_rfl,by kernel_rfl,by kernel_rfl⟩
theorem E6a:tk Tryz.prog 83=some (false,1) /\ sk Tryz.prog 83= .sl 173 /\ (Tryz.prog.underlying 83).isSome=true /\ el Tryz.prog 83=some 173 /\ zc Tryz.prog 83=some [.nil] /\ bZ Tryz.prog 83=some 24 /\ dU Tryz.prog 83=some (173,1,24):=⟨by kernel_rfl,by kernel_rfl,by kernel_rfl,by kernel_rfl,by kernel_rfl,by kernel_rfl,by kernel_rfl⟩
theorem E6b:tk Tryz.prog 84=some (false,1) /\ sk Tryz.prog 84= .sl 178 /\ (Tryz.prog.underlying 84).isSome=true /\ el Tryz.prog 84=some 178 /\ zc Tryz.prog 84=some [.nil] /\ bZ Tryz.prog 84=some 24 /\ dU Tryz.prog 84=some (178,1,24):=⟨by kernel_rfl,by kernel_rfl,by kernel_rfl,by kernel_rfl,by kernel_rfl,by kernel_rfl,by kernel_rfl⟩
theorem E6c:tk Tryz.prog 85=some (false,1) /\ sk Tryz.prog 85= .sl 183 /\ (Tryz.prog.underlying 85).isSome=true /\ el Tryz.prog 85=some 183 /\ zc Tryz.prog 85=some [.nil] /\ bZ Tryz.prog 85=some 24 /\ dU Tryz.prog 85=some (183,1,24):=⟨by kernel_rfl,by kernel_rfl,by kernel_rfl,by kernel_rfl,by kernel_rfl,by kernel_rfl,by kernel_rfl⟩
theorem E6d:tk Tryz.prog 86=some (false,1) /\ sk Tryz.prog 86= .sl 189 /\ (Tryz.prog.underlying 86).isSome=true /\ el Tryz.prog 86=some 189 /\ zc Tryz.prog 86=some [.nil] /\ bZ Tryz.prog 86=some 24 /\ dU Tryz.prog 86=some (189,1,24):=⟨by kernel_rfl,by kernel_rfl,by kernel_rfl,by kernel_rfl,by kernel_rfl,by kernel_rfl,by kernel_rfl⟩
theorem E6e:tk Tryz.prog 87=some (false,1) /\ sk Tryz.prog 87= .sl 193 /\ (Tryz.prog.underlying 87).isSome=true /\ el Tryz.prog 87=some 193 /\ zc Tryz.prog 87=some [.nil] /\ bZ Tryz.prog 87=some 24 /\ dU Tryz.prog 87=some (193,1,24):=⟨by kernel_rfl,by kernel_rfl,by kernel_rfl,by kernel_rfl,by kernel_rfl,by kernel_rfl,by kernel_rfl⟩
theorem E6f:tk Tryz.prog 88=some (false,1) /\ sk Tryz.prog 88= .sl 198 /\ (Tryz.prog.underlying 88).isSome=true /\ el Tryz.prog 88=some 198 /\ zc Tryz.prog 88=some [.nil] /\ bZ Tryz.prog 88=some 24 /\ dU Tryz.prog 88=some (198,1,24):=⟨by kernel_rfl,by kernel_rfl,by kernel_rfl,by kernel_rfl,by kernel_rfl,by kernel_rfl,by kernel_rfl⟩
theorem E6g:tk Tryz.prog 89=some (false,1) /\ sk Tryz.prog 89= .sl 203 /\ (Tryz.prog.underlying 89).isSome=true /\ el Tryz.prog 89=some 203 /\ zc Tryz.prog 89=some [.nil] /\ bZ Tryz.prog 89=some 24 /\ dU Tryz.prog 89=some (203,1,24):=⟨by kernel_rfl,by kernel_rfl,by kernel_rfl,by kernel_rfl,by kernel_rfl,by kernel_rfl,by kernel_rfl⟩
theorem E6h:tk Tryz.prog 90=some (false,1) /\ sk Tryz.prog 90= .sl 208 /\ (Tryz.prog.underlying 90).isSome=true /\ el Tryz.prog 90=some 208 /\ zc Tryz.prog 90=some [.nil] /\ bZ Tryz.prog 90=some 24 /\ dU Tryz.prog 90=some (208,1,24):=⟨by kernel_rfl,by kernel_rfl,by kernel_rfl,by kernel_rfl,by kernel_rfl,by kernel_rfl,by kernel_rfl⟩
theorem E6i:tk Tryz.prog 91=some (false,1) /\ sk Tryz.prog 91= .sl 212 /\ (Tryz.prog.underlying 91).isSome=true /\ el Tryz.prog 91=some 212 /\ zc Tryz.prog 91=some [.nil] /\ bZ Tryz.prog 91=some 24 /\ dU Tryz.prog 91=some (212,1,24):=⟨by kernel_rfl,by kernel_rfl,by kernel_rfl,by kernel_rfl,by kernel_rfl,by kernel_rfl,by kernel_rfl⟩
theorem E9s:tk Tryz.prog 93=some (true,20) /\ sk Tryz.prog 93= .st /\ (Tryz.prog.underlying 93).isSome=true /\ el Tryz.prog 93=none /\ zc Tryz.prog 93=some [.nil, .nil, .nil, .nil, .nil, .nil, .nil, .nil, .nil, .nil, .nil, .nil, .nil, .nil, .nil, .nil, .nil, .nil, .nil, .nil] /\ bZ Tryz.prog 93=some 480 /\ tH Tryz.prog 93=some [(0,1),(1,1),(2,1),(3,1),(4,1),(5,1),(6,1),(7,1),(8,1),(9,1),(10,1),(11,1),(12,1),(13,1),(14,1),(15,1),(16,1),(17,1),(18,1),(19,1)] /\ tZ Tryz.prog 93 0=some (0,false,1) /\ tZ Tryz.prog 93 1=some (1,false,1) /\ tZ Tryz.prog 93 2=some (2,false,1) /\ tZ Tryz.prog 93 3=some (3,false,1) /\ tZ Tryz.prog 93 4=some (4,false,1) /\ tZ Tryz.prog 93 5=some (5,false,1) /\ tZ Tryz.prog 93 6=some (6,false,1) /\ tZ Tryz.prog 93 7=some (7,false,1) /\ tZ Tryz.prog 93 8=some (8,false,1) /\ tZ Tryz.prog 93 9=some (9,false,1) /\ tZ Tryz.prog 93 10=some (10,false,1) /\ tZ Tryz.prog 93 11=some (11,false,1) /\ tZ Tryz.prog 93 12=some (12,false,1) /\ tZ Tryz.prog 93 13=some (13,false,1) /\ tZ Tryz.prog 93 14=some (14,false,1) /\ tZ Tryz.prog 93 15=some (15,false,1) /\ tZ Tryz.prog 93 16=some (16,false,1) /\ tZ Tryz.prog 93 17=some (17,false,1) /\ tZ Tryz.prog 93 18=some (18,false,1) /\ tZ Tryz.prog 93 19=some (19,false,1):=⟨by kernel_rfl,by kernel_rfl,by kernel_rfl,by kernel_rfl,by kernel_rfl,by kernel_rfl,by kernel_rfl,by kernel_rfl,by kernel_rfl,by kernel_rfl,by kernel_rfl,by kernel_rfl,by kernel_rfl,by kernel_rfl,by kernel_rfl,by kernel_rfl,by kernel_rfl,by kernel_rfl,by kernel_rfl,by kernel_rfl,by kernel_rfl,by kernel_rfl,by kernel_rfl,by kernel_rfl,by kernel_rfl,by kernel_rfl,by kernel_rfl⟩
end
set_option maxRecDepth 20000
section
def aG:=And.intro (And.intro (And.intro (And.intro @jD @iZ) (And.intro @C6y (And.intro @E5r @E5s))) (And.intro (And.intro @E5t (And.intro @E5u @E5v)) (And.intro @E5w (And.intro @qJ @E5x)))) (And.intro (And.intro (And.intro @E5y @E5z) (And.intro @E6a (And.intro @E6b @E6c))) (And.intro (And.intro @E6d (And.intro @E6e @E6f)) (And.intro @E6g (And.intro @E6h @E6i))))
variable (G:Nat ->AV)
theorem A7s:aB Tryz.prog G 90 [.nil] (.bool true):=by
 intro σ
 refine aJ.of_awp mixed Tryz.func90 rfl (by kernel_rfl) (by kernel_rfl) (by simp[Tryz.ntmps90]) Tryz.results90 ?_
 repeat'(first|refine xs ?_ ?_ <;>intros|(refine wn ?_;intro bx hbx;try simp only[fb]at hbx)|((refine eS (σ0:=σ) E5r.2.2.2.2.2.2 (by omega) (by simp) (AS.le.refl σ) (fun v2 σ2 hB2 hx2=> ?_);have hle2:=hB2.le;clear hB2 hx2))|(((first|refine aD mixed (fun n e=>e 14= .int .i64 0) 0 (by simp -dsimp only[↓bp,bq,br,seval,aG];first|done|rfl) ?_|refine aD mixed (fun n e=>e 11= .int .i64 0) 0 (by simp -dsimp only[↓bp,bq,br,seval,aG];first|done|rfl) ?_|refine aD mixed (fun n e=>e 9= .int .i64 0) 0 (by simp -dsimp only[↓bp,bq,br,seval,aG];first|done|rfl) ?_|refine aD mixed (fun n e=>e 6= .int .i64 0) 0 (by simp -dsimp only[↓bp,bq,br,seval,aG];first|done|rfl) ?_|refine aD mixed (fun n e=>e 3= .int .i64 0) 0 (by simp -dsimp only[↓bp,bq,br,seval,aG];first|done|rfl) ?_);rintro n v h;simp -dsimp only[↓bp,bq,br,seval,aG]at h))|refine wj ?_|simp -dsimp only[↓bp,bq,br,seval,aG, *]|refine wz ?_|fail)
theorem B1q:aB Tryz.prog G 91 [.nil] (.bool true):=by
 intro σ
 refine aJ.of_awp mixed Tryz.func91 rfl (by kernel_rfl) (by kernel_rfl) (by simp[Tryz.ntmps91]) Tryz.results91 ?_
 repeat'(first|refine xs ?_ ?_ <;>intros|(refine wn ?_;intro bx hbx;try simp only[fb]at hbx)|((refine eS (σ0:=σ) E5s.2.2.2.2.2.2 (by omega) (by simp) (AS.le.refl σ) (fun v2 σ2 hB2 hx2=> ?_);have hle2:=hB2.le;clear hB2 hx2))|(((first|refine aD mixed (fun n e=>e 14= .int .i64 0) 0 (by simp -dsimp only[↓bp,bq,br,seval,aG];first|done|rfl) ?_|refine aD mixed (fun n e=>e 11= .int .i64 0) 0 (by simp -dsimp only[↓bp,bq,br,seval,aG];first|done|rfl) ?_|refine aD mixed (fun n e=>e 9= .int .i64 0) 0 (by simp -dsimp only[↓bp,bq,br,seval,aG];first|done|rfl) ?_|refine aD mixed (fun n e=>e 6= .int .i64 0) 0 (by simp -dsimp only[↓bp,bq,br,seval,aG];first|done|rfl) ?_|refine aD mixed (fun n e=>e 3= .int .i64 0) 0 (by simp -dsimp only[↓bp,bq,br,seval,aG];first|done|rfl) ?_);rintro n v h;simp -dsimp only[↓bp,bq,br,seval,aG]at h))|refine wj ?_|simp -dsimp only[↓bp,bq,br,seval,aG, *]|refine wz ?_|fail)
theorem A7m:aB Tryz.prog G 92 [.nil] (.bool true):=by
 intro σ
 refine aJ.of_awp mixed Tryz.func92 rfl (by kernel_rfl) (by kernel_rfl) (by simp[Tryz.ntmps92]) Tryz.results92 ?_
 repeat'(first|refine xs ?_ ?_ <;>intros|(refine wn ?_;intro bx hbx;try simp only[fb]at hbx)|((refine eS (σ0:=σ) E5t.2.2.2.2.2.2 (by omega) (by simp) (AS.le.refl σ) (fun v2 σ2 hB2 hx2=> ?_);have hle2:=hB2.le;clear hB2 hx2))|(((first|refine aD mixed (fun n e=>e 14= .int .i64 0) 0 (by simp -dsimp only[↓bp,bq,br,seval,aG];first|done|rfl) ?_|refine aD mixed (fun n e=>e 11= .int .i64 0) 0 (by simp -dsimp only[↓bp,bq,br,seval,aG];first|done|rfl) ?_|refine aD mixed (fun n e=>e 9= .int .i64 0) 0 (by simp -dsimp only[↓bp,bq,br,seval,aG];first|done|rfl) ?_|refine aD mixed (fun n e=>e 6= .int .i64 0) 0 (by simp -dsimp only[↓bp,bq,br,seval,aG];first|done|rfl) ?_|refine aD mixed (fun n e=>e 3= .int .i64 0) 0 (by simp -dsimp only[↓bp,bq,br,seval,aG];first|done|rfl) ?_);rintro n v h;simp -dsimp only[↓bp,bq,br,seval,aG]at h))|refine wj ?_|simp -dsimp only[↓bp,bq,br,seval,aG, *]|refine wz ?_|fail)
theorem A7r:aB Tryz.prog G 93 [.nil] (.bool true):=by
 intro σ
 refine aJ.of_awp mixed Tryz.func93 rfl (by kernel_rfl) (by kernel_rfl) (by simp[Tryz.ntmps93]) Tryz.results93 ?_
 repeat'(first|refine xs ?_ ?_ <;>intros|(refine wn ?_;intro bx hbx;try simp only[fb]at hbx)|((refine eS (σ0:=σ) E5u.2.2.2.2.2.2 (by omega) (by simp) (AS.le.refl σ) (fun v2 σ2 hB2 hx2=> ?_);have hle2:=hB2.le;clear hB2 hx2))|(((first|refine aD mixed (fun n e=>e 14= .int .i64 0) 0 (by simp -dsimp only[↓bp,bq,br,seval,aG];first|done|rfl) ?_|refine aD mixed (fun n e=>e 11= .int .i64 0) 0 (by simp -dsimp only[↓bp,bq,br,seval,aG];first|done|rfl) ?_|refine aD mixed (fun n e=>e 9= .int .i64 0) 0 (by simp -dsimp only[↓bp,bq,br,seval,aG];first|done|rfl) ?_|refine aD mixed (fun n e=>e 6= .int .i64 0) 0 (by simp -dsimp only[↓bp,bq,br,seval,aG];first|done|rfl) ?_|refine aD mixed (fun n e=>e 3= .int .i64 0) 0 (by simp -dsimp only[↓bp,bq,br,seval,aG];first|done|rfl) ?_);rintro n v h;simp -dsimp only[↓bp,bq,br,seval,aG]at h))|refine wj ?_|simp -dsimp only[↓bp,bq,br,seval,aG, *]|refine wz ?_|fail)
theorem A7h:aB Tryz.prog G 94 [.nil] (.bool true):=by
 intro σ
 refine aJ.of_awp mixed Tryz.func94 rfl (by kernel_rfl) (by kernel_rfl) (by simp[Tryz.ntmps94]) Tryz.results94 ?_
 repeat'(first|refine xs ?_ ?_ <;>intros|(refine wn ?_;intro bx hbx;try simp only[fb]at hbx)|((refine eS (σ0:=σ) E5v.2.2.2.2.2.2 (by omega) (by simp) (AS.le.refl σ) (fun v2 σ2 hB2 hx2=> ?_);have hle2:=hB2.le;clear hB2 hx2))|(((first|refine aD mixed (fun n e=>e 14= .int .i64 0) 0 (by simp -dsimp only[↓bp,bq,br,seval,aG];first|done|rfl) ?_|refine aD mixed (fun n e=>e 11= .int .i64 0) 0 (by simp -dsimp only[↓bp,bq,br,seval,aG];first|done|rfl) ?_|refine aD mixed (fun n e=>e 9= .int .i64 0) 0 (by simp -dsimp only[↓bp,bq,br,seval,aG];first|done|rfl) ?_|refine aD mixed (fun n e=>e 6= .int .i64 0) 0 (by simp -dsimp only[↓bp,bq,br,seval,aG];first|done|rfl) ?_|refine aD mixed (fun n e=>e 3= .int .i64 0) 0 (by simp -dsimp only[↓bp,bq,br,seval,aG];first|done|rfl) ?_);rintro n v h;simp -dsimp only[↓bp,bq,br,seval,aG]at h))|refine wj ?_|simp -dsimp only[↓bp,bq,br,seval,aG, *]|refine wz ?_|fail)
theorem A4r:aB Tryz.prog G 95 [.nil] (.bool true):=by
 intro σ
 refine aJ.of_awp mixed Tryz.func95 rfl (by kernel_rfl) (by kernel_rfl) (by simp[Tryz.ntmps95]) Tryz.results95 ?_
 repeat'(first|refine xs ?_ ?_ <;>intros|(refine wn ?_;intro bx hbx;try simp only[fb]at hbx)|((refine eS (σ0:=σ) E5w.2.2.2.2.2.2 (by omega) (by simp) (AS.le.refl σ) (fun v2 σ2 hB2 hx2=> ?_);have hle2:=hB2.le;clear hB2 hx2))|(((first|refine aD mixed (fun n e=>e 14= .int .i64 0) 0 (by simp -dsimp only[↓bp,bq,br,seval,aG];first|done|rfl) ?_|refine aD mixed (fun n e=>e 11= .int .i64 0) 0 (by simp -dsimp only[↓bp,bq,br,seval,aG];first|done|rfl) ?_|refine aD mixed (fun n e=>e 9= .int .i64 0) 0 (by simp -dsimp only[↓bp,bq,br,seval,aG];first|done|rfl) ?_|refine aD mixed (fun n e=>e 6= .int .i64 0) 0 (by simp -dsimp only[↓bp,bq,br,seval,aG];first|done|rfl) ?_|refine aD mixed (fun n e=>e 3= .int .i64 0) 0 (by simp -dsimp only[↓bp,bq,br,seval,aG];first|done|rfl) ?_);rintro n v h;simp -dsimp only[↓bp,bq,br,seval,aG]at h))|refine wj ?_|simp -dsimp only[↓bp,bq,br,seval,aG, *]|refine wz ?_|fail)
theorem A4v:aB Tryz.prog G 97 [.nil] (.bool true):=by
 intro σ
 refine aJ.of_awp mixed Tryz.func97 rfl (by kernel_rfl) (by kernel_rfl) (by simp[Tryz.ntmps97]) Tryz.results97 ?_
 repeat'(first|refine xs ?_ ?_ <;>intros|(refine wn ?_;intro bx hbx;try simp only[fb]at hbx)|((refine eS (σ0:=σ) E5x.2.2.2.2.2.2 (by omega) (by simp) (AS.le.refl σ) (fun v2 σ2 hB2 hx2=> ?_);have hle2:=hB2.le;clear hB2 hx2))|(((first|refine aD mixed (fun n e=>e 14= .int .i64 0) 0 (by simp -dsimp only[↓bp,bq,br,seval,aG];first|done|rfl) ?_|refine aD mixed (fun n e=>e 11= .int .i64 0) 0 (by simp -dsimp only[↓bp,bq,br,seval,aG];first|done|rfl) ?_|refine aD mixed (fun n e=>e 9= .int .i64 0) 0 (by simp -dsimp only[↓bp,bq,br,seval,aG];first|done|rfl) ?_|refine aD mixed (fun n e=>e 6= .int .i64 0) 0 (by simp -dsimp only[↓bp,bq,br,seval,aG];first|done|rfl) ?_|refine aD mixed (fun n e=>e 3= .int .i64 0) 0 (by simp -dsimp only[↓bp,bq,br,seval,aG];first|done|rfl) ?_);rintro n v h;simp -dsimp only[↓bp,bq,br,seval,aG]at h))|refine wj ?_|simp -dsimp only[↓bp,bq,br,seval,aG, *]|refine wz ?_|fail)
theorem A7n:aB Tryz.prog G 98 [.nil] (.bool true):=by
 intro σ
 refine aJ.of_awp mixed Tryz.func98 rfl (by kernel_rfl) (by kernel_rfl) (by simp[Tryz.ntmps98]) Tryz.results98 ?_
 repeat'(first|refine xs ?_ ?_ <;>intros|(refine wn ?_;intro bx hbx;try simp only[fb]at hbx)|((refine eS (σ0:=σ) E5y.2.2.2.2.2.2 (by omega) (by simp) (AS.le.refl σ) (fun v2 σ2 hB2 hx2=> ?_);have hle2:=hB2.le;clear hB2 hx2))|(((first|refine aD mixed (fun n e=>e 14= .int .i64 0) 0 (by simp -dsimp only[↓bp,bq,br,seval,aG];first|done|rfl) ?_|refine aD mixed (fun n e=>e 11= .int .i64 0) 0 (by simp -dsimp only[↓bp,bq,br,seval,aG];first|done|rfl) ?_|refine aD mixed (fun n e=>e 9= .int .i64 0) 0 (by simp -dsimp only[↓bp,bq,br,seval,aG];first|done|rfl) ?_|refine aD mixed (fun n e=>e 6= .int .i64 0) 0 (by simp -dsimp only[↓bp,bq,br,seval,aG];first|done|rfl) ?_|refine aD mixed (fun n e=>e 3= .int .i64 0) 0 (by simp -dsimp only[↓bp,bq,br,seval,aG];first|done|rfl) ?_);rintro n v h;simp -dsimp only[↓bp,bq,br,seval,aG]at h))|refine wj ?_|simp -dsimp only[↓bp,bq,br,seval,aG, *]|refine wz ?_|fail)
theorem A7j:aB Tryz.prog G 99 [.nil] (.bool true):=by
 intro σ
 refine aJ.of_awp mixed Tryz.func99 rfl (by kernel_rfl) (by kernel_rfl) (by simp[Tryz.ntmps99]) Tryz.results99 ?_
 repeat'(first|refine xs ?_ ?_ <;>intros|(refine wn ?_;intro bx hbx;try simp only[fb]at hbx)|((refine eS (σ0:=σ) E5z.2.2.2.2.2.2 (by omega) (by simp) (AS.le.refl σ) (fun v2 σ2 hB2 hx2=> ?_);have hle2:=hB2.le;clear hB2 hx2))|(((first|refine aD mixed (fun n e=>e 14= .int .i64 0) 0 (by simp -dsimp only[↓bp,bq,br,seval,aG];first|done|rfl) ?_|refine aD mixed (fun n e=>e 11= .int .i64 0) 0 (by simp -dsimp only[↓bp,bq,br,seval,aG];first|done|rfl) ?_|refine aD mixed (fun n e=>e 9= .int .i64 0) 0 (by simp -dsimp only[↓bp,bq,br,seval,aG];first|done|rfl) ?_|refine aD mixed (fun n e=>e 6= .int .i64 0) 0 (by simp -dsimp only[↓bp,bq,br,seval,aG];first|done|rfl) ?_|refine aD mixed (fun n e=>e 3= .int .i64 0) 0 (by simp -dsimp only[↓bp,bq,br,seval,aG];first|done|rfl) ?_);rintro n v h;simp -dsimp only[↓bp,bq,br,seval,aG]at h))|refine wj ?_|simp -dsimp only[↓bp,bq,br,seval,aG, *]|refine wz ?_|fail)
theorem A7k:aB Tryz.prog G 100 [.nil] (.bool true):=by
 intro σ
 refine aJ.of_awp mixed Tryz.func100 rfl (by kernel_rfl) (by kernel_rfl) (by simp[Tryz.ntmps100]) Tryz.results100 ?_
 repeat'(first|refine xs ?_ ?_ <;>intros|(refine wn ?_;intro bx hbx;try simp only[fb]at hbx)|((refine eS (σ0:=σ) E6a.2.2.2.2.2.2 (by omega) (by simp) (AS.le.refl σ) (fun v2 σ2 hB2 hx2=> ?_);have hle2:=hB2.le;clear hB2 hx2))|(((first|refine aD mixed (fun n e=>e 14= .int .i64 0) 0 (by simp -dsimp only[↓bp,bq,br,seval,aG];first|done|rfl) ?_|refine aD mixed (fun n e=>e 11= .int .i64 0) 0 (by simp -dsimp only[↓bp,bq,br,seval,aG];first|done|rfl) ?_|refine aD mixed (fun n e=>e 9= .int .i64 0) 0 (by simp -dsimp only[↓bp,bq,br,seval,aG];first|done|rfl) ?_|refine aD mixed (fun n e=>e 6= .int .i64 0) 0 (by simp -dsimp only[↓bp,bq,br,seval,aG];first|done|rfl) ?_|refine aD mixed (fun n e=>e 3= .int .i64 0) 0 (by simp -dsimp only[↓bp,bq,br,seval,aG];first|done|rfl) ?_);rintro n v h;simp -dsimp only[↓bp,bq,br,seval,aG]at h))|refine wj ?_|simp -dsimp only[↓bp,bq,br,seval,aG, *]|refine wz ?_|fail)
theorem A0g:aB Tryz.prog G 101 [.nil] (.bool true):=by
 intro σ
 refine aJ.of_awp mixed Tryz.func101 rfl (by kernel_rfl) (by kernel_rfl) (by simp[Tryz.ntmps101]) Tryz.results101 ?_
 repeat'(first|refine xs ?_ ?_ <;>intros|(refine wn ?_;intro bx hbx;try simp only[fb]at hbx)|((refine eS (σ0:=σ) E6b.2.2.2.2.2.2 (by omega) (by simp) (AS.le.refl σ) (fun v2 σ2 hB2 hx2=> ?_);have hle2:=hB2.le;clear hB2 hx2))|(((first|refine aD mixed (fun n e=>e 14= .int .i64 0) 0 (by simp -dsimp only[↓bp,bq,br,seval,aG];first|done|rfl) ?_|refine aD mixed (fun n e=>e 11= .int .i64 0) 0 (by simp -dsimp only[↓bp,bq,br,seval,aG];first|done|rfl) ?_|refine aD mixed (fun n e=>e 9= .int .i64 0) 0 (by simp -dsimp only[↓bp,bq,br,seval,aG];first|done|rfl) ?_|refine aD mixed (fun n e=>e 6= .int .i64 0) 0 (by simp -dsimp only[↓bp,bq,br,seval,aG];first|done|rfl) ?_|refine aD mixed (fun n e=>e 3= .int .i64 0) 0 (by simp -dsimp only[↓bp,bq,br,seval,aG];first|done|rfl) ?_);rintro n v h;simp -dsimp only[↓bp,bq,br,seval,aG]at h))|refine wj ?_|simp -dsimp only[↓bp,bq,br,seval,aG, *]|refine wz ?_|fail)
theorem A4s:aB Tryz.prog G 102 [.nil] (.bool true):=by
 intro σ
 refine aJ.of_awp mixed Tryz.func102 rfl (by kernel_rfl) (by kernel_rfl) (by simp[Tryz.ntmps102]) Tryz.results102 ?_
 repeat'(first|refine xs ?_ ?_ <;>intros|(refine wn ?_;intro bx hbx;try simp only[fb]at hbx)|((refine eS (σ0:=σ) E6c.2.2.2.2.2.2 (by omega) (by simp) (AS.le.refl σ) (fun v2 σ2 hB2 hx2=> ?_);have hle2:=hB2.le;clear hB2 hx2))|(((first|refine aD mixed (fun n e=>e 14= .int .i64 0) 0 (by simp -dsimp only[↓bp,bq,br,seval,aG];first|done|rfl) ?_|refine aD mixed (fun n e=>e 11= .int .i64 0) 0 (by simp -dsimp only[↓bp,bq,br,seval,aG];first|done|rfl) ?_|refine aD mixed (fun n e=>e 9= .int .i64 0) 0 (by simp -dsimp only[↓bp,bq,br,seval,aG];first|done|rfl) ?_|refine aD mixed (fun n e=>e 6= .int .i64 0) 0 (by simp -dsimp only[↓bp,bq,br,seval,aG];first|done|rfl) ?_|refine aD mixed (fun n e=>e 3= .int .i64 0) 0 (by simp -dsimp only[↓bp,bq,br,seval,aG];first|done|rfl) ?_);rintro n v h;simp -dsimp only[↓bp,bq,br,seval,aG]at h))|refine wj ?_|simp -dsimp only[↓bp,bq,br,seval,aG, *]|refine wz ?_|fail)
theorem A2o:aB Tryz.prog G 103 [.nil] (.bool true):=by
 intro σ
 refine aJ.of_awp mixed Tryz.func103 rfl (by kernel_rfl) (by kernel_rfl) (by simp[Tryz.ntmps103]) Tryz.results103 ?_
 repeat'(first|refine xs ?_ ?_ <;>intros|(refine wn ?_;intro bx hbx;try simp only[fb]at hbx)|((refine eS (σ0:=σ) E6d.2.2.2.2.2.2 (by omega) (by simp) (AS.le.refl σ) (fun v2 σ2 hB2 hx2=> ?_);have hle2:=hB2.le;clear hB2 hx2))|(((first|refine aD mixed (fun n e=>e 14= .int .i64 0) 0 (by simp -dsimp only[↓bp,bq,br,seval,aG];first|done|rfl) ?_|refine aD mixed (fun n e=>e 11= .int .i64 0) 0 (by simp -dsimp only[↓bp,bq,br,seval,aG];first|done|rfl) ?_|refine aD mixed (fun n e=>e 9= .int .i64 0) 0 (by simp -dsimp only[↓bp,bq,br,seval,aG];first|done|rfl) ?_|refine aD mixed (fun n e=>e 6= .int .i64 0) 0 (by simp -dsimp only[↓bp,bq,br,seval,aG];first|done|rfl) ?_|refine aD mixed (fun n e=>e 3= .int .i64 0) 0 (by simp -dsimp only[↓bp,bq,br,seval,aG];first|done|rfl) ?_);rintro n v h;simp -dsimp only[↓bp,bq,br,seval,aG]at h))|refine wj ?_|simp -dsimp only[↓bp,bq,br,seval,aG, *]|refine wz ?_|fail)
theorem A7i:aB Tryz.prog G 104 [.nil] (.bool true):=by
 intro σ
 refine aJ.of_awp mixed Tryz.func104 rfl (by kernel_rfl) (by kernel_rfl) (by simp[Tryz.ntmps104]) Tryz.results104 ?_
 repeat'(first|refine xs ?_ ?_ <;>intros|(refine wn ?_;intro bx hbx;try simp only[fb]at hbx)|((refine eS (σ0:=σ) E6e.2.2.2.2.2.2 (by omega) (by simp) (AS.le.refl σ) (fun v2 σ2 hB2 hx2=> ?_);have hle2:=hB2.le;clear hB2 hx2))|(((first|refine aD mixed (fun n e=>e 14= .int .i64 0) 0 (by simp -dsimp only[↓bp,bq,br,seval,aG];first|done|rfl) ?_|refine aD mixed (fun n e=>e 11= .int .i64 0) 0 (by simp -dsimp only[↓bp,bq,br,seval,aG];first|done|rfl) ?_|refine aD mixed (fun n e=>e 9= .int .i64 0) 0 (by simp -dsimp only[↓bp,bq,br,seval,aG];first|done|rfl) ?_|refine aD mixed (fun n e=>e 6= .int .i64 0) 0 (by simp -dsimp only[↓bp,bq,br,seval,aG];first|done|rfl) ?_|refine aD mixed (fun n e=>e 3= .int .i64 0) 0 (by simp -dsimp only[↓bp,bq,br,seval,aG];first|done|rfl) ?_);rintro n v h;simp -dsimp only[↓bp,bq,br,seval,aG]at h))|refine wj ?_|simp -dsimp only[↓bp,bq,br,seval,aG, *]|refine wz ?_|fail)
theorem A7p:aB Tryz.prog G 105 [.nil] (.bool true):=by
 intro σ
 refine aJ.of_awp mixed Tryz.func105 rfl (by kernel_rfl) (by kernel_rfl) (by simp[Tryz.ntmps105]) Tryz.results105 ?_
 repeat'(first|refine xs ?_ ?_ <;>intros|(refine wn ?_;intro bx hbx;try simp only[fb]at hbx)|((refine eS (σ0:=σ) E6f.2.2.2.2.2.2 (by omega) (by simp) (AS.le.refl σ) (fun v2 σ2 hB2 hx2=> ?_);have hle2:=hB2.le;clear hB2 hx2))|(((first|refine aD mixed (fun n e=>e 14= .int .i64 0) 0 (by simp -dsimp only[↓bp,bq,br,seval,aG];first|done|rfl) ?_|refine aD mixed (fun n e=>e 11= .int .i64 0) 0 (by simp -dsimp only[↓bp,bq,br,seval,aG];first|done|rfl) ?_|refine aD mixed (fun n e=>e 9= .int .i64 0) 0 (by simp -dsimp only[↓bp,bq,br,seval,aG];first|done|rfl) ?_|refine aD mixed (fun n e=>e 6= .int .i64 0) 0 (by simp -dsimp only[↓bp,bq,br,seval,aG];first|done|rfl) ?_|refine aD mixed (fun n e=>e 3= .int .i64 0) 0 (by simp -dsimp only[↓bp,bq,br,seval,aG];first|done|rfl) ?_);rintro n v h;simp -dsimp only[↓bp,bq,br,seval,aG]at h))|refine wj ?_|simp -dsimp only[↓bp,bq,br,seval,aG, *]|refine wz ?_|fail)
theorem A4q:aB Tryz.prog G 106 [.nil] (.bool true):=by
 intro σ
 refine aJ.of_awp mixed Tryz.func106 rfl (by kernel_rfl) (by kernel_rfl) (by simp[Tryz.ntmps106]) Tryz.results106 ?_
 repeat'(first|refine xs ?_ ?_ <;>intros|(refine wn ?_;intro bx hbx;try simp only[fb]at hbx)|((refine eS (σ0:=σ) E6g.2.2.2.2.2.2 (by omega) (by simp) (AS.le.refl σ) (fun v2 σ2 hB2 hx2=> ?_);have hle2:=hB2.le;clear hB2 hx2))|(((first|refine aD mixed (fun n e=>e 14= .int .i64 0) 0 (by simp -dsimp only[↓bp,bq,br,seval,aG];first|done|rfl) ?_|refine aD mixed (fun n e=>e 11= .int .i64 0) 0 (by simp -dsimp only[↓bp,bq,br,seval,aG];first|done|rfl) ?_|refine aD mixed (fun n e=>e 9= .int .i64 0) 0 (by simp -dsimp only[↓bp,bq,br,seval,aG];first|done|rfl) ?_|refine aD mixed (fun n e=>e 6= .int .i64 0) 0 (by simp -dsimp only[↓bp,bq,br,seval,aG];first|done|rfl) ?_|refine aD mixed (fun n e=>e 3= .int .i64 0) 0 (by simp -dsimp only[↓bp,bq,br,seval,aG];first|done|rfl) ?_);rintro n v h;simp -dsimp only[↓bp,bq,br,seval,aG]at h))|refine wj ?_|simp -dsimp only[↓bp,bq,br,seval,aG, *]|refine wz ?_|fail)
theorem A4u:aB Tryz.prog G 107 [.nil] (.bool true):=by
 intro σ
 refine aJ.of_awp mixed Tryz.func107 rfl (by kernel_rfl) (by kernel_rfl) (by simp[Tryz.ntmps107]) Tryz.results107 ?_
 repeat'(first|refine xs ?_ ?_ <;>intros|(refine wn ?_;intro bx hbx;try simp only[fb]at hbx)|((refine eS (σ0:=σ) E6h.2.2.2.2.2.2 (by omega) (by simp) (AS.le.refl σ) (fun v2 σ2 hB2 hx2=> ?_);have hle2:=hB2.le;clear hB2 hx2))|(((first|refine aD mixed (fun n e=>e 14= .int .i64 0) 0 (by simp -dsimp only[↓bp,bq,br,seval,aG];first|done|rfl) ?_|refine aD mixed (fun n e=>e 11= .int .i64 0) 0 (by simp -dsimp only[↓bp,bq,br,seval,aG];first|done|rfl) ?_|refine aD mixed (fun n e=>e 9= .int .i64 0) 0 (by simp -dsimp only[↓bp,bq,br,seval,aG];first|done|rfl) ?_|refine aD mixed (fun n e=>e 6= .int .i64 0) 0 (by simp -dsimp only[↓bp,bq,br,seval,aG];first|done|rfl) ?_|refine aD mixed (fun n e=>e 3= .int .i64 0) 0 (by simp -dsimp only[↓bp,bq,br,seval,aG];first|done|rfl) ?_);rintro n v h;simp -dsimp only[↓bp,bq,br,seval,aG]at h))|refine wj ?_|simp -dsimp only[↓bp,bq,br,seval,aG, *]|refine wz ?_|fail)
theorem A7o:aB Tryz.prog G 108 [.nil] (.bool true):=by
 intro σ
 refine aJ.of_awp mixed Tryz.func108 rfl (by kernel_rfl) (by kernel_rfl) (by simp[Tryz.ntmps108]) Tryz.results108 ?_
 repeat'(first|refine xs ?_ ?_ <;>intros|(refine wn ?_;intro bx hbx;try simp only[fb]at hbx)|((refine eS (σ0:=σ) E6i.2.2.2.2.2.2 (by omega) (by simp) (AS.le.refl σ) (fun v2 σ2 hB2 hx2=> ?_);have hle2:=hB2.le;clear hB2 hx2))|(((first|refine aD mixed (fun n e=>e 14= .int .i64 0) 0 (by simp -dsimp only[↓bp,bq,br,seval,aG];first|done|rfl) ?_|refine aD mixed (fun n e=>e 11= .int .i64 0) 0 (by simp -dsimp only[↓bp,bq,br,seval,aG];first|done|rfl) ?_|refine aD mixed (fun n e=>e 9= .int .i64 0) 0 (by simp -dsimp only[↓bp,bq,br,seval,aG];first|done|rfl) ?_|refine aD mixed (fun n e=>e 6= .int .i64 0) 0 (by simp -dsimp only[↓bp,bq,br,seval,aG];first|done|rfl) ?_|refine aD mixed (fun n e=>e 3= .int .i64 0) 0 (by simp -dsimp only[↓bp,bq,br,seval,aG];first|done|rfl) ?_);rintro n v h;simp -dsimp only[↓bp,bq,br,seval,aG]at h))|refine wj ?_|simp -dsimp only[↓bp,bq,br,seval,aG, *]|refine wz ?_|fail)
end
end Go.Proofs.YtdhbdhopnpmboaaGreatDoor
