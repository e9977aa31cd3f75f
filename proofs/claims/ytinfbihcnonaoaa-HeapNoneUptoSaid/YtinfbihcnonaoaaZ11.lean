/- Comparing: amounts, integers; rows of terms; the order of terms. -/
import Derived.Test.YtinfbihcnonaoaaZ10
set_option linter.unusedVariables false
set_option linter.unusedSimpArgs false
set_option maxRecDepth 20000
set_option linter.defProp false
namespace Go.Proofs.Ytinfbihcnonaoaa
open Go Go.Av
section
def dK:=And.intro (And.intro (And.intro (And.intro @jN (And.intro @kI @kJ)) (And.intro @eW (And.intro @jO @eJ))) (And.intro (And.intro @eY (And.intro @eQ @eZ)) (And.intro @gC (And.intro @aE.flat_enc @aE.isv_enc)))) (And.intro (And.intro (And.intro @aE.fold_enc (And.intro @aW @aO)) (And.intro @aX (And.intro @bP @dN))) (And.intro (And.intro @aP (And.intro @aM @aQ)) (And.intro (And.intro @bJ @dD) (And.intro @cJ @iY))))
variable (G:Nat ->AV)
def amt(a b:List UInt32):Int:=if(a.length:Int) ≠ b.length then(a.length:Int) - b.length else pL a.reverse b.reverse
theorem wB(a b:List UInt32)(ha:a.length <=1000000000)(hb:b.length <=1000000000):aN Try.prog G 100 [cO a,cO b] (.int .i64 (amt a b)):=by
 have hw:IntKind.i64.wrap ((a.length:Int) - b.length)=a.length - b.length:=aF (by omega) (by omega)
 have hw2:IntKind.i64.wrap ((a.length:Int) - 1)=a.length - 1:=aF (by omega) (by omega)
 have hw2b:IntKind.i64.wrap ((b.length:Int) - 1)=b.length - 1:=aF (by omega) (by omega)
 intro σ
 by_cases hne:(a.length:Int)=b.length
 ·have hamt:amt a b=pL a.reverse b.reverse:=by unfold amt;rw[if_neg (by simpa using hne)]
  rw[hamt]
  refine aH.of_awp aG Try.func100 rfl (by kernel_rfl) (by kernel_rfl) (by simp[Try.ntmps100]) Try.results100 ?_
  repeat'(first|refine xs ?_ ?_ <;>intros|(refine wn ?_;intro bx hbx;try simp only[fb]at hbx)|refine bE ?_|(refine aB ?_;intro bx hbx;(try simp only[fb]at hbx))|refine aD ?_|((with_reducible refine And.intro ?_ ?_);omega)|refine aA (d':=⟨⟩) ?_|refine bG (by kernel_rfl) ?_|refine bD ?_ (by repeat' first|exact lr _|assumption|refine ls ?_ ?_|refine lt ?_ ?_|simp only[*];done|simp only[fb, *,not_false_eq_true,and_self];done|exact lf ‹_› (by simp only[*]))|refine aC ?_ (by repeat' first|exact lr _|assumption|refine ls ?_ ?_|refine lt ?_ ?_|simp only[*];done|simp only[fb, *,not_false_eq_true,and_self];done|exact lf ‹_› (by simp only[*]))|simp -dsimp only[↓bp,bq,br,seval,dK, *]|refine wz ?_|fail)
  refine pR aG (fun k e=>k <=a.length /\ e 5= .int .i64 ((k:Int) - 1) /\ pL (a.take k).reverse (b.take k).reverse=pL a.reverse b.reverse) a.length
   ⟨by omega,by first|(simp -dsimp only[↓bp,bq,br,seval,dK,hw2,hw2b,hne];done)|(simp -dsimp only[↓bp,bq,br,seval,dK,hw2,hw2b,hne];try rfl),by rw[List.take_length,show a.length=b.length by omega,List.take_length]⟩ ?_
  rintro k v ⟨hk,h5,hc⟩
  simp -dsimp only[↓bp,bq,br,seval,dK]at h5
  cases k with
  | zero=>
   simp at h5
   simp only[List.take_zero,List.reverse_nil,pL]at hc
   rw[<- hc]
   clear hk hc
   repeat'(first|refine xs ?_ ?_ <;>intros|(refine wn ?_;intro bx hbx;try simp only[fb]at hbx)|refine bE ?_|(refine aB ?_;intro bx hbx;(try simp only[fb]at hbx))|refine aD ?_|((with_reducible refine And.intro ?_ ?_);omega)|refine aA (d':=⟨⟩) ?_|refine bG (by kernel_rfl) ?_|refine bD ?_ (by repeat' first|exact lr _|assumption|refine ls ?_ ?_|refine lt ?_ ?_|simp only[*];done|simp only[fb, *,not_false_eq_true,and_self];done|exact lf ‹_› (by simp only[*]))|refine aC ?_ (by repeat' first|exact lr _|assumption|refine ls ?_ ?_|refine lt ?_ ?_|simp only[*];done|simp only[fb, *,not_false_eq_true,and_self];done|exact lf ‹_› (by simp only[*]))|simp -dsimp only[↓bp,bq,br,seval,dK, *]|refine wz ?_|fail)
   all_goals rfl
  | succ k=>
   have e5:((k+1:Nat):Int) - 1=k:=by omega
   rw[e5]at h5
   obtain⟨x,hx⟩:∃ x,a[k]? =some x:=⟨_,List.getElem?_eq_getElem (by omega)⟩
   obtain⟨y,hy⟩:∃ y,b[k]? =some y:=⟨_,List.getElem?_eq_getElem (by omega)⟩
   rw[bV _ _ _ hx,bV _ _ _ hy,List.reverse_append,List.reverse_append]at hc
   simp only[List.reverse_cons,List.reverse_nil,List.nil_append,List.cons_append,pL]at hc
   have h0:(0:Int) <=k:=by omega
   have hwk:IntKind.i64.wrap ((k:Int) - 1)=k - 1:=aF (by omega) (by omega)
   by_cases c1:(x.toNat:Int) < y.toNat
   ·have:pL a.reverse b.reverse= -1:=by rw[<- hc];simp[lex,dB,c1]
    rw[this]
    clear hc hk
    repeat'(first|refine xs ?_ ?_ <;>intros|(refine wn ?_;intro bx hbx;try simp only[fb]at hbx)|refine bE ?_|(refine aB ?_;intro bx hbx;(try simp only[fb]at hbx))|refine aD ?_|((with_reducible refine And.intro ?_ ?_);omega)|refine aA (d':=⟨⟩) ?_|refine bG (by kernel_rfl) ?_|refine bD ?_ (by repeat' first|exact lr _|assumption|refine ls ?_ ?_|refine lt ?_ ?_|simp only[*];done|simp only[fb, *,not_false_eq_true,and_self];done|exact lf ‹_› (by simp only[*]))|refine aC ?_ (by repeat' first|exact lr _|assumption|refine ls ?_ ?_|refine lt ?_ ?_|simp only[*];done|simp only[fb, *,not_false_eq_true,and_self];done|exact lf ‹_› (by simp only[*]))|simp -dsimp only[↓bp,bq,br,seval,dK,kV, *]|refine wz ?_|fail)
    all_goals rfl
   ·by_cases c2:(y.toNat:Int) < x.toNat
    ·have:pL a.reverse b.reverse=1:=by rw[<- hc];simp[lex,dB,c1,c2]
     rw[this]
     clear hc hk
     repeat'(first|refine xs ?_ ?_ <;>intros|(refine wn ?_;intro bx hbx;try simp only[fb]at hbx)|refine bE ?_|(refine aB ?_;intro bx hbx;(try simp only[fb]at hbx))|refine aD ?_|((with_reducible refine And.intro ?_ ?_);omega)|refine aA (d':=⟨⟩) ?_|refine bG (by kernel_rfl) ?_|refine bD ?_ (by repeat' first|exact lr _|assumption|refine ls ?_ ?_|refine lt ?_ ?_|simp only[*];done|simp only[fb, *,not_false_eq_true,and_self];done|exact lf ‹_› (by simp only[*]))|refine aC ?_ (by repeat' first|exact lr _|assumption|refine ls ?_ ?_|refine lt ?_ ?_|simp only[*];done|simp only[fb, *,not_false_eq_true,and_self];done|exact lf ‹_› (by simp only[*]))|simp -dsimp only[↓bp,bq,br,seval,dK,kV, *]|refine wz ?_|fail)
     all_goals rfl
    ·have hc2:pL (a.take k).reverse (b.take k).reverse=pL a.reverse b.reverse:=by rw[<- hc];simp[lex,dB,c1,c2]
     clear hc hk
     have hkk:k <=a.length:=by have:=(List.getElem?_eq_some_iff.1 hx).1;omega
     repeat'(first|refine xs ?_ ?_ <;>intros|(refine wn ?_;intro bx hbx;try simp only[fb]at hbx)|refine bE ?_|(refine aB ?_;intro bx hbx;(try simp only[fb]at hbx))|refine aD ?_|((with_reducible refine And.intro ?_ ?_);omega)|refine aA (d':=⟨⟩) ?_|refine bG (by kernel_rfl) ?_|refine bD ?_ (by repeat' first|exact lr _|assumption|refine ls ?_ ?_|refine lt ?_ ?_|simp only[*];done|simp only[fb, *,not_false_eq_true,and_self];done|exact lf ‹_› (by simp only[*]))|refine aC ?_ (by repeat' first|exact lr _|assumption|refine ls ?_ ?_|refine lt ?_ ?_|simp only[*];done|simp only[fb, *,not_false_eq_true,and_self];done|exact lf ‹_› (by simp only[*]))|simp -dsimp only[↓bp,bq,br,seval,dK,kV, *]|refine wz ?_|fail)
     all_goals exact⟨k,by omega,by omega,rfl,hc2⟩
 ·have hamt:amt a b=(a.length:Int) - b.length:=by unfold amt;rw[if_pos (by simpa using hne)]
  rw[hamt]
  have hne':=eq_false hne
  clear hne
  refine aH.of_awp aG Try.func100 rfl (by kernel_rfl) (by kernel_rfl) (by simp[Try.ntmps100]) Try.results100 ?_
  repeat'(first|refine xs ?_ ?_ <;>intros|(refine wn ?_;intro bx hbx;try simp only[fb]at hbx)|refine bE ?_|(refine aB ?_;intro bx hbx;(try simp only[fb]at hbx))|refine aD ?_|((with_reducible refine And.intro ?_ ?_);omega)|refine aA (d':=⟨⟩) ?_|refine bG (by kernel_rfl) ?_|refine bD ?_ (by repeat' first|exact lr _|assumption|refine ls ?_ ?_|refine lt ?_ ?_|simp only[*];done|simp only[fb, *,not_false_eq_true,and_self];done|exact lf ‹_› (by simp only[*]))|refine aC ?_ (by repeat' first|exact lr _|assumption|refine ls ?_ ?_|refine lt ?_ ?_|simp only[*];done|simp only[fb, *,not_false_eq_true,and_self];done|exact lf ‹_› (by simp only[*]))|simp -dsimp only[↓bp,bq,br,seval,dK, *]|refine wz ?_|fail)
  all_goals rfl
theorem vF(t:aE):aN Try.prog G 99 [t.enc] (.int .i64 (sgn t)):=by
 intro σ
 refine aH.of_awp aG Try.func99 rfl (by kernel_rfl) (by kernel_rfl) (by simp[Try.ntmps99]) Try.results99 ?_
 repeat'(first|refine xs ?_ ?_ <;>intros|(refine wn ?_;intro bx hbx;try simp only[fb]at hbx)|refine bE ?_|(refine aB ?_;intro bx hbx;(try simp only[fb]at hbx))|refine aD ?_|((with_reducible refine And.intro ?_ ?_);omega)|refine aA (d':=⟨⟩) ?_|refine bG (by kernel_rfl) ?_|refine bD ?_ (by repeat' first|exact lr _|assumption|refine ls ?_ ?_|refine lt ?_ ?_|simp only[*];done|simp only[fb, *,not_false_eq_true,and_self];done|exact lf ‹_› (by simp only[*]))|refine aC ?_ (by repeat' first|exact lr _|assumption|refine ls ?_ ?_|refine lt ?_ ?_|simp only[*];done|simp only[fb, *,not_false_eq_true,and_self];done|exact lf ‹_› (by simp only[*]))|simp -dsimp only[↓bp,bq,br,seval,dK, *]|refine wz ?_|fail)
 all_goals simp_all [sgn]
theorem B6p(a b:List UInt32):(amt a b < 0 ↔ A2j a b= -1) /\ (amt a b=0 ↔ A2j a b=0) /\ (0 < amt a b ↔ A2j a b=1):=by
 have hr:=A2l a.reverse b.reverse
 unfold amt A2j lex dB
 unfold R3 at hr
 by_cases h1:(a.length:Int) < b.length
 ·simp[h1];omega
 ·by_cases h2:(b.length:Int) < a.length
  ·have h3: ¬ (a.length:Int)=b.length:=by omega
   simp[h1,h2];omega
  ·have h3:(a.length:Int)=b.length:=by omega
   simp[h3]
   omega
theorem uJ(a b:aE)(ha:wr a=true)(hb:wr b=true):aN Try.prog G 75 [a.enc,b.enc] (.int .i64 (B0n a b)):=by
 have bulk32:∀ t:aE,wr t=true ->t.bulk <=1000000000 /\ t.limbs.length <=32:=fun t h=>by
  obtain⟨_,h2,_,h4,h5,h6,_⟩:=A5e h
  have:=t.bulk_eq
  rw[h2,h4,h5]at this
  simp[aL]at this
  omega
 have pa:=gQ G a (bulk32 a ha).1
 have pb:=gQ G b (bulk32 b hb).1
 have sa:=vF G a
 have sb:=vF G b
 have am:=wB G a.limbs b.limbs (by have:=bulk32 a ha;omega) (by have:=bulk32 b hb;omega)
 rw[ha]at pa
 rw[hb]at pb
 have hc:=B6p a.limbs b.limbs
 have hR:=C2x a.limbs b.limbs
 generalize amt a.limbs b.limbs=m at am hc
 unfold B0n
 intro σ
 by_cases hs:sgn a=sgn b
 ·rw[if_neg (by simpa using hs)]
  rw[<- hs]at sb
  obtain⟨q,hq⟩:∃ q,q=sgn a:=⟨_,rfl⟩
  have ho:=C5y a
  rw[<- hq]at sa sb ho ⊢
  generalize A2j a.limbs b.limbs=c at hc hR ⊢
  clear ha hb hs hq
  refine aH.of_awp aG Try.func75 rfl (by kernel_rfl) (by kernel_rfl) (by simp[Try.ntmps75]) Try.results75 ?_
  repeat'(first|refine xs ?_ ?_ <;>intros|(refine wn ?_;intro bx hbx;try simp only[fb]at hbx)|refine wp pa ?_|refine wp pb ?_|refine wp sa ?_|refine wp sb ?_|refine wp am ?_|refine bE ?_|(refine aB ?_;intro bx hbx;(try simp only[fb]at hbx))|refine aD ?_|((with_reducible refine And.intro ?_ ?_);omega)|refine aA (d':=⟨⟩) ?_|refine bG (by kernel_rfl) ?_|refine bD ?_ (by repeat' first|exact lr _|assumption|refine ls ?_ ?_|refine lt ?_ ?_|simp only[*];done|simp only[fb, *,not_false_eq_true,and_self];done|exact lf ‹_› (by simp only[*]))|refine aC ?_ (by repeat' first|exact lr _|assumption|refine ls ?_ ?_|refine lt ?_ ?_|simp only[*];done|simp only[fb, *,not_false_eq_true,and_self];done|exact lf ‹_› (by simp only[*]))|simp -dsimp only[↓bp,bq,br,seval,dK, *]|refine wz ?_|fail)
  have e:(if -1 > (if 1 < m then 1 else m)then -1 else if 1 < m then 1 else m)=c:=by
   unfold R3 at hR
   by_cases h1:1 < m
   ·simp only[h1,if_true];rw[if_neg (by omega)];omega
   ·simp only[h1,if_false];split <;>omega
  rw[e]
  unfold R3 at hR
  rcases hR with rfl|rfl|rfl <;>rcases ho with rfl|rfl <;>rfl
 ·rw[if_pos (by simpa using hs)]
  have hs':=eq_false hs
  generalize sgn a=p at*
  generalize sgn b=q at*
  clear hs ha hb
  refine aH.of_awp aG Try.func75 rfl (by kernel_rfl) (by kernel_rfl) (by simp[Try.ntmps75]) Try.results75 ?_
  repeat'(first|refine xs ?_ ?_ <;>intros|(refine wn ?_;intro bx hbx;try simp only[fb]at hbx)|refine wp pa ?_|refine wp pb ?_|refine wp sa ?_|refine wp sb ?_|refine wp am ?_|refine bE ?_|(refine aB ?_;intro bx hbx;(try simp only[fb]at hbx))|refine aD ?_|((with_reducible refine And.intro ?_ ?_);omega)|refine aA (d':=⟨⟩) ?_|refine bG (by kernel_rfl) ?_|refine bD ?_ (by repeat' first|exact lr _|assumption|refine ls ?_ ?_|refine lt ?_ ?_|simp only[*];done|simp only[fb, *,not_false_eq_true,and_self];done|exact lf ‹_› (by simp only[*]))|refine aC ?_ (by repeat' first|exact lr _|assumption|refine ls ?_ ?_|refine lt ?_ ?_|simp only[*];done|simp only[fb, *,not_false_eq_true,and_self];done|exact lf ‹_› (by simp only[*]))|simp -dsimp only[↓bp,bq,br,seval,dK, *]|refine wz ?_|fail)
  all_goals rfl
theorem A6p(l r:List aE)(hl:l.length <=1000000000)(hr:r.length <=1000000000)(hf:∀ x,x ∈ l ->∀ y,y ∈ r ->aN Try.prog G 43 [x.enc,y.enc] (.int .i64 (hZ x y))):
  aN Try.prog G 74 [bR l,bR r, .fn 43 []] (.int .i64 (rl l r)):=by
 intro σ
 refine aH.of_awp aG Try.func74 rfl (by kernel_rfl) (by kernel_rfl) (by simp[Try.ntmps74]) Try.results74 ?_
 simp -dsimp only[↓bp,bq,br,seval,dK]
 refine bM (fun n e σ'=>∃ i:Nat,i <=(l).length /\ n=(l).length - i /\ e 13= .int .i64 i /\ σ.le σ' /\ rl (l.drop i) (r.drop i)=rl l r) (l).length
   ⟨0,by omega,by omega,by simp -dsimp only[↓bp,bq,br,seval,dK];first|done|rfl,AS.le.refl σ,rfl⟩ ?_
 rintro n v σ' ⟨i,hi,rfl,h13,⟨hle,hrl⟩⟩
 simp -dsimp only[↓bp,bq,br,seval,dK]at h13
 simp -dsimp only[↓bp,bq,br,seval,dK,h13]
 refine eU (fun hlt=> ?_) (fun hge=> ?_)
 ·obtain⟨x,hx⟩:∃ x,l[i]? =some x:=⟨_,List.getElem?_eq_getElem (by omega)⟩
  have hxm:x ∈ l:=List.mem_of_getElem? hx
  have hdx:=iQ _ _ _ hx
  rw[hdx]at hrl
  clear hi hlt
  by_cases hir:i < r.length
  ·obtain⟨y,hy⟩:∃ y,r[i]? =some y:=⟨_,List.getElem?_eq_getElem (by omega)⟩
   have hym:y ∈ r:=List.mem_of_getElem? hy
   have hdy:=iQ _ _ _ hy
   rw[hdy]at hrl
   simp only[rl]at hrl
   have hp:=hf x hxm y hym
   have hge: ¬ (r.length:Int) <=i:=by omega
   clear hir hdx hdy hf
   by_cases h0:hZ x y=0
   ·rw[h0]at hp hrl
    repeat'(first|refine xs ?_ ?_ <;>intros|(refine wn ?_;intro bx hbx;try simp only[fb]at hbx)|refine wp hp ?_|refine bE ?_|(refine aB ?_;intro bx hbx;(try simp only[fb]at hbx))|refine aD ?_|((with_reducible refine And.intro ?_ ?_);omega)|refine aA (d':=⟨⟩) ?_|refine bG (by kernel_rfl) ?_|refine bD ?_ (by repeat' first|exact lr _|assumption|refine ls ?_ ?_|refine lt ?_ ?_|simp only[*];done|simp only[fb, *,not_false_eq_true,and_self];done|exact lf ‹_› (by simp only[*]))|refine aC ?_ (by repeat' first|exact lr _|assumption|refine ls ?_ ?_|refine lt ?_ ?_|simp only[*];done|simp only[fb, *,not_false_eq_true,and_self];done|exact lf ‹_› (by simp only[*]))|simp -dsimp only[↓bp,bq,br,seval,dK, *]|refine wz ?_|fail)
    all_goals(have hlt:=(List.getElem?_eq_some_iff.1 hx).1)
    all_goals exact⟨l.length - (i+1),by omega,i+1,by omega,rfl,by rw[aF (by omega) (by omega)];rfl,by repeat' first|exact lr _|assumption|refine ls ?_ ?_|refine lt ?_ ?_|simp only[*];done|simp only[fb, *,not_false_eq_true,and_self];done|exact lf ‹_› (by simp only[*]),by simpa [lex] using hrl⟩
   ·have h0':=eq_false h0
    have e:rl l r=hZ x y:=by rw[<- hrl];simp[lex,h0]
    rw[e]
    clear h0 hrl e
    generalize hZ x y=c at*
    repeat'(first|refine xs ?_ ?_ <;>intros|(refine wn ?_;intro bx hbx;try simp only[fb]at hbx)|refine wp hp ?_|refine bE ?_|(refine aB ?_;intro bx hbx;(try simp only[fb]at hbx))|refine aD ?_|((with_reducible refine And.intro ?_ ?_);omega)|refine aA (d':=⟨⟩) ?_|refine bG (by kernel_rfl) ?_|refine bD ?_ (by repeat' first|exact lr _|assumption|refine ls ?_ ?_|refine lt ?_ ?_|simp only[*];done|simp only[fb, *,not_false_eq_true,and_self];done|exact lf ‹_› (by simp only[*]))|refine aC ?_ (by repeat' first|exact lr _|assumption|refine ls ?_ ?_|refine lt ?_ ?_|simp only[*];done|simp only[fb, *,not_false_eq_true,and_self];done|exact lf ‹_› (by simp only[*]))|simp -dsimp only[↓bp,bq,br,seval,dK, *]|refine wz ?_|fail)
    all_goals first|rfl|skip
  ·have hdr:r.drop i=[]:=List.drop_eq_nil_of_le (by omega)
   rw[hdr]at hrl
   simp only[rl]at hrl
   have hge:(r.length:Int) <=i:=by omega
   rw[<- hrl]
   clear hir hdr hf hrl hdx
   repeat'(first|refine xs ?_ ?_ <;>intros|(refine wn ?_;intro bx hbx;try simp only[fb]at hbx)|refine bE ?_|(refine aB ?_;intro bx hbx;(try simp only[fb]at hbx))|refine aD ?_|((with_reducible refine And.intro ?_ ?_);omega)|refine aA (d':=⟨⟩) ?_|refine bG (by kernel_rfl) ?_|refine bD ?_ (by repeat' first|exact lr _|assumption|refine ls ?_ ?_|refine lt ?_ ?_|simp only[*];done|simp only[fb, *,not_false_eq_true,and_self];done|exact lf ‹_› (by simp only[*]))|refine aC ?_ (by repeat' first|exact lr _|assumption|refine ls ?_ ?_|refine lt ?_ ?_|simp only[*];done|simp only[fb, *,not_false_eq_true,and_self];done|exact lf ‹_› (by simp only[*]))|simp -dsimp only[↓bp,bq,br,seval,dK, *]|refine wz ?_|fail)
   all_goals first|rfl|skip
 ·have:i=l.length:=by omega
  subst this
  rw[List.drop_length]at hrl
  clear hi hge hf
  by_cases hlr:(l.length:Int) < r.length
  ·obtain⟨y,s,hs⟩:∃ y s,r.drop l.length=y::s:=by
    cases h:r.drop l.length with
    |nil=>have:=congrArg List.length h;simp at this;omega
    |cons y s=>exact⟨y,s,rfl⟩
   rw[hs]at hrl
   simp only[rl]at hrl
   rw[<- hrl]
   clear hrl hs
   repeat'(first|refine xs ?_ ?_ <;>intros|(refine wn ?_;intro bx hbx;try simp only[fb]at hbx)|refine bE ?_|(refine aB ?_;intro bx hbx;(try simp only[fb]at hbx))|refine aD ?_|((with_reducible refine And.intro ?_ ?_);omega)|refine aA (d':=⟨⟩) ?_|refine bG (by kernel_rfl) ?_|refine bD ?_ (by repeat' first|exact lr _|assumption|refine ls ?_ ?_|refine lt ?_ ?_|simp only[*];done|simp only[fb, *,not_false_eq_true,and_self];done|exact lf ‹_› (by simp only[*]))|refine aC ?_ (by repeat' first|exact lr _|assumption|refine ls ?_ ?_|refine lt ?_ ?_|simp only[*];done|simp only[fb, *,not_false_eq_true,and_self];done|exact lf ‹_› (by simp only[*]))|simp -dsimp only[↓bp,bq,br,seval,dK, *]|refine wz ?_|fail)
   all_goals first|rfl|skip
  ·have hs:r.drop l.length=[]:=List.drop_eq_nil_of_le (by omega)
   rw[hs]at hrl
   simp only[rl]at hrl
   rw[<- hrl]
   clear hrl hs
   repeat'(first|refine xs ?_ ?_ <;>intros|(refine wn ?_;intro bx hbx;try simp only[fb]at hbx)|refine bE ?_|(refine aB ?_;intro bx hbx;(try simp only[fb]at hbx))|refine aD ?_|((with_reducible refine And.intro ?_ ?_);omega)|refine aA (d':=⟨⟩) ?_|refine bG (by kernel_rfl) ?_|refine bD ?_ (by repeat' first|exact lr _|assumption|refine ls ?_ ?_|refine lt ?_ ?_|simp only[*];done|simp only[fb, *,not_false_eq_true,and_self];done|exact lf ‹_› (by simp only[*]))|refine aC ?_ (by repeat' first|exact lr _|assumption|refine ls ?_ ?_|refine lt ?_ ?_|simp only[*];done|simp only[fb, *,not_false_eq_true,and_self];done|exact lf ‹_› (by simp only[*]))|simp -dsimp only[↓bp,bq,br,seval,dK, *]|refine wz ?_|fail)
   all_goals first|rfl|skip
theorem A0x:∀ (l r:List aE),rl (l.take (min l.length r.length)) (r.take (min l.length r.length))=kY l r
 |[],r=>by simp[rl,kY]
 |_::_,[]=>by simp[rl,kY]
 | a::l,b::r=>by
  have e:min (a::l).length (b::r).length=min l.length r.length+1:=by simp only[List.length_cons];omega
  rw[e,List.take_succ_cons,List.take_succ_cons,rl,kY,A0x l r]
theorem A0q(a b:aE)(ha:a.bulk <=1000000000)(hb:b.bulk <=1000000000)(hf:∀ x,x ∈ a.items ->∀ y,y ∈ b.items ->aN Try.prog G 43 [x.enc,y.enc] (.int .i64 (hZ x y)))(σ:AS)(p q:Nat)(hp:σ.box p=some (flat a.enc))(hq:σ.box q=some (flat b.enc)):
  aH Try.prog G 73 [.ptr p 0, .ptr q 0] σ fun r σ'=>r= .int .i64 (kY a.items b.items) /\ σ'=σ:=by
 have h1:=cV a
 have h2:=cV b
 obtain⟨k,hk⟩:∃ k,k=min a.items.length b.items.length:=⟨_,rfl⟩
 have hkk:(if(b.items.length:Int) < a.items.length then(b.items.length:Int)else a.items.length)=(k:Int):=by split <;>omega
 have hkk2:(if(a.items.length:Int) < b.items.length then(a.items.length:Int)else b.items.length)=(k:Int):=by split <;>omega
 have hc:=A6p G (a.items.take k) (b.items.take k) (by rw[List.length_take];omega) (by rw[List.length_take];omega) (fun x hx y hy=>hf x (List.mem_of_mem_take hx) y (List.mem_of_mem_take hy))
 rw[hk,A0x,<- hk]at hc
 have hka:k <=a.items.length:=by omega
 have hkb:k <=b.items.length:=by omega
 rw[aE.flat_enc]at hp hq
 clear hf h1 h2 hk
 refine aH.of_awp aG Try.func73 rfl (by kernel_rfl) (by kernel_rfl) (by simp[Try.ntmps73]) Try.results73 ?_
 repeat'(first|refine xs ?_ ?_ <;>intros|(refine wn ?_;intro bx hbx;try simp only[fb]at hbx)|refine wp hc ?_|refine bE ?_|(refine aB ?_;intro bx hbx;(try simp only[fb]at hbx))|refine aD ?_|((with_reducible refine And.intro ?_ ?_);omega)|refine aA (d':=⟨⟩) ?_|refine bG (by kernel_rfl) ?_|refine bD ?_ (by repeat' first|exact lr _|assumption|refine ls ?_ ?_|refine lt ?_ ?_|simp only[*];done|simp only[fb, *,not_false_eq_true,and_self];done|exact lf ‹_› (by simp only[*]))|refine aC ?_ (by repeat' first|exact lr _|assumption|refine ls ?_ ?_|refine lt ?_ ?_|simp only[*];done|simp only[fb, *,not_false_eq_true,and_self];done|exact lf ‹_› (by simp only[*]))|simp -dsimp only[↓bp,bq,br,seval,dK,C1c,hkk,hkk2, *]|refine wz ?_|fail)
 all_goals skip
end
set_option maxRecDepth 20000
section
def aU:=And.intro (And.intro (And.intro (And.intro @jN @kI) (And.intro @kJ (And.intro @eW @jO))) (And.intro (And.intro @eJ (And.intro @eY @eQ)) (And.intro @eZ (And.intro @aE.flat_enc @aE.isv_enc)))) (And.intro (And.intro (And.intro @aE.fold_enc (And.intro @aW @aO)) (And.intro @aX (And.intro @bP @dN))) (And.intro (And.intro @aP (And.intro @aM @aQ)) (And.intro @bJ (And.intro @dD @cJ))))
variable (G:Nat ->AV)
set_option maxHeartbeats 4000000 in
theorem A8h(t:aE)(hb:t.bulk <=1000000000)(e7:t.knd=7)(hit:∀ x,x ∈ t.items ->aN Try.prog G 36 [x.enc] (.int .i64 (size x)))(htt:∀ x,x ∈ t.tail ->aN Try.prog G 36 [x.enc] (.int .i64 (size x))):
  aN Try.prog G 36 [t.enc] (.int .i64 (size t)):=by
 have hli:=cV t
 have hlt:=dR t
 have hll:=eD t
 have hp4:=eO G t
 have hse:=gO t
 have hle:=fun x (_:x ∈ t.items)=>iK x
 have hw1:IntKind.i64.wrap (1+(t.limbs.length:Int))=1+t.limbs.length:=aF (by omega) (by omega)
 have hkn:=t.knd_nn
 intro σ
 refine aH.of_awp aG Try.func36 rfl (by kernel_rfl) (by kernel_rfl) (by simp[Try.ntmps36]) Try.results36 ?_
 simp -dsimp only[↓bp,bq,br,seval,aU]
 refine dY fun b1 h1=> ?_
 simp -dsimp only[↓bp,bq,br,seval,aU]
 refine bQ fun b3 h3=> ?_
 simp only[cK]at h3
 obtain⟨h3,h31,h13⟩:=h3
 simp -dsimp only[↓bp,bq,br,seval,aU]
 refine bQ fun b5 h5=> ?_
 simp only[cK]at h5
 obtain⟨⟨h5,h51,h15⟩,h53,h35⟩:=h5
 have k1:=eq_false (show ¬ t.knd=1 by omega)
 have k2:=eq_false (show ¬ t.knd=2 by omega)
 have k3:=eq_false (show ¬ t.knd=3 by omega)
 have k4:=eq_false (show ¬ t.knd=4 by omega)
 have k5:=eq_false (show ¬ t.knd=5 by omega)
 have k6:=eq_false (show ¬ t.knd=6 by omega)
 have k7:=eq_true e7
 obtain⟨f0,hf0⟩:∃ f0,f0=(dW t false false true true && decide ((t.tail.length:Int) <=if(t.items.length:Int) < 1 then(t.items.length:Int)else 1)):=⟨_,rfl⟩
 have hhd:head t=(1,1,f0 && t.tail.all fun x=>decide (x.knd ≠ 7)):=by unfold head;rw[if_neg (by omega),if_neg (by omega),if_neg (by omega),if_neg (by omega),if_pos e7,hf0]
 clear e7
 cases hbr:dW t false false true true
 ·rw [hbr]at hp4 hf0
  simp only[Bool.false_and]at hf0
  repeat'(first|refine xs ?_ ?_ <;>intros|(refine wn ?_;intro bx hbx;try simp only[fb]at hbx)|refine wp hp4 ?_|refine bE ?_|(refine aB ?_;intro bx hbx;(try simp only[fb]at hbx))|refine aD ?_|((with_reducible refine And.intro ?_ ?_);omega)|refine aA (d':=⟨⟩) ?_|refine bG (by kernel_rfl) ?_|refine bD ?_ (by repeat' first|exact lr _|assumption|refine ls ?_ ?_|refine lt ?_ ?_|simp only[*];done|simp only[fb, *,not_false_eq_true,and_self];done|exact lf ‹_› (by simp only[*]))|refine aC ?_ (by repeat' first|exact lr _|assumption|refine ls ?_ ?_|refine lt ?_ ?_|simp only[*];done|simp only[fb, *,not_false_eq_true,and_self];done|exact lf ‹_› (by simp only[*]))|simp -dsimp only[↓bp,bq,br,seval,aU,h53,h35,h51,h15,h31,h13, *]|refine wz ?_|fail)
  refine bM (fun n e σ'=>∃ i:Nat,i <=t.tail.length /\ n=t.tail.length - i /\ e 80= .int .i64 i /\ σ.le σ' /\ σ'.box b1=some [.int .u8 t.knd, .bool t.neg,cO t.limbs, .str t.text, .int .i64 t.num,bR t.items,bR t.tail] /\
    σ'.box b3=some [.int .i64 1] /\ σ'.box b5=some [.bool (f0 && (t.tail.take i).all fun x=>decide (x.knd ≠ 7))]) t.tail.length ⟨0,by omega,by omega,by simp -dsimp only[↓bp,bq,br,seval,aU];try rfl,by repeat'(first|exact AS.le.refl _|assumption|(refine bH (by assumption) ?_)),by simp -dsimp only[↓bp,bq,br,seval,aU,h53,h35,h51,h15,h31,h13],by simp -dsimp only[↓bp,bq,br,seval,aU,h53,h35,h51,h15,h31,h13],by simp[AS.setBox,h53,h35,h51,h15,h31,h13,hf0]⟩ ?_
  rintro n v σ' ⟨i,hi,rfl,h80,hle',hB1,hB3,hB5⟩
  simp -dsimp only[↓bp,bq,br,seval,aU]at h80
  simp -dsimp only[↓bp,bq,br,seval,aU,h80]
  refine eU (fun hlt2=> ?_) (fun hge2=> ?_)
  ·obtain⟨x,hx⟩:∃ x,t.tail[i]? =some x:=⟨_,List.getElem?_eq_getElem (by omega)⟩
   have hsn:(f0 && (t.tail.take (i+1)).all (fun x=>decide (x.knd ≠ 7)))=((f0 && (t.tail.take i).all fun x=>decide (x.knd ≠ 7)) && decide (x.knd ≠ 7)):=by rw[bV _ _ _ hx,List.all_append];simp[Bool.and_assoc]
   obtain⟨g,hg⟩:∃ g,g=(f0 && (t.tail.take i).all fun x=>decide (x.knd ≠ 7)):=⟨_,rfl⟩
   rw[<- hg]at hB5 hsn
   simp -dsimp only[↓bp,bq,br,seval,aU,h80,hx]
   refine bQ fun b7 h7=> ?_
   have n1: ¬ b1=b7:=fun e=>by rw[<- e]at h7;rw[h7.1]at hB1;cases hB1
   have n3: ¬ b3=b7:=fun e=>by rw[<- e]at h7;rw[h7.1]at hB3;cases hB3
   have n5: ¬ b5=b7:=fun e=>by rw[<- e]at h7;rw[h7.1]at hB5;cases hB5
   have m5: ¬ b7=b5:=fun e=>n5 e.symm
   cases g with
   | false=>
    simp -dsimp only[↓bp,bq,br,seval,aU,h80,hx,hB1,hB3,hB5,n1,n3,n5,m5,h53,h35,h51,h15,h31,h13]
    refine⟨t.tail.length - (i+1),by omega,i+1,by omega,rfl,by rw[aF (by omega) (by omega)];rfl,by repeat'(first|assumption|(refine bH (by first|assumption|exact hle'.fresh h7) ?_)),?_⟩
    rw[hsn]
    first|rfl|simp
   | true=>
    simp -dsimp only[↓bp,bq,br,seval,aU,h80,hx,hB1,hB3,hB5,n1,n3,n5,m5,h53,h35,h51,h15,h31,h13]
    refine⟨t.tail.length - (i+1),by omega,i+1,by omega,rfl,by rw[aF (by omega) (by omega)];rfl,by repeat'(first|assumption|(refine bH (by first|assumption|exact hle'.fresh h7) ?_)),?_⟩
    rw[hsn]
    first|rfl|simp
  ·have:i=t.tail.length:=by omega
   subst this
   rw[List.take_length]at hB5
   simp -dsimp only[↓bp,bq,br,seval,aU,h80,hB1,hB3,hB5,h53,h35,h51,h15,h31,h13]
   refine aH.mono (aV G t.items 1 (by omega) (by omega) (by omega) hit _ b5 b3 h53 1 (f0 && t.tail.all fun x=>decide (x.knd ≠ 7)) (by simp -dsimp only[↓bp,bq,br,seval,aU,h53,h35,h51,h15,h31,h13,hB1,hB3,hB5]) (by simp -dsimp only[↓bp,bq,br,seval,aU,h53,h35,h51,h15,h31,h13,hB1,hB3,hB5]) (by omega) (fun _=>by omega) (by omega)) ?_
   rintro r σ' rfl
   have ha:=dI t.items hle 1 (by omega) (by omega) (1,(f0 && t.tail.all fun x=>decide (x.knd ≠ 7))) (by simp only;omega) (fun _=>by simp only;omega) (by simp only;omega)
   simp -dsimp only[↓bp,bq,br,seval,aU,h53,h35,h51,h15,h31,h13,hB1,hB3,hB5]
   refine aH.mono (aV G t.tail 0 (by omega) (by omega) (by omega) htt _ b5 b3 h53 (aR t.items 1 (1,(f0 && t.tail.all fun x=>decide (x.knd ≠ 7)))).1 (aR t.items 1 (1,(f0 && t.tail.all fun x=>decide (x.knd ≠ 7)))).2 (by simp -dsimp only[↓bp,bq,br,seval,aU,h53,h35,h51,h15,h31,h13,hB1,hB3,hB5]) (by simp -dsimp only[↓bp,bq,br,seval,aU,h53,h35,h51,h15,h31,h13,hB1,hB3,hB5]) ha.1 ha.2.1 ha.2.2) ?_
   rintro r σ' rfl
   simp -dsimp only[↓bp,bq,br,seval,aU,h53,h35,h51,h15,h31,h13,hB1,hB3,hB5]
   cases hfin:(aR t.tail 0 ((aR t.items 1 (1,(f0 && t.tail.all fun x=>decide (x.knd ≠ 7)))).1,(aR t.items 1 (1,(f0 && t.tail.all fun x=>decide (x.knd ≠ 7)))).2)).2
   ·simp -dsimp only[↓bp,bq,br,seval,aU,h53,h35,h51,h15,h31,h13,hB1,hB3,hB5]
    refine aI ?_ (by repeat'(first|exact AS.le.refl _|assumption|(refine bH (by assumption) ?_)))
    rw[hse,hhd]
    simp only[k1,hfin,if_false,Bool.true_and,Bool.false_and,Bool.false_eq_true,if_true]
   ·simp -dsimp only[↓bp,bq,br,seval,aU,h53,h35,h51,h15,h31,h13,hB1,hB3,hB5]
    refine aI ?_ (by repeat'(first|exact AS.le.refl _|assumption|(refine bH (by assumption) ?_)))
    rw[hse,hhd]
    simp only[k1,hfin,if_false,Bool.true_and,Bool.false_and,Bool.false_eq_true,if_true]
 ·rw [hbr]at hp4 hf0
  simp only[Bool.true_and]at hf0
  repeat'(first|refine xs ?_ ?_ <;>intros|(refine wn ?_;intro bx hbx;try simp only[fb]at hbx)|refine wp hp4 ?_|refine bE ?_|(refine aB ?_;intro bx hbx;(try simp only[fb]at hbx))|refine aD ?_|((with_reducible refine And.intro ?_ ?_);omega)|refine aA (d':=⟨⟩) ?_|refine bG (by kernel_rfl) ?_|refine bD ?_ (by repeat' first|exact lr _|assumption|refine ls ?_ ?_|refine lt ?_ ?_|simp only[*];done|simp only[fb, *,not_false_eq_true,and_self];done|exact lf ‹_› (by simp only[*]))|refine aC ?_ (by repeat' first|exact lr _|assumption|refine ls ?_ ?_|refine lt ?_ ?_|simp only[*];done|simp only[fb, *,not_false_eq_true,and_self];done|exact lf ‹_› (by simp only[*]))|simp -dsimp only[↓bp,bq,br,seval,aU,h53,h35,h51,h15,h31,h13, *]|refine wz ?_|fail)
  refine bM (fun n e σ'=>∃ i:Nat,i <=t.tail.length /\ n=t.tail.length - i /\ e 80= .int .i64 i /\ σ.le σ' /\ σ'.box b1=some [.int .u8 t.knd, .bool t.neg,cO t.limbs, .str t.text, .int .i64 t.num,bR t.items,bR t.tail] /\
    σ'.box b3=some [.int .i64 1] /\ σ'.box b5=some [.bool (f0 && (t.tail.take i).all fun x=>decide (x.knd ≠ 7))]) t.tail.length ⟨0,by omega,by omega,by simp -dsimp only[↓bp,bq,br,seval,aU];try rfl,by repeat'(first|exact AS.le.refl _|assumption|(refine bH (by assumption) ?_)),by simp -dsimp only[↓bp,bq,br,seval,aU,h53,h35,h51,h15,h31,h13],by simp -dsimp only[↓bp,bq,br,seval,aU,h53,h35,h51,h15,h31,h13],by simp[AS.setBox,h53,h35,h51,h15,h31,h13,hf0]⟩ ?_
  rintro n v σ' ⟨i,hi,rfl,h80,hle',hB1,hB3,hB5⟩
  simp -dsimp only[↓bp,bq,br,seval,aU]at h80
  simp -dsimp only[↓bp,bq,br,seval,aU,h80]
  refine eU (fun hlt2=> ?_) (fun hge2=> ?_)
  ·obtain⟨x,hx⟩:∃ x,t.tail[i]? =some x:=⟨_,List.getElem?_eq_getElem (by omega)⟩
   have hsn:(f0 && (t.tail.take (i+1)).all (fun x=>decide (x.knd ≠ 7)))=((f0 && (t.tail.take i).all fun x=>decide (x.knd ≠ 7)) && decide (x.knd ≠ 7)):=by rw[bV _ _ _ hx,List.all_append];simp[Bool.and_assoc]
   obtain⟨g,hg⟩:∃ g,g=(f0 && (t.tail.take i).all fun x=>decide (x.knd ≠ 7)):=⟨_,rfl⟩
   rw[<- hg]at hB5 hsn
   simp -dsimp only[↓bp,bq,br,seval,aU,h80,hx]
   refine bQ fun b7 h7=> ?_
   have n1: ¬ b1=b7:=fun e=>by rw[<- e]at h7;rw[h7.1]at hB1;cases hB1
   have n3: ¬ b3=b7:=fun e=>by rw[<- e]at h7;rw[h7.1]at hB3;cases hB3
   have n5: ¬ b5=b7:=fun e=>by rw[<- e]at h7;rw[h7.1]at hB5;cases hB5
   have m5: ¬ b7=b5:=fun e=>n5 e.symm
   cases g with
   | false=>
    simp -dsimp only[↓bp,bq,br,seval,aU,h80,hx,hB1,hB3,hB5,n1,n3,n5,m5,h53,h35,h51,h15,h31,h13]
    refine⟨t.tail.length - (i+1),by omega,i+1,by omega,rfl,by rw[aF (by omega) (by omega)];rfl,by repeat'(first|assumption|(refine bH (by first|assumption|exact hle'.fresh h7) ?_)),?_⟩
    rw[hsn]
    first|rfl|simp
   | true=>
    simp -dsimp only[↓bp,bq,br,seval,aU,h80,hx,hB1,hB3,hB5,n1,n3,n5,m5,h53,h35,h51,h15,h31,h13]
    refine⟨t.tail.length - (i+1),by omega,i+1,by omega,rfl,by rw[aF (by omega) (by omega)];rfl,by repeat'(first|assumption|(refine bH (by first|assumption|exact hle'.fresh h7) ?_)),?_⟩
    rw[hsn]
    first|rfl|simp
  ·have:i=t.tail.length:=by omega
   subst this
   rw[List.take_length]at hB5
   simp -dsimp only[↓bp,bq,br,seval,aU,h80,hB1,hB3,hB5,h53,h35,h51,h15,h31,h13]
   refine aH.mono (aV G t.items 1 (by omega) (by omega) (by omega) hit _ b5 b3 h53 1 (f0 && t.tail.all fun x=>decide (x.knd ≠ 7)) (by simp -dsimp only[↓bp,bq,br,seval,aU,h53,h35,h51,h15,h31,h13,hB1,hB3,hB5]) (by simp -dsimp only[↓bp,bq,br,seval,aU,h53,h35,h51,h15,h31,h13,hB1,hB3,hB5]) (by omega) (fun _=>by omega) (by omega)) ?_
   rintro r σ' rfl
   have ha:=dI t.items hle 1 (by omega) (by omega) (1,(f0 && t.tail.all fun x=>decide (x.knd ≠ 7))) (by simp only;omega) (fun _=>by simp only;omega) (by simp only;omega)
   simp -dsimp only[↓bp,bq,br,seval,aU,h53,h35,h51,h15,h31,h13,hB1,hB3,hB5]
   refine aH.mono (aV G t.tail 0 (by omega) (by omega) (by omega) htt _ b5 b3 h53 (aR t.items 1 (1,(f0 && t.tail.all fun x=>decide (x.knd ≠ 7)))).1 (aR t.items 1 (1,(f0 && t.tail.all fun x=>decide (x.knd ≠ 7)))).2 (by simp -dsimp only[↓bp,bq,br,seval,aU,h53,h35,h51,h15,h31,h13,hB1,hB3,hB5]) (by simp -dsimp only[↓bp,bq,br,seval,aU,h53,h35,h51,h15,h31,h13,hB1,hB3,hB5]) ha.1 ha.2.1 ha.2.2) ?_
   rintro r σ' rfl
   simp -dsimp only[↓bp,bq,br,seval,aU,h53,h35,h51,h15,h31,h13,hB1,hB3,hB5]
   cases hfin:(aR t.tail 0 ((aR t.items 1 (1,(f0 && t.tail.all fun x=>decide (x.knd ≠ 7)))).1,(aR t.items 1 (1,(f0 && t.tail.all fun x=>decide (x.knd ≠ 7)))).2)).2
   ·simp -dsimp only[↓bp,bq,br,seval,aU,h53,h35,h51,h15,h31,h13,hB1,hB3,hB5]
    refine aI ?_ (by repeat'(first|exact AS.le.refl _|assumption|(refine bH (by assumption) ?_)))
    rw[hse,hhd]
    simp only[k1,hfin,if_false,Bool.true_and,Bool.false_and,Bool.false_eq_true,if_true]
   ·simp -dsimp only[↓bp,bq,br,seval,aU,h53,h35,h51,h15,h31,h13,hB1,hB3,hB5]
    refine aI ?_ (by repeat'(first|exact AS.le.refl _|assumption|(refine bH (by assumption) ?_)))
    rw[hse,hhd]
    simp only[k1,hfin,if_false,Bool.true_and,Bool.false_and,Bool.false_eq_true,if_true]
end
set_option maxRecDepth 20000
section
def cB:=And.intro (And.intro (And.intro (And.intro @jN @kI) (And.intro @kJ (And.intro @eW @jO))) (And.intro (And.intro @eJ (And.intro @eY @eQ)) (And.intro @eZ (And.intro @aE.flat_enc @aE.isv_enc)))) (And.intro (And.intro (And.intro @aE.fold_enc (And.intro @aW @aO)) (And.intro @aX (And.intro @bP @dN))) (And.intro (And.intro @aP (And.intro @aM @aQ)) (And.intro @bJ (And.intro @dD @cJ))))
variable (G:Nat ->AV)
set_option maxHeartbeats 4000000 in
theorem C0u(t:aE)(hb:t.bulk <=1000000000)(hk:t.knd=1)(hit:∀ x,x ∈ t.items ->aN Try.prog G 36 [x.enc] (.int .i64 (size x)))(htt:∀ x,x ∈ t.tail ->aN Try.prog G 36 [x.enc] (.int .i64 (size x))):
  aN Try.prog G 36 [t.enc] (.int .i64 (size t)):=by
 have hli:=cV t
 have hlt:=dR t
 have hll:=eD t
 have hwr:=gQ G t hb
 have hp0:=fH G t
 have hp1:=fI G t
 have hp2:=fJ G t
 have hp3:=fK G t
 have hp4:=eO G t
 have hse:=gO t
 have hle:=fun x (_:x ∈ t.items)=>iK x
 have hw1:IntKind.i64.wrap (1+(t.limbs.length:Int))=1+t.limbs.length:=aF (by omega) (by omega)
 have hkn:=t.knd_nn
 intro σ
 refine aH.of_awp aG Try.func36 rfl (by kernel_rfl) (by kernel_rfl) (by simp[Try.ntmps36]) Try.results36 ?_
 simp -dsimp only[↓bp,bq,br,seval,cB]
 refine dY fun b1 h1=> ?_
 simp -dsimp only[↓bp,bq,br,seval,cB]
 refine bQ fun b3 h3=> ?_
 simp only[cK]at h3
 obtain⟨h3,h31,h13⟩:=h3
 simp -dsimp only[↓bp,bq,br,seval,cB]
 refine bQ fun b5 h5=> ?_
 simp only[cK]at h5
 obtain⟨⟨h5,h51,h15⟩,h53,h35⟩:=h5
 have e1:t.knd=1:=hk
 have e2: ¬ t.knd=2:=by omega
 have e3: ¬ t.knd=3:=by omega
 have e4: ¬ t.knd=4:=by omega
 have e5: ¬ t.knd=5:=by omega
 have e6: ¬ t.knd=6:=by omega
 have e7: ¬ t.knd=7:=by omega
 have k1:=eq_true e1
 clear hk e1
 repeat'(first|refine xs ?_ ?_ <;>intros|(refine wn ?_;intro bx hbx;try simp only[fb]at hbx)|refine wp hwr ?_|refine bE ?_|(refine aB ?_;intro bx hbx;(try simp only[fb]at hbx))|refine aD ?_|((with_reducible refine And.intro ?_ ?_);omega)|refine aA (d':=⟨⟩) ?_|refine bG (by kernel_rfl) ?_|refine bD ?_ (by repeat' first|exact lr _|assumption|refine ls ?_ ?_|refine lt ?_ ?_|simp only[*];done|simp only[fb, *,not_false_eq_true,and_self];done|exact lf ‹_› (by simp only[*]))|refine aC ?_ (by repeat' first|exact lr _|assumption|refine ls ?_ ?_|refine lt ?_ ?_|simp only[*];done|simp only[fb, *,not_false_eq_true,and_self];done|exact lf ‹_› (by simp only[*]))|simp -dsimp only[↓bp,bq,br,seval,cB,h53,h35,h51,h15,h31,h13,k1, *]|refine wz ?_|fail)
 all_goals simp_all
set_option maxHeartbeats 4000000 in
theorem C0v(t:aE)(hb:t.bulk <=1000000000)(hk:t.knd=2)(hit:∀ x,x ∈ t.items ->aN Try.prog G 36 [x.enc] (.int .i64 (size x)))(htt:∀ x,x ∈ t.tail ->aN Try.prog G 36 [x.enc] (.int .i64 (size x))):
  aN Try.prog G 36 [t.enc] (.int .i64 (size t)):=by
 have hli:=cV t
 have hlt:=dR t
 have hll:=eD t
 have hwr:=gQ G t hb
 have hp0:=fH G t
 have hp1:=fI G t
 have hp2:=fJ G t
 have hp3:=fK G t
 have hp4:=eO G t
 have hse:=gO t
 have hle:=fun x (_:x ∈ t.items)=>iK x
 have hw1:IntKind.i64.wrap (1+(t.limbs.length:Int))=1+t.limbs.length:=aF (by omega) (by omega)
 have hkn:=t.knd_nn
 intro σ
 refine aH.of_awp aG Try.func36 rfl (by kernel_rfl) (by kernel_rfl) (by simp[Try.ntmps36]) Try.results36 ?_
 simp -dsimp only[↓bp,bq,br,seval,cB]
 refine dY fun b1 h1=> ?_
 simp -dsimp only[↓bp,bq,br,seval,cB]
 refine bQ fun b3 h3=> ?_
 simp only[cK]at h3
 obtain⟨h3,h31,h13⟩:=h3
 simp -dsimp only[↓bp,bq,br,seval,cB]
 refine bQ fun b5 h5=> ?_
 simp only[cK]at h5
 obtain⟨⟨h5,h51,h15⟩,h53,h35⟩:=h5
 have e1: ¬ t.knd=1:=by omega
 have e2:t.knd=2:=hk
 have e3: ¬ t.knd=3:=by omega
 have e4: ¬ t.knd=4:=by omega
 have e5: ¬ t.knd=5:=by omega
 have e6: ¬ t.knd=6:=by omega
 have e7: ¬ t.knd=7:=by omega
 have k1:=eq_false e1
 have k2:=eq_true e2
 have hhd:head t=(1,0,dW t true false false false && decide ((t.text.length:Int) <=40)):=by unfold head;rw[if_pos e2]
 clear hk e1 e2
 simp -dsimp only[↓bp,bq,br,seval,cB,h53,h35,h51,h15,h31,h13,k1,k2]
 refine aN.use hp0 ?_
 simp -dsimp only[↓bp,bq,br,seval,cB,h53,h35,h51,h15,h31,h13,k1,k2]
 cases hbr:dW t true false false false
 ·rw[hbr]at hhd
  simp -dsimp only[↓bp,bq,br,seval,cB,h53,h35,h51,h15,h31,h13,k1,k2]
  refine aH.mono (aV G t.items 0 (by omega) (by omega) (by omega) hit _ b5 b3 h53 1 false (by simp -dsimp only[↓bp,bq,br,seval,cB,h53,h35,h51,h15,h31,h13]) (by simp -dsimp only[↓bp,bq,br,seval,cB,h53,h35,h51,h15,h31,h13]) (by omega) (fun _=>by omega) (by omega)) ?_
  rintro r σ' rfl
  have ha:=dI t.items hle 0 (by omega) (by omega) (1,false) (by simp only;omega) (fun _=>by simp only;omega) (by simp only;omega)
  simp -dsimp only[↓bp,bq,br,seval,cB,h53,h35,h51,h15,h31,h13]
  refine aH.mono (aV G t.tail 0 (by omega) (by omega) (by omega) htt _ b5 b3 h53 (aR t.items 0 (1,false)).1 (aR t.items 0 (1,false)).2 (by simp -dsimp only[↓bp,bq,br,seval,cB,h53,h35,h51,h15,h31,h13]) (by simp -dsimp only[↓bp,bq,br,seval,cB,h53,h35,h51,h15,h31,h13]) ha.1 ha.2.1 ha.2.2) ?_
  rintro r σ' rfl
  simp -dsimp only[↓bp,bq,br,seval,cB,h53,h35,h51,h15,h31,h13]
  cases hfin:(aR t.tail 0 ((aR t.items 0 (1,false)).1,(aR t.items 0 (1,false)).2)).2
  ·simp -dsimp only[↓bp,bq,br,seval,cB,h53,h35,h51,h15,h31,h13]
   refine aI ?_ (by repeat'(first|exact AS.le.refl _|assumption|(refine bH (by assumption) ?_)))
   rw[hse,hhd]
   simp only[k1,hfin,if_false,Bool.true_and,Bool.false_and,Bool.false_eq_true,if_true]
  ·simp -dsimp only[↓bp,bq,br,seval,cB,h53,h35,h51,h15,h31,h13]
   refine aI ?_ (by repeat'(first|exact AS.le.refl _|assumption|(refine bH (by assumption) ?_)))
   rw[hse,hhd]
   simp only[k1,hfin,if_false,Bool.true_and,Bool.false_and,Bool.false_eq_true,if_true]
 ·rw[hbr]at hhd
  simp -dsimp only[↓bp,bq,br,seval,cB,h53,h35,h51,h15,h31,h13,k1,k2]
  refine aH.mono (aV G t.items 0 (by omega) (by omega) (by omega) hit _ b5 b3 h53 1 (decide ((t.text.length:Int) <=40)) (by simp -dsimp only[↓bp,bq,br,seval,cB,h53,h35,h51,h15,h31,h13]) (by simp -dsimp only[↓bp,bq,br,seval,cB,h53,h35,h51,h15,h31,h13]) (by omega) (fun _=>by omega) (by omega)) ?_
  rintro r σ' rfl
  have ha:=dI t.items hle 0 (by omega) (by omega) (1,(decide ((t.text.length:Int) <=40))) (by simp only;omega) (fun _=>by simp only;omega) (by simp only;omega)
  simp -dsimp only[↓bp,bq,br,seval,cB,h53,h35,h51,h15,h31,h13]
  refine aH.mono (aV G t.tail 0 (by omega) (by omega) (by omega) htt _ b5 b3 h53 (aR t.items 0 (1,(decide ((t.text.length:Int) <=40)))).1 (aR t.items 0 (1,(decide ((t.text.length:Int) <=40)))).2 (by simp -dsimp only[↓bp,bq,br,seval,cB,h53,h35,h51,h15,h31,h13]) (by simp -dsimp only[↓bp,bq,br,seval,cB,h53,h35,h51,h15,h31,h13]) ha.1 ha.2.1 ha.2.2) ?_
  rintro r σ' rfl
  simp -dsimp only[↓bp,bq,br,seval,cB,h53,h35,h51,h15,h31,h13]
  cases hfin:(aR t.tail 0 ((aR t.items 0 (1,(decide ((t.text.length:Int) <=40)))).1,(aR t.items 0 (1,(decide ((t.text.length:Int) <=40)))).2)).2
  ·simp -dsimp only[↓bp,bq,br,seval,cB,h53,h35,h51,h15,h31,h13]
   refine aI ?_ (by repeat'(first|exact AS.le.refl _|assumption|(refine bH (by assumption) ?_)))
   rw[hse,hhd]
   simp only[k1,hfin,if_false,Bool.true_and,Bool.false_and,Bool.false_eq_true,if_true]
  ·simp -dsimp only[↓bp,bq,br,seval,cB,h53,h35,h51,h15,h31,h13]
   refine aI ?_ (by repeat'(first|exact AS.le.refl _|assumption|(refine bH (by assumption) ?_)))
   rw[hse,hhd]
   simp only[k1,hfin,if_false,Bool.true_and,Bool.false_and,Bool.false_eq_true,if_true]
end
set_option maxRecDepth 20000
section
def bS:=And.intro (And.intro (And.intro (And.intro @jN @kI) (And.intro @kJ (And.intro @eW @jO))) (And.intro (And.intro @eJ (And.intro @eY @eQ)) (And.intro @eZ (And.intro @aE.flat_enc @aE.isv_enc)))) (And.intro (And.intro (And.intro @aE.fold_enc (And.intro @aW @aO)) (And.intro @aX (And.intro @bP @dN))) (And.intro (And.intro @aP (And.intro @aM @aQ)) (And.intro @bJ (And.intro @dD @cJ))))
variable (G:Nat ->AV)
set_option maxHeartbeats 4000000 in
theorem C0w(t:aE)(hb:t.bulk <=1000000000)(hk:t.knd=3)(hit:∀ x,x ∈ t.items ->aN Try.prog G 36 [x.enc] (.int .i64 (size x)))(htt:∀ x,x ∈ t.tail ->aN Try.prog G 36 [x.enc] (.int .i64 (size x))):
  aN Try.prog G 36 [t.enc] (.int .i64 (size t)):=by
 have hli:=cV t
 have hlt:=dR t
 have hll:=eD t
 have hwr:=gQ G t hb
 have hp0:=fH G t
 have hp1:=fI G t
 have hp2:=fJ G t
 have hp3:=fK G t
 have hp4:=eO G t
 have hse:=gO t
 have hle:=fun x (_:x ∈ t.items)=>iK x
 have hw1:IntKind.i64.wrap (1+(t.limbs.length:Int))=1+t.limbs.length:=aF (by omega) (by omega)
 have hkn:=t.knd_nn
 intro σ
 refine aH.of_awp aG Try.func36 rfl (by kernel_rfl) (by kernel_rfl) (by simp[Try.ntmps36]) Try.results36 ?_
 simp -dsimp only[↓bp,bq,br,seval,bS]
 refine dY fun b1 h1=> ?_
 simp -dsimp only[↓bp,bq,br,seval,bS]
 refine bQ fun b3 h3=> ?_
 simp only[cK]at h3
 obtain⟨h3,h31,h13⟩:=h3
 simp -dsimp only[↓bp,bq,br,seval,bS]
 refine bQ fun b5 h5=> ?_
 simp only[cK]at h5
 obtain⟨⟨h5,h51,h15⟩,h53,h35⟩:=h5
 have e1: ¬ t.knd=1:=by omega
 have e2: ¬ t.knd=2:=by omega
 have e3:t.knd=3:=hk
 have e4: ¬ t.knd=4:=by omega
 have e5: ¬ t.knd=5:=by omega
 have e6: ¬ t.knd=6:=by omega
 have e7: ¬ t.knd=7:=by omega
 have k1:=eq_false e1
 have k2:=eq_false e2
 have k3:=eq_true e3
 have hhd:head t=(1,0,dW t false true false false && decide (0 <=t.num) && decide (t.num <=1099511627776)):=by unfold head;rw[if_neg e2,if_pos (.inl e3)]
 clear hk e1 e2 e3
 cases hbr:dW t false true false false
 ·rw[hbr]at hhd hp1
  simp only[Bool.false_and]at hhd
  repeat'(first|refine xs ?_ ?_ <;>intros|(refine wn ?_;intro bx hbx;try simp only[fb]at hbx)|refine wp hp1 ?_|refine bE ?_|(refine aB ?_;intro bx hbx;(try simp only[fb]at hbx))|refine aD ?_|((with_reducible refine And.intro ?_ ?_);omega)|refine aA (d':=⟨⟩) ?_|refine bG (by kernel_rfl) ?_|refine bD ?_ (by repeat' first|exact lr _|assumption|refine ls ?_ ?_|refine lt ?_ ?_|simp only[*];done|simp only[fb, *,not_false_eq_true,and_self];done|exact lf ‹_› (by simp only[*]))|refine aC ?_ (by repeat' first|exact lr _|assumption|refine ls ?_ ?_|refine lt ?_ ?_|simp only[*];done|simp only[fb, *,not_false_eq_true,and_self];done|exact lf ‹_› (by simp only[*]))|simp -dsimp only[↓bp,bq,br,seval,bS,h53,h35,h51,h15,h31,h13, *]|refine wz ?_|fail)
  refine aH.mono (aV G t.items 0 (by omega) (by omega) (by omega) hit _ b5 b3 h53 1 false (by simp -dsimp only[↓bp,bq,br,seval,bS,h53,h35,h51,h15,h31,h13]) (by simp -dsimp only[↓bp,bq,br,seval,bS,h53,h35,h51,h15,h31,h13]) (by omega) (fun _=>by omega) (by omega)) ?_
  rintro r σ' rfl
  have ha:=dI t.items hle 0 (by omega) (by omega) (1,false) (by simp only;omega) (fun _=>by simp only;omega) (by simp only;omega)
  simp -dsimp only[↓bp,bq,br,seval,bS,h53,h35,h51,h15,h31,h13]
  refine aH.mono (aV G t.tail 0 (by omega) (by omega) (by omega) htt _ b5 b3 h53 (aR t.items 0 (1,false)).1 (aR t.items 0 (1,false)).2 (by simp -dsimp only[↓bp,bq,br,seval,bS,h53,h35,h51,h15,h31,h13]) (by simp -dsimp only[↓bp,bq,br,seval,bS,h53,h35,h51,h15,h31,h13]) ha.1 ha.2.1 ha.2.2) ?_
  rintro r σ' rfl
  simp -dsimp only[↓bp,bq,br,seval,bS,h53,h35,h51,h15,h31,h13]
  cases hfin:(aR t.tail 0 ((aR t.items 0 (1,false)).1,(aR t.items 0 (1,false)).2)).2
  ·simp -dsimp only[↓bp,bq,br,seval,bS,h53,h35,h51,h15,h31,h13]
   refine aI ?_ (by repeat'(first|exact AS.le.refl _|assumption|(refine bH (by assumption) ?_)))
   rw[hse,hhd]
   simp only[k1,hfin,if_false,Bool.true_and,Bool.false_and,Bool.false_eq_true,if_true]
  ·simp -dsimp only[↓bp,bq,br,seval,bS,h53,h35,h51,h15,h31,h13]
   refine aI ?_ (by repeat'(first|exact AS.le.refl _|assumption|(refine bH (by assumption) ?_)))
   rw[hse,hhd]
   simp only[k1,hfin,if_false,Bool.true_and,Bool.false_and,Bool.false_eq_true,if_true]
 ·rw [hbr]at hhd hp1
  by_cases en:0 <=t.num
  ·have kn:=eq_true en
   clear en
   simp only[kn,decide_true,Bool.and_true,Bool.true_and]at hhd
   repeat'(first|refine xs ?_ ?_ <;>intros|(refine wn ?_;intro bx hbx;try simp only[fb]at hbx)|refine wp hp1 ?_|refine bE ?_|(refine aB ?_;intro bx hbx;(try simp only[fb]at hbx))|refine aD ?_|((with_reducible refine And.intro ?_ ?_);omega)|refine aA (d':=⟨⟩) ?_|refine bG (by kernel_rfl) ?_|refine bD ?_ (by repeat' first|exact lr _|assumption|refine ls ?_ ?_|refine lt ?_ ?_|simp only[*];done|simp only[fb, *,not_false_eq_true,and_self];done|exact lf ‹_› (by simp only[*]))|refine aC ?_ (by repeat' first|exact lr _|assumption|refine ls ?_ ?_|refine lt ?_ ?_|simp only[*];done|simp only[fb, *,not_false_eq_true,and_self];done|exact lf ‹_› (by simp only[*]))|simp -dsimp only[↓bp,bq,br,seval,bS,h53,h35,h51,h15,h31,h13,kn, *]|refine wz ?_|fail)
   refine aH.mono (aV G t.items 0 (by omega) (by omega) (by omega) hit _ b5 b3 h53 1 (decide (t.num <=1099511627776)) (by simp -dsimp only[↓bp,bq,br,seval,bS,h53,h35,h51,h15,h31,h13]) (by simp -dsimp only[↓bp,bq,br,seval,bS,h53,h35,h51,h15,h31,h13]) (by omega) (fun _=>by omega) (by omega)) ?_
   rintro r σ' rfl
   have ha:=dI t.items hle 0 (by omega) (by omega) (1,(decide (t.num <=1099511627776))) (by simp only;omega) (fun _=>by simp only;omega) (by simp only;omega)
   simp -dsimp only[↓bp,bq,br,seval,bS,h53,h35,h51,h15,h31,h13]
   refine aH.mono (aV G t.tail 0 (by omega) (by omega) (by omega) htt _ b5 b3 h53 (aR t.items 0 (1,(decide (t.num <=1099511627776)))).1 (aR t.items 0 (1,(decide (t.num <=1099511627776)))).2 (by simp -dsimp only[↓bp,bq,br,seval,bS,h53,h35,h51,h15,h31,h13]) (by simp -dsimp only[↓bp,bq,br,seval,bS,h53,h35,h51,h15,h31,h13]) ha.1 ha.2.1 ha.2.2) ?_
   rintro r σ' rfl
   simp -dsimp only[↓bp,bq,br,seval,bS,h53,h35,h51,h15,h31,h13]
   cases hfin:(aR t.tail 0 ((aR t.items 0 (1,(decide (t.num <=1099511627776)))).1,(aR t.items 0 (1,(decide (t.num <=1099511627776)))).2)).2
   ·simp -dsimp only[↓bp,bq,br,seval,bS,h53,h35,h51,h15,h31,h13]
    refine aI ?_ (by repeat'(first|exact AS.le.refl _|assumption|(refine bH (by assumption) ?_)))
    rw[hse,hhd]
    simp only[k1,hfin,if_false,Bool.true_and,Bool.false_and,Bool.false_eq_true,if_true]
   ·simp -dsimp only[↓bp,bq,br,seval,bS,h53,h35,h51,h15,h31,h13]
    refine aI ?_ (by repeat'(first|exact AS.le.refl _|assumption|(refine bH (by assumption) ?_)))
    rw[hse,hhd]
    simp only[k1,hfin,if_false,Bool.true_and,Bool.false_and,Bool.false_eq_true,if_true]
  ·have kn:=eq_false en
   clear en
   simp only[kn,decide_false,Bool.and_false,Bool.false_and]at hhd
   repeat'(first|refine xs ?_ ?_ <;>intros|(refine wn ?_;intro bx hbx;try simp only[fb]at hbx)|refine wp hp1 ?_|refine bE ?_|(refine aB ?_;intro bx hbx;(try simp only[fb]at hbx))|refine aD ?_|((with_reducible refine And.intro ?_ ?_);omega)|refine aA (d':=⟨⟩) ?_|refine bG (by kernel_rfl) ?_|refine bD ?_ (by repeat' first|exact lr _|assumption|refine ls ?_ ?_|refine lt ?_ ?_|simp only[*];done|simp only[fb, *,not_false_eq_true,and_self];done|exact lf ‹_› (by simp only[*]))|refine aC ?_ (by repeat' first|exact lr _|assumption|refine ls ?_ ?_|refine lt ?_ ?_|simp only[*];done|simp only[fb, *,not_false_eq_true,and_self];done|exact lf ‹_› (by simp only[*]))|simp -dsimp only[↓bp,bq,br,seval,bS,h53,h35,h51,h15,h31,h13,kn, *]|refine wz ?_|fail)
   refine aH.mono (aV G t.items 0 (by omega) (by omega) (by omega) hit _ b5 b3 h53 1 false (by simp -dsimp only[↓bp,bq,br,seval,bS,h53,h35,h51,h15,h31,h13]) (by simp -dsimp only[↓bp,bq,br,seval,bS,h53,h35,h51,h15,h31,h13]) (by omega) (fun _=>by omega) (by omega)) ?_
   rintro r σ' rfl
   have ha:=dI t.items hle 0 (by omega) (by omega) (1,false) (by simp only;omega) (fun _=>by simp only;omega) (by simp only;omega)
   simp -dsimp only[↓bp,bq,br,seval,bS,h53,h35,h51,h15,h31,h13]
   refine aH.mono (aV G t.tail 0 (by omega) (by omega) (by omega) htt _ b5 b3 h53 (aR t.items 0 (1,false)).1 (aR t.items 0 (1,false)).2 (by simp -dsimp only[↓bp,bq,br,seval,bS,h53,h35,h51,h15,h31,h13]) (by simp -dsimp only[↓bp,bq,br,seval,bS,h53,h35,h51,h15,h31,h13]) ha.1 ha.2.1 ha.2.2) ?_
   rintro r σ' rfl
   simp -dsimp only[↓bp,bq,br,seval,bS,h53,h35,h51,h15,h31,h13]
   cases hfin:(aR t.tail 0 ((aR t.items 0 (1,false)).1,(aR t.items 0 (1,false)).2)).2
   ·simp -dsimp only[↓bp,bq,br,seval,bS,h53,h35,h51,h15,h31,h13]
    refine aI ?_ (by repeat'(first|exact AS.le.refl _|assumption|(refine bH (by assumption) ?_)))
    rw[hse,hhd]
    simp only[k1,hfin,if_false,Bool.true_and,Bool.false_and,Bool.false_eq_true,if_true]
   ·simp -dsimp only[↓bp,bq,br,seval,bS,h53,h35,h51,h15,h31,h13]
    refine aI ?_ (by repeat'(first|exact AS.le.refl _|assumption|(refine bH (by assumption) ?_)))
    rw[hse,hhd]
    simp only[k1,hfin,if_false,Bool.true_and,Bool.false_and,Bool.false_eq_true,if_true]
end
set_option maxRecDepth 20000
section
def bU:=And.intro (And.intro (And.intro (And.intro @jN @kI) (And.intro @kJ (And.intro @eW @jO))) (And.intro (And.intro @eJ (And.intro @eY @eQ)) (And.intro @eZ (And.intro @aE.flat_enc @aE.isv_enc)))) (And.intro (And.intro (And.intro @aE.fold_enc (And.intro @aW @aO)) (And.intro @aX (And.intro @bP @dN))) (And.intro (And.intro @aP (And.intro @aM @aQ)) (And.intro @bJ (And.intro @dD @cJ))))
variable (G:Nat ->AV)
set_option maxHeartbeats 4000000 in
theorem C0y(t:aE)(hb:t.bulk <=1000000000)(hk:t.knd=5)(hit:∀ x,x ∈ t.items ->aN Try.prog G 36 [x.enc] (.int .i64 (size x)))(htt:∀ x,x ∈ t.tail ->aN Try.prog G 36 [x.enc] (.int .i64 (size x))):
  aN Try.prog G 36 [t.enc] (.int .i64 (size t)):=by
 have hli:=cV t
 have hlt:=dR t
 have hll:=eD t
 have hwr:=gQ G t hb
 have hp0:=fH G t
 have hp1:=fI G t
 have hp2:=fJ G t
 have hp3:=fK G t
 have hp4:=eO G t
 have hse:=gO t
 have hle:=fun x (_:x ∈ t.items)=>iK x
 have hw1:IntKind.i64.wrap (1+(t.limbs.length:Int))=1+t.limbs.length:=aF (by omega) (by omega)
 have hkn:=t.knd_nn
 intro σ
 refine aH.of_awp aG Try.func36 rfl (by kernel_rfl) (by kernel_rfl) (by simp[Try.ntmps36]) Try.results36 ?_
 simp -dsimp only[↓bp,bq,br,seval,bU]
 refine dY fun b1 h1=> ?_
 simp -dsimp only[↓bp,bq,br,seval,bU]
 refine bQ fun b3 h3=> ?_
 simp only[cK]at h3
 obtain⟨h3,h31,h13⟩:=h3
 simp -dsimp only[↓bp,bq,br,seval,bU]
 refine bQ fun b5 h5=> ?_
 simp only[cK]at h5
 obtain⟨⟨h5,h51,h15⟩,h53,h35⟩:=h5
 have e1: ¬ t.knd=1:=by omega
 have e2: ¬ t.knd=2:=by omega
 have e3: ¬ t.knd=3:=by omega
 have e4: ¬ t.knd=4:=by omega
 have e5:t.knd=5:=hk
 have e6: ¬ t.knd=6:=by omega
 have e7: ¬ t.knd=7:=by omega
 have k1:=eq_false e1
 have k2:=eq_false e2
 have k3:=eq_false e3
 have k5:=eq_true e5
 have hhd:head t=(1,0,dW t false true false false && decide (0 <=t.num) && decide (t.num <=1099511627776)):=by unfold head;rw[if_neg e2,if_pos (.inr e5)]
 clear hk e1 e2 e3 e5
 cases hbr:dW t false true false false
 ·rw[hbr]at hhd hp1
  simp only[Bool.false_and]at hhd
  repeat'(first|refine xs ?_ ?_ <;>intros|(refine wn ?_;intro bx hbx;try simp only[fb]at hbx)|refine wp hp1 ?_|refine bE ?_|(refine aB ?_;intro bx hbx;(try simp only[fb]at hbx))|refine aD ?_|((with_reducible refine And.intro ?_ ?_);omega)|refine aA (d':=⟨⟩) ?_|refine bG (by kernel_rfl) ?_|refine bD ?_ (by repeat' first|exact lr _|assumption|refine ls ?_ ?_|refine lt ?_ ?_|simp only[*];done|simp only[fb, *,not_false_eq_true,and_self];done|exact lf ‹_› (by simp only[*]))|refine aC ?_ (by repeat' first|exact lr _|assumption|refine ls ?_ ?_|refine lt ?_ ?_|simp only[*];done|simp only[fb, *,not_false_eq_true,and_self];done|exact lf ‹_› (by simp only[*]))|simp -dsimp only[↓bp,bq,br,seval,bU,h53,h35,h51,h15,h31,h13, *]|refine wz ?_|fail)
  refine aH.mono (aV G t.items 0 (by omega) (by omega) (by omega) hit _ b5 b3 h53 1 false (by simp -dsimp only[↓bp,bq,br,seval,bU,h53,h35,h51,h15,h31,h13]) (by simp -dsimp only[↓bp,bq,br,seval,bU,h53,h35,h51,h15,h31,h13]) (by omega) (fun _=>by omega) (by omega)) ?_
  rintro r σ' rfl
  have ha:=dI t.items hle 0 (by omega) (by omega) (1,false) (by simp only;omega) (fun _=>by simp only;omega) (by simp only;omega)
  simp -dsimp only[↓bp,bq,br,seval,bU,h53,h35,h51,h15,h31,h13]
  refine aH.mono (aV G t.tail 0 (by omega) (by omega) (by omega) htt _ b5 b3 h53 (aR t.items 0 (1,false)).1 (aR t.items 0 (1,false)).2 (by simp -dsimp only[↓bp,bq,br,seval,bU,h53,h35,h51,h15,h31,h13]) (by simp -dsimp only[↓bp,bq,br,seval,bU,h53,h35,h51,h15,h31,h13]) ha.1 ha.2.1 ha.2.2) ?_
  rintro r σ' rfl
  simp -dsimp only[↓bp,bq,br,seval,bU,h53,h35,h51,h15,h31,h13]
  cases hfin:(aR t.tail 0 ((aR t.items 0 (1,false)).1,(aR t.items 0 (1,false)).2)).2
  ·simp -dsimp only[↓bp,bq,br,seval,bU,h53,h35,h51,h15,h31,h13]
   refine aI ?_ (by repeat'(first|exact AS.le.refl _|assumption|(refine bH (by assumption) ?_)))
   rw[hse,hhd]
   simp only[k1,hfin,if_false,Bool.true_and,Bool.false_and,Bool.false_eq_true,if_true]
  ·simp -dsimp only[↓bp,bq,br,seval,bU,h53,h35,h51,h15,h31,h13]
   refine aI ?_ (by repeat'(first|exact AS.le.refl _|assumption|(refine bH (by assumption) ?_)))
   rw[hse,hhd]
   simp only[k1,hfin,if_false,Bool.true_and,Bool.false_and,Bool.false_eq_true,if_true]
 ·rw [hbr]at hhd hp1
  by_cases en:0 <=t.num
  ·have kn:=eq_true en
   clear en
   simp only[kn,decide_true,Bool.and_true,Bool.true_and]at hhd
   repeat'(first|refine xs ?_ ?_ <;>intros|(refine wn ?_;intro bx hbx;try simp only[fb]at hbx)|refine wp hp1 ?_|refine bE ?_|(refine aB ?_;intro bx hbx;(try simp only[fb]at hbx))|refine aD ?_|((with_reducible refine And.intro ?_ ?_);omega)|refine aA (d':=⟨⟩) ?_|refine bG (by kernel_rfl) ?_|refine bD ?_ (by repeat' first|exact lr _|assumption|refine ls ?_ ?_|refine lt ?_ ?_|simp only[*];done|simp only[fb, *,not_false_eq_true,and_self];done|exact lf ‹_› (by simp only[*]))|refine aC ?_ (by repeat' first|exact lr _|assumption|refine ls ?_ ?_|refine lt ?_ ?_|simp only[*];done|simp only[fb, *,not_false_eq_true,and_self];done|exact lf ‹_› (by simp only[*]))|simp -dsimp only[↓bp,bq,br,seval,bU,h53,h35,h51,h15,h31,h13,kn, *]|refine wz ?_|fail)
   refine aH.mono (aV G t.items 0 (by omega) (by omega) (by omega) hit _ b5 b3 h53 1 (decide (t.num <=1099511627776)) (by simp -dsimp only[↓bp,bq,br,seval,bU,h53,h35,h51,h15,h31,h13]) (by simp -dsimp only[↓bp,bq,br,seval,bU,h53,h35,h51,h15,h31,h13]) (by omega) (fun _=>by omega) (by omega)) ?_
   rintro r σ' rfl
   have ha:=dI t.items hle 0 (by omega) (by omega) (1,(decide (t.num <=1099511627776))) (by simp only;omega) (fun _=>by simp only;omega) (by simp only;omega)
   simp -dsimp only[↓bp,bq,br,seval,bU,h53,h35,h51,h15,h31,h13]
   refine aH.mono (aV G t.tail 0 (by omega) (by omega) (by omega) htt _ b5 b3 h53 (aR t.items 0 (1,(decide (t.num <=1099511627776)))).1 (aR t.items 0 (1,(decide (t.num <=1099511627776)))).2 (by simp -dsimp only[↓bp,bq,br,seval,bU,h53,h35,h51,h15,h31,h13]) (by simp -dsimp only[↓bp,bq,br,seval,bU,h53,h35,h51,h15,h31,h13]) ha.1 ha.2.1 ha.2.2) ?_
   rintro r σ' rfl
   simp -dsimp only[↓bp,bq,br,seval,bU,h53,h35,h51,h15,h31,h13]
   cases hfin:(aR t.tail 0 ((aR t.items 0 (1,(decide (t.num <=1099511627776)))).1,(aR t.items 0 (1,(decide (t.num <=1099511627776)))).2)).2
   ·simp -dsimp only[↓bp,bq,br,seval,bU,h53,h35,h51,h15,h31,h13]
    refine aI ?_ (by repeat'(first|exact AS.le.refl _|assumption|(refine bH (by assumption) ?_)))
    rw[hse,hhd]
    simp only[k1,hfin,if_false,Bool.true_and,Bool.false_and,Bool.false_eq_true,if_true]
   ·simp -dsimp only[↓bp,bq,br,seval,bU,h53,h35,h51,h15,h31,h13]
    refine aI ?_ (by repeat'(first|exact AS.le.refl _|assumption|(refine bH (by assumption) ?_)))
    rw[hse,hhd]
    simp only[k1,hfin,if_false,Bool.true_and,Bool.false_and,Bool.false_eq_true,if_true]
  ·have kn:=eq_false en
   clear en
   simp only[kn,decide_false,Bool.and_false,Bool.false_and]at hhd
   repeat'(first|refine xs ?_ ?_ <;>intros|(refine wn ?_;intro bx hbx;try simp only[fb]at hbx)|refine wp hp1 ?_|refine bE ?_|(refine aB ?_;intro bx hbx;(try simp only[fb]at hbx))|refine aD ?_|((with_reducible refine And.intro ?_ ?_);omega)|refine aA (d':=⟨⟩) ?_|refine bG (by kernel_rfl) ?_|refine bD ?_ (by repeat' first|exact lr _|assumption|refine ls ?_ ?_|refine lt ?_ ?_|simp only[*];done|simp only[fb, *,not_false_eq_true,and_self];done|exact lf ‹_› (by simp only[*]))|refine aC ?_ (by repeat' first|exact lr _|assumption|refine ls ?_ ?_|refine lt ?_ ?_|simp only[*];done|simp only[fb, *,not_false_eq_true,and_self];done|exact lf ‹_› (by simp only[*]))|simp -dsimp only[↓bp,bq,br,seval,bU,h53,h35,h51,h15,h31,h13,kn, *]|refine wz ?_|fail)
   refine aH.mono (aV G t.items 0 (by omega) (by omega) (by omega) hit _ b5 b3 h53 1 false (by simp -dsimp only[↓bp,bq,br,seval,bU,h53,h35,h51,h15,h31,h13]) (by simp -dsimp only[↓bp,bq,br,seval,bU,h53,h35,h51,h15,h31,h13]) (by omega) (fun _=>by omega) (by omega)) ?_
   rintro r σ' rfl
   have ha:=dI t.items hle 0 (by omega) (by omega) (1,false) (by simp only;omega) (fun _=>by simp only;omega) (by simp only;omega)
   simp -dsimp only[↓bp,bq,br,seval,bU,h53,h35,h51,h15,h31,h13]
   refine aH.mono (aV G t.tail 0 (by omega) (by omega) (by omega) htt _ b5 b3 h53 (aR t.items 0 (1,false)).1 (aR t.items 0 (1,false)).2 (by simp -dsimp only[↓bp,bq,br,seval,bU,h53,h35,h51,h15,h31,h13]) (by simp -dsimp only[↓bp,bq,br,seval,bU,h53,h35,h51,h15,h31,h13]) ha.1 ha.2.1 ha.2.2) ?_
   rintro r σ' rfl
   simp -dsimp only[↓bp,bq,br,seval,bU,h53,h35,h51,h15,h31,h13]
   cases hfin:(aR t.tail 0 ((aR t.items 0 (1,false)).1,(aR t.items 0 (1,false)).2)).2
   ·simp -dsimp only[↓bp,bq,br,seval,bU,h53,h35,h51,h15,h31,h13]
    refine aI ?_ (by repeat'(first|exact AS.le.refl _|assumption|(refine bH (by assumption) ?_)))
    rw[hse,hhd]
    simp only[k1,hfin,if_false,Bool.true_and,Bool.false_and,Bool.false_eq_true,if_true]
   ·simp -dsimp only[↓bp,bq,br,seval,bU,h53,h35,h51,h15,h31,h13]
    refine aI ?_ (by repeat'(first|exact AS.le.refl _|assumption|(refine bH (by assumption) ?_)))
    rw[hse,hhd]
    simp only[k1,hfin,if_false,Bool.true_and,Bool.false_and,Bool.false_eq_true,if_true]
end
set_option maxRecDepth 20000
section
def bF:=And.intro (And.intro (And.intro (And.intro @jN @kI) (And.intro @kJ (And.intro @eW @jO))) (And.intro (And.intro @eJ (And.intro @eY @eQ)) (And.intro @eZ (And.intro @aE.flat_enc @aE.isv_enc)))) (And.intro (And.intro (And.intro @aE.fold_enc (And.intro @aW @aO)) (And.intro @aX (And.intro @bP @dN))) (And.intro (And.intro @aP (And.intro @aM @aQ)) (And.intro @bJ (And.intro @dD @cJ))))
variable (G:Nat ->AV)
set_option maxHeartbeats 4000000 in
theorem C0x(t:aE)(hb:t.bulk <=1000000000)(hk:t.knd=4)(hit:∀ x,x ∈ t.items ->aN Try.prog G 36 [x.enc] (.int .i64 (size x)))(htt:∀ x,x ∈ t.tail ->aN Try.prog G 36 [x.enc] (.int .i64 (size x))):
  aN Try.prog G 36 [t.enc] (.int .i64 (size t)):=by
 have hli:=cV t
 have hlt:=dR t
 have hll:=eD t
 have hwr:=gQ G t hb
 have hp0:=fH G t
 have hp1:=fI G t
 have hp2:=fJ G t
 have hp3:=fK G t
 have hp4:=eO G t
 have hse:=gO t
 have hle:=fun x (_:x ∈ t.items)=>iK x
 have hw1:IntKind.i64.wrap (1+(t.limbs.length:Int))=1+t.limbs.length:=aF (by omega) (by omega)
 have hkn:=t.knd_nn
 intro σ
 refine aH.of_awp aG Try.func36 rfl (by kernel_rfl) (by kernel_rfl) (by simp[Try.ntmps36]) Try.results36 ?_
 simp -dsimp only[↓bp,bq,br,seval,bF]
 refine dY fun b1 h1=> ?_
 simp -dsimp only[↓bp,bq,br,seval,bF]
 refine bQ fun b3 h3=> ?_
 simp only[cK]at h3
 obtain⟨h3,h31,h13⟩:=h3
 simp -dsimp only[↓bp,bq,br,seval,bF]
 refine bQ fun b5 h5=> ?_
 simp only[cK]at h5
 obtain⟨⟨h5,h51,h15⟩,h53,h35⟩:=h5
 have e1: ¬ t.knd=1:=by omega
 have e2: ¬ t.knd=2:=by omega
 have e3: ¬ t.knd=3:=by omega
 have e4:t.knd=4:=hk
 have e5: ¬ t.knd=5:=by omega
 have e6: ¬ t.knd=6:=by omega
 have e7: ¬ t.knd=7:=by omega
 have k1:=eq_false e1
 have k2:=eq_false e2
 have k3:=eq_false e3
 have k5:=eq_false e5
 have k4:=eq_true e4
 have hhd:head t=(2,0,dW t false true true false && decide (0 <=t.num) && decide (t.num <=16384)):=by unfold head;rw[if_neg e2,if_neg (by simp[e3,e5]),if_pos e4]
 clear hk e1 e2 e3 e5 e4
 cases hbr:dW t false true true false
 ·rw[hbr]at hhd hp2
  simp only[Bool.false_and]at hhd
  repeat'(first|refine xs ?_ ?_ <;>intros|(refine wn ?_;intro bx hbx;try simp only[fb]at hbx)|(refine lW 14 b3 b5 (z:=[.int .i64 1]) (z':=[.bool false]) (by kernel_rfl) (by simp -dsimp only[↓bp,bq,br,seval,bF,h53,h35,h51,h15,h31,h13]) (by simp -dsimp only[↓bp,bq,br,seval,bF,h53,h35,h51,h15,h31,h13]) ?_)|refine wp hp2 ?_|refine bE ?_|(refine aB ?_;intro bx hbx;(try simp only[fb]at hbx))|refine aD ?_|((with_reducible refine And.intro ?_ ?_);omega)|refine aA (d':=⟨⟩) ?_|refine bG (by kernel_rfl) ?_|refine bD ?_ (by repeat' first|exact lr _|assumption|refine ls ?_ ?_|refine lt ?_ ?_|simp only[*];done|simp only[fb, *,not_false_eq_true,and_self];done|exact lf ‹_› (by simp only[*]))|refine aC ?_ (by repeat' first|exact lr _|assumption|refine ls ?_ ?_|refine lt ?_ ?_|simp only[*];done|simp only[fb, *,not_false_eq_true,and_self];done|exact lf ‹_› (by simp only[*]))|simp -dsimp only[↓bp,bq,br,seval,bF,h53,h35,h51,h15,h31,h13, *]|refine wz ?_|fail)
  refine aH.mono (aV G t.items 0 (by omega) (by omega) (by omega) hit _ b5 b3 h53 2 false (by simp -dsimp only[↓bp,bq,br,seval,bF,h53,h35,h51,h15,h31,h13]) (by simp -dsimp only[↓bp,bq,br,seval,bF,h53,h35,h51,h15,h31,h13]) (by omega) (fun _=>by omega) (by omega)) ?_
  rintro r σ' rfl
  have ha:=dI t.items hle 0 (by omega) (by omega) (2,false) (by simp only;omega) (fun _=>by simp only;omega) (by simp only;omega)
  simp -dsimp only[↓bp,bq,br,seval,bF,h53,h35,h51,h15,h31,h13]
  refine aH.mono (aV G t.tail 0 (by omega) (by omega) (by omega) htt _ b5 b3 h53 (aR t.items 0 (2,false)).1 (aR t.items 0 (2,false)).2 (by simp -dsimp only[↓bp,bq,br,seval,bF,h53,h35,h51,h15,h31,h13]) (by simp -dsimp only[↓bp,bq,br,seval,bF,h53,h35,h51,h15,h31,h13]) ha.1 ha.2.1 ha.2.2) ?_
  rintro r σ' rfl
  simp -dsimp only[↓bp,bq,br,seval,bF,h53,h35,h51,h15,h31,h13]
  cases hfin:(aR t.tail 0 ((aR t.items 0 (2,false)).1,(aR t.items 0 (2,false)).2)).2
  ·simp -dsimp only[↓bp,bq,br,seval,bF,h53,h35,h51,h15,h31,h13]
   refine aI ?_ (by repeat'(first|exact AS.le.refl _|assumption|(refine bH (by assumption) ?_)))
   rw[hse,hhd]
   simp only[k1,hfin,if_false,Bool.true_and,Bool.false_and,Bool.false_eq_true,if_true]
  ·simp -dsimp only[↓bp,bq,br,seval,bF,h53,h35,h51,h15,h31,h13]
   refine aI ?_ (by repeat'(first|exact AS.le.refl _|assumption|(refine bH (by assumption) ?_)))
   rw[hse,hhd]
   simp only[k1,hfin,if_false,Bool.true_and,Bool.false_and,Bool.false_eq_true,if_true]
 ·rw [hbr]at hhd hp2
  by_cases en:0 <=t.num
  ·have kn:=eq_true en
   clear en
   simp only[kn,decide_true,Bool.and_true,Bool.true_and]at hhd
   repeat'(first|refine xs ?_ ?_ <;>intros|(refine wn ?_;intro bx hbx;try simp only[fb]at hbx)|(refine lW 14 b3 b5 (z:=[.int .i64 1]) (z':=[.bool false]) (by kernel_rfl) (by simp -dsimp only[↓bp,bq,br,seval,bF,h53,h35,h51,h15,h31,h13]) (by simp -dsimp only[↓bp,bq,br,seval,bF,h53,h35,h51,h15,h31,h13]) ?_)|refine wp hp2 ?_|refine bE ?_|(refine aB ?_;intro bx hbx;(try simp only[fb]at hbx))|refine aD ?_|((with_reducible refine And.intro ?_ ?_);omega)|refine aA (d':=⟨⟩) ?_|refine bG (by kernel_rfl) ?_|refine bD ?_ (by repeat' first|exact lr _|assumption|refine ls ?_ ?_|refine lt ?_ ?_|simp only[*];done|simp only[fb, *,not_false_eq_true,and_self];done|exact lf ‹_› (by simp only[*]))|refine aC ?_ (by repeat' first|exact lr _|assumption|refine ls ?_ ?_|refine lt ?_ ?_|simp only[*];done|simp only[fb, *,not_false_eq_true,and_self];done|exact lf ‹_› (by simp only[*]))|simp -dsimp only[↓bp,bq,br,seval,bF,h53,h35,h51,h15,h31,h13,kn, *]|refine wz ?_|fail)
   refine aH.mono (aV G t.items 0 (by omega) (by omega) (by omega) hit _ b5 b3 h53 2 (decide (t.num <=16384)) (by simp -dsimp only[↓bp,bq,br,seval,bF,h53,h35,h51,h15,h31,h13]) (by simp -dsimp only[↓bp,bq,br,seval,bF,h53,h35,h51,h15,h31,h13]) (by omega) (fun _=>by omega) (by omega)) ?_
   rintro r σ' rfl
   have ha:=dI t.items hle 0 (by omega) (by omega) (2,(decide (t.num <=16384))) (by simp only;omega) (fun _=>by simp only;omega) (by simp only;omega)
   simp -dsimp only[↓bp,bq,br,seval,bF,h53,h35,h51,h15,h31,h13]
   refine aH.mono (aV G t.tail 0 (by omega) (by omega) (by omega) htt _ b5 b3 h53 (aR t.items 0 (2,(decide (t.num <=16384)))).1 (aR t.items 0 (2,(decide (t.num <=16384)))).2 (by simp -dsimp only[↓bp,bq,br,seval,bF,h53,h35,h51,h15,h31,h13]) (by simp -dsimp only[↓bp,bq,br,seval,bF,h53,h35,h51,h15,h31,h13]) ha.1 ha.2.1 ha.2.2) ?_
   rintro r σ' rfl
   simp -dsimp only[↓bp,bq,br,seval,bF,h53,h35,h51,h15,h31,h13]
   cases hfin:(aR t.tail 0 ((aR t.items 0 (2,(decide (t.num <=16384)))).1,(aR t.items 0 (2,(decide (t.num <=16384)))).2)).2
   ·simp -dsimp only[↓bp,bq,br,seval,bF,h53,h35,h51,h15,h31,h13]
    refine aI ?_ (by repeat'(first|exact AS.le.refl _|assumption|(refine bH (by assumption) ?_)))
    rw[hse,hhd]
    simp only[k1,hfin,if_false,Bool.true_and,Bool.false_and,Bool.false_eq_true,if_true]
   ·simp -dsimp only[↓bp,bq,br,seval,bF,h53,h35,h51,h15,h31,h13]
    refine aI ?_ (by repeat'(first|exact AS.le.refl _|assumption|(refine bH (by assumption) ?_)))
    rw[hse,hhd]
    simp only[k1,hfin,if_false,Bool.true_and,Bool.false_and,Bool.false_eq_true,if_true]
  ·have kn:=eq_false en
   clear en
   simp only[kn,decide_false,Bool.and_false,Bool.false_and]at hhd
   repeat'(first|refine xs ?_ ?_ <;>intros|(refine wn ?_;intro bx hbx;try simp only[fb]at hbx)|(refine lW 14 b3 b5 (z:=[.int .i64 1]) (z':=[.bool false]) (by kernel_rfl) (by simp -dsimp only[↓bp,bq,br,seval,bF,h53,h35,h51,h15,h31,h13]) (by simp -dsimp only[↓bp,bq,br,seval,bF,h53,h35,h51,h15,h31,h13]) ?_)|refine wp hp2 ?_|refine bE ?_|(refine aB ?_;intro bx hbx;(try simp only[fb]at hbx))|refine aD ?_|((with_reducible refine And.intro ?_ ?_);omega)|refine aA (d':=⟨⟩) ?_|refine bG (by kernel_rfl) ?_|refine bD ?_ (by repeat' first|exact lr _|assumption|refine ls ?_ ?_|refine lt ?_ ?_|simp only[*];done|simp only[fb, *,not_false_eq_true,and_self];done|exact lf ‹_› (by simp only[*]))|refine aC ?_ (by repeat' first|exact lr _|assumption|refine ls ?_ ?_|refine lt ?_ ?_|simp only[*];done|simp only[fb, *,not_false_eq_true,and_self];done|exact lf ‹_› (by simp only[*]))|simp -dsimp only[↓bp,bq,br,seval,bF,h53,h35,h51,h15,h31,h13,kn, *]|refine wz ?_|fail)
   refine aH.mono (aV G t.items 0 (by omega) (by omega) (by omega) hit _ b5 b3 h53 2 false (by simp -dsimp only[↓bp,bq,br,seval,bF,h53,h35,h51,h15,h31,h13]) (by simp -dsimp only[↓bp,bq,br,seval,bF,h53,h35,h51,h15,h31,h13]) (by omega) (fun _=>by omega) (by omega)) ?_
   rintro r σ' rfl
   have ha:=dI t.items hle 0 (by omega) (by omega) (2,false) (by simp only;omega) (fun _=>by simp only;omega) (by simp only;omega)
   simp -dsimp only[↓bp,bq,br,seval,bF,h53,h35,h51,h15,h31,h13]
   refine aH.mono (aV G t.tail 0 (by omega) (by omega) (by omega) htt _ b5 b3 h53 (aR t.items 0 (2,false)).1 (aR t.items 0 (2,false)).2 (by simp -dsimp only[↓bp,bq,br,seval,bF,h53,h35,h51,h15,h31,h13]) (by simp -dsimp only[↓bp,bq,br,seval,bF,h53,h35,h51,h15,h31,h13]) ha.1 ha.2.1 ha.2.2) ?_
   rintro r σ' rfl
   simp -dsimp only[↓bp,bq,br,seval,bF,h53,h35,h51,h15,h31,h13]
   cases hfin:(aR t.tail 0 ((aR t.items 0 (2,false)).1,(aR t.items 0 (2,false)).2)).2
   ·simp -dsimp only[↓bp,bq,br,seval,bF,h53,h35,h51,h15,h31,h13]
    refine aI ?_ (by repeat'(first|exact AS.le.refl _|assumption|(refine bH (by assumption) ?_)))
    rw[hse,hhd]
    simp only[k1,hfin,if_false,Bool.true_and,Bool.false_and,Bool.false_eq_true,if_true]
   ·simp -dsimp only[↓bp,bq,br,seval,bF,h53,h35,h51,h15,h31,h13]
    refine aI ?_ (by repeat'(first|exact AS.le.refl _|assumption|(refine bH (by assumption) ?_)))
    rw[hse,hhd]
    simp only[k1,hfin,if_false,Bool.true_and,Bool.false_and,Bool.false_eq_true,if_true]
end
set_option maxRecDepth 20000
section
def bK:=And.intro (And.intro (And.intro (And.intro @jN @kI) (And.intro @kJ (And.intro @eW @jO))) (And.intro (And.intro @eJ (And.intro @eY @eQ)) (And.intro @eZ (And.intro @aE.flat_enc @aE.isv_enc)))) (And.intro (And.intro (And.intro @aE.fold_enc (And.intro @aW @aO)) (And.intro @aX (And.intro @bP @dN))) (And.intro (And.intro @aP (And.intro @aM @aQ)) (And.intro @bJ (And.intro @dD @cJ))))
variable (G:Nat ->AV)
set_option maxHeartbeats 4000000 in
theorem C0z(t:aE)(hb:t.bulk <=1000000000)(hk:t.knd=6)(hit:∀ x,x ∈ t.items ->aN Try.prog G 36 [x.enc] (.int .i64 (size x)))(htt:∀ x,x ∈ t.tail ->aN Try.prog G 36 [x.enc] (.int .i64 (size x))):
  aN Try.prog G 36 [t.enc] (.int .i64 (size t)):=by
 have hli:=cV t
 have hlt:=dR t
 have hll:=eD t
 have hwr:=gQ G t hb
 have hp0:=fH G t
 have hp1:=fI G t
 have hp2:=fJ G t
 have hp3:=fK G t
 have hp4:=eO G t
 have hse:=gO t
 have hle:=fun x (_:x ∈ t.items)=>iK x
 have hw1:IntKind.i64.wrap (1+(t.limbs.length:Int))=1+t.limbs.length:=aF (by omega) (by omega)
 have hkn:=t.knd_nn
 intro σ
 refine aH.of_awp aG Try.func36 rfl (by kernel_rfl) (by kernel_rfl) (by simp[Try.ntmps36]) Try.results36 ?_
 simp -dsimp only[↓bp,bq,br,seval,bK]
 refine dY fun b1 h1=> ?_
 simp -dsimp only[↓bp,bq,br,seval,bK]
 refine bQ fun b3 h3=> ?_
 simp only[cK]at h3
 obtain⟨h3,h31,h13⟩:=h3
 simp -dsimp only[↓bp,bq,br,seval,bK]
 refine bQ fun b5 h5=> ?_
 simp only[cK]at h5
 obtain⟨⟨h5,h51,h15⟩,h53,h35⟩:=h5
 have e1: ¬ t.knd=1:=by omega
 have e2: ¬ t.knd=2:=by omega
 have e3: ¬ t.knd=3:=by omega
 have e4: ¬ t.knd=4:=by omega
 have e5: ¬ t.knd=5:=by omega
 have e6:t.knd=6:=hk
 have e7: ¬ t.knd=7:=by omega
 have k1:=eq_false e1
 have k2:=eq_false e2
 have k3:=eq_false e3
 have k5:=eq_false e5
 have k4:=eq_false e4
 have k6:=eq_true e6
 have hhd:head t=(1,0,dW t false false true false):=by unfold head;rw[if_neg e2,if_neg (by simp[e3,e5]),if_neg e4,if_pos e6]
 clear hk e1 e2 e3 e5 e4 e6
 cases hbr:dW t false false true false
 ·rw[hbr]at hhd hp3
  repeat'(first|refine xs ?_ ?_ <;>intros|(refine wn ?_;intro bx hbx;try simp only[fb]at hbx)|refine wp hp3 ?_|refine bE ?_|(refine aB ?_;intro bx hbx;(try simp only[fb]at hbx))|refine aD ?_|((with_reducible refine And.intro ?_ ?_);omega)|refine aA (d':=⟨⟩) ?_|refine bG (by kernel_rfl) ?_|refine bD ?_ (by repeat' first|exact lr _|assumption|refine ls ?_ ?_|refine lt ?_ ?_|simp only[*];done|simp only[fb, *,not_false_eq_true,and_self];done|exact lf ‹_› (by simp only[*]))|refine aC ?_ (by repeat' first|exact lr _|assumption|refine ls ?_ ?_|refine lt ?_ ?_|simp only[*];done|simp only[fb, *,not_false_eq_true,and_self];done|exact lf ‹_› (by simp only[*]))|simp -dsimp only[↓bp,bq,br,seval,bK,h53,h35,h51,h15,h31,h13, *]|refine wz ?_|fail)
  refine aH.mono (aV G t.items 0 (by omega) (by omega) (by omega) hit _ b5 b3 h53 1 false (by simp -dsimp only[↓bp,bq,br,seval,bK,h53,h35,h51,h15,h31,h13]) (by simp -dsimp only[↓bp,bq,br,seval,bK,h53,h35,h51,h15,h31,h13]) (by omega) (fun _=>by omega) (by omega)) ?_
  rintro r σ' rfl
  have ha:=dI t.items hle 0 (by omega) (by omega) (1,false) (by simp only;omega) (fun _=>by simp only;omega) (by simp only;omega)
  simp -dsimp only[↓bp,bq,br,seval,bK,h53,h35,h51,h15,h31,h13]
  refine aH.mono (aV G t.tail 0 (by omega) (by omega) (by omega) htt _ b5 b3 h53 (aR t.items 0 (1,false)).1 (aR t.items 0 (1,false)).2 (by simp -dsimp only[↓bp,bq,br,seval,bK,h53,h35,h51,h15,h31,h13]) (by simp -dsimp only[↓bp,bq,br,seval,bK,h53,h35,h51,h15,h31,h13]) ha.1 ha.2.1 ha.2.2) ?_
  rintro r σ' rfl
  simp -dsimp only[↓bp,bq,br,seval,bK,h53,h35,h51,h15,h31,h13]
  cases hfin:(aR t.tail 0 ((aR t.items 0 (1,false)).1,(aR t.items 0 (1,false)).2)).2
  ·simp -dsimp only[↓bp,bq,br,seval,bK,h53,h35,h51,h15,h31,h13]
   refine aI ?_ (by repeat'(first|exact AS.le.refl _|assumption|(refine bH (by assumption) ?_)))
   rw[hse,hhd]
   simp only[k1,hfin,if_false,Bool.true_and,Bool.false_and,Bool.false_eq_true,if_true]
  ·simp -dsimp only[↓bp,bq,br,seval,bK,h53,h35,h51,h15,h31,h13]
   refine aI ?_ (by repeat'(first|exact AS.le.refl _|assumption|(refine bH (by assumption) ?_)))
   rw[hse,hhd]
   simp only[k1,hfin,if_false,Bool.true_and,Bool.false_and,Bool.false_eq_true,if_true]
 ·rw[hbr]at hhd hp3
  repeat'(first|refine xs ?_ ?_ <;>intros|(refine wn ?_;intro bx hbx;try simp only[fb]at hbx)|refine wp hp3 ?_|refine bE ?_|(refine aB ?_;intro bx hbx;(try simp only[fb]at hbx))|refine aD ?_|((with_reducible refine And.intro ?_ ?_);omega)|refine aA (d':=⟨⟩) ?_|refine bG (by kernel_rfl) ?_|refine bD ?_ (by repeat' first|exact lr _|assumption|refine ls ?_ ?_|refine lt ?_ ?_|simp only[*];done|simp only[fb, *,not_false_eq_true,and_self];done|exact lf ‹_› (by simp only[*]))|refine aC ?_ (by repeat' first|exact lr _|assumption|refine ls ?_ ?_|refine lt ?_ ?_|simp only[*];done|simp only[fb, *,not_false_eq_true,and_self];done|exact lf ‹_› (by simp only[*]))|simp -dsimp only[↓bp,bq,br,seval,bK,h53,h35,h51,h15,h31,h13, *]|refine wz ?_|fail)
  refine aH.mono (aV G t.items 0 (by omega) (by omega) (by omega) hit _ b5 b3 h53 1 true (by simp -dsimp only[↓bp,bq,br,seval,bK,h53,h35,h51,h15,h31,h13]) (by simp -dsimp only[↓bp,bq,br,seval,bK,h53,h35,h51,h15,h31,h13]) (by omega) (fun _=>by omega) (by omega)) ?_
  rintro r σ' rfl
  have ha:=dI t.items hle 0 (by omega) (by omega) (1,true) (by simp only;omega) (fun _=>by simp only;omega) (by simp only;omega)
  simp -dsimp only[↓bp,bq,br,seval,bK,h53,h35,h51,h15,h31,h13]
  refine aH.mono (aV G t.tail 0 (by omega) (by omega) (by omega) htt _ b5 b3 h53 (aR t.items 0 (1,true)).1 (aR t.items 0 (1,true)).2 (by simp -dsimp only[↓bp,bq,br,seval,bK,h53,h35,h51,h15,h31,h13]) (by simp -dsimp only[↓bp,bq,br,seval,bK,h53,h35,h51,h15,h31,h13]) ha.1 ha.2.1 ha.2.2) ?_
  rintro r σ' rfl
  simp -dsimp only[↓bp,bq,br,seval,bK,h53,h35,h51,h15,h31,h13]
  cases hfin:(aR t.tail 0 ((aR t.items 0 (1,true)).1,(aR t.items 0 (1,true)).2)).2
  ·simp -dsimp only[↓bp,bq,br,seval,bK,h53,h35,h51,h15,h31,h13]
   refine aI ?_ (by repeat'(first|exact AS.le.refl _|assumption|(refine bH (by assumption) ?_)))
   rw[hse,hhd]
   simp only[k1,hfin,if_false,Bool.true_and,Bool.false_and,Bool.false_eq_true,if_true]
  ·simp -dsimp only[↓bp,bq,br,seval,bK,h53,h35,h51,h15,h31,h13]
   refine aI ?_ (by repeat'(first|exact AS.le.refl _|assumption|(refine bH (by assumption) ?_)))
   rw[hse,hhd]
   simp only[k1,hfin,if_false,Bool.true_and,Bool.false_and,Bool.false_eq_true,if_true]
set_option maxHeartbeats 4000000 in
theorem C0t(t:aE)(hb:t.bulk <=1000000000)(hk: ¬ (1 <=t.knd /\ t.knd <=7))(hit:∀ x,x ∈ t.items ->aN Try.prog G 36 [x.enc] (.int .i64 (size x)))(htt:∀ x,x ∈ t.tail ->aN Try.prog G 36 [x.enc] (.int .i64 (size x))):
  aN Try.prog G 36 [t.enc] (.int .i64 (size t)):=by
 have hli:=cV t
 have hlt:=dR t
 have hll:=eD t
 have hwr:=gQ G t hb
 have hp0:=fH G t
 have hp1:=fI G t
 have hp2:=fJ G t
 have hp3:=fK G t
 have hp4:=eO G t
 have hse:=gO t
 have hle:=fun x (_:x ∈ t.items)=>iK x
 have hw1:IntKind.i64.wrap (1+(t.limbs.length:Int))=1+t.limbs.length:=aF (by omega) (by omega)
 have hkn:=t.knd_nn
 intro σ
 refine aH.of_awp aG Try.func36 rfl (by kernel_rfl) (by kernel_rfl) (by simp[Try.ntmps36]) Try.results36 ?_
 simp -dsimp only[↓bp,bq,br,seval,bK]
 refine dY fun b1 h1=> ?_
 simp -dsimp only[↓bp,bq,br,seval,bK]
 refine bQ fun b3 h3=> ?_
 simp only[cK]at h3
 obtain⟨h3,h31,h13⟩:=h3
 simp -dsimp only[↓bp,bq,br,seval,bK]
 refine bQ fun b5 h5=> ?_
 simp only[cK]at h5
 obtain⟨⟨h5,h51,h15⟩,h53,h35⟩:=h5
 have e1: ¬ t.knd=1:=by omega
 have e2: ¬ t.knd=2:=by omega
 have e3: ¬ t.knd=3:=by omega
 have e4: ¬ t.knd=4:=by omega
 have e5: ¬ t.knd=5:=by omega
 have e6: ¬ t.knd=6:=by omega
 have e7: ¬ t.knd=7:=by omega
 have k1:=eq_false e1
 have k2:=eq_false e2
 have k3:=eq_false e3
 have k5:=eq_false e5
 have k4:=eq_false e4
 have k6:=eq_false e6
 have k7:=eq_false e7
 have k7:=eq_false e7
 have hhd:head t=(1,0,false):=by unfold head;rw[if_neg e2,if_neg (by simp[e3,e5]),if_neg e4,if_neg e6,if_neg e7]
 clear hk e1 e2 e3 e5 e4 e6 e7
 repeat'(first|refine xs ?_ ?_ <;>intros|(refine wn ?_;intro bx hbx;try simp only[fb]at hbx)|refine bE ?_|(refine aB ?_;intro bx hbx;(try simp only[fb]at hbx))|refine aD ?_|((with_reducible refine And.intro ?_ ?_);omega)|refine aA (d':=⟨⟩) ?_|refine bG (by kernel_rfl) ?_|refine bD ?_ (by repeat' first|exact lr _|assumption|refine ls ?_ ?_|refine lt ?_ ?_|simp only[*];done|simp only[fb, *,not_false_eq_true,and_self];done|exact lf ‹_› (by simp only[*]))|refine aC ?_ (by repeat' first|exact lr _|assumption|refine ls ?_ ?_|refine lt ?_ ?_|simp only[*];done|simp only[fb, *,not_false_eq_true,and_self];done|exact lf ‹_› (by simp only[*]))|simp -dsimp only[↓bp,bq,br,seval,bK,h53,h35,h51,h15,h31,h13, *]|refine wz ?_|fail)
 refine aH.mono (aV G t.items 0 (by omega) (by omega) (by omega) hit _ b5 b3 h53 1 false (by simp -dsimp only[↓bp,bq,br,seval,bK,h53,h35,h51,h15,h31,h13]) (by simp -dsimp only[↓bp,bq,br,seval,bK,h53,h35,h51,h15,h31,h13]) (by omega) (fun _=>by omega) (by omega)) ?_
 rintro r σ' rfl
 have ha:=dI t.items hle 0 (by omega) (by omega) (1,false) (by simp only;omega) (fun _=>by simp only;omega) (by simp only;omega)
 simp -dsimp only[↓bp,bq,br,seval,bK,h53,h35,h51,h15,h31,h13]
 refine aH.mono (aV G t.tail 0 (by omega) (by omega) (by omega) htt _ b5 b3 h53 (aR t.items 0 (1,false)).1 (aR t.items 0 (1,false)).2 (by simp -dsimp only[↓bp,bq,br,seval,bK,h53,h35,h51,h15,h31,h13]) (by simp -dsimp only[↓bp,bq,br,seval,bK,h53,h35,h51,h15,h31,h13]) ha.1 ha.2.1 ha.2.2) ?_
 rintro r σ' rfl
 simp -dsimp only[↓bp,bq,br,seval,bK,h53,h35,h51,h15,h31,h13]
 cases hfin:(aR t.tail 0 ((aR t.items 0 (1,false)).1,(aR t.items 0 (1,false)).2)).2
 ·simp -dsimp only[↓bp,bq,br,seval,bK,h53,h35,h51,h15,h31,h13]
  refine aI ?_ (by repeat'(first|exact AS.le.refl _|assumption|(refine bH (by assumption) ?_)))
  rw[hse,hhd]
  simp only[k1,hfin,if_false,Bool.true_and,Bool.false_and,Bool.false_eq_true,if_true]
 ·simp -dsimp only[↓bp,bq,br,seval,bK,h53,h35,h51,h15,h31,h13]
  refine aI ?_ (by repeat'(first|exact AS.le.refl _|assumption|(refine bH (by assumption) ?_)))
  rw[hse,hhd]
  simp only[k1,hfin,if_false,Bool.true_and,Bool.false_and,Bool.false_eq_true,if_true]
end
section
variable (G:Nat ->AV)
theorem A8i(t:aE):t.bulk <=1000000000 ->aN Try.prog G 36 [t.enc] (.int .i64 (size t)):=by
 refine aE.ind (P:=fun t=>t.bulk <=1000000000 ->aN Try.prog G 36 [t.enc] (.int .i64 (size t))) (fun t ih1 ih2 hb=> ?_) t
 have hit:∀ x,x ∈ t.items ->aN Try.prog G 36 [x.enc] (.int .i64 (size x)):=fun x hx=>ih1 x hx (by have:=pJ hx;omega)
 have htt:∀ x,x ∈ t.tail ->aN Try.prog G 36 [x.enc] (.int .i64 (size x)):=fun x hx=>ih2 x hx (by have:=pK hx;omega)
 by_cases h7:t.knd=7
 ·exact A8h G t hb h7 hit htt
 by_cases h1:t.knd=1
 ·exact C0u G t hb h1 hit htt
 by_cases h2:t.knd=2
 ·exact C0v G t hb h2 hit htt
 by_cases h3:t.knd=3
 ·exact C0w G t hb h3 hit htt
 by_cases h4:t.knd=4
 ·exact C0x G t hb h4 hit htt
 by_cases h5:t.knd=5
 ·exact C0y G t hb h5 hit htt
 by_cases h6:t.knd=6
 ·exact C0z G t hb h6 hit htt
 ·exact C0t G t hb (by omega) hit htt
end
end Go.Proofs.Ytinfbihcnonaoaa
