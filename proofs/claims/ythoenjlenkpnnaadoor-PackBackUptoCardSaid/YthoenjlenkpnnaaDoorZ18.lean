/- Code: is a code more than is gone through in time? -/
import Derived.Test.YthoenjlenkpnnaaDoorZ15
import Derived.Test.YthoenjlenkpnnaaDoorZ08
import Derived.Test.YthoenjlenkpnnaaDoorZ17
import Derived.Test.YthoenjlenkpnnaaDoorZ07
import Derived.Test.YthoenjlenkpnnaaDoorRows
import Derived.Test.YthoenjlenkpnnaaDoorZ13
set_option linter.unusedVariables false
set_option linter.unusedSimpArgs false
set_option maxRecDepth 20000
set_option linter.defProp false
namespace Go.Proofs.YthoenjlenkpnnaaDoor
open Go Go.Av
section
def aK:=And.intro (And.intro (And.intro (And.intro (And.intro @mD @mE) (And.intro @mA @lG)) (And.intro (And.intro @tR @oO) (And.intro @oA (And.intro @kN @tS)))) (And.intro (And.intro (And.intro @sJ @xY) (And.intro @iB (And.intro @jF @oB))) (And.intro (And.intro @lF @mB) (And.intro @dJ (And.intro @cL @dR))))) (And.intro (And.intro (And.intro (And.intro @eF @bX) (And.intro @bL @dC)) (And.intro (And.intro @fF @aQ.flat_enc) (And.intro @aQ.isv_enc (And.intro @aQ.fold_enc @cM.flat_enc)))) (And.intro (And.intro (And.intro @cM.isv_enc @cM.fold_enc) (And.intro @cH.flat_enc (And.intro @cH.isv_enc @cH.fold_enc))) (And.intro (And.intro @gU @fO) (And.intro @aF.fold_enc (And.intro @aF.isv_enc @aF.flat_enc)))))
variable {G:Nat ->AV}
def gI:List aQ ->Int ->Int
 |[],n=>n
 |x::l,n=>if n <=4000 then gI l (n+x.slots.length+(x.text.length / 20:Nat))else n
def gE:List cM ->Int ->Int
 |[],n=>n
 |x::l,n=>if n <=4000 then gE l (n+(x.name.length / 20:Nat))else n
def gC:List aF ->Int ->Int
 |[],n=>n
 |x::l,n=>if n <=4000 then gC l (n+bW x 4000)else n
def A9r(c:cH):Int:=gC c.consts (gE c.entries (gI c.instrs ((c.instrs.length:Int)+c.entries.length)))
def A9q(c:cH):Bool:=decide (4000 < A9r c)
theorem D5l(n k:Nat)(hn:n <=1000000000000):IntKind.i64.wrap ((n:Int).tdiv (k:Int))=((n / k:Nat):Int):=by
 have h1:=Nat.div_le_self n k
 rw[Int.tdiv_eq_ediv_of_nonneg (by omega)]
 have:(n:Int) / (k:Int)=((n / k:Nat):Int):=by simp
 rw[this]
 generalize n / k=m at*
 rw[aG (by omega) (by omega)]
theorem C4z{a b:Int}(ha:0 <=a)(hb:0 <=b)(ha1:a <=1000000000000)(hb1:b <=1000000000000):IntKind.i64.wrap (a+b)=a+b:=aG (by omega) (by omega)
theorem C6v(l:List aQ){n:Int}(h: ¬ n <=4000):gI l n=n:=by cases l <;>simp[gI,h]
theorem B1p(l:List cM){n:Int}(h: ¬ n <=4000):gE l n=n:=by cases l <;>simp[gE,h]
theorem vI(l:List aF){n:Int}(h: ¬ n <=4000):gC l n=n:=by cases l <;>simp[gC,h]
set_option maxHeartbeats 4000000 in
theorem A5o(c:cH)(hc:c.bulk <=1000000000):aN Tryd.prog G 6 [c.enc] (.bool (A9q c)):=by
 obtain⟨es,is,cs⟩:=c
 have hb3:cK cM.bulk es <=1000000000 /\ cK aQ.bulk is <=1000000000 /\ bQ cs <=1000000000:=by unfold cH.bulk at hc;simp only at hc;omega
 have hle:es.length <=1000000000:=Nat.le_trans (gZ cM.bulk_pos es) hb3.1
 have hli:is.length <=1000000000:=Nat.le_trans (gZ aQ.bulk_pos is) hb3.2.1
 have hlc:cs.length <=1000000000:=by have:=dE cs;omega
 have hce:(⟨es,is,cs⟩:cH).enc= .agg [aV cM.enc es,aV aQ.enc is,cZ cs]:=rfl
 rw[hce]
 obtain⟨z0,hz0⟩:∃ z0:Int,z0=(is.length:Int)+es.length:=⟨_,rfl⟩
 have hq:IntKind.i64.wrap ((is.length:Int)+(es.length:Int))=z0:=by
  rw[C4z (by omega) (by omega) (by omega) (by omega),hz0]
 have hv:A9r ⟨es,is,cs⟩=gC cs (gE es (gI is z0)):=by unfold A9r;rw[hz0]
 unfold A9q
 rw[hv]
 have hz1:0 <=z0 /\ z0 <=4000000000:=by omega
 clear hz0 hv hc hce
 intro σ
 refine aJ.of_awp mixed Tryd.func6 rfl (by kernel_rfl) (by kernel_rfl) (by simp[Tryd.ntmps6]) Tryd.results6 ?_
 repeat'(first|refine xs ?_ ?_ <;>intros|(refine wn ?_;intro bx hbx;try simp only[fb]at hbx)|refine aP ?_|(refine aB ?_;intro bx hbx;(try simp only[fb]at hbx))|refine aD ?_|((with_reducible refine And.intro ?_ ?_);omega)|refine aA (d':=⟨⟩) ?_|refine aR (by kernel_rfl) ?_|refine aO ?_ (by repeat' first|exact lr _|assumption|refine ls ?_ ?_|refine lt ?_ ?_|simp only[*];done|simp only[fb, *,not_false_eq_true,and_self];done|exact lf ‹_› (by simp only[*]))|refine aC ?_ (by repeat' first|exact lr _|assumption|refine ls ?_ ?_|refine lt ?_ ?_|simp only[*];done|simp only[fb, *,not_false_eq_true,and_self];done|exact lf ‹_› (by simp only[*]))|simp -dsimp only[↓bp,bq,br,seval,aK,hq, *]|refine wz ?_|fail)
 refine eC mixed (fun n e=>∃ (i:Nat) (z:Int),i <=is.length /\ n=is.length - i /\ e 4= .int .i64 i /\ e 3= .int .i64 z /\ 0 <=z /\ z <=4000000000 /\ gI (is.drop i) z=gI is z0) is.length
  ⟨0,z0,by omega,by omega,by first|(simp -dsimp only[↓bp,bq,br,seval,aK];done)|(simp -dsimp only[↓bp,bq,br,seval,aK];try rfl),by first|(simp -dsimp only[↓bp,bq,br,seval,aK];done)|(simp -dsimp only[↓bp,bq,br,seval,aK];try rfl),hz1.1,hz1.2,by rw[List.drop_zero]⟩ ?_
 rintro n v ⟨i,z,hi,rfl,h4,h3,hz0,hz2,hz⟩
 simp -dsimp only[↓bp,bq,br,seval,aK]at h4
 simp -dsimp only[↓bp,bq,br,seval,aK]at h3
 by_cases hlt:i < is.length
 ·have hlt':((i:Int) < is.length)=True:=eq_true (by omega)
  obtain⟨x,hk⟩:∃ x,is[i]? =some x:=⟨_,List.getElem?_eq_getElem hlt⟩
  have hdr:=eW _ _ _ hk
  by_cases hn:z <=4000
  ·have hn':=eq_true hn
   have hxl:x.text.length <=1000000000 /\ x.slots.length <=1000000000:=by have h:=iV (f:=aQ.bulk) (List.mem_of_getElem? hk);have h':x.text.length <=x.bulk /\ x.slots.length <=x.bulk:=(by unfold aQ.bulk;omega);omega
   have hxl2:=Nat.div_le_self x.text.length 20
   have hw1:IntKind.i64.wrap ((i:Int)+1)=((i+1:Nat):Int):=by rw[aG (by omega) (by omega)];rfl
   have hw2:IntKind.i64.wrap (IntKind.i64.wrap (z+(x.slots.length:Int))+IntKind.i64.wrap ((x.text.length:Int).tdiv 20))=z+x.slots.length+(x.text.length / 20:Nat):=by
    rw[show(20:Int)=((20:Nat):Int) from rfl,D5l _ _ (by omega),C4z (a:=z) (by omega) (by omega) (by omega) (by omega),C4z (by omega) (by omega) (by omega) (by omega)]
   have hz3:gI (is.drop (i+1)) (z+x.slots.length+(x.text.length / 20:Nat))=gI is z0:=by rw[<- hz,hdr,gI,if_pos hn]
   clear hz
   repeat'(first|refine xs ?_ ?_ <;>intros|(refine wn ?_;intro bx hbx;try simp only[fb]at hbx)|refine aP ?_|(refine aB ?_;intro bx hbx;(try simp only[fb]at hbx))|refine aD ?_|((with_reducible refine And.intro ?_ ?_);omega)|refine aA (d':=⟨⟩) ?_|refine aR (by kernel_rfl) ?_|refine aO ?_ (by repeat' first|exact lr _|assumption|refine ls ?_ ?_|refine lt ?_ ?_|simp only[*];done|simp only[fb, *,not_false_eq_true,and_self];done|exact lf ‹_› (by simp only[*]))|refine aC ?_ (by repeat' first|exact lr _|assumption|refine ls ?_ ?_|refine lt ?_ ?_|simp only[*];done|simp only[fb, *,not_false_eq_true,and_self];done|exact lf ‹_› (by simp only[*]))|simp -dsimp only[↓bp,bq,br,seval,aK,hw2, *]|refine wz ?_|fail)
   all_goals refine⟨is.length - (i+1),by omega,i+1,z+x.slots.length+(x.text.length / 20:Nat),by omega,rfl,by first|rfl|(simp -dsimp only[↓bp,bq,br,seval,aK];done)|(simp -dsimp only[↓bp,bq,br,seval,aK];try rfl),by first|rfl|(simp -dsimp only[↓bp,bq,br,seval,aK];done)|(simp -dsimp only[↓bp,bq,br,seval,aK];try rfl),by omega,by omega,hz3⟩
  ·have hn':=eq_false hn
   have hzI:gI is z0=z:=by rw[<- hz,C6v _ hn]
   clear hn hz
   repeat'(first|refine xs ?_ ?_ <;>intros|(refine wn ?_;intro bx hbx;try simp only[fb]at hbx)|refine aP ?_|(refine aB ?_;intro bx hbx;(try simp only[fb]at hbx))|refine aD ?_|((with_reducible refine And.intro ?_ ?_);omega)|refine aA (d':=⟨⟩) ?_|refine aR (by kernel_rfl) ?_|refine aO ?_ (by repeat' first|exact lr _|assumption|refine ls ?_ ?_|refine lt ?_ ?_|simp only[*];done|simp only[fb, *,not_false_eq_true,and_self];done|exact lf ‹_› (by simp only[*]))|refine aC ?_ (by repeat' first|exact lr _|assumption|refine ls ?_ ?_|refine lt ?_ ?_|simp only[*];done|simp only[fb, *,not_false_eq_true,and_self];done|exact lf ‹_› (by simp only[*]))|simp -dsimp only[↓bp,bq,br,seval,aK, *]|refine wz ?_|fail)
   refine eC mixed (fun n e=>∃ (i:Nat) (z:Int),i <=es.length /\ n=es.length - i /\ e 5= .int .i64 i /\ e 3= .int .i64 z /\ 0 <=z /\ z <=4000000000 /\ gE (es.drop i) z=gE es (gI is z0)) es.length
    ⟨0,z,by omega,by omega,by first|(simp -dsimp only[↓bp,bq,br,seval,aK];done)|(simp -dsimp only[↓bp,bq,br,seval,aK];try rfl),by first|(simp -dsimp only[↓bp,bq,br,seval,aK,h3];done)|(simp -dsimp only[↓bp,bq,br,seval,aK,h3];try rfl),by omega,by omega,by rw[List.drop_zero,hzI]⟩ ?_
   clear hzI
   rintro n v ⟨i,z,hi,rfl,h4,h3,hz0,hz2,hz⟩
   simp -dsimp only[↓bp,bq,br,seval,aK]at h4
   simp -dsimp only[↓bp,bq,br,seval,aK]at h3
   by_cases hlt:i < es.length
   ·have hlt':((i:Int) < es.length)=True:=eq_true (by omega)
    obtain⟨x,hk⟩:∃ x,es[i]? =some x:=⟨_,List.getElem?_eq_getElem hlt⟩
    have hdr:=eW _ _ _ hk
    by_cases hn:z <=4000
    ·have hn':=eq_true hn
     have hxl:x.name.length <=1000000000:=by have h:=iV (f:=cM.bulk) (List.mem_of_getElem? hk);have h':x.name.length <=x.bulk:=(by unfold cM.bulk;omega);omega
     have hxl2:=Nat.div_le_self x.name.length 20
     have hw1:IntKind.i64.wrap ((i:Int)+1)=((i+1:Nat):Int):=by rw[aG (by omega) (by omega)];rfl
     have hw2:IntKind.i64.wrap (z+IntKind.i64.wrap ((x.name.length:Int).tdiv 20))=z+(x.name.length / 20:Nat):=by
      rw[show(20:Int)=((20:Nat):Int) from rfl,D5l _ _ (by omega),C4z (by omega) (by omega) (by omega) (by omega)]
     have hz3:gE (es.drop (i+1)) (z+(x.name.length / 20:Nat))=gE es (gI is z0):=by rw[<- hz,hdr,gE,if_pos hn]
     clear hz
     repeat'(first|refine xs ?_ ?_ <;>intros|(refine wn ?_;intro bx hbx;try simp only[fb]at hbx)|refine aP ?_|(refine aB ?_;intro bx hbx;(try simp only[fb]at hbx))|refine aD ?_|((with_reducible refine And.intro ?_ ?_);omega)|refine aA (d':=⟨⟩) ?_|refine aR (by kernel_rfl) ?_|refine aO ?_ (by repeat' first|exact lr _|assumption|refine ls ?_ ?_|refine lt ?_ ?_|simp only[*];done|simp only[fb, *,not_false_eq_true,and_self];done|exact lf ‹_› (by simp only[*]))|refine aC ?_ (by repeat' first|exact lr _|assumption|refine ls ?_ ?_|refine lt ?_ ?_|simp only[*];done|simp only[fb, *,not_false_eq_true,and_self];done|exact lf ‹_› (by simp only[*]))|simp -dsimp only[↓bp,bq,br,seval,aK,hw2, *]|refine wz ?_|fail)
     all_goals refine⟨es.length - (i+1),by omega,i+1,z+(x.name.length / 20:Nat),by omega,rfl,by first|rfl|(simp -dsimp only[↓bp,bq,br,seval,aK];done)|(simp -dsimp only[↓bp,bq,br,seval,aK];try rfl),by first|rfl|(simp -dsimp only[↓bp,bq,br,seval,aK];done)|(simp -dsimp only[↓bp,bq,br,seval,aK];try rfl),by omega,by omega,hz3⟩
    ·have hn':=eq_false hn
     have hzE:gE es (gI is z0)=z:=by rw[<- hz,B1p _ hn]
     clear hn hz
     repeat'(first|refine xs ?_ ?_ <;>intros|(refine wn ?_;intro bx hbx;try simp only[fb]at hbx)|refine aP ?_|(refine aB ?_;intro bx hbx;(try simp only[fb]at hbx))|refine aD ?_|((with_reducible refine And.intro ?_ ?_);omega)|refine aA (d':=⟨⟩) ?_|refine aR (by kernel_rfl) ?_|refine aO ?_ (by repeat' first|exact lr _|assumption|refine ls ?_ ?_|refine lt ?_ ?_|simp only[*];done|simp only[fb, *,not_false_eq_true,and_self];done|exact lf ‹_› (by simp only[*]))|refine aC ?_ (by repeat' first|exact lr _|assumption|refine ls ?_ ?_|refine lt ?_ ?_|simp only[*];done|simp only[fb, *,not_false_eq_true,and_self];done|exact lf ‹_› (by simp only[*]))|simp -dsimp only[↓bp,bq,br,seval,aK, *]|refine wz ?_|fail)
     refine eC mixed (fun n e=>∃ (i:Nat) (z:Int),i <=cs.length /\ n=cs.length - i /\ e 6= .int .i64 i /\ e 3= .int .i64 z /\ 0 <=z /\ z <=4000000000 /\ gC (cs.drop i) z=gC cs (gE es (gI is z0))) cs.length
      ⟨0,z,by omega,by omega,by first|(simp -dsimp only[↓bp,bq,br,seval,aK];done)|(simp -dsimp only[↓bp,bq,br,seval,aK];try rfl),by first|(simp -dsimp only[↓bp,bq,br,seval,aK,h3];done)|(simp -dsimp only[↓bp,bq,br,seval,aK,h3];try rfl),by omega,by omega,by rw[List.drop_zero,hzE]⟩ ?_
     clear hzE
     rintro n v ⟨i,z,hi,rfl,h4,h3,hz0,hz2,hz⟩
     simp -dsimp only[↓bp,bq,br,seval,aK]at h4
     simp -dsimp only[↓bp,bq,br,seval,aK]at h3
     by_cases hlt:i < cs.length
     ·have hlt':((i:Int) < cs.length)=True:=eq_true (by omega)
      obtain⟨x,hk⟩:∃ x,cs[i]? =some x:=⟨_,List.getElem?_eq_getElem hlt⟩
      have hdr:=eW _ _ _ hk
      by_cases hn:z <=4000
      ·have hn':=eq_true hn
       have hxb:x.bulk <=1000000000:=by have:=gM (List.mem_of_getElem? hk);omega
       have ht:=kM G x 4000 (by omega) (by omega) hxb
       have hto:=fB x 4000
       have hw1:IntKind.i64.wrap ((i:Int)+1)=((i+1:Nat):Int):=by rw[aG (by omega) (by omega)];rfl
       have hw2:IntKind.i64.wrap (z+bW x 4000)=z+bW x 4000:=aG (by omega) (by omega)
       have hz3:gC (cs.drop (i+1)) (z+bW x 4000)=gC cs (gE es (gI is z0)):=by rw[<- hz,hdr,gC,if_pos hn]
       clear hz
       repeat'(first|refine xs ?_ ?_ <;>intros|(refine wn ?_;intro bx hbx;try simp only[fb]at hbx)|refine wp ht ?_|refine aP ?_|(refine aB ?_;intro bx hbx;(try simp only[fb]at hbx))|refine aD ?_|((with_reducible refine And.intro ?_ ?_);omega)|refine aA (d':=⟨⟩) ?_|refine aR (by kernel_rfl) ?_|refine aO ?_ (by repeat' first|exact lr _|assumption|refine ls ?_ ?_|refine lt ?_ ?_|simp only[*];done|simp only[fb, *,not_false_eq_true,and_self];done|exact lf ‹_› (by simp only[*]))|refine aC ?_ (by repeat' first|exact lr _|assumption|refine ls ?_ ?_|refine lt ?_ ?_|simp only[*];done|simp only[fb, *,not_false_eq_true,and_self];done|exact lf ‹_› (by simp only[*]))|simp -dsimp only[↓bp,bq,br,seval,aK, *]|refine wz ?_|fail)
       all_goals refine⟨cs.length - (i+1),by omega,i+1,z+bW x 4000,by omega,rfl,by first|rfl|(simp -dsimp only[↓bp,bq,br,seval,aK];done)|(simp -dsimp only[↓bp,bq,br,seval,aK];try rfl),by first|rfl|(simp -dsimp only[↓bp,bq,br,seval,aK];done)|(simp -dsimp only[↓bp,bq,br,seval,aK];try rfl),by omega,by omega,hz3⟩
      ·have hn':=eq_false hn
       have hzF:gC cs (gE es (gI is z0))=z:=by rw[<- hz,vI _ hn]
       rw[hzF]
       clear hn hz hzF
       repeat'(first|refine xs ?_ ?_ <;>intros|(refine wn ?_;intro bx hbx;try simp only[fb]at hbx)|refine aP ?_|(refine aB ?_;intro bx hbx;(try simp only[fb]at hbx))|refine aD ?_|((with_reducible refine And.intro ?_ ?_);omega)|refine aA (d':=⟨⟩) ?_|refine aR (by kernel_rfl) ?_|refine aO ?_ (by repeat' first|exact lr _|assumption|refine ls ?_ ?_|refine lt ?_ ?_|simp only[*];done|simp only[fb, *,not_false_eq_true,and_self];done|exact lf ‹_› (by simp only[*]))|refine aC ?_ (by repeat' first|exact lr _|assumption|refine ls ?_ ?_|refine lt ?_ ?_|simp only[*];done|simp only[fb, *,not_false_eq_true,and_self];done|exact lf ‹_› (by simp only[*]))|simp -dsimp only[↓bp,bq,br,seval,aK, *]|refine wz ?_|fail)
       all_goals rfl
     ·have hlt':((i:Int) < cs.length)=False:=eq_false (by omega)
      have hzF:gC cs (gE es (gI is z0))=z:=by rw[<- hz,List.drop_of_length_le (by omega),gC]
      rw[hzF]
      clear hz hzF
      repeat'(first|refine xs ?_ ?_ <;>intros|(refine wn ?_;intro bx hbx;try simp only[fb]at hbx)|refine aP ?_|(refine aB ?_;intro bx hbx;(try simp only[fb]at hbx))|refine aD ?_|((with_reducible refine And.intro ?_ ?_);omega)|refine aA (d':=⟨⟩) ?_|refine aR (by kernel_rfl) ?_|refine aO ?_ (by repeat' first|exact lr _|assumption|refine ls ?_ ?_|refine lt ?_ ?_|simp only[*];done|simp only[fb, *,not_false_eq_true,and_self];done|exact lf ‹_› (by simp only[*]))|refine aC ?_ (by repeat' first|exact lr _|assumption|refine ls ?_ ?_|refine lt ?_ ?_|simp only[*];done|simp only[fb, *,not_false_eq_true,and_self];done|exact lf ‹_› (by simp only[*]))|simp -dsimp only[↓bp,bq,br,seval,aK, *]|refine wz ?_|fail)
      all_goals rfl
   ·have hlt':((i:Int) < es.length)=False:=eq_false (by omega)
    have hzE:gE es (gI is z0)=z:=by rw[<- hz,List.drop_of_length_le (by omega),gE]
    clear hz
    repeat'(first|refine xs ?_ ?_ <;>intros|(refine wn ?_;intro bx hbx;try simp only[fb]at hbx)|refine aP ?_|(refine aB ?_;intro bx hbx;(try simp only[fb]at hbx))|refine aD ?_|((with_reducible refine And.intro ?_ ?_);omega)|refine aA (d':=⟨⟩) ?_|refine aR (by kernel_rfl) ?_|refine aO ?_ (by repeat' first|exact lr _|assumption|refine ls ?_ ?_|refine lt ?_ ?_|simp only[*];done|simp only[fb, *,not_false_eq_true,and_self];done|exact lf ‹_› (by simp only[*]))|refine aC ?_ (by repeat' first|exact lr _|assumption|refine ls ?_ ?_|refine lt ?_ ?_|simp only[*];done|simp only[fb, *,not_false_eq_true,and_self];done|exact lf ‹_› (by simp only[*]))|simp -dsimp only[↓bp,bq,br,seval,aK, *]|refine wz ?_|fail)
    refine eC mixed (fun n e=>∃ (i:Nat) (z:Int),i <=cs.length /\ n=cs.length - i /\ e 6= .int .i64 i /\ e 3= .int .i64 z /\ 0 <=z /\ z <=4000000000 /\ gC (cs.drop i) z=gC cs (gE es (gI is z0))) cs.length
     ⟨0,z,by omega,by omega,by first|(simp -dsimp only[↓bp,bq,br,seval,aK];done)|(simp -dsimp only[↓bp,bq,br,seval,aK];try rfl),by first|(simp -dsimp only[↓bp,bq,br,seval,aK,h3];done)|(simp -dsimp only[↓bp,bq,br,seval,aK,h3];try rfl),by omega,by omega,by rw[List.drop_zero,hzE]⟩ ?_
    clear hzE
    rintro n v ⟨i,z,hi,rfl,h4,h3,hz0,hz2,hz⟩
    simp -dsimp only[↓bp,bq,br,seval,aK]at h4
    simp -dsimp only[↓bp,bq,br,seval,aK]at h3
    by_cases hlt:i < cs.length
    ·have hlt':((i:Int) < cs.length)=True:=eq_true (by omega)
     obtain⟨x,hk⟩:∃ x,cs[i]? =some x:=⟨_,List.getElem?_eq_getElem hlt⟩
     have hdr:=eW _ _ _ hk
     by_cases hn:z <=4000
     ·have hn':=eq_true hn
      have hxb:x.bulk <=1000000000:=by have:=gM (List.mem_of_getElem? hk);omega
      have ht:=kM G x 4000 (by omega) (by omega) hxb
      have hto:=fB x 4000
      have hw1:IntKind.i64.wrap ((i:Int)+1)=((i+1:Nat):Int):=by rw[aG (by omega) (by omega)];rfl
      have hw2:IntKind.i64.wrap (z+bW x 4000)=z+bW x 4000:=aG (by omega) (by omega)
      have hz3:gC (cs.drop (i+1)) (z+bW x 4000)=gC cs (gE es (gI is z0)):=by rw[<- hz,hdr,gC,if_pos hn]
      clear hz
      repeat'(first|refine xs ?_ ?_ <;>intros|(refine wn ?_;intro bx hbx;try simp only[fb]at hbx)|refine wp ht ?_|refine aP ?_|(refine aB ?_;intro bx hbx;(try simp only[fb]at hbx))|refine aD ?_|((with_reducible refine And.intro ?_ ?_);omega)|refine aA (d':=⟨⟩) ?_|refine aR (by kernel_rfl) ?_|refine aO ?_ (by repeat' first|exact lr _|assumption|refine ls ?_ ?_|refine lt ?_ ?_|simp only[*];done|simp only[fb, *,not_false_eq_true,and_self];done|exact lf ‹_› (by simp only[*]))|refine aC ?_ (by repeat' first|exact lr _|assumption|refine ls ?_ ?_|refine lt ?_ ?_|simp only[*];done|simp only[fb, *,not_false_eq_true,and_self];done|exact lf ‹_› (by simp only[*]))|simp -dsimp only[↓bp,bq,br,seval,aK, *]|refine wz ?_|fail)
      all_goals refine⟨cs.length - (i+1),by omega,i+1,z+bW x 4000,by omega,rfl,by first|rfl|(simp -dsimp only[↓bp,bq,br,seval,aK];done)|(simp -dsimp only[↓bp,bq,br,seval,aK];try rfl),by first|rfl|(simp -dsimp only[↓bp,bq,br,seval,aK];done)|(simp -dsimp only[↓bp,bq,br,seval,aK];try rfl),by omega,by omega,hz3⟩
     ·have hn':=eq_false hn
      have hzF:gC cs (gE es (gI is z0))=z:=by rw[<- hz,vI _ hn]
      rw[hzF]
      clear hn hz hzF
      repeat'(first|refine xs ?_ ?_ <;>intros|(refine wn ?_;intro bx hbx;try simp only[fb]at hbx)|refine aP ?_|(refine aB ?_;intro bx hbx;(try simp only[fb]at hbx))|refine aD ?_|((with_reducible refine And.intro ?_ ?_);omega)|refine aA (d':=⟨⟩) ?_|refine aR (by kernel_rfl) ?_|refine aO ?_ (by repeat' first|exact lr _|assumption|refine ls ?_ ?_|refine lt ?_ ?_|simp only[*];done|simp only[fb, *,not_false_eq_true,and_self];done|exact lf ‹_› (by simp only[*]))|refine aC ?_ (by repeat' first|exact lr _|assumption|refine ls ?_ ?_|refine lt ?_ ?_|simp only[*];done|simp only[fb, *,not_false_eq_true,and_self];done|exact lf ‹_› (by simp only[*]))|simp -dsimp only[↓bp,bq,br,seval,aK, *]|refine wz ?_|fail)
      all_goals rfl
    ·have hlt':((i:Int) < cs.length)=False:=eq_false (by omega)
     have hzF:gC cs (gE es (gI is z0))=z:=by rw[<- hz,List.drop_of_length_le (by omega),gC]
     rw[hzF]
     clear hz hzF
     repeat'(first|refine xs ?_ ?_ <;>intros|(refine wn ?_;intro bx hbx;try simp only[fb]at hbx)|refine aP ?_|(refine aB ?_;intro bx hbx;(try simp only[fb]at hbx))|refine aD ?_|((with_reducible refine And.intro ?_ ?_);omega)|refine aA (d':=⟨⟩) ?_|refine aR (by kernel_rfl) ?_|refine aO ?_ (by repeat' first|exact lr _|assumption|refine ls ?_ ?_|refine lt ?_ ?_|simp only[*];done|simp only[fb, *,not_false_eq_true,and_self];done|exact lf ‹_› (by simp only[*]))|refine aC ?_ (by repeat' first|exact lr _|assumption|refine ls ?_ ?_|refine lt ?_ ?_|simp only[*];done|simp only[fb, *,not_false_eq_true,and_self];done|exact lf ‹_› (by simp only[*]))|simp -dsimp only[↓bp,bq,br,seval,aK, *]|refine wz ?_|fail)
     all_goals rfl
 ·have hlt':((i:Int) < is.length)=False:=eq_false (by omega)
  have hzI:gI is z0=z:=by rw[<- hz,List.drop_of_length_le (by omega),gI]
  clear hz
  repeat'(first|refine xs ?_ ?_ <;>intros|(refine wn ?_;intro bx hbx;try simp only[fb]at hbx)|refine aP ?_|(refine aB ?_;intro bx hbx;(try simp only[fb]at hbx))|refine aD ?_|((with_reducible refine And.intro ?_ ?_);omega)|refine aA (d':=⟨⟩) ?_|refine aR (by kernel_rfl) ?_|refine aO ?_ (by repeat' first|exact lr _|assumption|refine ls ?_ ?_|refine lt ?_ ?_|simp only[*];done|simp only[fb, *,not_false_eq_true,and_self];done|exact lf ‹_› (by simp only[*]))|refine aC ?_ (by repeat' first|exact lr _|assumption|refine ls ?_ ?_|refine lt ?_ ?_|simp only[*];done|simp only[fb, *,not_false_eq_true,and_self];done|exact lf ‹_› (by simp only[*]))|simp -dsimp only[↓bp,bq,br,seval,aK, *]|refine wz ?_|fail)
  refine eC mixed (fun n e=>∃ (i:Nat) (z:Int),i <=es.length /\ n=es.length - i /\ e 5= .int .i64 i /\ e 3= .int .i64 z /\ 0 <=z /\ z <=4000000000 /\ gE (es.drop i) z=gE es (gI is z0)) es.length
   ⟨0,z,by omega,by omega,by first|(simp -dsimp only[↓bp,bq,br,seval,aK];done)|(simp -dsimp only[↓bp,bq,br,seval,aK];try rfl),by first|(simp -dsimp only[↓bp,bq,br,seval,aK,h3];done)|(simp -dsimp only[↓bp,bq,br,seval,aK,h3];try rfl),by omega,by omega,by rw[List.drop_zero,hzI]⟩ ?_
  clear hzI
  rintro n v ⟨i,z,hi,rfl,h4,h3,hz0,hz2,hz⟩
  simp -dsimp only[↓bp,bq,br,seval,aK]at h4
  simp -dsimp only[↓bp,bq,br,seval,aK]at h3
  by_cases hlt:i < es.length
  ·have hlt':((i:Int) < es.length)=True:=eq_true (by omega)
   obtain⟨x,hk⟩:∃ x,es[i]? =some x:=⟨_,List.getElem?_eq_getElem hlt⟩
   have hdr:=eW _ _ _ hk
   by_cases hn:z <=4000
   ·have hn':=eq_true hn
    have hxl:x.name.length <=1000000000:=by have h:=iV (f:=cM.bulk) (List.mem_of_getElem? hk);have h':x.name.length <=x.bulk:=(by unfold cM.bulk;omega);omega
    have hxl2:=Nat.div_le_self x.name.length 20
    have hw1:IntKind.i64.wrap ((i:Int)+1)=((i+1:Nat):Int):=by rw[aG (by omega) (by omega)];rfl
    have hw2:IntKind.i64.wrap (z+IntKind.i64.wrap ((x.name.length:Int).tdiv 20))=z+(x.name.length / 20:Nat):=by
     rw[show(20:Int)=((20:Nat):Int) from rfl,D5l _ _ (by omega),C4z (by omega) (by omega) (by omega) (by omega)]
    have hz3:gE (es.drop (i+1)) (z+(x.name.length / 20:Nat))=gE es (gI is z0):=by rw[<- hz,hdr,gE,if_pos hn]
    clear hz
    repeat'(first|refine xs ?_ ?_ <;>intros|(refine wn ?_;intro bx hbx;try simp only[fb]at hbx)|refine aP ?_|(refine aB ?_;intro bx hbx;(try simp only[fb]at hbx))|refine aD ?_|((with_reducible refine And.intro ?_ ?_);omega)|refine aA (d':=⟨⟩) ?_|refine aR (by kernel_rfl) ?_|refine aO ?_ (by repeat' first|exact lr _|assumption|refine ls ?_ ?_|refine lt ?_ ?_|simp only[*];done|simp only[fb, *,not_false_eq_true,and_self];done|exact lf ‹_› (by simp only[*]))|refine aC ?_ (by repeat' first|exact lr _|assumption|refine ls ?_ ?_|refine lt ?_ ?_|simp only[*];done|simp only[fb, *,not_false_eq_true,and_self];done|exact lf ‹_› (by simp only[*]))|simp -dsimp only[↓bp,bq,br,seval,aK,hw2, *]|refine wz ?_|fail)
    all_goals refine⟨es.length - (i+1),by omega,i+1,z+(x.name.length / 20:Nat),by omega,rfl,by first|rfl|(simp -dsimp only[↓bp,bq,br,seval,aK];done)|(simp -dsimp only[↓bp,bq,br,seval,aK];try rfl),by first|rfl|(simp -dsimp only[↓bp,bq,br,seval,aK];done)|(simp -dsimp only[↓bp,bq,br,seval,aK];try rfl),by omega,by omega,hz3⟩
   ·have hn':=eq_false hn
    have hzE:gE es (gI is z0)=z:=by rw[<- hz,B1p _ hn]
    clear hn hz
    repeat'(first|refine xs ?_ ?_ <;>intros|(refine wn ?_;intro bx hbx;try simp only[fb]at hbx)|refine aP ?_|(refine aB ?_;intro bx hbx;(try simp only[fb]at hbx))|refine aD ?_|((with_reducible refine And.intro ?_ ?_);omega)|refine aA (d':=⟨⟩) ?_|refine aR (by kernel_rfl) ?_|refine aO ?_ (by repeat' first|exact lr _|assumption|refine ls ?_ ?_|refine lt ?_ ?_|simp only[*];done|simp only[fb, *,not_false_eq_true,and_self];done|exact lf ‹_› (by simp only[*]))|refine aC ?_ (by repeat' first|exact lr _|assumption|refine ls ?_ ?_|refine lt ?_ ?_|simp only[*];done|simp only[fb, *,not_false_eq_true,and_self];done|exact lf ‹_› (by simp only[*]))|simp -dsimp only[↓bp,bq,br,seval,aK, *]|refine wz ?_|fail)
    refine eC mixed (fun n e=>∃ (i:Nat) (z:Int),i <=cs.length /\ n=cs.length - i /\ e 6= .int .i64 i /\ e 3= .int .i64 z /\ 0 <=z /\ z <=4000000000 /\ gC (cs.drop i) z=gC cs (gE es (gI is z0))) cs.length
     ⟨0,z,by omega,by omega,by first|(simp -dsimp only[↓bp,bq,br,seval,aK];done)|(simp -dsimp only[↓bp,bq,br,seval,aK];try rfl),by first|(simp -dsimp only[↓bp,bq,br,seval,aK,h3];done)|(simp -dsimp only[↓bp,bq,br,seval,aK,h3];try rfl),by omega,by omega,by rw[List.drop_zero,hzE]⟩ ?_
    clear hzE
    rintro n v ⟨i,z,hi,rfl,h4,h3,hz0,hz2,hz⟩
    simp -dsimp only[↓bp,bq,br,seval,aK]at h4
    simp -dsimp only[↓bp,bq,br,seval,aK]at h3
    by_cases hlt:i < cs.length
    ·have hlt':((i:Int) < cs.length)=True:=eq_true (by omega)
     obtain⟨x,hk⟩:∃ x,cs[i]? =some x:=⟨_,List.getElem?_eq_getElem hlt⟩
     have hdr:=eW _ _ _ hk
     by_cases hn:z <=4000
     ·have hn':=eq_true hn
      have hxb:x.bulk <=1000000000:=by have:=gM (List.mem_of_getElem? hk);omega
      have ht:=kM G x 4000 (by omega) (by omega) hxb
      have hto:=fB x 4000
      have hw1:IntKind.i64.wrap ((i:Int)+1)=((i+1:Nat):Int):=by rw[aG (by omega) (by omega)];rfl
      have hw2:IntKind.i64.wrap (z+bW x 4000)=z+bW x 4000:=aG (by omega) (by omega)
      have hz3:gC (cs.drop (i+1)) (z+bW x 4000)=gC cs (gE es (gI is z0)):=by rw[<- hz,hdr,gC,if_pos hn]
      clear hz
      repeat'(first|refine xs ?_ ?_ <;>intros|(refine wn ?_;intro bx hbx;try simp only[fb]at hbx)|refine wp ht ?_|refine aP ?_|(refine aB ?_;intro bx hbx;(try simp only[fb]at hbx))|refine aD ?_|((with_reducible refine And.intro ?_ ?_);omega)|refine aA (d':=⟨⟩) ?_|refine aR (by kernel_rfl) ?_|refine aO ?_ (by repeat' first|exact lr _|assumption|refine ls ?_ ?_|refine lt ?_ ?_|simp only[*];done|simp only[fb, *,not_false_eq_true,and_self];done|exact lf ‹_› (by simp only[*]))|refine aC ?_ (by repeat' first|exact lr _|assumption|refine ls ?_ ?_|refine lt ?_ ?_|simp only[*];done|simp only[fb, *,not_false_eq_true,and_self];done|exact lf ‹_› (by simp only[*]))|simp -dsimp only[↓bp,bq,br,seval,aK, *]|refine wz ?_|fail)
      all_goals refine⟨cs.length - (i+1),by omega,i+1,z+bW x 4000,by omega,rfl,by first|rfl|(simp -dsimp only[↓bp,bq,br,seval,aK];done)|(simp -dsimp only[↓bp,bq,br,seval,aK];try rfl),by first|rfl|(simp -dsimp only[↓bp,bq,br,seval,aK];done)|(simp -dsimp only[↓bp,bq,br,seval,aK];try rfl),by omega,by omega,hz3⟩
     ·have hn':=eq_false hn
      have hzF:gC cs (gE es (gI is z0))=z:=by rw[<- hz,vI _ hn]
      rw[hzF]
      clear hn hz hzF
      repeat'(first|refine xs ?_ ?_ <;>intros|(refine wn ?_;intro bx hbx;try simp only[fb]at hbx)|refine aP ?_|(refine aB ?_;intro bx hbx;(try simp only[fb]at hbx))|refine aD ?_|((with_reducible refine And.intro ?_ ?_);omega)|refine aA (d':=⟨⟩) ?_|refine aR (by kernel_rfl) ?_|refine aO ?_ (by repeat' first|exact lr _|assumption|refine ls ?_ ?_|refine lt ?_ ?_|simp only[*];done|simp only[fb, *,not_false_eq_true,and_self];done|exact lf ‹_› (by simp only[*]))|refine aC ?_ (by repeat' first|exact lr _|assumption|refine ls ?_ ?_|refine lt ?_ ?_|simp only[*];done|simp only[fb, *,not_false_eq_true,and_self];done|exact lf ‹_› (by simp only[*]))|simp -dsimp only[↓bp,bq,br,seval,aK, *]|refine wz ?_|fail)
      all_goals rfl
    ·have hlt':((i:Int) < cs.length)=False:=eq_false (by omega)
     have hzF:gC cs (gE es (gI is z0))=z:=by rw[<- hz,List.drop_of_length_le (by omega),gC]
     rw[hzF]
     clear hz hzF
     repeat'(first|refine xs ?_ ?_ <;>intros|(refine wn ?_;intro bx hbx;try simp only[fb]at hbx)|refine aP ?_|(refine aB ?_;intro bx hbx;(try simp only[fb]at hbx))|refine aD ?_|((with_reducible refine And.intro ?_ ?_);omega)|refine aA (d':=⟨⟩) ?_|refine aR (by kernel_rfl) ?_|refine aO ?_ (by repeat' first|exact lr _|assumption|refine ls ?_ ?_|refine lt ?_ ?_|simp only[*];done|simp only[fb, *,not_false_eq_true,and_self];done|exact lf ‹_› (by simp only[*]))|refine aC ?_ (by repeat' first|exact lr _|assumption|refine ls ?_ ?_|refine lt ?_ ?_|simp only[*];done|simp only[fb, *,not_false_eq_true,and_self];done|exact lf ‹_› (by simp only[*]))|simp -dsimp only[↓bp,bq,br,seval,aK, *]|refine wz ?_|fail)
     all_goals rfl
  ·have hlt':((i:Int) < es.length)=False:=eq_false (by omega)
   have hzE:gE es (gI is z0)=z:=by rw[<- hz,List.drop_of_length_le (by omega),gE]
   clear hz
   repeat'(first|refine xs ?_ ?_ <;>intros|(refine wn ?_;intro bx hbx;try simp only[fb]at hbx)|refine aP ?_|(refine aB ?_;intro bx hbx;(try simp only[fb]at hbx))|refine aD ?_|((with_reducible refine And.intro ?_ ?_);omega)|refine aA (d':=⟨⟩) ?_|refine aR (by kernel_rfl) ?_|refine aO ?_ (by repeat' first|exact lr _|assumption|refine ls ?_ ?_|refine lt ?_ ?_|simp only[*];done|simp only[fb, *,not_false_eq_true,and_self];done|exact lf ‹_› (by simp only[*]))|refine aC ?_ (by repeat' first|exact lr _|assumption|refine ls ?_ ?_|refine lt ?_ ?_|simp only[*];done|simp only[fb, *,not_false_eq_true,and_self];done|exact lf ‹_› (by simp only[*]))|simp -dsimp only[↓bp,bq,br,seval,aK, *]|refine wz ?_|fail)
   refine eC mixed (fun n e=>∃ (i:Nat) (z:Int),i <=cs.length /\ n=cs.length - i /\ e 6= .int .i64 i /\ e 3= .int .i64 z /\ 0 <=z /\ z <=4000000000 /\ gC (cs.drop i) z=gC cs (gE es (gI is z0))) cs.length
    ⟨0,z,by omega,by omega,by first|(simp -dsimp only[↓bp,bq,br,seval,aK];done)|(simp -dsimp only[↓bp,bq,br,seval,aK];try rfl),by first|(simp -dsimp only[↓bp,bq,br,seval,aK,h3];done)|(simp -dsimp only[↓bp,bq,br,seval,aK,h3];try rfl),by omega,by omega,by rw[List.drop_zero,hzE]⟩ ?_
   clear hzE
   rintro n v ⟨i,z,hi,rfl,h4,h3,hz0,hz2,hz⟩
   simp -dsimp only[↓bp,bq,br,seval,aK]at h4
   simp -dsimp only[↓bp,bq,br,seval,aK]at h3
   by_cases hlt:i < cs.length
   ·have hlt':((i:Int) < cs.length)=True:=eq_true (by omega)
    obtain⟨x,hk⟩:∃ x,cs[i]? =some x:=⟨_,List.getElem?_eq_getElem hlt⟩
    have hdr:=eW _ _ _ hk
    by_cases hn:z <=4000
    ·have hn':=eq_true hn
     have hxb:x.bulk <=1000000000:=by have:=gM (List.mem_of_getElem? hk);omega
     have ht:=kM G x 4000 (by omega) (by omega) hxb
     have hto:=fB x 4000
     have hw1:IntKind.i64.wrap ((i:Int)+1)=((i+1:Nat):Int):=by rw[aG (by omega) (by omega)];rfl
     have hw2:IntKind.i64.wrap (z+bW x 4000)=z+bW x 4000:=aG (by omega) (by omega)
     have hz3:gC (cs.drop (i+1)) (z+bW x 4000)=gC cs (gE es (gI is z0)):=by rw[<- hz,hdr,gC,if_pos hn]
     clear hz
     repeat'(first|refine xs ?_ ?_ <;>intros|(refine wn ?_;intro bx hbx;try simp only[fb]at hbx)|refine wp ht ?_|refine aP ?_|(refine aB ?_;intro bx hbx;(try simp only[fb]at hbx))|refine aD ?_|((with_reducible refine And.intro ?_ ?_);omega)|refine aA (d':=⟨⟩) ?_|refine aR (by kernel_rfl) ?_|refine aO ?_ (by repeat' first|exact lr _|assumption|refine ls ?_ ?_|refine lt ?_ ?_|simp only[*];done|simp only[fb, *,not_false_eq_true,and_self];done|exact lf ‹_› (by simp only[*]))|refine aC ?_ (by repeat' first|exact lr _|assumption|refine ls ?_ ?_|refine lt ?_ ?_|simp only[*];done|simp only[fb, *,not_false_eq_true,and_self];done|exact lf ‹_› (by simp only[*]))|simp -dsimp only[↓bp,bq,br,seval,aK, *]|refine wz ?_|fail)
     all_goals refine⟨cs.length - (i+1),by omega,i+1,z+bW x 4000,by omega,rfl,by first|rfl|(simp -dsimp only[↓bp,bq,br,seval,aK];done)|(simp -dsimp only[↓bp,bq,br,seval,aK];try rfl),by first|rfl|(simp -dsimp only[↓bp,bq,br,seval,aK];done)|(simp -dsimp only[↓bp,bq,br,seval,aK];try rfl),by omega,by omega,hz3⟩
    ·have hn':=eq_false hn
     have hzF:gC cs (gE es (gI is z0))=z:=by rw[<- hz,vI _ hn]
     rw[hzF]
     clear hn hz hzF
     repeat'(first|refine xs ?_ ?_ <;>intros|(refine wn ?_;intro bx hbx;try simp only[fb]at hbx)|refine aP ?_|(refine aB ?_;intro bx hbx;(try simp only[fb]at hbx))|refine aD ?_|((with_reducible refine And.intro ?_ ?_);omega)|refine aA (d':=⟨⟩) ?_|refine aR (by kernel_rfl) ?_|refine aO ?_ (by repeat' first|exact lr _|assumption|refine ls ?_ ?_|refine lt ?_ ?_|simp only[*];done|simp only[fb, *,not_false_eq_true,and_self];done|exact lf ‹_› (by simp only[*]))|refine aC ?_ (by repeat' first|exact lr _|assumption|refine ls ?_ ?_|refine lt ?_ ?_|simp only[*];done|simp only[fb, *,not_false_eq_true,and_self];done|exact lf ‹_› (by simp only[*]))|simp -dsimp only[↓bp,bq,br,seval,aK, *]|refine wz ?_|fail)
     all_goals rfl
   ·have hlt':((i:Int) < cs.length)=False:=eq_false (by omega)
    have hzF:gC cs (gE es (gI is z0))=z:=by rw[<- hz,List.drop_of_length_le (by omega),gC]
    rw[hzF]
    clear hz hzF
    repeat'(first|refine xs ?_ ?_ <;>intros|(refine wn ?_;intro bx hbx;try simp only[fb]at hbx)|refine aP ?_|(refine aB ?_;intro bx hbx;(try simp only[fb]at hbx))|refine aD ?_|((with_reducible refine And.intro ?_ ?_);omega)|refine aA (d':=⟨⟩) ?_|refine aR (by kernel_rfl) ?_|refine aO ?_ (by repeat' first|exact lr _|assumption|refine ls ?_ ?_|refine lt ?_ ?_|simp only[*];done|simp only[fb, *,not_false_eq_true,and_self];done|exact lf ‹_› (by simp only[*]))|refine aC ?_ (by repeat' first|exact lr _|assumption|refine ls ?_ ?_|refine lt ?_ ?_|simp only[*];done|simp only[fb, *,not_false_eq_true,and_self];done|exact lf ‹_› (by simp only[*]))|simp -dsimp only[↓bp,bq,br,seval,aK, *]|refine wz ?_|fail)
    all_goals rfl
end
set_option maxRecDepth 20000
section
def dZ:=And.intro (And.intro (And.intro (And.intro (And.intro @tS @sJ) (And.intro @lG @mD)) (And.intro (And.intro @oO @oA) (And.intro @mA (And.intro @kN @xY)))) (And.intro (And.intro (And.intro @iB @mE) (And.intro @jF (And.intro @lF @mB))) (And.intro (And.intro @tR @dJ) (And.intro @cL (And.intro @dR @eF))))) (And.intro (And.intro (And.intro (And.intro @aF.flat_enc @aF.isv_enc) (And.intro @aF.fold_enc @bX)) (And.intro (And.intro @bL @dC) (And.intro @fF (And.intro @dO @cQ)))) (And.intro (And.intro (And.intro @eX @cM.flat_enc) (And.intro @cM.isv_enc (And.intro @cM.fold_enc @aQ.flat_enc))) (And.intro (And.intro @aQ.isv_enc @aQ.fold_enc) (And.intro @cH.flat_enc (And.intro @cH.isv_enc @cH.fold_enc)))))
variable (G:Nat ->AV)
theorem C6l:eqK Tryd.prog 48=some [.str, .int .i64, .int .i64, .int .i64, .int .i64]:=by decide+kernel
theorem D3w(x y:cM):jI Tryd.prog .neq 48 x.enc y.enc=some (.bool (decide (¬ x=y))):=by
 have e:jV [.str, .int .i64, .int .i64, .int .i64, .int .i64] [.str x.name, .int .i64 x.arity, .int .i64 x.extra, .int .i64 x.slots, .int .i64 x.pos] [.str y.name, .int .i64 y.arity, .int .i64 y.extra, .int .i64 y.slots, .int .i64 y.pos]=some (decide (x.name=y.name) && (decide (x.arity=y.arity) && (decide (x.extra=y.extra) && (decide (x.slots=y.slots) && (decide (x.pos=y.pos) && true))))):=by
  rw[D2e,A2a,A2a,A2a,A2a,D2d];rfl
 have h:(decide (x.name=y.name) && (decide (x.arity=y.arity) && (decide (x.extra=y.extra) && (decide (x.slots=y.slots) && (decide (x.pos=y.pos) && true)))))=decide (x=y):=by rw[cM.eq_parts];simp only[Bool.and_true,Bool.and_assoc]
 unfold cM.enc
 rw[B6z,C6l]
 simp only[Option.bind_some,e,h]
 simp[oM]
set_option maxHeartbeats 1000000 in
theorem zF(l r:List cM)(hl:l.length <=1000000000)(hr:r.length <=1000000000):aN Tryd.prog G 37 [aV cM.enc l,aV cM.enc r] (.bool (decide (l=r))):=by
 intro σ
 refine aJ.of_awp mixed Tryd.func37 rfl (by kernel_rfl) (by kernel_rfl) (by simp[Tryd.ntmps37]) Tryd.results37 ?_
 repeat'(first|refine xs ?_ ?_ <;>intros|(refine wn ?_;intro bx hbx;try simp only[fb]at hbx)|refine aP ?_|(refine aB ?_;intro bx hbx;(try simp only[fb]at hbx))|refine aD ?_|((with_reducible refine And.intro ?_ ?_);omega)|refine aA (d':=⟨⟩) ?_|refine aR (by kernel_rfl) ?_|refine aO ?_ (by repeat' first|exact lr _|assumption|refine ls ?_ ?_|refine lt ?_ ?_|simp only[*];done|simp only[fb, *,not_false_eq_true,and_self];done|exact lf ‹_› (by simp only[*]))|refine aC ?_ (by repeat' first|exact lr _|assumption|refine ls ?_ ?_|refine lt ?_ ?_|simp only[*];done|simp only[fb, *,not_false_eq_true,and_self];done|exact lf ‹_› (by simp only[*]))|simp -dsimp only[↓bp,bq,br,seval,dZ, *]|refine wz ?_|fail)
 rotate_right
 ·skip
  refine eC mixed (fun n e=>∃ i:Nat,i <=(l).length /\ n=(l).length - i /\ e 5= .int .i64 i /\ l.take i=r.take i) (l).length
    ⟨0,by omega,by omega,by simp -dsimp only[↓bp,bq,br,seval,dZ];first|done|rfl,rfl⟩ ?_
  rintro n v ⟨i,hi,rfl,h5,htk⟩
  simp -dsimp only[↓bp,bq,br,seval,dZ]at h5
  simp -dsimp only[↓bp,bq,br,seval,dZ,h5]
  refine cX (fun hlt=> ?_) (fun hge=> ?_)
  ·obtain⟨x,hx⟩:∃ x,l[i]? =some x:=⟨_,List.getElem?_eq_getElem (by omega)⟩
   obtain⟨y,hy⟩:∃ y,r[i]? =some y:=⟨_,List.getElem?_eq_getElem (by omega)⟩
   have hq:=D3w x y
   clear hi hlt
   repeat'(first|refine xs ?_ ?_ <;>intros|(refine wn ?_;intro bx hbx;try simp only[fb]at hbx)|refine aP ?_|(refine aB ?_;intro bx hbx;(try simp only[fb]at hbx))|refine aD ?_|((with_reducible refine And.intro ?_ ?_);omega)|refine aA (d':=⟨⟩) ?_|refine aR (by kernel_rfl) ?_|refine aO ?_ (by repeat' first|exact lr _|assumption|refine ls ?_ ?_|refine lt ?_ ?_|simp only[*];done|simp only[fb, *,not_false_eq_true,and_self];done|exact lf ‹_› (by simp only[*]))|refine aC ?_ (by repeat' first|exact lr _|assumption|refine ls ?_ ?_|refine lt ?_ ?_|simp only[*];done|simp only[fb, *,not_false_eq_true,and_self];done|exact lf ‹_› (by simp only[*]))|simp -dsimp only[↓bp,bq,br,seval,dZ,hq, *]|refine wz ?_|fail)
   ·have hxy:l ≠ r:=fun e=>by subst e;rw[hx]at hy;simp only[Option.some.injEq]at hy;subst hy;simp_all
    simp[hxy]
   ·have hxy:x=y:=by simp_all
    subst hxy
    have hlt:=(List.getElem?_eq_some_iff.1 hx).1
    exact⟨l.length - (i+1),by omega,i+1,by omega,rfl,by rw[aG (by omega) (by omega)];rfl,kP htk hx hy⟩
  ·have:i=l.length:=by omega
   subst this
   have hlr:l=r:=mV (by omega) htk
   clear hi hge
   repeat'(first|refine xs ?_ ?_ <;>intros|(refine wn ?_;intro bx hbx;try simp only[fb]at hbx)|refine aP ?_|(refine aB ?_;intro bx hbx;(try simp only[fb]at hbx))|refine aD ?_|((with_reducible refine And.intro ?_ ?_);omega)|refine aA (d':=⟨⟩) ?_|refine aR (by kernel_rfl) ?_|refine aO ?_ (by repeat' first|exact lr _|assumption|refine ls ?_ ?_|refine lt ?_ ?_|simp only[*];done|simp only[fb, *,not_false_eq_true,and_self];done|exact lf ‹_› (by simp only[*]))|refine aC ?_ (by repeat' first|exact lr _|assumption|refine ls ?_ ?_|refine lt ?_ ?_|simp only[*];done|simp only[fb, *,not_false_eq_true,and_self];done|exact lf ‹_› (by simp only[*]))|simp -dsimp only[↓bp,bq,br,seval,dZ, *]|refine wz ?_|fail)
   all_goals simp[hlr]
 ·have:l ≠ r:=fun e=>by subst e;simp_all
  simp[this]
set_option maxHeartbeats 1000000 in
theorem zH(l r:List Int)(hl:l.length <=1000000000)(hr:r.length <=1000000000):aN Tryd.prog G 71 [aV jW l,aV jW r] (.bool (decide (l=r))):=by
 intro σ
 refine aJ.of_awp mixed Tryd.func71 rfl (by kernel_rfl) (by kernel_rfl) (by simp[Tryd.ntmps71]) Tryd.results71 ?_
 repeat'(first|refine xs ?_ ?_ <;>intros|(refine wn ?_;intro bx hbx;try simp only[fb]at hbx)|refine aP ?_|(refine aB ?_;intro bx hbx;(try simp only[fb]at hbx))|refine aD ?_|((with_reducible refine And.intro ?_ ?_);omega)|refine aA (d':=⟨⟩) ?_|refine aR (by kernel_rfl) ?_|refine aO ?_ (by repeat' first|exact lr _|assumption|refine ls ?_ ?_|refine lt ?_ ?_|simp only[*];done|simp only[fb, *,not_false_eq_true,and_self];done|exact lf ‹_› (by simp only[*]))|refine aC ?_ (by repeat' first|exact lr _|assumption|refine ls ?_ ?_|refine lt ?_ ?_|simp only[*];done|simp only[fb, *,not_false_eq_true,and_self];done|exact lf ‹_› (by simp only[*]))|simp -dsimp only[↓bp,bq,br,seval,dZ, *]|refine wz ?_|fail)
 rotate_right
 ·skip
  refine eC mixed (fun n e=>∃ i:Nat,i <=(l).length /\ n=(l).length - i /\ e 5= .int .i64 i /\ l.take i=r.take i) (l).length
    ⟨0,by omega,by omega,by simp -dsimp only[↓bp,bq,br,seval,dZ];first|done|rfl,rfl⟩ ?_
  rintro n v ⟨i,hi,rfl,h5,htk⟩
  simp -dsimp only[↓bp,bq,br,seval,dZ]at h5
  simp -dsimp only[↓bp,bq,br,seval,dZ,h5]
  refine cX (fun hlt=> ?_) (fun hge=> ?_)
  ·obtain⟨x,hx⟩:∃ x,l[i]? =some x:=⟨_,List.getElem?_eq_getElem (by omega)⟩
   obtain⟨y,hy⟩:∃ y,r[i]? =some y:=⟨_,List.getElem?_eq_getElem (by omega)⟩
   clear hi hlt
   repeat'(first|refine xs ?_ ?_ <;>intros|(refine wn ?_;intro bx hbx;try simp only[fb]at hbx)|refine aP ?_|(refine aB ?_;intro bx hbx;(try simp only[fb]at hbx))|refine aD ?_|((with_reducible refine And.intro ?_ ?_);omega)|refine aA (d':=⟨⟩) ?_|refine aR (by kernel_rfl) ?_|refine aO ?_ (by repeat' first|exact lr _|assumption|refine ls ?_ ?_|refine lt ?_ ?_|simp only[*];done|simp only[fb, *,not_false_eq_true,and_self];done|exact lf ‹_› (by simp only[*]))|refine aC ?_ (by repeat' first|exact lr _|assumption|refine ls ?_ ?_|refine lt ?_ ?_|simp only[*];done|simp only[fb, *,not_false_eq_true,and_self];done|exact lf ‹_› (by simp only[*]))|simp -dsimp only[↓bp,bq,br,seval,dZ,jW, *]|refine wz ?_|fail)
   ·have hxy:l ≠ r:=fun e=>by subst e;rw[hx]at hy;simp only[Option.some.injEq]at hy;subst hy;simp_all
    simp[hxy]
   ·have hxy:x=y:=by simp_all
    subst hxy
    have hlt:=(List.getElem?_eq_some_iff.1 hx).1
    exact⟨l.length - (i+1),by omega,i+1,by omega,rfl,by rw[aG (by omega) (by omega)];rfl,kP htk hx hy⟩
  ·have:i=l.length:=by omega
   subst this
   have hlr:l=r:=mV (by omega) htk
   clear hi hge
   repeat'(first|refine xs ?_ ?_ <;>intros|(refine wn ?_;intro bx hbx;try simp only[fb]at hbx)|refine aP ?_|(refine aB ?_;intro bx hbx;(try simp only[fb]at hbx))|refine aD ?_|((with_reducible refine And.intro ?_ ?_);omega)|refine aA (d':=⟨⟩) ?_|refine aR (by kernel_rfl) ?_|refine aO ?_ (by repeat' first|exact lr _|assumption|refine ls ?_ ?_|refine lt ?_ ?_|simp only[*];done|simp only[fb, *,not_false_eq_true,and_self];done|exact lf ‹_› (by simp only[*]))|refine aC ?_ (by repeat' first|exact lr _|assumption|refine ls ?_ ?_|refine lt ?_ ?_|simp only[*];done|simp only[fb, *,not_false_eq_true,and_self];done|exact lf ‹_› (by simp only[*]))|simp -dsimp only[↓bp,bq,br,seval,dZ, *]|refine wz ?_|fail)
   all_goals simp[hlr]
 ·have:l ≠ r:=fun e=>by subst e;simp_all
  simp[this]
set_option maxHeartbeats 1000000 in
theorem A3g(x y:aQ)(hx:x.bulk <=1000000000)(hy:y.bulk <=1000000000):aN Tryd.prog G 60 [x.enc,y.enc] (.bool (decide (x=y))):=by
 have h_slots:=zH G x.slots y.slots (by unfold aQ.bulk at hx;omega) (by unfold aQ.bulk at hy;omega)
 rw[aQ.eq_parts]
 clear hx hy
 intro σ
 refine aJ.of_awp mixed Tryd.func60 rfl (by kernel_rfl) (by kernel_rfl) (by simp[Tryd.ntmps60]) Tryd.results60 ?_
 repeat'(first|refine xs ?_ ?_ <;>intros|(refine wn ?_;intro bx hbx;try simp only[fb]at hbx)|refine wp h_slots ?_|refine aP ?_|(refine aB ?_;intro bx hbx;(try simp only[fb]at hbx))|refine aD ?_|((with_reducible refine And.intro ?_ ?_);omega)|refine aA (d':=⟨⟩) ?_|refine aR (by kernel_rfl) ?_|refine aO ?_ (by repeat' first|exact lr _|assumption|refine ls ?_ ?_|refine lt ?_ ?_|simp only[*];done|simp only[fb, *,not_false_eq_true,and_self];done|exact lf ‹_› (by simp only[*]))|refine aC ?_ (by repeat' first|exact lr _|assumption|refine ls ?_ ?_|refine lt ?_ ?_|simp only[*];done|simp only[fb, *,not_false_eq_true,and_self];done|exact lf ‹_› (by simp only[*]))|simp -dsimp only[↓bp,bq,br,seval,dZ, *]|refine wz ?_|fail)
 all_goals(first|(simp only[decide_true,decide_false, *,Bool.and_true,Bool.true_and,Bool.and_false,Bool.false_and,Bool.or_true,Bool.true_or,Bool.or_false,Bool.false_or,Bool.not_true,Bool.not_false,if_true,if_false,Bool.and_self,Bool.or_self];done)|(simp[decide_true,decide_false, *];done)|(simp_all [decide_true,decide_false];done))
set_option maxHeartbeats 1000000 in
theorem zG(l r:List aQ)(hl:l.length <=1000000000)(hr:r.length <=1000000000)(hf:∀ x,x ∈ l ->∀ y,y ∈ r ->aN Tryd.prog G 60 [x.enc,y.enc] (.bool (decide (x=y)))):aN Tryd.prog G 38 [aV aQ.enc l,aV aQ.enc r] (.bool (decide (l=r))):=by
 intro σ
 refine aJ.of_awp mixed Tryd.func38 rfl (by kernel_rfl) (by kernel_rfl) (by simp[Tryd.ntmps38]) Tryd.results38 ?_
 repeat'(first|refine xs ?_ ?_ <;>intros|(refine wn ?_;intro bx hbx;try simp only[fb]at hbx)|refine aP ?_|(refine aB ?_;intro bx hbx;(try simp only[fb]at hbx))|refine aD ?_|((with_reducible refine And.intro ?_ ?_);omega)|refine aA (d':=⟨⟩) ?_|refine aR (by kernel_rfl) ?_|refine aO ?_ (by repeat' first|exact lr _|assumption|refine ls ?_ ?_|refine lt ?_ ?_|simp only[*];done|simp only[fb, *,not_false_eq_true,and_self];done|exact lf ‹_› (by simp only[*]))|refine aC ?_ (by repeat' first|exact lr _|assumption|refine ls ?_ ?_|refine lt ?_ ?_|simp only[*];done|simp only[fb, *,not_false_eq_true,and_self];done|exact lf ‹_› (by simp only[*]))|simp -dsimp only[↓bp,bq,br,seval,dZ, *]|refine wz ?_|fail)
 rotate_right
 ·skip
  refine eC mixed (fun n e=>∃ i:Nat,i <=(l).length /\ n=(l).length - i /\ e 5= .int .i64 i /\ l.take i=r.take i) (l).length
    ⟨0,by omega,by omega,by simp -dsimp only[↓bp,bq,br,seval,dZ];first|done|rfl,rfl⟩ ?_
  rintro n v ⟨i,hi,rfl,h5,htk⟩
  simp -dsimp only[↓bp,bq,br,seval,dZ]at h5
  simp -dsimp only[↓bp,bq,br,seval,dZ,h5]
  refine cX (fun hlt=> ?_) (fun hge=> ?_)
  ·obtain⟨x,hx⟩:∃ x,l[i]? =some x:=⟨_,List.getElem?_eq_getElem (by omega)⟩
   obtain⟨y,hy⟩:∃ y,r[i]? =some y:=⟨_,List.getElem?_eq_getElem (by omega)⟩
   have hq:=hf x (List.mem_of_getElem? hx) y (List.mem_of_getElem? hy)
   have hwi:IntKind.i64.wrap ((i:Int)+1)=((i+1:Nat):Int):=by rw[aG (by omega) (by omega)];rfl
   clear hi
   by_cases hxy:x=y
   ·rw[decide_eq_true hxy]at hq
    subst hxy
    have hn:=kP htk hx hy
    clear htk hlt hf
    repeat'(first|refine xs ?_ ?_ <;>intros|(refine wn ?_;intro bx hbx;try simp only[fb]at hbx)|refine wp hq ?_|refine aP ?_|(refine aB ?_;intro bx hbx;(try simp only[fb]at hbx))|refine aD ?_|((with_reducible refine And.intro ?_ ?_);omega)|refine aA (d':=⟨⟩) ?_|refine aR (by kernel_rfl) ?_|refine aO ?_ (by repeat' first|exact lr _|assumption|refine ls ?_ ?_|refine lt ?_ ?_|simp only[*];done|simp only[fb, *,not_false_eq_true,and_self];done|exact lf ‹_› (by simp only[*]))|refine aC ?_ (by repeat' first|exact lr _|assumption|refine ls ?_ ?_|refine lt ?_ ?_|simp only[*];done|simp only[fb, *,not_false_eq_true,and_self];done|exact lf ‹_› (by simp only[*]))|simp -dsimp only[↓bp,bq,br,seval,dZ, *]|refine wz ?_|fail)
    all_goals(have hlt:=(List.getElem?_eq_some_iff.1 hx).1)
    all_goals exact⟨l.length - (i+1),by omega,i+1,by omega,rfl,rfl,hn⟩
   ·rw[decide_eq_false hxy]at hq
    have hne: ¬ l=r:=fun e=>by subst e;rw[hx]at hy;simp only[Option.some.injEq]at hy;exact hxy hy
    rw[decide_eq_false hne]
    clear hxy htk hne hlt hf
    repeat'(first|refine xs ?_ ?_ <;>intros|(refine wn ?_;intro bx hbx;try simp only[fb]at hbx)|refine wp hq ?_|refine aP ?_|(refine aB ?_;intro bx hbx;(try simp only[fb]at hbx))|refine aD ?_|((with_reducible refine And.intro ?_ ?_);omega)|refine aA (d':=⟨⟩) ?_|refine aR (by kernel_rfl) ?_|refine aO ?_ (by repeat' first|exact lr _|assumption|refine ls ?_ ?_|refine lt ?_ ?_|simp only[*];done|simp only[fb, *,not_false_eq_true,and_self];done|exact lf ‹_› (by simp only[*]))|refine aC ?_ (by repeat' first|exact lr _|assumption|refine ls ?_ ?_|refine lt ?_ ?_|simp only[*];done|simp only[fb, *,not_false_eq_true,and_self];done|exact lf ‹_› (by simp only[*]))|simp -dsimp only[↓bp,bq,br,seval,dZ, *]|refine wz ?_|fail)
    all_goals rfl
  ·have:i=l.length:=by omega
   subst this
   have hlr:l=r:=mV (by omega) htk
   clear hi hge
   repeat'(first|refine xs ?_ ?_ <;>intros|(refine wn ?_;intro bx hbx;try simp only[fb]at hbx)|refine aP ?_|(refine aB ?_;intro bx hbx;(try simp only[fb]at hbx))|refine aD ?_|((with_reducible refine And.intro ?_ ?_);omega)|refine aA (d':=⟨⟩) ?_|refine aR (by kernel_rfl) ?_|refine aO ?_ (by repeat' first|exact lr _|assumption|refine ls ?_ ?_|refine lt ?_ ?_|simp only[*];done|simp only[fb, *,not_false_eq_true,and_self];done|exact lf ‹_› (by simp only[*]))|refine aC ?_ (by repeat' first|exact lr _|assumption|refine ls ?_ ?_|refine lt ?_ ?_|simp only[*];done|simp only[fb, *,not_false_eq_true,and_self];done|exact lf ‹_› (by simp only[*]))|simp -dsimp only[↓bp,bq,br,seval,dZ, *]|refine wz ?_|fail)
   all_goals simp[hlr]
 ·have:l ≠ r:=fun e=>by subst e;simp_all
  simp[this]
set_option maxHeartbeats 1000000 in
theorem A3f(x y:cH)(hx:x.bulk <=1000000000)(hy:y.bulk <=1000000000):aN Tryd.prog G 10 [x.enc,y.enc] (.bool (decide (x=y))):=by
 have h_entries:=zF G x.entries y.entries (by have:=gZ cM.bulk_pos x.entries;unfold cH.bulk at hx;omega) (by have:=gZ cM.bulk_pos y.entries;unfold cH.bulk at hy;omega)
 have h_instrs:=zG G x.instrs y.instrs (by have:=gZ aQ.bulk_pos x.instrs;unfold cH.bulk at hx;omega) (by have:=gZ aQ.bulk_pos y.instrs;unfold cH.bulk at hy;omega) (fun u hu v hv=>A3g G u v (by have:=iV (f:=aQ.bulk) hu;unfold cH.bulk at hx;omega) (by have:=iV (f:=aQ.bulk) hv;unfold cH.bulk at hy;omega))
 have h_consts:=pP G x.consts y.consts (by have:=dE x.consts;unfold cH.bulk at hx;omega) (by have:=dE y.consts;unfold cH.bulk at hy;omega) (fun u hu v hv=>B5r G u v (by have:=gM hu;unfold cH.bulk at hx;omega) (by have:=gM hv;unfold cH.bulk at hy;omega))
 simp only[C3o,B5s]at*
 rw[cH.eq_parts]
 clear hx hy
 intro σ
 refine aJ.of_awp mixed Tryd.func10 rfl (by kernel_rfl) (by kernel_rfl) (by simp[Tryd.ntmps10]) Tryd.results10 ?_
 repeat'(first|refine xs ?_ ?_ <;>intros|(refine wn ?_;intro bx hbx;try simp only[fb]at hbx)|refine wp h_entries ?_|refine wp h_instrs ?_|refine wp h_consts ?_|refine aP ?_|(refine aB ?_;intro bx hbx;(try simp only[fb]at hbx))|refine aD ?_|((with_reducible refine And.intro ?_ ?_);omega)|refine aA (d':=⟨⟩) ?_|refine aR (by kernel_rfl) ?_|refine aO ?_ (by repeat' first|exact lr _|assumption|refine ls ?_ ?_|refine lt ?_ ?_|simp only[*];done|simp only[fb, *,not_false_eq_true,and_self];done|exact lf ‹_› (by simp only[*]))|refine aC ?_ (by repeat' first|exact lr _|assumption|refine ls ?_ ?_|refine lt ?_ ?_|simp only[*];done|simp only[fb, *,not_false_eq_true,and_self];done|exact lf ‹_› (by simp only[*]))|simp -dsimp only[↓bp,bq,br,seval,dZ, *]|refine wz ?_|fail)
 all_goals(first|(simp only[decide_true,decide_false, *,Bool.and_true,Bool.true_and,Bool.and_false,Bool.false_and,Bool.or_true,Bool.true_or,Bool.or_false,Bool.false_or,Bool.not_true,Bool.not_false,if_true,if_false,Bool.and_self,Bool.or_self];done)|(simp[decide_true,decide_false, *];done)|(simp_all [decide_true,decide_false];done))
end
set_option maxRecDepth 20000
section
variable (G:Nat ->AV)
def uN(x n:Int):Int:=if n < 1 then 0 else if x.tmod n < 0 then x.tmod n+n else x.tmod n
theorem A6p(x n:Int)(h:1 <=n):0 <=uN x n /\ uN x n < n:=by
 unfold uN
 rw[if_neg (by omega)]
 have h1:=Int.tmod_lt_of_pos x (show 0 < n by omega)
 have h2: -n < x.tmod n:=by
  by_cases hx:0 <=x
  ·have:=Int.tmod_nonneg n hx;omega
  ·have e:x.tmod n= -((-x).tmod n):=by rw[Int.neg_tmod,Int.neg_neg]
   have:=Int.tmod_lt_of_pos (-x) (show 0 < n by omega)
   omega
 split <;>omega
theorem B5n(x n:Int)(h:1 <=n)(hn:n <=1000000000):aN Tryd.prog G 12 [.int .i64 x, .int .i64 n] (.int .i64 (uN x n)):=by
 have h1:=Int.tmod_lt_of_pos x (show 0 < n by omega)
 have hr:=A6p x n h
 have e:uN x n=if x.tmod n < 0 then x.tmod n+n else x.tmod n:=by unfold uN;rw[if_neg (by omega)]
 have hn1:(n < 1)=False:=eq_false (by omega)
 have hn0:(n=0)=False:=eq_false (by omega)
 intro σ
 by_cases c:x.tmod n < 0
 ·rw[if_pos c]at e
  have hw:IntKind.i64.wrap (x.tmod n+n)=x.tmod n+n:=aG (by omega) (by omega)
  rw[e]
  have c:=eq_true c
  clear h1 hr e h hn
  refine aJ.of_awp mixed Tryd.func12 rfl (by kernel_rfl) (by kernel_rfl) (by simp[Tryd.ntmps12]) Tryd.results12 ?_
  repeat'(first|refine xs ?_ ?_ <;>intros|(refine wn ?_;intro bx hbx;try simp only[fb]at hbx)|refine aP ?_|(refine aB ?_;intro bx hbx;(try simp only[fb]at hbx))|refine aD ?_|((with_reducible refine And.intro ?_ ?_);omega)|refine aA (d':=⟨⟩) ?_|refine aR (by kernel_rfl) ?_|refine aO ?_ (by repeat' first|exact lr _|assumption|refine ls ?_ ?_|refine lt ?_ ?_|simp only[*];done|simp only[fb, *,not_false_eq_true,and_self];done|exact lf ‹_› (by simp only[*]))|refine aC ?_ (by repeat' first|exact lr _|assumption|refine ls ?_ ?_|refine lt ?_ ?_|simp only[*];done|simp only[fb, *,not_false_eq_true,and_self];done|exact lf ‹_› (by simp only[*]))|simp -dsimp only[↓bp,bq,br,seval,mD,mE, *]|refine wz ?_|fail)
  all_goals rfl
 ·rw[if_neg c]at e
  rw[e]
  have c:=eq_false c
  clear h1 hr e h hn
  refine aJ.of_awp mixed Tryd.func12 rfl (by kernel_rfl) (by kernel_rfl) (by simp[Tryd.ntmps12]) Tryd.results12 ?_
  repeat'(first|refine xs ?_ ?_ <;>intros|(refine wn ?_;intro bx hbx;try simp only[fb]at hbx)|refine aP ?_|(refine aB ?_;intro bx hbx;(try simp only[fb]at hbx))|refine aD ?_|((with_reducible refine And.intro ?_ ?_);omega)|refine aA (d':=⟨⟩) ?_|refine aR (by kernel_rfl) ?_|refine aO ?_ (by repeat' first|exact lr _|assumption|refine ls ?_ ?_|refine lt ?_ ?_|simp only[*];done|simp only[fb, *,not_false_eq_true,and_self];done|exact lf ‹_› (by simp only[*]))|refine aC ?_ (by repeat' first|exact lr _|assumption|refine ls ?_ ?_|refine lt ?_ ?_|simp only[*];done|simp only[fb, *,not_false_eq_true,and_self];done|exact lf ‹_› (by simp only[*]))|simp -dsimp only[↓bp,bq,br,seval,mD,mE, *]|refine wz ?_|fail)
  all_goals rfl
end
set_option maxRecDepth 20000
section
def uT:=And.intro (And.intro (And.intro (And.intro @mD (And.intro @mE @mA)) (And.intro @lG (And.intro @mB @lF))) (And.intro (And.intro @lJ (And.intro @kN @oB)) (And.intro (And.intro @tR @tS) (And.intro @sJ @oO)))) (And.intro (And.intro (And.intro @oA (And.intro @jF @iB)) (And.intro @xY (And.intro @B6d @bX))) (And.intro (And.intro @bL (And.intro @dJ @cL)) (And.intro (And.intro @dR @eF) (And.intro @gU @fO))))
variable {G:Nat ->AV}
theorem xR(l r:List UInt8)(hl:l.length <=1000000000)(hr:r.length <=1000000000):aN Tryd.prog G 13 [aV gB l,aV gB r] (.bool (decide (l=r))):=by
 intro σ
 refine aJ.of_awp mixed Tryd.func13 rfl (by kernel_rfl) (by kernel_rfl) (by simp[Tryd.ntmps13]) Tryd.results13 ?_
 repeat'(first|refine xs ?_ ?_ <;>intros|(refine wn ?_;intro bx hbx;try simp only[fb]at hbx)|refine aP ?_|(refine aB ?_;intro bx hbx;(try simp only[fb]at hbx))|refine aD ?_|((with_reducible refine And.intro ?_ ?_);omega)|refine aA (d':=⟨⟩) ?_|refine aR (by kernel_rfl) ?_|refine aO ?_ (by repeat' first|exact lr _|assumption|refine ls ?_ ?_|refine lt ?_ ?_|simp only[*];done|simp only[fb, *,not_false_eq_true,and_self];done|exact lf ‹_› (by simp only[*]))|refine aC ?_ (by repeat' first|exact lr _|assumption|refine ls ?_ ?_|refine lt ?_ ?_|simp only[*];done|simp only[fb, *,not_false_eq_true,and_self];done|exact lf ‹_› (by simp only[*]))|simp -dsimp only[↓bp,bq,br,seval,uT, *]|refine wz ?_|fail)
 rotate_right
 ·skip
  refine eC mixed (fun n e=>∃ i:Nat,i <=(l).length /\ n=(l).length - i /\ e 5= .int .i64 i /\ l.take i=r.take i) (l).length
    ⟨0,by omega,by omega,by simp -dsimp only[↓bp,bq,br,seval,uT];first|done|rfl,rfl⟩ ?_
  rintro n v ⟨i,hi,rfl,h5,htk⟩
  simp -dsimp only[↓bp,bq,br,seval,uT]at h5
  simp -dsimp only[↓bp,bq,br,seval,uT,h5]
  refine cX (fun hlt=> ?_) (fun hge=> ?_)
  ·obtain⟨x,hx⟩:∃ x,l[i]? =some x:=⟨_,List.getElem?_eq_getElem (by omega)⟩
   obtain⟨y,hy⟩:∃ y,r[i]? =some y:=⟨_,List.getElem?_eq_getElem (by omega)⟩
   clear hi hlt
   have hne8:((x.toNat:Int)=y.toNat)=(x=y):=propext ⟨fun e=>UInt8.toNat_inj.1 (by omega),fun e=>by rw[e]⟩
   repeat'(first|refine xs ?_ ?_ <;>intros|(refine wn ?_;intro bx hbx;try simp only[fb]at hbx)|refine aP ?_|(refine aB ?_;intro bx hbx;(try simp only[fb]at hbx))|refine aD ?_|((with_reducible refine And.intro ?_ ?_);omega)|refine aA (d':=⟨⟩) ?_|refine aR (by kernel_rfl) ?_|refine aO ?_ (by repeat' first|exact lr _|assumption|refine ls ?_ ?_|refine lt ?_ ?_|simp only[*];done|simp only[fb, *,not_false_eq_true,and_self];done|exact lf ‹_› (by simp only[*]))|refine aC ?_ (by repeat' first|exact lr _|assumption|refine ls ?_ ?_|refine lt ?_ ?_|simp only[*];done|simp only[fb, *,not_false_eq_true,and_self];done|exact lf ‹_› (by simp only[*]))|simp -dsimp only[↓bp,bq,br,seval,uT,gB, *]|refine wz ?_|fail)
   ·have hxy:l ≠ r:=fun e=>by subst e;rw[hx]at hy;simp only[Option.some.injEq]at hy;subst hy;simp_all
    simp[hxy]
   ·have hxy:x=y:=by simp_all
    subst hxy
    have hlt:=(List.getElem?_eq_some_iff.1 hx).1
    exact⟨l.length - (i+1),by omega,i+1,by omega,rfl,by rw[aG (by omega) (by omega)];rfl,kP htk hx hy⟩
  ·have:i=l.length:=by omega
   subst this
   have hlr:l=r:=mV (by omega) htk
   clear hi hge
   repeat'(first|refine xs ?_ ?_ <;>intros|(refine wn ?_;intro bx hbx;try simp only[fb]at hbx)|refine aP ?_|(refine aB ?_;intro bx hbx;(try simp only[fb]at hbx))|refine aD ?_|((with_reducible refine And.intro ?_ ?_);omega)|refine aA (d':=⟨⟩) ?_|refine aR (by kernel_rfl) ?_|refine aO ?_ (by repeat' first|exact lr _|assumption|refine ls ?_ ?_|refine lt ?_ ?_|simp only[*];done|simp only[fb, *,not_false_eq_true,and_self];done|exact lf ‹_› (by simp only[*]))|refine aC ?_ (by repeat' first|exact lr _|assumption|refine ls ?_ ?_|refine lt ?_ ?_|simp only[*];done|simp only[fb, *,not_false_eq_true,and_self];done|exact lf ‹_› (by simp only[*]))|simp -dsimp only[↓bp,bq,br,seval,uT, *]|refine wz ?_|fail)
   all_goals simp[hlr]
 ·have:l ≠ r:=fun e=>by subst e;simp_all
  simp[this]
def pS:cH:=⟨[⟨[102],1,0,2,0⟩],[⟨11,0,1,0,0,0,[],[]⟩],[.mk 7 false [] [] 0 [.mk 2 false [] [97] 0 [] []] [.mk 1 false [1] [] 0 [] []]]⟩
def A4r(s:List UInt8):aF:= .mk 2 false [] s 0 [] []
theorem B2z(s:List UInt8):aN Tryd.prog G 40 [.str s] (A4r s).enc:=by
 refine aN.of_le fun σ=> ?_
 refine aJ.mono (Q:=fun r σ'=>r= .agg [.int .u8 2, .bool false, .nil, .str s, .int .i64 0, .nil, .nil] /\ σ'=σ) ?_ ?_
 case refine_2=>
  rintro r σ' ⟨rfl,rfl⟩
  refine⟨?_,rfl⟩
  rw[<- aF.fold_enc]
  exact Le.agg (.cons (Le.refl _) (.cons (Le.refl _) (.cons Le.nil (.cons (Le.refl _) (.cons (Le.refl _) (.cons Le.nil (.cons Le.nil .nil))))))) (fun d hd=>by simp at hd;rcases hd with rfl|rfl|rfl|rfl|rfl|rfl|rfl <;>rfl)
 refine aJ.of_awp mixed Tryd.func40 rfl (by kernel_rfl) (by kernel_rfl) (by simp[Tryd.ntmps40]) Tryd.results40 ?_
 repeat'(first|refine xs ?_ ?_ <;>intros|(refine wn ?_;intro bx hbx;try simp only[fb]at hbx)|refine aP ?_|(refine aB ?_;intro bx hbx;(try simp only[fb]at hbx))|refine aD ?_|((with_reducible refine And.intro ?_ ?_);omega)|refine aA (d':=⟨⟩) ?_|refine aR (by kernel_rfl) ?_|refine aO ?_ (by repeat' first|exact lr _|assumption|refine ls ?_ ?_|refine lt ?_ ?_|simp only[*];done|simp only[fb, *,not_false_eq_true,and_self];done|exact lf ‹_› (by simp only[*]))|refine aC ?_ (by repeat' first|exact lr _|assumption|refine ls ?_ ?_|refine lt ?_ ?_|simp only[*];done|simp only[fb, *,not_false_eq_true,and_self];done|exact lf ‹_› (by simp only[*]))|simp -dsimp only[↓bp,bq,br,seval,uT, *]|refine wz ?_|fail)
theorem nU:cG pS=true:=by decide+kernel
theorem A3j:fL pS=[112,105,103,115,0,1,1,102,1,0,0,2,0,0,0,1,11,0,1,0,1,7,0,1,2,1,97,1,1,0,1,0,0,0,1]:=by decide+kernel
theorem A6c{t:aF}{li it ta:AV}(h1:Le li (hU t.limbs))(h2:Le it (cZ t.items))(h3:Le ta (cZ t.tail)):LeE (.agg [.int .u8 t.knd, .bool t.neg,li, .str t.text, .int .i64 t.num,it,ta]) t.enc:=by
 rw[<- aF.fold_enc]
 refine LeE.agg (.cons (Le.refl _) (.cons (Le.refl _) (.cons h1 (.cons (Le.refl _) (.cons (Le.refl _) (.cons h2 (.cons h3 .nil))))))) ?_
 intro d hd
 simp only[List.mem_cons,List.not_mem_nil,or_false]at hd
 rcases hd with rfl|rfl|rfl|rfl|rfl|rfl|rfl <;>rfl
theorem C3x:Le (.agg [.sl .full [.agg [.str [102], .int .i64 1, .int .i64 0, .int .i64 2, .int .i64 0]] [], .sl .full [.agg [.int .u8 11, .int .i64 0, .int .i64 1, .int .i64 0, .int .i64 0, .int .i64 0, .str [], .nil]] [], .sl .full [.agg [.int .u8 7, .bool false, .nil, .str [], .int .i64 0, .sl .full [(A4r [97]).enc] [], .sl .full [.agg [.int .u8 1, .bool false, .sl .full [.int .u32 1] [], .str [], .int .i64 0, .nil, .nil]] []]] []]) pS.enc:=by
 have k3:Le (.sl .full [.int .u32 1] []) (hU [1]):=Le.gh
 have k4:Le (.sl .full [.agg [.int .u8 1, .bool false, .sl .full [.int .u32 1] [], .str [], .int .i64 0, .nil, .nil]] []) (cZ [.mk 1 false [1] [] 0 [] []]):=by
  exact Le.sl (.cons (A6c (t:= .mk 1 false [1] [] 0 [] []) k3 Le.nil Le.nil) .nil)
 have k5:Le (.sl .full [.agg [.int .u8 7, .bool false, .nil, .str [], .int .i64 0, .sl .full [(A4r [97]).enc] [], .sl .full [.agg [.int .u8 1, .bool false, .sl .full [.int .u32 1] [], .str [], .int .i64 0, .nil, .nil]] []]] []) (cZ [.mk 7 false [] [] 0 [A4r [97]] [.mk 1 false [1] [] 0 [] []]]):=by
  exact Le.sl (.cons (A6c (t:= .mk 7 false [] [] 0 [A4r [97]] [.mk 1 false [1] [] 0 [] []]) Le.nil Le.gh k4) .nil)
 have k2:Le (.sl .full [.agg [.int .u8 11, .int .i64 0, .int .i64 1, .int .i64 0, .int .i64 0, .int .i64 0, .str [], .nil]] []) (aV aQ.enc [⟨11,0,1,0,0,0,[],[]⟩]):=by
  refine Le.sl (.cons (LeE.agg (.cons (Le.refl _) (.cons (Le.refl _) (.cons (Le.refl _) (.cons (Le.refl _) (.cons (Le.refl _) (.cons (Le.refl _) (.cons (Le.refl _) (.cons Le.nil .nil)))))))) ?_) .nil)
  intro d hd
  simp only[List.mem_cons,List.not_mem_nil,or_false]at hd
  rcases hd with rfl|rfl|rfl|rfl|rfl|rfl|rfl|rfl <;>rfl
 refine Le.agg (.cons Le.gh (.cons k2 (.cons k5 .nil))) ?_
 intro d hd
 simp only[List.mem_cons,List.not_mem_nil,or_false]at hd
 rcases hd with rfl|rfl|rfl <;>rfl
theorem B0v:aN Tryd.prog G 14 [] pS.enc:=by
 refine aN.of_le fun σ=> ?_
 have t1:=B2z (G:=G) [97]
 have e1:=aF.flat_enc (A4r [97])
 have e2:=aF.isv_enc (A4r [97])
 have hle:=C3x
 generalize hq:(A4r [97]).enc=a at*
 refine aJ.of_awp mixed Tryd.func14 rfl (by kernel_rfl) (by kernel_rfl) (by simp[Tryd.ntmps14]) Tryd.results14 ?_
 repeat'(first|refine xs ?_ ?_ <;>intros|(refine wn ?_;intro bx hbx;try simp only[fb]at hbx)|refine wp t1 ?_|refine aP ?_|(refine aB ?_;intro bx hbx;(try simp only[fb]at hbx))|refine aD ?_|((with_reducible refine And.intro ?_ ?_);omega)|refine aA (d':=⟨⟩) ?_|refine aR (by kernel_rfl) ?_|refine aO ?_ (by repeat' first|exact lr _|assumption|refine ls ?_ ?_|refine lt ?_ ?_|simp only[*];done|simp only[fb, *,not_false_eq_true,and_self];done|exact lf ‹_› (by simp only[*]))|refine aC ?_ (by repeat' first|exact lr _|assumption|refine ls ?_ ?_|refine lt ?_ ?_|simp only[*];done|simp only[fb, *,not_false_eq_true,and_self];done|exact lf ‹_› (by simp only[*]))|simp -dsimp only[↓bp,bq,br,seval,uT, *]|refine wz ?_|fail)
 exact aE σ (by repeat' first|exact AS.le.refl _|refine AS.le.setBox ?_ (by simp_all [AS.fresh]) _) ⟨hle,rfl⟩
end
set_option maxRecDepth 20000
section
variable {G:Nat ->AV}
theorem A6t(hg:mF G)(hgC:kQ G){c:cH}(hr:cG c=true)(hb:c.bulk <=10000000):aN Tryd.prog G 7 [c.enc] (.tup [bS (fL c), .int .i64 0]):=by
 refine aN.of_le fun σ=> ?_
 refine(D9c (A3b hg hgC hr hb σ)).mono ?_
 rintro r s ⟨⟨v,rfl,hv⟩,rfl⟩
 exact⟨Le.tup (.cons hv (.cons (Le.refl _) .nil)),rfl⟩
theorem B1q(hg:mF G)(hgC:kQ G){b:List UInt8}{c:cH}(hb:b.length <=900000000)(h:pK b=some c):aN Tryd.prog G 9 [bS b] (.tup [c.enc, .int .i64 0]):=by
 have:=A5n hg hgC b hb
 unfold C0j at this
 rw[h]at this
 exact this
theorem wY(hg:mF G)(hgC:kQ G){b:List UInt8}(hb:b.length <=900000000)(h:pK b=none):aN Tryd.prog G 9 [bS b] (.tup [(⟨[],[],[]⟩:cH).enc, .int .i64 4]):=by
 have:=A5n hg hgC b hb
 rw[mN h]at this
 exact this
theorem D8j(b:List UInt8)(hb:b.length <=1000000000):aN Tryd.prog G 13 [bS b,bS b] (.bool true):=by
 have:=xR (G:=G) b b hb hb
 rw[decide_eq_true (rfl:b=b)]at this
 exact this
theorem D1i(c:cH)(hb:c.bulk <=1000000000):aN Tryd.prog G 10 [c.enc,c.enc] (.bool true):=by
 have:=A3f G c c hb hb
 rw[decide_eq_true (rfl:c=c)]at this
 exact this
theorem A7b:pS.bulk <=100:=by decide+kernel
theorem rO:fL pS=exB:=A3j
theorem A1l(hg:mF G)(hgC:kQ G):aN Tryd.prog G 5 [] (.bool true):=by
 have hl:exB.length=35:=rfl
 have hbk:pS.bulk <=100:=A7b
 refine A8r (c:=pS) (x:=exB) (by omega) B0v A1z ?_ ?_ ?_ (D8j _ (by omega)) (D1i _ (by omega))
 ·have:=A6t hg hgC nU (by omega)
  rw[rO]at this;exact this
 ·exact B1q hg hgC (by omega) (by rw[<- rO];exact B1y nU)
 ·refine wY hg hgC (by rw[List.length_take];omega) ?_
  rw[<- rO]
  exact B1x nU 20 (by rw[rO];omega)
theorem B8j(c:cH)(hc:c.bulk <=10000000):(fL c).length <=800000000:=by
 have h1:=mM (k:=8) A5g c.entries
 have h2:=mM (k:=16) A5y c.instrs
 have h3:=gT c.consts
 have hb:cK cM.bulk c.entries+cK aQ.bulk c.instrs+bQ c.consts+1=c.bulk:=rfl
 have hm:iM.length=4:=rfl
 unfold fL
 simp only[List.length_append,bA,hm]
 omega
theorem B8k(c:cH):8 <=(fL c).length:=by
 have hm:iM.length=4:=rfl
 unfold fL
 simp only[List.length_append,bA,hm]
 omega
theorem yU(b:List UInt8)(hb:b.length <=1000000000)(σ:AS):aJ Tryd.prog G 11 [bS b] σ fun r s=>fN 1 5 σ s r (aI b):=A5d b hb σ
theorem A2y(hg:mF G)(hgC:kQ G)(c:cH)(more:List UInt8)(k:Int)(hc:c.bulk <=10000000):aN Tryd.prog G 3 [c.enc,bS more, .int .i64 k] (.bool true):=by
 have w:=A1l hg hgC
 have g:=A5o (G:=G) c (by omega)
 cases hgr:A9q c with
 |true=>rw[hgr]at g;exact A8t w g
 | false=>
  rw[hgr]at g
  by_cases hm:50000 < more.length
  ·exact B3f w g hm
  have r:=jR hgC c (by omega)
  cases hr:cG c with
  |false=>rw[hr]at r;exact B7s w g (by omega) (A3a hgC hr hc) r
  | true=>
   rw[hr]at r
   have hlx:(fL c).length <=800000000:=B8j c hc
   have hpos:8 <=(fL c).length:=B8k c
   obtain⟨hq,hq2⟩:=A6p k (fL c).length (by omega)
   obtain⟨q,hqe⟩:∃ q:Nat,uN k (fL c).length=(q:Int):=⟨(uN k (fL c).length).toNat,by omega⟩
   have hi:=B5n G k (fL c).length (by omega) (by omega)
   rw[hqe]at hi
   have H:B6v G c (fL c) more k q:=⟨w,g,A6t hg hgC hr hc,r,B1q hg hgC (by omega) (B1y hr),D1i c (by omega),fun hne=>wY hg hgC (by rw[List.length_append];omega) (C2x hr more hne),fun σ=>yU _ (by omega) σ,hi,wY hg hgC (by rw[List.length_take];omega) (B1x hr q (by omega)),by omega,by omega⟩
   by_cases hne:more=[]
   ·subst hne;exact B3h H
   ·exact B3g H hne (by omega)
end
set_option maxRecDepth 100000
section
open Go Go.Av Go.RowKit
variable {H:Type}
theorem A4z{l:List aF}{xs:List (DataW H)}(hl:l.length=xs.length)(h:∀ (i:Nat) x a,xs[i]? =some x ->l[i]? =some a ->a.bulk <=Rows.uptoBulk x):bQ l <=Rows.uptoBulkAll xs:=by
 induction l generalizing xs with
 |nil=>simp[bQ]
 | cons a l ih=>
  cases xs with
  |nil=>simp at hl
  | cons x xs=>
   have h0:=h 0 x a rfl rfl
   have h1:=ih (xs:=xs) (by simpa using hl) (fun i y b hy hb=>h (i+1) y b (by simpa using hy) (by simpa using hb))
   simp only[bQ,Rows.uptoBulkAll];omega
theorem C8m{l:List UInt32}{xs:List (DataW H)}(hl:l.length=xs.length)(h:∀ (i:Nat) x (a:UInt32),xs[i]? =some x ->l[i]? =some a ->1 <=Rows.uptoBulk x):l.length <=Rows.uptoBulkAll xs:=by
 induction l generalizing xs with
 |nil=>simp
 | cons a l ih=>
  cases xs with
  |nil=>simp at hl
  | cons x xs=>
   have h0:=h 0 x a rfl rfl
   have h1:=ih (xs:=xs) (by simpa using hl) (fun i y b hy hb=>h (i+1) y b (by simpa using hy) (by simpa using hb))
   simp only[List.length_cons,Rows.uptoBulkAll];omega
theorem C4s{m:Int}(h:(Lit.int .u8 m).wf=true):∃ k:UInt8,m=(k.toNat:Int):=by
 have hr:0 <=m /\ m < 256:=by
  have h0:IntKind.u8.min=0:=by decide
  have h1:IntKind.u8.max=255:=by decide
  simp only[Lit.wf,Bool.and_eq_true,decide_eq_true_eq,h0,h1]at h
  omega
 refine⟨UInt8.ofNat m.toNat,?_⟩
 rw[UInt8.toNat_ofNat']
 omega
theorem D5d{m:Int}(h:(Lit.int .u32 m).wf=true):∃ k:UInt32,m=(k.toNat:Int):=by
 have hr:0 <=m /\ m < 4294967296:=by
  have h0:IntKind.u32.min=0:=by decide
  have h1:IntKind.u32.max=4294967295:=by decide
  simp only[Lit.wf,Bool.and_eq_true,decide_eq_true_eq,h0,h1]at h
  omega
 refine⟨UInt32.ofNat m.toNat,?_⟩
 rw[UInt32.toNat_ofNat']
 omega
theorem B5p:∀ (n:Nat) (d:DataW H),sN Tryd.prog n 53 d ->∃ t:aF,fC d=t.enc /\ t.bulk <=Rows.uptoBulk d:=by
 intro n
 induction n using Nat.strongRecOn with
 | _ n ih=>
  intro d h
  obtain⟨ds,m,rfl,rfl,hl,hf⟩:=oE h Tryd.underlying53
  match ds,hl with
  | [d0,d1,d2,d3,d4,d5,d6],_=>
   obtain⟨k,rfl,hk⟩:=fU (hf 0 _ d0 rfl rfl) Tryd.underlying50
   obtain⟨g,rfl⟩:=C4o (hf 1 _ d1 rfl rfl) Tryd.underlying4
   obtain⟨xs,sp,q,hx,hq,hxs⟩:=iZ (hf 2 _ d2 rfl rfl) Tryd.underlying51
   obtain⟨s,rfl,_⟩:=A3m (hf 3 _ d3 rfl rfl) Tryd.underlying9
   obtain⟨nn,rfl,_⟩:=fU (hf 4 _ d4 rfl rfl) Tryd.underlying3
   obtain⟨ys,sq,q2,hy,hq2,hys⟩:=iZ (hf 5 _ d5 rfl rfl) Tryd.underlying24
   obtain⟨zs,sr,q3,hz,hq3,hzs⟩:=iZ (hf 6 _ d6 rfl rfl) Tryd.underlying24
   obtain⟨k',rfl⟩:=C4s hk
   obtain⟨l,h1,h2,h3⟩:=hH (enc:=lY) (good:=fun x _=>1 <=Rows.uptoBulk x) (fun x hx=>by
    obtain⟨z,rfl,hz⟩:=fU hx Tryd.underlying88
    obtain⟨z',rfl⟩:=D5d hz
    exact⟨z',by simp[fC,lY],by simp[Rows.uptoBulk]⟩) xs hxs
   obtain⟨l2,i1,i2,i3⟩:=hH (enc:=aF.enc) (good:=fun x a=>a.bulk <=Rows.uptoBulk x) (fun x hx=>ih q2 (by omega) x hx) ys hys
   obtain⟨l3,j1,j2,j3⟩:=hH (enc:=aF.enc) (good:=fun x a=>a.bulk <=Rows.uptoBulk x) (fun x hx=>ih q3 (by omega) x hx) zs hzs
   have hb:=C8m h2 h3
   have hb2:=A4z i2 i3
   have hb3:=A4z j2 j3
   refine⟨.mk k' g l s nn l2 l3,?_,?_⟩
   ·have e1:flat (fC d2)=[hU l]:=by
     rcases hx with⟨rfl,rfl⟩|rfl
     ·simp only[qH,List.length_nil,List.length_eq_zero_iff]at h1 h2
      subst h2
      simp[fC,flat,hU]
     ·simp[fC,flat,hU,h1]
    have e2:flat (fC d5)=[.sl .none (l2.map aF.enc) []]:=by
     rcases hy with⟨rfl,rfl⟩|rfl
     ·simp only[qH,List.length_nil,List.length_eq_zero_iff]at i1 i2
      subst i2
      simp[fC,flat]
     ·simp[fC,flat,i1]
    have e3:flat (fC d6)=[.sl .none (l3.map aF.enc) []]:=by
     rcases hz with⟨rfl,rfl⟩|rfl
     ·simp only[qH,List.length_nil,List.length_eq_zero_iff]at j1 j2
      subst j2
      simp[fC,flat]
     ·simp[fC,flat,j1]
    have e4:fC (.agg [.lit (.int .u8 (k'.toNat:Int)), .lit (.bool g),d2, .lit (.string s), .lit (.int .i64 nn),d5,d6]:DataW H)= .agg (flat (.int .u8 (k'.toNat:Int))++(flat (.bool g)++(flat (fC d2)++(flat (.str s)++(flat (.int .i64 nn)++(flat (fC d5)++(flat (fC d6)++[]))))))):=by
     simp[fC,lW]
    rw[e4,e1,e2,e3]
    simp[flat,aF.enc,hU]
   ·rw[aF.bulk]
    rcases hx with⟨rfl,rfl⟩|rfl <;>rcases hy with⟨rfl,rfl⟩|rfl <;>rcases hz with⟨rfl,rfl⟩|rfl <;>simp only[Rows.uptoBulk,Rows.uptoBulkAll]at hb hb2 hb3 ⊢ <;>omega
end
set_option maxRecDepth 100000
section
open Go Go.Av Go.RowKit Go.ChangeShapes
variable {H:Type}
theorem jT{m:Int}(h:(Lit.int .i64 m).wf=true):rU m:=by
 have h0:IntKind.i64.min= -9223372036854775808:=by decide
 have h1:IntKind.i64.max=9223372036854775807:=by decide
 simp only[Lit.wf,Bool.and_eq_true,decide_eq_true_eq,h0,h1]at h
 exact h
theorem pB{α:Type}{f:α ->Nat}{p:α ->Prop}{l:List α}{xs:List (DataW H)}(hl:l.length=xs.length)(h:∀ (i:Nat) x a,xs[i]? =some x ->l[i]? =some a ->f a <=Rows.uptoBulk x /\ p a):cK f l <=Rows.uptoBulkAll xs /\ ∀ a,a ∈ l ->p a:=by
 induction l generalizing xs with
 |nil=>exact⟨by simp[cK],fun a ha=>by cases ha⟩
 | cons a l ih=>
  cases xs with
  |nil=>simp at hl
  | cons x xs=>
   have h0:=h 0 x a rfl rfl
   have h1:=ih (xs:=xs) (by simpa using hl) (fun i y b hy hb=>h (i+1) y b (by simpa using hy) (by simpa using hb))
   refine⟨by simp only[cK,Rows.uptoBulkAll];omega,fun b hb=> ?_⟩
   rcases List.mem_cons.1 hb with rfl|hb
   ·exact h0.2
   ·exact h1.2 b hb
theorem A0e(n:Nat)(d:DataW H)(h:sN Tryd.prog n 3 d):∃ m:Int,fC d=jW m /\ (1 <=Rows.uptoBulk d /\ rU m):=by
 obtain⟨k,rfl,hk⟩:=fU h Tryd.underlying3
 exact⟨k,by simp[fC,jW],by simp only[Rows.uptoBulk];omega,jT hk⟩
theorem zY{α:Type}(l:List α):cK (fun _=>1) l=l.length:=by
 induction l with
 |nil=>rfl
 |cons x l ih=>simp only[cK,ih,List.length_cons];omega
theorem C3c(n:Nat)(d:DataW H)(h:sN Tryd.prog n 48 d):∃ x:cM,fC d=x.enc /\ (x.bulk <=Rows.uptoBulk d /\ x.Rng):=by
 obtain⟨ds,m,rfl,rfl,hl,hf⟩:=oE h Tryd.underlying48
 match ds,hl with
 | [d0,d1,d2,d3,d4],_=>
  obtain⟨s0,rfl,hs0⟩:=A3m (hf 0 _ d0 rfl rfl) Tryd.underlying9
  obtain⟨k1,rfl,hk1⟩:=fU (hf 1 _ d1 rfl rfl) Tryd.underlying3
  obtain⟨k2,rfl,hk2⟩:=fU (hf 2 _ d2 rfl rfl) Tryd.underlying3
  obtain⟨k3,rfl,hk3⟩:=fU (hf 3 _ d3 rfl rfl) Tryd.underlying3
  obtain⟨k4,rfl,hk4⟩:=fU (hf 4 _ d4 rfl rfl) Tryd.underlying3
  refine⟨⟨s0,k1,k2,k3,k4⟩,?_,?_,⟨jT hk1,jT hk2,jT hk3,jT hk4⟩⟩
  ·have ee:fC (.agg [.lit (.string s0), .lit (.int .i64 k1), .lit (.int .i64 k2), .lit (.int .i64 k3), .lit (.int .i64 k4)]:DataW H)= .agg (flat (.str s0)++(flat (.int .i64 k1)++(flat (.int .i64 k2)++(flat (.int .i64 k3)++(flat (.int .i64 k4)++[]))))):=by
    simp[fC,lW]
   rw[ee]
   simp[flat,cM.enc,aV,cZ]
  ·unfold cM.bulk
   simp only[Rows.uptoBulk,Rows.uptoBulkAll]at ⊢ <;>omega
theorem C3d(n:Nat)(d:DataW H)(h:sN Tryd.prog n 46 d):∃ x:aQ,fC d=x.enc /\ (x.bulk <=Rows.uptoBulk d /\ x.Rng):=by
 obtain⟨ds,m,rfl,rfl,hl,hf⟩:=oE h Tryd.underlying46
 match ds,hl with
 | [d0,d1,d2,d3,d4,d5,d6,d7],_=>
  obtain⟨k0,rfl,hk0⟩:=fU (hf 0 _ d0 rfl rfl) Tryd.underlying43
  obtain⟨u0,rfl⟩:=C4s hk0
  obtain⟨k1,rfl,hk1⟩:=fU (hf 1 _ d1 rfl rfl) Tryd.underlying3
  obtain⟨k2,rfl,hk2⟩:=fU (hf 2 _ d2 rfl rfl) Tryd.underlying3
  obtain⟨k3,rfl,hk3⟩:=fU (hf 3 _ d3 rfl rfl) Tryd.underlying3
  obtain⟨k4,rfl,hk4⟩:=fU (hf 4 _ d4 rfl rfl) Tryd.underlying3
  obtain⟨k5,rfl,hk5⟩:=fU (hf 5 _ d5 rfl rfl) Tryd.underlying3
  obtain⟨s6,rfl,hs6⟩:=A3m (hf 6 _ d6 rfl rfl) Tryd.underlying9
  obtain⟨xs7,sp7,q7,hx7,hq7,hxs7⟩:=iZ (hf 7 _ d7 rfl rfl) Tryd.underlying44
  obtain⟨l7,h17,h27,h37⟩:=hH (enc:=jW) (good:=fun x a=>1 <=Rows.uptoBulk x /\ rU a) (fun x hx=>A0e q7 x hx) xs7 hxs7
  have hb7:=pB (f:=(fun _=>1)) (p:=rU) h27 h37
  rw[zY]at hb7
  refine⟨⟨u0,k1,k2,k3,k4,k5,s6,l7⟩,?_,?_,⟨jT hk1,jT hk2,jT hk3,jT hk4,jT hk5,hb7.2⟩⟩
  ·have e7:flat (fC d7)=[.sl .none (l7.map jW) []]:=by
    rcases hx7 with⟨rfl,rfl⟩|rfl
    ·simp only[qH,List.length_nil,List.length_eq_zero_iff]at h17 h27
     subst h27
     simp[fC,flat]
    ·simp[fC,flat,h17]
   have ee:fC (.agg [.lit (.int .u8 u0.toNat), .lit (.int .i64 k1), .lit (.int .i64 k2), .lit (.int .i64 k3), .lit (.int .i64 k4), .lit (.int .i64 k5), .lit (.string s6),d7]:DataW H)= .agg (flat (.int .u8 u0.toNat)++(flat (.int .i64 k1)++(flat (.int .i64 k2)++(flat (.int .i64 k3)++(flat (.int .i64 k4)++(flat (.int .i64 k5)++(flat (.str s6)++(flat (fC d7)++[])))))))):=by
    simp[fC,lW]
   rw[ee,e7]
   simp[flat,aQ.enc,aV,cZ,aQ.opI]
  ·have hb7:=hb7.1
   unfold aQ.bulk
   rcases hx7 with⟨rfl,rfl⟩|rfl <;>simp only[Rows.uptoBulk,Rows.uptoBulkAll]at hb7 ⊢ <;>omega
theorem C3b(n:Nat)(d:DataW H)(h:sN Tryd.prog n 26 d):∃ x:cH,fC d=x.enc /\ (x.bulk <=Rows.uptoBulk d /\ x.Rng):=by
 obtain⟨ds,m,rfl,rfl,hl,hf⟩:=oE h Tryd.underlying26
 match ds,hl with
 | [d0,d1,d2],_=>
  obtain⟨xs0,sp0,q0,hx0,hq0,hxs0⟩:=iZ (hf 0 _ d0 rfl rfl) Tryd.underlying22
  obtain⟨l0,h10,h20,h30⟩:=hH (enc:=cM.enc) (good:=fun x a=>a.bulk <=Rows.uptoBulk x /\ a.Rng) (fun x hx=>C3c q0 x hx) xs0 hxs0
  have hb0:=pB (f:=cM.bulk) (p:=cM.Rng) h20 h30
  obtain⟨xs1,sp1,q1,hx1,hq1,hxs1⟩:=iZ (hf 1 _ d1 rfl rfl) Tryd.underlying23
  obtain⟨l1,h11,h21,h31⟩:=hH (enc:=aQ.enc) (good:=fun x a=>a.bulk <=Rows.uptoBulk x /\ a.Rng) (fun x hx=>C3d q1 x hx) xs1 hxs1
  have hb1:=pB (f:=aQ.bulk) (p:=aQ.Rng) h21 h31
  obtain⟨xs2,sp2,q2,hx2,hq2,hxs2⟩:=iZ (hf 2 _ d2 rfl rfl) Tryd.underlying24
  obtain⟨l2,h12,h22,h32⟩:=hH (enc:=aF.enc) (good:=fun x a=>a.bulk <=Rows.uptoBulk x /\ True) (fun x hx=>let⟨t,h1,h2⟩:=B5p q2 x hx;⟨t,h1,h2,trivial⟩) xs2 hxs2
  have hb2:=pB (f:=aF.bulk) (p:=(fun _=>True)) h22 h32
  rw[<- B1m]at hb2
  refine⟨⟨l0,l1,l2⟩,?_,?_,⟨hb0.2,hb1.2⟩⟩
  ·have e0:flat (fC d0)=[.sl .none (l0.map cM.enc) []]:=by
    rcases hx0 with⟨rfl,rfl⟩|rfl
    ·simp only[qH,List.length_nil,List.length_eq_zero_iff]at h10 h20
     subst h20
     simp[fC,flat]
    ·simp[fC,flat,h10]
   have e1:flat (fC d1)=[.sl .none (l1.map aQ.enc) []]:=by
    rcases hx1 with⟨rfl,rfl⟩|rfl
    ·simp only[qH,List.length_nil,List.length_eq_zero_iff]at h11 h21
     subst h21
     simp[fC,flat]
    ·simp[fC,flat,h11]
   have e2:flat (fC d2)=[.sl .none (l2.map aF.enc) []]:=by
    rcases hx2 with⟨rfl,rfl⟩|rfl
    ·simp only[qH,List.length_nil,List.length_eq_zero_iff]at h12 h22
     subst h22
     simp[fC,flat]
    ·simp[fC,flat,h12]
   have ee:fC (.agg [d0,d1,d2]:DataW H)= .agg (flat (fC d0)++(flat (fC d1)++(flat (fC d2)++[]))):=by
    simp[fC,lW]
   rw[ee,e0,e1,e2]
   simp[flat,cH.enc,aV,cZ]
  ·have hb0:=hb0.1
   have hb1:=hb1.1
   have hb2:=hb2.1
   unfold cH.bulk
   rcases hx0 with⟨rfl,rfl⟩|rfl <;>rcases hx1 with⟨rfl,rfl⟩|rfl <;>rcases hx2 with⟨rfl,rfl⟩|rfl <;>simp only[Rows.uptoBulk,Rows.uptoBulkAll]at hb0 hb1 hb2 ⊢ <;>omega
end
set_option maxRecDepth 100000
section
open Go Go.Av Go.RowKit Go.ChangeShapes
variable {H:Type}
theorem B5o(n:Nat)(d:DataW H)(h:sN Tryd.prog n 5 d):∃ k:UInt8,fC d= .int .u8 k.toNat /\ 1 <=Rows.uptoBulk d:=by
 obtain⟨k,rfl,hk⟩:=fU h Tryd.underlying5
 obtain⟨u,rfl⟩:=C4s hk
 exact⟨u,by simp[fC],by simp only[Rows.uptoBulk];omega⟩
theorem B0o(n:Nat)(d:DataW H)(h:sN Tryd.prog n 27 d):∃ b:List UInt8,fC d= .sl .none (aI b) [] /\ b.length <=Rows.uptoBulk d:=by
 obtain⟨xs,sp,q,hx,hq,hxs⟩:=iZ h Tryd.underlying27
 obtain⟨l,h1,h2,h3⟩:=hH (enc:=gB) (good:=fun x a=>1 <=Rows.uptoBulk x) (fun x hx=>B5o q x hx) xs hxs
 have hb:=pB (f:=(fun _=>1)) (p:=fun _=>True) h2 (fun i x a hx ha=> ⟨h3 i x a hx ha,trivial⟩)
 rw[zY]at hb
 refine⟨l,?_,?_⟩
 ·rcases hx with⟨rfl,rfl⟩|rfl
  ·simp only[qH,List.length_nil,List.length_eq_zero_iff]at h1 h2
   subst h2
   simp[fC,aI]
  ·simp[fC,h1,aI]
 ·have hb:=hb.1
  rcases hx with⟨rfl,rfl⟩|rfl <;>simp only[Rows.uptoBulk,Rows.uptoBulkAll]at hb ⊢ <;>omega
def SP:List TypeId:=[53,50,4,51,88,9,3,24,5,27,43,46,23,44,48,22,26,101,114,121,122,95]
theorem kV:nI Tryd.prog SP=true:=by kernel_rfl
def GvP(m:Int):Nat ->AV:=fun g=>if g=0 then .rp nR else if g=2 then .rp jZ else if g=3 then .rp dY else if g=4 then .rp [.int .i64 m]else .raw (.pointer (some ⟨g,0,none⟩))
theorem C6z(m:Int):mF (GvP m):= {fields:=rfl}
theorem C0i(m:Int):kQ (GvP m):= {shapes:=rfl,builtin:=rfl,most:=⟨m,rfl⟩}
theorem B0u:flat (fC (H:=Unit) Rows.laid_pigeonhole_code_shapes)=jZ:=by kernel_rfl
theorem A4x:flat (fC (H:=Unit) Rows.laid_pigeonhole_lint_builtin)=dY:=by kernel_rfl
theorem A9l:flat (fC (H:=Unit) Rows.laid_pigeonhole_pack_fields)=nR:=by kernel_rfl
theorem B4u{W:World}{g:Nat}(h:∃ m,W.cell? ⟨g,0,none⟩=some (.int .i64 m)):∃ m:Int,VR (iL W) (.rp [.int .i64 m]) (.pointer (some ⟨g,0,none⟩)):=by
 obtain⟨m,hm⟩:=h
 refine⟨m, .rp _ g 0 (fun _=> .int .i64 m) (fun c hc=>by simp at hc;subst hc;rfl) (fun j hj=> ?_) (fun j hj=> ?_)⟩
 ·have:j=0:=by simpa using hj
  subst this;exact hm
 ·have:j=0:=by simpa using hj
  subst this;exact .int .i64 m
theorem A5h {W:World} {laid:List (String × DataW Unit)} (hL:laidMet Tryd.prog laid W) (h2:("pigeonhole/lint.builtin",Rows.laid_pigeonhole_lint_builtin) ∈ laid) (h3:("pigeonhole/code.shapes",Rows.laid_pigeonhole_code_shapes) ∈ laid) (h4:("pigeonhole/pack.fields",Rows.laid_pigeonhole_pack_fields) ∈ laid)
  (hsh:W.ShapedOpen Tryd.prog):∃ m,∀ g,VR (iL W) (GvP m g) (.pointer (some ⟨g,0,none⟩)):=by
 have g1:VR (iL W) (.rp nR) (.pointer (some ⟨0,0,none⟩)):=
  tC kV hL (n:= "pigeonhole/pack.fields") h4 (g:=0) (t:=95) (by kernel_rfl) (by kernel_rfl) (by decide) A9l
 have g2:VR (iL W) (.rp jZ) (.pointer (some ⟨2,0,none⟩)):=
  tC kV hL (n:= "pigeonhole/code.shapes") h3 (g:=2) (t:=114) (by kernel_rfl) (by kernel_rfl) (by decide) B0u
 have g3:VR (iL W) (.rp dY) (.pointer (some ⟨3,0,none⟩)):=
  tC kV hL (n:= "pigeonhole/lint.builtin") h2 (g:=3) (t:=122) (by kernel_rfl) (by kernel_rfl) (by decide) A4x
 have g4:∃ m,W.cell? ⟨4,0,none⟩=some (.int .i64 m):=
  Go.Proofs.cell_of_shapedOpen_int (zero:= #[.int .i64 0]) (t:=3) hsh (of_decide_eq_true (by kernel_rfl)) (by kernel_rfl) rfl (by kernel_rfl) (by kernel_rfl) Tryd.underlying3
 obtain⟨m,g4⟩:=B4u g4
 refine⟨m,fun g=> ?_⟩
 unfold GvP
 by_cases e0:g=0
 ·subst e0;exact g1
 by_cases e2:g=2
 ·subst e2;exact g2
 by_cases e3:g=3
 ·subst e3;exact g3
 by_cases e4:g=4
 ·subst e4;exact g4
 rw[if_neg e0,if_neg e2,if_neg e3,if_neg e4];exact .raw _
end
end Go.Proofs.YthoenjlenkpnnaaDoor
