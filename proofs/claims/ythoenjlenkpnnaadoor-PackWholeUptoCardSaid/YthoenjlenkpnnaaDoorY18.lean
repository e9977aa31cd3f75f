/- Code: is a code more than is gone through in time? -/
import Derived.Test.YthoenjlenkpnnaaDoorY15
import Derived.Test.YthoenjlenkpnnaaDoorY08
import Derived.Test.YthoenjlenkpnnaaDoorY17
import Derived.Test.YthoenjlenkpnnaaDoorY07
import Derived.Test.YthoenjlenkpnnaaDoorRows
import Derived.Test.YthoenjlenkpnnaaDoorY13
set_option linter.unusedVariables false
set_option linter.unusedSimpArgs false
set_option maxRecDepth 20000
set_option linter.defProp false
namespace Go.Proofs.YthoenjlenkpnnaaDoor
open Go Go.Av
section
variable {G:Nat ->AV}
end
set_option maxRecDepth 20000
section
def dU:=And.intro (And.intro (And.intro (And.intro (And.intro @uI @sV) (And.intro @kW @nK)) (And.intro (And.intro @oT @nP) (And.intro @lY (And.intro @kE @yJ)))) (And.intro (And.intro (And.intro @iF @nL) (And.intro @jD (And.intro @lC @nA))) (And.intro (And.intro @uH @dH) (And.intro @cK (And.intro @dR @eF))))) (And.intro (And.intro (And.intro (And.intro @aF.flat_enc @aF.isv_enc) (And.intro @aF.fold_enc @cA)) (And.intro (And.intro @bL @dE) (And.intro @fR (And.intro @dL @cN)))) (And.intro (And.intro (And.intro @fA @dA.flat_enc) (And.intro @dA.isv_enc (And.intro @dA.fold_enc @aO.flat_enc))) (And.intro (And.intro @aO.isv_enc @aO.fold_enc) (And.intro @cU.flat_enc (And.intro @cU.isv_enc @cU.fold_enc)))))
variable (G:Nat ->AV)
theorem C4t:eqK Tryd.prog 48=some [.str, .int .i64, .int .i64, .int .i64, .int .i64]:=by decide+kernel
theorem D2f(x y:dA):iL Tryd.prog .neq 48 x.enc y.enc=some (.bool (decide (¬ x=y))):=by
 have e:iZ [.str, .int .i64, .int .i64, .int .i64, .int .i64] [.str x.name, .int .i64 x.arity, .int .i64 x.extra, .int .i64 x.slots, .int .i64 x.pos] [.str y.name, .int .i64 y.arity, .int .i64 y.extra, .int .i64 y.slots, .int .i64 y.pos]=some (decide (x.name=y.name) && (decide (x.arity=y.arity) && (decide (x.extra=y.extra) && (decide (x.slots=y.slots) && (decide (x.pos=y.pos) && true))))):=by
  rw[D0n,A1a,A1a,A1a,A1a,D0m];rfl
 have h:(decide (x.name=y.name) && (decide (x.arity=y.arity) && (decide (x.extra=y.extra) && (decide (x.slots=y.slots) && (decide (x.pos=y.pos) && true)))))=decide (x=y):=by rw[dA.eq_parts];simp only[Bool.and_true,Bool.and_assoc]
 unfold dA.enc
 rw[B5l,C4t]
 simp only[Option.bind_some,e,h]
 simp[nM]
set_option maxHeartbeats 1000000 in
theorem yF(l r:List dA)(hl:l.length <=1000000000)(hr:r.length <=1000000000):aN Tryd.prog G 37 [aW dA.enc l,aW dA.enc r] (.bool (decide (l=r))):=by
 intro σ
 refine aJ.of_awp mixed Tryd.func37 rfl (by kernel_rfl) (by kernel_rfl) (by simp[Tryd.ntmps37]) Tryd.results37 ?_
 repeat'(first|refine xs ?_ ?_ <;>intros|(refine wn ?_;intro bx hbx;try simp only[fb]at hbx)|refine aQ ?_|(refine aB ?_;intro bx hbx;(try simp only[fb]at hbx))|refine aD ?_|((with_reducible refine And.intro ?_ ?_);omega)|refine aA (d':=⟨⟩) ?_|refine aR (by kernel_rfl) ?_|refine aP ?_ (by repeat' first|exact lr _|assumption|refine ls ?_ ?_|refine lt ?_ ?_|simp only[*];done|simp only[fb, *,not_false_eq_true,and_self];done|exact lf ‹_› (by simp only[*]))|refine aC ?_ (by repeat' first|exact lr _|assumption|refine ls ?_ ?_|refine lt ?_ ?_|simp only[*];done|simp only[fb, *,not_false_eq_true,and_self];done|exact lf ‹_› (by simp only[*]))|simp -dsimp only[↓bp,bq,br,seval,dU, *]|refine wz ?_|fail)
 rotate_right
 ·skip
  refine iT mixed (fun n e=>∃ i:Nat,i <=(l).length /\ n=(l).length - i /\ e 5= .int .i64 i /\ l.take i=r.take i) (l).length
    ⟨0,by omega,by omega,by simp -dsimp only[↓bp,bq,br,seval,dU];first|done|rfl,rfl⟩ ?_
  rintro n v ⟨i,hi,rfl,h5,htk⟩
  simp -dsimp only[↓bp,bq,br,seval,dU]at h5
  simp -dsimp only[↓bp,bq,br,seval,dU,h5]
  refine dQ (fun hlt=> ?_) (fun hge=> ?_)
  ·obtain⟨x,hx⟩:∃ x,l[i]? =some x:=⟨_,List.getElem?_eq_getElem (by omega)⟩
   obtain⟨y,hy⟩:∃ y,r[i]? =some y:=⟨_,List.getElem?_eq_getElem (by omega)⟩
   have hq:=D2f x y
   clear hi hlt
   repeat'(first|refine xs ?_ ?_ <;>intros|(refine wn ?_;intro bx hbx;try simp only[fb]at hbx)|refine aQ ?_|(refine aB ?_;intro bx hbx;(try simp only[fb]at hbx))|refine aD ?_|((with_reducible refine And.intro ?_ ?_);omega)|refine aA (d':=⟨⟩) ?_|refine aR (by kernel_rfl) ?_|refine aP ?_ (by repeat' first|exact lr _|assumption|refine ls ?_ ?_|refine lt ?_ ?_|simp only[*];done|simp only[fb, *,not_false_eq_true,and_self];done|exact lf ‹_› (by simp only[*]))|refine aC ?_ (by repeat' first|exact lr _|assumption|refine ls ?_ ?_|refine lt ?_ ?_|simp only[*];done|simp only[fb, *,not_false_eq_true,and_self];done|exact lf ‹_› (by simp only[*]))|simp -dsimp only[↓bp,bq,br,seval,dU,hq, *]|refine wz ?_|fail)
   ·have hxy:l ≠ r:=fun e=>by subst e;rw[hx]at hy;simp only[Option.some.injEq]at hy;subst hy;simp_all
    simp[hxy]
   ·have hxy:x=y:=by simp_all
    subst hxy
    have hlt:=(List.getElem?_eq_some_iff.1 hx).1
    exact⟨l.length - (i+1),by omega,i+1,by omega,rfl,by rw[aH (by omega) (by omega)];rfl,jR htk hx hy⟩
  ·have:i=l.length:=by omega
   subst this
   have hlr:l=r:=lU (by omega) htk
   clear hi hge
   repeat'(first|refine xs ?_ ?_ <;>intros|(refine wn ?_;intro bx hbx;try simp only[fb]at hbx)|refine aQ ?_|(refine aB ?_;intro bx hbx;(try simp only[fb]at hbx))|refine aD ?_|((with_reducible refine And.intro ?_ ?_);omega)|refine aA (d':=⟨⟩) ?_|refine aR (by kernel_rfl) ?_|refine aP ?_ (by repeat' first|exact lr _|assumption|refine ls ?_ ?_|refine lt ?_ ?_|simp only[*];done|simp only[fb, *,not_false_eq_true,and_self];done|exact lf ‹_› (by simp only[*]))|refine aC ?_ (by repeat' first|exact lr _|assumption|refine ls ?_ ?_|refine lt ?_ ?_|simp only[*];done|simp only[fb, *,not_false_eq_true,and_self];done|exact lf ‹_› (by simp only[*]))|simp -dsimp only[↓bp,bq,br,seval,dU, *]|refine wz ?_|fail)
   all_goals simp[hlr]
 ·have:l ≠ r:=fun e=>by subst e;simp_all
  simp[this]
set_option maxHeartbeats 1000000 in
theorem yH(l r:List Int)(hl:l.length <=1000000000)(hr:r.length <=1000000000):aN Tryd.prog G 71 [aW kH l,aW kH r] (.bool (decide (l=r))):=by
 intro σ
 refine aJ.of_awp mixed Tryd.func71 rfl (by kernel_rfl) (by kernel_rfl) (by simp[Tryd.ntmps71]) Tryd.results71 ?_
 repeat'(first|refine xs ?_ ?_ <;>intros|(refine wn ?_;intro bx hbx;try simp only[fb]at hbx)|refine aQ ?_|(refine aB ?_;intro bx hbx;(try simp only[fb]at hbx))|refine aD ?_|((with_reducible refine And.intro ?_ ?_);omega)|refine aA (d':=⟨⟩) ?_|refine aR (by kernel_rfl) ?_|refine aP ?_ (by repeat' first|exact lr _|assumption|refine ls ?_ ?_|refine lt ?_ ?_|simp only[*];done|simp only[fb, *,not_false_eq_true,and_self];done|exact lf ‹_› (by simp only[*]))|refine aC ?_ (by repeat' first|exact lr _|assumption|refine ls ?_ ?_|refine lt ?_ ?_|simp only[*];done|simp only[fb, *,not_false_eq_true,and_self];done|exact lf ‹_› (by simp only[*]))|simp -dsimp only[↓bp,bq,br,seval,dU, *]|refine wz ?_|fail)
 rotate_right
 ·skip
  refine iT mixed (fun n e=>∃ i:Nat,i <=(l).length /\ n=(l).length - i /\ e 5= .int .i64 i /\ l.take i=r.take i) (l).length
    ⟨0,by omega,by omega,by simp -dsimp only[↓bp,bq,br,seval,dU];first|done|rfl,rfl⟩ ?_
  rintro n v ⟨i,hi,rfl,h5,htk⟩
  simp -dsimp only[↓bp,bq,br,seval,dU]at h5
  simp -dsimp only[↓bp,bq,br,seval,dU,h5]
  refine dQ (fun hlt=> ?_) (fun hge=> ?_)
  ·obtain⟨x,hx⟩:∃ x,l[i]? =some x:=⟨_,List.getElem?_eq_getElem (by omega)⟩
   obtain⟨y,hy⟩:∃ y,r[i]? =some y:=⟨_,List.getElem?_eq_getElem (by omega)⟩
   clear hi hlt
   repeat'(first|refine xs ?_ ?_ <;>intros|(refine wn ?_;intro bx hbx;try simp only[fb]at hbx)|refine aQ ?_|(refine aB ?_;intro bx hbx;(try simp only[fb]at hbx))|refine aD ?_|((with_reducible refine And.intro ?_ ?_);omega)|refine aA (d':=⟨⟩) ?_|refine aR (by kernel_rfl) ?_|refine aP ?_ (by repeat' first|exact lr _|assumption|refine ls ?_ ?_|refine lt ?_ ?_|simp only[*];done|simp only[fb, *,not_false_eq_true,and_self];done|exact lf ‹_› (by simp only[*]))|refine aC ?_ (by repeat' first|exact lr _|assumption|refine ls ?_ ?_|refine lt ?_ ?_|simp only[*];done|simp only[fb, *,not_false_eq_true,and_self];done|exact lf ‹_› (by simp only[*]))|simp -dsimp only[↓bp,bq,br,seval,dU,kH, *]|refine wz ?_|fail)
   ·have hxy:l ≠ r:=fun e=>by subst e;rw[hx]at hy;simp only[Option.some.injEq]at hy;subst hy;simp_all
    simp[hxy]
   ·have hxy:x=y:=by simp_all
    subst hxy
    have hlt:=(List.getElem?_eq_some_iff.1 hx).1
    exact⟨l.length - (i+1),by omega,i+1,by omega,rfl,by rw[aH (by omega) (by omega)];rfl,jR htk hx hy⟩
  ·have:i=l.length:=by omega
   subst this
   have hlr:l=r:=lU (by omega) htk
   clear hi hge
   repeat'(first|refine xs ?_ ?_ <;>intros|(refine wn ?_;intro bx hbx;try simp only[fb]at hbx)|refine aQ ?_|(refine aB ?_;intro bx hbx;(try simp only[fb]at hbx))|refine aD ?_|((with_reducible refine And.intro ?_ ?_);omega)|refine aA (d':=⟨⟩) ?_|refine aR (by kernel_rfl) ?_|refine aP ?_ (by repeat' first|exact lr _|assumption|refine ls ?_ ?_|refine lt ?_ ?_|simp only[*];done|simp only[fb, *,not_false_eq_true,and_self];done|exact lf ‹_› (by simp only[*]))|refine aC ?_ (by repeat' first|exact lr _|assumption|refine ls ?_ ?_|refine lt ?_ ?_|simp only[*];done|simp only[fb, *,not_false_eq_true,and_self];done|exact lf ‹_› (by simp only[*]))|simp -dsimp only[↓bp,bq,br,seval,dU, *]|refine wz ?_|fail)
   all_goals simp[hlr]
 ·have:l ≠ r:=fun e=>by subst e;simp_all
  simp[this]
set_option maxHeartbeats 1000000 in
theorem A2d(x y:aO)(hx:x.bulk <=1000000000)(hy:y.bulk <=1000000000):aN Tryd.prog G 60 [x.enc,y.enc] (.bool (decide (x=y))):=by
 have h_slots:=yH G x.slots y.slots (by unfold aO.bulk at hx;omega) (by unfold aO.bulk at hy;omega)
 rw[aO.eq_parts]
 clear hx hy
 intro σ
 refine aJ.of_awp mixed Tryd.func60 rfl (by kernel_rfl) (by kernel_rfl) (by simp[Tryd.ntmps60]) Tryd.results60 ?_
 repeat'(first|refine xs ?_ ?_ <;>intros|(refine wn ?_;intro bx hbx;try simp only[fb]at hbx)|refine wp h_slots ?_|refine aQ ?_|(refine aB ?_;intro bx hbx;(try simp only[fb]at hbx))|refine aD ?_|((with_reducible refine And.intro ?_ ?_);omega)|refine aA (d':=⟨⟩) ?_|refine aR (by kernel_rfl) ?_|refine aP ?_ (by repeat' first|exact lr _|assumption|refine ls ?_ ?_|refine lt ?_ ?_|simp only[*];done|simp only[fb, *,not_false_eq_true,and_self];done|exact lf ‹_› (by simp only[*]))|refine aC ?_ (by repeat' first|exact lr _|assumption|refine ls ?_ ?_|refine lt ?_ ?_|simp only[*];done|simp only[fb, *,not_false_eq_true,and_self];done|exact lf ‹_› (by simp only[*]))|simp -dsimp only[↓bp,bq,br,seval,dU, *]|refine wz ?_|fail)
 all_goals(first|(simp only[decide_true,decide_false, *,Bool.and_true,Bool.true_and,Bool.and_false,Bool.false_and,Bool.or_true,Bool.true_or,Bool.or_false,Bool.false_or,Bool.not_true,Bool.not_false,if_true,if_false,Bool.and_self,Bool.or_self];done)|(simp[decide_true,decide_false, *];done)|(simp_all [decide_true,decide_false];done))
set_option maxHeartbeats 1000000 in
theorem yG(l r:List aO)(hl:l.length <=1000000000)(hr:r.length <=1000000000)(hf:∀ x,x ∈ l ->∀ y,y ∈ r ->aN Tryd.prog G 60 [x.enc,y.enc] (.bool (decide (x=y)))):aN Tryd.prog G 38 [aW aO.enc l,aW aO.enc r] (.bool (decide (l=r))):=by
 intro σ
 refine aJ.of_awp mixed Tryd.func38 rfl (by kernel_rfl) (by kernel_rfl) (by simp[Tryd.ntmps38]) Tryd.results38 ?_
 repeat'(first|refine xs ?_ ?_ <;>intros|(refine wn ?_;intro bx hbx;try simp only[fb]at hbx)|refine aQ ?_|(refine aB ?_;intro bx hbx;(try simp only[fb]at hbx))|refine aD ?_|((with_reducible refine And.intro ?_ ?_);omega)|refine aA (d':=⟨⟩) ?_|refine aR (by kernel_rfl) ?_|refine aP ?_ (by repeat' first|exact lr _|assumption|refine ls ?_ ?_|refine lt ?_ ?_|simp only[*];done|simp only[fb, *,not_false_eq_true,and_self];done|exact lf ‹_› (by simp only[*]))|refine aC ?_ (by repeat' first|exact lr _|assumption|refine ls ?_ ?_|refine lt ?_ ?_|simp only[*];done|simp only[fb, *,not_false_eq_true,and_self];done|exact lf ‹_› (by simp only[*]))|simp -dsimp only[↓bp,bq,br,seval,dU, *]|refine wz ?_|fail)
 rotate_right
 ·skip
  refine iT mixed (fun n e=>∃ i:Nat,i <=(l).length /\ n=(l).length - i /\ e 5= .int .i64 i /\ l.take i=r.take i) (l).length
    ⟨0,by omega,by omega,by simp -dsimp only[↓bp,bq,br,seval,dU];first|done|rfl,rfl⟩ ?_
  rintro n v ⟨i,hi,rfl,h5,htk⟩
  simp -dsimp only[↓bp,bq,br,seval,dU]at h5
  simp -dsimp only[↓bp,bq,br,seval,dU,h5]
  refine dQ (fun hlt=> ?_) (fun hge=> ?_)
  ·obtain⟨x,hx⟩:∃ x,l[i]? =some x:=⟨_,List.getElem?_eq_getElem (by omega)⟩
   obtain⟨y,hy⟩:∃ y,r[i]? =some y:=⟨_,List.getElem?_eq_getElem (by omega)⟩
   have hq:=hf x (List.mem_of_getElem? hx) y (List.mem_of_getElem? hy)
   have hwi:IntKind.i64.wrap ((i:Int)+1)=((i+1:Nat):Int):=by rw[aH (by omega) (by omega)];rfl
   clear hi
   by_cases hxy:x=y
   ·rw[decide_eq_true hxy]at hq
    subst hxy
    have hn:=jR htk hx hy
    clear htk hlt hf
    repeat'(first|refine xs ?_ ?_ <;>intros|(refine wn ?_;intro bx hbx;try simp only[fb]at hbx)|refine wp hq ?_|refine aQ ?_|(refine aB ?_;intro bx hbx;(try simp only[fb]at hbx))|refine aD ?_|((with_reducible refine And.intro ?_ ?_);omega)|refine aA (d':=⟨⟩) ?_|refine aR (by kernel_rfl) ?_|refine aP ?_ (by repeat' first|exact lr _|assumption|refine ls ?_ ?_|refine lt ?_ ?_|simp only[*];done|simp only[fb, *,not_false_eq_true,and_self];done|exact lf ‹_› (by simp only[*]))|refine aC ?_ (by repeat' first|exact lr _|assumption|refine ls ?_ ?_|refine lt ?_ ?_|simp only[*];done|simp only[fb, *,not_false_eq_true,and_self];done|exact lf ‹_› (by simp only[*]))|simp -dsimp only[↓bp,bq,br,seval,dU, *]|refine wz ?_|fail)
    all_goals(have hlt:=(List.getElem?_eq_some_iff.1 hx).1)
    all_goals exact⟨l.length - (i+1),by omega,i+1,by omega,rfl,rfl,hn⟩
   ·rw[decide_eq_false hxy]at hq
    have hne: ¬ l=r:=fun e=>by subst e;rw[hx]at hy;simp only[Option.some.injEq]at hy;exact hxy hy
    rw[decide_eq_false hne]
    clear hxy htk hne hlt hf
    repeat'(first|refine xs ?_ ?_ <;>intros|(refine wn ?_;intro bx hbx;try simp only[fb]at hbx)|refine wp hq ?_|refine aQ ?_|(refine aB ?_;intro bx hbx;(try simp only[fb]at hbx))|refine aD ?_|((with_reducible refine And.intro ?_ ?_);omega)|refine aA (d':=⟨⟩) ?_|refine aR (by kernel_rfl) ?_|refine aP ?_ (by repeat' first|exact lr _|assumption|refine ls ?_ ?_|refine lt ?_ ?_|simp only[*];done|simp only[fb, *,not_false_eq_true,and_self];done|exact lf ‹_› (by simp only[*]))|refine aC ?_ (by repeat' first|exact lr _|assumption|refine ls ?_ ?_|refine lt ?_ ?_|simp only[*];done|simp only[fb, *,not_false_eq_true,and_self];done|exact lf ‹_› (by simp only[*]))|simp -dsimp only[↓bp,bq,br,seval,dU, *]|refine wz ?_|fail)
    all_goals rfl
  ·have:i=l.length:=by omega
   subst this
   have hlr:l=r:=lU (by omega) htk
   clear hi hge
   repeat'(first|refine xs ?_ ?_ <;>intros|(refine wn ?_;intro bx hbx;try simp only[fb]at hbx)|refine aQ ?_|(refine aB ?_;intro bx hbx;(try simp only[fb]at hbx))|refine aD ?_|((with_reducible refine And.intro ?_ ?_);omega)|refine aA (d':=⟨⟩) ?_|refine aR (by kernel_rfl) ?_|refine aP ?_ (by repeat' first|exact lr _|assumption|refine ls ?_ ?_|refine lt ?_ ?_|simp only[*];done|simp only[fb, *,not_false_eq_true,and_self];done|exact lf ‹_› (by simp only[*]))|refine aC ?_ (by repeat' first|exact lr _|assumption|refine ls ?_ ?_|refine lt ?_ ?_|simp only[*];done|simp only[fb, *,not_false_eq_true,and_self];done|exact lf ‹_› (by simp only[*]))|simp -dsimp only[↓bp,bq,br,seval,dU, *]|refine wz ?_|fail)
   all_goals simp[hlr]
 ·have:l ≠ r:=fun e=>by subst e;simp_all
  simp[this]
set_option maxHeartbeats 1000000 in
theorem A2c(x y:cU)(hx:x.bulk <=1000000000)(hy:y.bulk <=1000000000):aN Tryd.prog G 10 [x.enc,y.enc] (.bool (decide (x=y))):=by
 have h_entries:=yF G x.entries y.entries (by have:=iS dA.bulk_pos x.entries;unfold cU.bulk at hx;omega) (by have:=iS dA.bulk_pos y.entries;unfold cU.bulk at hy;omega)
 have h_instrs:=yG G x.instrs y.instrs (by have:=iS aO.bulk_pos x.instrs;unfold cU.bulk at hx;omega) (by have:=iS aO.bulk_pos y.instrs;unfold cU.bulk at hy;omega) (fun u hu v hv=>A2d G u v (by have:=lK (f:=aO.bulk) hu;unfold cU.bulk at hx;omega) (by have:=lK (f:=aO.bulk) hv;unfold cU.bulk at hy;omega))
 have h_consts:=oO G x.consts y.consts (by have:=eB x.consts;unfold cU.bulk at hx;omega) (by have:=eB y.consts;unfold cU.bulk at hy;omega) (fun u hu v hv=>B4a G u v (by have:=qM hu;unfold cU.bulk at hx;omega) (by have:=qM hv;unfold cU.bulk at hy;omega))
 simp only[C1x,B4b]at*
 rw[cU.eq_parts]
 clear hx hy
 intro σ
 refine aJ.of_awp mixed Tryd.func10 rfl (by kernel_rfl) (by kernel_rfl) (by simp[Tryd.ntmps10]) Tryd.results10 ?_
 repeat'(first|refine xs ?_ ?_ <;>intros|(refine wn ?_;intro bx hbx;try simp only[fb]at hbx)|refine wp h_entries ?_|refine wp h_instrs ?_|refine wp h_consts ?_|refine aQ ?_|(refine aB ?_;intro bx hbx;(try simp only[fb]at hbx))|refine aD ?_|((with_reducible refine And.intro ?_ ?_);omega)|refine aA (d':=⟨⟩) ?_|refine aR (by kernel_rfl) ?_|refine aP ?_ (by repeat' first|exact lr _|assumption|refine ls ?_ ?_|refine lt ?_ ?_|simp only[*];done|simp only[fb, *,not_false_eq_true,and_self];done|exact lf ‹_› (by simp only[*]))|refine aC ?_ (by repeat' first|exact lr _|assumption|refine ls ?_ ?_|refine lt ?_ ?_|simp only[*];done|simp only[fb, *,not_false_eq_true,and_self];done|exact lf ‹_› (by simp only[*]))|simp -dsimp only[↓bp,bq,br,seval,dU, *]|refine wz ?_|fail)
 all_goals(first|(simp only[decide_true,decide_false, *,Bool.and_true,Bool.true_and,Bool.and_false,Bool.false_and,Bool.or_true,Bool.true_or,Bool.or_false,Bool.false_or,Bool.not_true,Bool.not_false,if_true,if_false,Bool.and_self,Bool.or_self];done)|(simp[decide_true,decide_false, *];done)|(simp_all [decide_true,decide_false];done))
end
set_option maxRecDepth 20000
section
variable (G:Nat ->AV)
end
set_option maxRecDepth 20000
section
def tV:=And.intro (And.intro (And.intro (And.intro @nK (And.intro @nL @lY)) (And.intro @kW (And.intro @nA @lC))) (And.intro (And.intro @kI (And.intro @kE @oU)) (And.intro (And.intro @uH @uI) (And.intro @sV @oT)))) (And.intro (And.intro (And.intro @nP (And.intro @jD @iF)) (And.intro @yJ (And.intro @B4m @cA))) (And.intro (And.intro @bL (And.intro @dH @cK)) (And.intro (And.intro @dR @eF) (And.intro @hU @fW))))
variable {G:Nat ->AV}
theorem wS(l r:List UInt8)(hl:l.length <=1000000000)(hr:r.length <=1000000000):aN Tryd.prog G 13 [aW fN l,aW fN r] (.bool (decide (l=r))):=by
 intro σ
 refine aJ.of_awp mixed Tryd.func13 rfl (by kernel_rfl) (by kernel_rfl) (by simp[Tryd.ntmps13]) Tryd.results13 ?_
 repeat'(first|refine xs ?_ ?_ <;>intros|(refine wn ?_;intro bx hbx;try simp only[fb]at hbx)|refine aQ ?_|(refine aB ?_;intro bx hbx;(try simp only[fb]at hbx))|refine aD ?_|((with_reducible refine And.intro ?_ ?_);omega)|refine aA (d':=⟨⟩) ?_|refine aR (by kernel_rfl) ?_|refine aP ?_ (by repeat' first|exact lr _|assumption|refine ls ?_ ?_|refine lt ?_ ?_|simp only[*];done|simp only[fb, *,not_false_eq_true,and_self];done|exact lf ‹_› (by simp only[*]))|refine aC ?_ (by repeat' first|exact lr _|assumption|refine ls ?_ ?_|refine lt ?_ ?_|simp only[*];done|simp only[fb, *,not_false_eq_true,and_self];done|exact lf ‹_› (by simp only[*]))|simp -dsimp only[↓bp,bq,br,seval,tV, *]|refine wz ?_|fail)
 rotate_right
 ·skip
  refine iT mixed (fun n e=>∃ i:Nat,i <=(l).length /\ n=(l).length - i /\ e 5= .int .i64 i /\ l.take i=r.take i) (l).length
    ⟨0,by omega,by omega,by simp -dsimp only[↓bp,bq,br,seval,tV];first|done|rfl,rfl⟩ ?_
  rintro n v ⟨i,hi,rfl,h5,htk⟩
  simp -dsimp only[↓bp,bq,br,seval,tV]at h5
  simp -dsimp only[↓bp,bq,br,seval,tV,h5]
  refine dQ (fun hlt=> ?_) (fun hge=> ?_)
  ·obtain⟨x,hx⟩:∃ x,l[i]? =some x:=⟨_,List.getElem?_eq_getElem (by omega)⟩
   obtain⟨y,hy⟩:∃ y,r[i]? =some y:=⟨_,List.getElem?_eq_getElem (by omega)⟩
   clear hi hlt
   have hne8:((x.toNat:Int)=y.toNat)=(x=y):=propext ⟨fun e=>UInt8.toNat_inj.1 (by omega),fun e=>by rw[e]⟩
   repeat'(first|refine xs ?_ ?_ <;>intros|(refine wn ?_;intro bx hbx;try simp only[fb]at hbx)|refine aQ ?_|(refine aB ?_;intro bx hbx;(try simp only[fb]at hbx))|refine aD ?_|((with_reducible refine And.intro ?_ ?_);omega)|refine aA (d':=⟨⟩) ?_|refine aR (by kernel_rfl) ?_|refine aP ?_ (by repeat' first|exact lr _|assumption|refine ls ?_ ?_|refine lt ?_ ?_|simp only[*];done|simp only[fb, *,not_false_eq_true,and_self];done|exact lf ‹_› (by simp only[*]))|refine aC ?_ (by repeat' first|exact lr _|assumption|refine ls ?_ ?_|refine lt ?_ ?_|simp only[*];done|simp only[fb, *,not_false_eq_true,and_self];done|exact lf ‹_› (by simp only[*]))|simp -dsimp only[↓bp,bq,br,seval,tV,fN, *]|refine wz ?_|fail)
   ·have hxy:l ≠ r:=fun e=>by subst e;rw[hx]at hy;simp only[Option.some.injEq]at hy;subst hy;simp_all
    simp[hxy]
   ·have hxy:x=y:=by simp_all
    subst hxy
    have hlt:=(List.getElem?_eq_some_iff.1 hx).1
    exact⟨l.length - (i+1),by omega,i+1,by omega,rfl,by rw[aH (by omega) (by omega)];rfl,jR htk hx hy⟩
  ·have:i=l.length:=by omega
   subst this
   have hlr:l=r:=lU (by omega) htk
   clear hi hge
   repeat'(first|refine xs ?_ ?_ <;>intros|(refine wn ?_;intro bx hbx;try simp only[fb]at hbx)|refine aQ ?_|(refine aB ?_;intro bx hbx;(try simp only[fb]at hbx))|refine aD ?_|((with_reducible refine And.intro ?_ ?_);omega)|refine aA (d':=⟨⟩) ?_|refine aR (by kernel_rfl) ?_|refine aP ?_ (by repeat' first|exact lr _|assumption|refine ls ?_ ?_|refine lt ?_ ?_|simp only[*];done|simp only[fb, *,not_false_eq_true,and_self];done|exact lf ‹_› (by simp only[*]))|refine aC ?_ (by repeat' first|exact lr _|assumption|refine ls ?_ ?_|refine lt ?_ ?_|simp only[*];done|simp only[fb, *,not_false_eq_true,and_self];done|exact lf ‹_› (by simp only[*]))|simp -dsimp only[↓bp,bq,br,seval,tV, *]|refine wz ?_|fail)
   all_goals simp[hlr]
 ·have:l ≠ r:=fun e=>by subst e;simp_all
  simp[this]
def oR:cU:=⟨[⟨[102],1,0,2,0⟩],[⟨11,0,1,0,0,0,[],[]⟩],[.mk 7 false [] [] 0 [.mk 2 false [] [97] 0 [] []] [.mk 1 false [1] [] 0 [] []]]⟩
def A3l(s:List UInt8):aF:= .mk 2 false [] s 0 [] []
theorem B1l(s:List UInt8):aN Tryd.prog G 40 [.str s] (A3l s).enc:=by
 refine aN.of_le fun σ=> ?_
 refine aJ.mono (Q:=fun r σ'=>r= .agg [.int .u8 2, .bool false, .nil, .str s, .int .i64 0, .nil, .nil] /\ σ'=σ) ?_ ?_
 case refine_2=>
  rintro r σ' ⟨rfl,rfl⟩
  refine⟨?_,rfl⟩
  rw[<- aF.fold_enc]
  exact Le.agg (.cons (Le.refl _) (.cons (Le.refl _) (.cons Le.nil (.cons (Le.refl _) (.cons (Le.refl _) (.cons Le.nil (.cons Le.nil .nil))))))) (fun d hd=>by simp at hd;rcases hd with rfl|rfl|rfl|rfl|rfl|rfl|rfl <;>rfl)
 refine aJ.of_awp mixed Tryd.func40 rfl (by kernel_rfl) (by kernel_rfl) (by simp[Tryd.ntmps40]) Tryd.results40 ?_
 repeat'(first|refine xs ?_ ?_ <;>intros|(refine wn ?_;intro bx hbx;try simp only[fb]at hbx)|refine aQ ?_|(refine aB ?_;intro bx hbx;(try simp only[fb]at hbx))|refine aD ?_|((with_reducible refine And.intro ?_ ?_);omega)|refine aA (d':=⟨⟩) ?_|refine aR (by kernel_rfl) ?_|refine aP ?_ (by repeat' first|exact lr _|assumption|refine ls ?_ ?_|refine lt ?_ ?_|simp only[*];done|simp only[fb, *,not_false_eq_true,and_self];done|exact lf ‹_› (by simp only[*]))|refine aC ?_ (by repeat' first|exact lr _|assumption|refine ls ?_ ?_|refine lt ?_ ?_|simp only[*];done|simp only[fb, *,not_false_eq_true,and_self];done|exact lf ‹_› (by simp only[*]))|simp -dsimp only[↓bp,bq,br,seval,tV, *]|refine wz ?_|fail)
theorem mU:cQ oR=true:=by decide+kernel
theorem A2g:iI oR=[112,105,103,115,0,1,1,102,1,0,0,2,0,0,0,1,11,0,1,0,1,7,0,1,2,1,97,1,1,0,1,0,0,0,1]:=by decide+kernel
theorem A4t{t:aF}{li it ta:AV}(h1:Le li (jF t.limbs))(h2:Le it (dK t.items))(h3:Le ta (dK t.tail)):LeE (.agg [.int .u8 t.knd, .bool t.neg,li, .str t.text, .int .i64 t.num,it,ta]) t.enc:=by
 rw[<- aF.fold_enc]
 refine LeE.agg (.cons (Le.refl _) (.cons (Le.refl _) (.cons h1 (.cons (Le.refl _) (.cons (Le.refl _) (.cons h2 (.cons h3 .nil))))))) ?_
 intro d hd
 simp only[List.mem_cons,List.not_mem_nil,or_false]at hd
 rcases hd with rfl|rfl|rfl|rfl|rfl|rfl|rfl <;>rfl
theorem C2g:Le (.agg [.sl .full [.agg [.str [102], .int .i64 1, .int .i64 0, .int .i64 2, .int .i64 0]] [], .sl .full [.agg [.int .u8 11, .int .i64 0, .int .i64 1, .int .i64 0, .int .i64 0, .int .i64 0, .str [], .nil]] [], .sl .full [.agg [.int .u8 7, .bool false, .nil, .str [], .int .i64 0, .sl .full [(A3l [97]).enc] [], .sl .full [.agg [.int .u8 1, .bool false, .sl .full [.int .u32 1] [], .str [], .int .i64 0, .nil, .nil]] []]] []]) oR.enc:=by
 have k3:Le (.sl .full [.int .u32 1] []) (jF [1]):=Le.gh
 have k4:Le (.sl .full [.agg [.int .u8 1, .bool false, .sl .full [.int .u32 1] [], .str [], .int .i64 0, .nil, .nil]] []) (dK [.mk 1 false [1] [] 0 [] []]):=by
  exact Le.sl (.cons (A4t (t:= .mk 1 false [1] [] 0 [] []) k3 Le.nil Le.nil) .nil)
 have k5:Le (.sl .full [.agg [.int .u8 7, .bool false, .nil, .str [], .int .i64 0, .sl .full [(A3l [97]).enc] [], .sl .full [.agg [.int .u8 1, .bool false, .sl .full [.int .u32 1] [], .str [], .int .i64 0, .nil, .nil]] []]] []) (dK [.mk 7 false [] [] 0 [A3l [97]] [.mk 1 false [1] [] 0 [] []]]):=by
  exact Le.sl (.cons (A4t (t:= .mk 7 false [] [] 0 [A3l [97]] [.mk 1 false [1] [] 0 [] []]) Le.nil Le.gh k4) .nil)
 have k2:Le (.sl .full [.agg [.int .u8 11, .int .i64 0, .int .i64 1, .int .i64 0, .int .i64 0, .int .i64 0, .str [], .nil]] []) (aW aO.enc [⟨11,0,1,0,0,0,[],[]⟩]):=by
  refine Le.sl (.cons (LeE.agg (.cons (Le.refl _) (.cons (Le.refl _) (.cons (Le.refl _) (.cons (Le.refl _) (.cons (Le.refl _) (.cons (Le.refl _) (.cons (Le.refl _) (.cons Le.nil .nil)))))))) ?_) .nil)
  intro d hd
  simp only[List.mem_cons,List.not_mem_nil,or_false]at hd
  rcases hd with rfl|rfl|rfl|rfl|rfl|rfl|rfl|rfl <;>rfl
 refine Le.agg (.cons Le.gh (.cons k2 (.cons k5 .nil))) ?_
 intro d hd
 simp only[List.mem_cons,List.not_mem_nil,or_false]at hd
 rcases hd with rfl|rfl|rfl <;>rfl
theorem A9i:aN Tryd.prog G 14 [] oR.enc:=by
 refine aN.of_le fun σ=> ?_
 have t1:=B1l (G:=G) [97]
 have e1:=aF.flat_enc (A3l [97])
 have e2:=aF.isv_enc (A3l [97])
 have hle:=C2g
 generalize hq:(A3l [97]).enc=a at*
 refine aJ.of_awp mixed Tryd.func14 rfl (by kernel_rfl) (by kernel_rfl) (by simp[Tryd.ntmps14]) Tryd.results14 ?_
 repeat'(first|refine xs ?_ ?_ <;>intros|(refine wn ?_;intro bx hbx;try simp only[fb]at hbx)|refine wp t1 ?_|refine aQ ?_|(refine aB ?_;intro bx hbx;(try simp only[fb]at hbx))|refine aD ?_|((with_reducible refine And.intro ?_ ?_);omega)|refine aA (d':=⟨⟩) ?_|refine aR (by kernel_rfl) ?_|refine aP ?_ (by repeat' first|exact lr _|assumption|refine ls ?_ ?_|refine lt ?_ ?_|simp only[*];done|simp only[fb, *,not_false_eq_true,and_self];done|exact lf ‹_› (by simp only[*]))|refine aC ?_ (by repeat' first|exact lr _|assumption|refine ls ?_ ?_|refine lt ?_ ?_|simp only[*];done|simp only[fb, *,not_false_eq_true,and_self];done|exact lf ‹_› (by simp only[*]))|simp -dsimp only[↓bp,bq,br,seval,tV, *]|refine wz ?_|fail)
 exact aE σ (by repeat' first|exact AS.le.refl _|refine AS.le.setBox ?_ (by simp_all [AS.fresh]) _) ⟨hle,rfl⟩
end
set_option maxRecDepth 20000
section
variable {G:Nat ->AV}
theorem A5j(hg:lF G)(hgC:kJ G){c:cU}(hr:cQ c=true)(hb:c.bulk <=10000000):aN Tryd.prog G 7 [c.enc] (.tup [bS (iI c), .int .i64 0]):=by
 refine aN.of_le fun σ=> ?_
 refine(D7k (A1y hg hgC hr hb σ)).mono ?_
 rintro r s ⟨⟨v,rfl,hv⟩,rfl⟩
 exact⟨Le.tup (.cons hv (.cons (Le.refl _) .nil)),rfl⟩
theorem B0c(hg:lF G)(hgC:kJ G){b:List UInt8}{c:cU}(hb:b.length <=900000000)(h:nN b=some c):aN Tryd.prog G 9 [bS b] (.tup [c.enc, .int .i64 0]):=by
 have:=A4g hg hgC b hb
 unfold B8u at this
 rw[h]at this
 exact this
theorem A4f(hg:lF G)(hgC:kJ G){b:List UInt8}(hb:b.length <=900000000)(h:nN b=none):aN Tryd.prog G 9 [bS b] (.tup [(⟨[],[],[]⟩:cU).enc, .int .i64 4]):=by
 have:=A4g hg hgC b hb
 rw[lM h]at this
 exact this
theorem B2u{b:List UInt8}{c:cU}(h:nN b=some c):c.bulk <=b.length+1:=by
 unfold nN at h
 split at h
 ·rename_i c' hc
  split at h
  ·cases h;exact A3u hc
  ·cases h
 ·cases h
theorem C9q(b:List UInt8)(hb:b.length <=1000000000):aN Tryd.prog G 13 [bS b,bS b] (.bool true):=by
 have:=wS (G:=G) b b hb hb
 rw[decide_eq_true (rfl:b=b)]at this
 exact this
theorem C9r(c:cU)(hb:c.bulk <=1000000000):aN Tryd.prog G 10 [c.enc,c.enc] (.bool true):=by
 have:=A2c G c c hb hb
 rw[decide_eq_true (rfl:c=c)]at this
 exact this
theorem A5r:oR.bulk <=100:=by decide+kernel
theorem qR:iI oR=exB:=A2g
theorem A0m(hg:lF G)(hgC:kJ G):aN Tryd.prog G 5 [] (.bool true):=by
 have hl:exB.length=35:=rfl
 have hbk:oR.bulk <=100:=A5r
 refine A7h (c:=oR) (x:=exB) (by omega) A9i A0z ?_ ?_ ?_ (C9q _ (by omega)) (C9r _ (by omega))
 ·have:=A5j hg hgC mU (by omega)
  rw[qR]at this;exact this
 ·exact B0c hg hgC (by omega) (by rw[<- qR];exact C7s mU)
 ·refine A4f hg hgC (by rw[List.length_take];omega) ?_
  rw[<- qR]
  exact C7r mU 20 (by rw[qR];omega)
theorem yB(hg:lF G)(hgC:kJ G)(b:List UInt8):aN Tryd.prog G 4 [bS b] (.bool true):=by
 have w:=A0m hg hgC
 by_cases hb:50000 < b.length
 ·exact A9n w hb
 cases h:nN b with
 | some c=>
  obtain⟨h1,h2⟩:=B0d h
  have hc:=B2u h
  have r:=kZ hgC c (by omega)
  rw[h1]at r
  refine B4u (x:=iI c) w (by omega) (B0c hg hgC (by omega) h) (A5j hg hgC h1 (by omega)) r ?_
  rw[h2];exact C9q b (by omega)
 | none=>
  refine A9o w (by omega) (A4f hg hgC (by omega) h) ?_
  refine(C9r (⟨[],[],[]⟩:cU) (by decide)).lessArgs (.cons (Le.refl _) (.cons ?_ .nil))
  exact Le.agg (.cons Le.nil (.cons Le.nil (.cons Le.nil .nil))) (fun d hd=>by simp[aW,dK]at hd;rcases hd with rfl|rfl|rfl <;>rfl)
end
set_option maxRecDepth 100000
section
open Go Go.Av Go.RowKit
variable {H:Type}
theorem D7f{m:Int}(h:(Lit.int .u8 m).wf=true):∃ k:UInt8,m=(k.toNat:Int):=by
 have hr:0 <=m /\ m < 256:=by
  have h0:IntKind.u8.min=0:=by decide
  have h1:IntKind.u8.max=255:=by decide
  simp only[Lit.wf,Bool.and_eq_true,decide_eq_true_eq,h0,h1]at h
  omega
 refine⟨UInt8.ofNat m.toNat,?_⟩
 rw[UInt8.toNat_ofNat']
 omega
end
set_option maxRecDepth 100000
section
open Go Go.Av Go.RowKit Go.ChangeShapes
variable {H:Type}
theorem B6s{α:Type}{f:α ->Nat}{p:α ->Prop}{l:List α}{xs:List (DataW H)}(hl:l.length=xs.length)(h:∀ (i:Nat) x a,xs[i]? =some x ->l[i]? =some a ->f a <=Rows.uptoBulk x /\ p a):cP f l <=Rows.uptoBulkAll xs /\ ∀ a,a ∈ l ->p a:=by
 induction l generalizing xs with
 |nil=>exact⟨by simp[cP],fun a ha=>by cases ha⟩
 | cons a l ih=>
  cases xs with
  |nil=>simp at hl
  | cons x xs=>
   have h0:=h 0 x a rfl rfl
   have h1:=ih (xs:=xs) (by simpa using hl) (fun i y b hy hb=>h (i+1) y b (by simpa using hy) (by simpa using hb))
   refine⟨by simp only[cP,Rows.uptoBulkAll];omega,fun b hb=> ?_⟩
   rcases List.mem_cons.1 hb with rfl|hb
   ·exact h0.2
   ·exact h1.2 b hb
theorem B3n{α:Type}(l:List α):cP (fun _=>1) l=l.length:=by
 induction l with
 |nil=>rfl
 |cons x l ih=>simp only[cP,ih,List.length_cons];omega
end
set_option maxRecDepth 100000
section
open Go Go.Av Go.RowKit Go.ChangeShapes
variable {H:Type}
theorem B3y(n:Nat)(d:DataW H)(h:tyW Tryd.prog n 5 d):∃ k:UInt8,kX d= .int .u8 k.toNat /\ 1 <=Rows.uptoBulk d:=by
 obtain⟨k,rfl,hk⟩:=C8y h Tryd.underlying5
 obtain⟨u,rfl⟩:=D7f hk
 exact⟨u,by simp[kX],by simp only[Rows.uptoBulk];omega⟩
theorem A9b(n:Nat)(d:DataW H)(h:tyW Tryd.prog n 27 d):∃ b:List UInt8,kX d= .sl .none (aI b) [] /\ b.length <=Rows.uptoBulk d:=by
 obtain⟨xs,sp,q,hx,hq,hxs⟩:=B4p h Tryd.underlying27
 obtain⟨l,h1,h2,h3⟩:=zG (enc:=fN) (good:=fun x a=>1 <=Rows.uptoBulk x) (fun x hx=>B3y q x hx) xs hxs
 have hb:=B6s (f:=(fun _=>1)) (p:=fun _=>True) h2 (fun i x a hx ha=> ⟨h3 i x a hx ha,trivial⟩)
 rw[B3n]at hb
 refine⟨l,?_,?_⟩
 ·rcases hx with⟨rfl,rfl⟩|rfl
  ·simp only[A0l,List.length_nil,List.length_eq_zero_iff]at h1 h2
   subst h2
   simp[kX,aI]
  ·simp[kX,h1,aI]
 ·have hb:=hb.1
  rcases hx with⟨rfl,rfl⟩|rfl <;>simp only[Rows.uptoBulk,Rows.uptoBulkAll]at hb ⊢ <;>omega
def SP:List TypeId:=[53,50,4,51,88,9,3,24,5,27,43,46,23,44,48,22,26,101,114,121,122,95]
theorem oE:mG Tryd.prog SP=true:=by kernel_rfl
def GvP(m:Int):Nat ->AV:=fun g=>if g=0 then .rp mR else if g=2 then .rp jC else if g=3 then .rp dT else if g=4 then .rp [.int .i64 m]else .raw (.pointer (some ⟨g,0,none⟩))
theorem C5g(m:Int):lF (GvP m):= {fields:=rfl}
theorem B8t(m:Int):kJ (GvP m):= {shapes:=rfl,builtin:=rfl,most:=⟨m,rfl⟩}
theorem A9h:flat (kX (H:=Unit) Rows.laid_pigeonhole_code_shapes)=jC:=by kernel_rfl
theorem A3r:flat (kX (H:=Unit) Rows.laid_pigeonhole_lint_builtin)=dT:=by kernel_rfl
theorem A8b:flat (kX (H:=Unit) Rows.laid_pigeonhole_pack_fields)=mR:=by kernel_rfl
theorem B3e{W:World}{g:Nat}(h:∃ m,W.cell? ⟨g,0,none⟩=some (.int .i64 m)):∃ m:Int,VR (iP W) (.rp [.int .i64 m]) (.pointer (some ⟨g,0,none⟩)):=by
 obtain⟨m,hm⟩:=h
 refine⟨m, .rp _ g 0 (fun _=> .int .i64 m) (fun c hc=>by simp at hc;subst hc;rfl) (fun j hj=> ?_) (fun j hj=> ?_)⟩
 ·have:j=0:=by simpa using hj
  subst this;exact hm
 ·have:j=0:=by simpa using hj
  subst this;exact .int .i64 m
theorem A3z {W:World} {laid:List (String × DataW Unit)} (hL:laidMet Tryd.prog laid W) (h2:("pigeonhole/lint.builtin",Rows.laid_pigeonhole_lint_builtin) ∈ laid) (h3:("pigeonhole/code.shapes",Rows.laid_pigeonhole_code_shapes) ∈ laid) (h4:("pigeonhole/pack.fields",Rows.laid_pigeonhole_pack_fields) ∈ laid)
  (hsh:W.ShapedOpen Tryd.prog):∃ m,∀ g,VR (iP W) (GvP m g) (.pointer (some ⟨g,0,none⟩)):=by
 have g1:VR (iP W) (.rp mR) (.pointer (some ⟨0,0,none⟩)):=
  sF oE hL (n:= "pigeonhole/pack.fields") h4 (g:=0) (t:=95) (by kernel_rfl) (by kernel_rfl) (by decide) A8b
 have g2:VR (iP W) (.rp jC) (.pointer (some ⟨2,0,none⟩)):=
  sF oE hL (n:= "pigeonhole/code.shapes") h3 (g:=2) (t:=114) (by kernel_rfl) (by kernel_rfl) (by decide) A9h
 have g3:VR (iP W) (.rp dT) (.pointer (some ⟨3,0,none⟩)):=
  sF oE hL (n:= "pigeonhole/lint.builtin") h2 (g:=3) (t:=122) (by kernel_rfl) (by kernel_rfl) (by decide) A3r
 have g4:∃ m,W.cell? ⟨4,0,none⟩=some (.int .i64 m):=
  Go.Proofs.cell_of_shapedOpen_int (zero:= #[.int .i64 0]) (t:=3) hsh (of_decide_eq_true (by kernel_rfl)) (by kernel_rfl) rfl (by kernel_rfl) (by kernel_rfl) Tryd.underlying3
 obtain⟨m,g4⟩:=B3e g4
 refine⟨m,fun g=> ?_⟩
 unfold GvP
 by_cases e0:g=0
 ·subst e0;exact g1
 by_cases e2:g=2
 ·subst e2;exact g2
 by_cases e3:g=3
 ·subst e3;exact g3
 by_cases e4:g=4
 ·subst e4;exact g4
 rw[if_neg e0,if_neg e2,if_neg e3,if_neg e4];exact .raw _
end
end Go.Proofs.YthoenjlenkpnnaaDoor
