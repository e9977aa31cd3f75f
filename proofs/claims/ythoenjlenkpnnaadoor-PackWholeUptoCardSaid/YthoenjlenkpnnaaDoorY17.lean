/- Code: which codes are right: the program's way. -/
import Derived.Test.YthoenjlenkpnnaaDoorY16
import Derived.Test.YthoenjlenkpnnaaDoorY13
import Derived.Test.YthoenjlenkpnnaaDoorY15
import Derived.Test.YthoenjlenkpnnaaDoorY06
import Derived.Test.YthoenjlenkpnnaaDoorY14
set_option linter.unusedVariables false
set_option linter.unusedSimpArgs false
set_option maxRecDepth 20000
set_option linter.defProp false
namespace Go.Proofs.YthoenjlenkpnnaaDoor
open Go Go.Av
section
def bG:=And.intro (And.intro (And.intro (And.intro (And.intro @nK @nL) (And.intro @lY @kW)) (And.intro (And.intro @uH @oT) (And.intro @nP (And.intro @kE @C2q)))) (And.intro (And.intro (And.intro @uI @sV) (And.intro @yJ @iF)) (And.intro (And.intro @D3k @jD) (And.intro @dH (And.intro @cK @dR))))) (And.intro (And.intro (And.intro (And.intro @eF @cA) (And.intro @bL @dE)) (And.intro (And.intro @aO.flat_enc @aO.isv_enc) (And.intro @aO.fold_enc (And.intro @dA.flat_enc @dA.isv_enc)))) (And.intro (And.intro (And.intro @dA.fold_enc @cU.flat_enc) (And.intro @cU.isv_enc @cU.fold_enc)) (And.intro (And.intro @hU @fW) (And.intro @aF.fold_enc (And.intro @aF.isv_enc @aF.flat_enc)))))
variable {G:Nat ->AV}
def mx3(a b c:Int):Int:=if c > (if b >a then b else a)then c else(if b >a then b else a)
theorem C0y(a b c k:Int):(k < mx3 a b c)= ¬ (a <=k /\ b <=k /\ c <=k):=propext (by unfold mx3;split <;>split <;>omega)
theorem bF{P:Program}{ts:Array TypeId}{k k' k'':IntKind}{a b c:Int} :fS P .max ts [.int k a, .int k' b, .int k'' c]=some (.int k (mx3 a b c)):=by
 unfold fS mx3;split <;>simp_all
theorem yA(t:aF)(ht:t.bulk <=1000000000):aN Tryd.prog G 25 [t.enc] (.bool (!right t)):=by
 have hr:=A9f G t (by omega)
 generalize right t=r at*
 intro σ
 refine aJ.of_awp mixed Tryd.func25 rfl (by kernel_rfl) (by kernel_rfl) (by simp[Tryd.ntmps25]) Tryd.results25 ?_
 repeat'(first|refine xs ?_ ?_ <;>intros|(refine wn ?_;intro bx hbx;try simp only[fb]at hbx)|refine wp hr ?_|refine aQ ?_|(refine aB ?_;intro bx hbx;(try simp only[fb]at hbx))|refine aD ?_|((with_reducible refine And.intro ?_ ?_);omega)|refine aA (d':=⟨⟩) ?_|refine aR (by kernel_rfl) ?_|refine aP ?_ (by repeat' first|exact lr _|assumption|refine ls ?_ ?_|refine lt ?_ ?_|simp only[*];done|simp only[fb, *,not_false_eq_true,and_self];done|exact lf ‹_› (by simp only[*]))|refine aC ?_ (by repeat' first|exact lr _|assumption|refine ls ?_ ?_|refine lt ?_ ?_|simp only[*];done|simp only[fb, *,not_false_eq_true,and_self];done|exact lf ‹_› (by simp only[*]))|simp -dsimp only[↓bp,bq,br,seval,bG,bF, *]|refine wz ?_|fail)
 all_goals rfl
theorem zC(hg:kJ G){c:cU}{e:dA}{b z:Int}{σ0:AS}{bx:Nat}(hb:σ0.box bx=some (uA c e b z))(hc:c.bulk <=1000000000)(i:aO)(hi:i.bulk <=1000000000):bZ Tryd.prog G 28 [i.enc, .ptr bx 0] σ0 (.bool (!cS c e b z i)):=by
 intro σ hσ
 have hb':=hσ.box _ _ hb
 have hr:=xY hg c e b z i hc hi
 generalize cS c e b z i=r at*
 have hne:∀ b',σ.fresh b' -> (bx=b')=False:=fun b' h=>eq_false fun e=>by subst e;rw[h.1]at hb';cases hb'
 unfold uA at*
 clear hb
 refine aJ.of_awp mixed Tryd.func28 rfl (by kernel_rfl) (by kernel_rfl) (by simp[Tryd.ntmps28]) Tryd.results28 ?_
 repeat'(first|refine xs ?_ ?_ <;>intros|(refine wn ?_;intro bx hbx;try simp only[fb]at hbx)|refine wp hr ?_|refine aQ ?_|(refine aB ?_;intro bx hbx;(try simp only[fb]at hbx))|refine aD ?_|((with_reducible refine And.intro ?_ ?_);omega)|refine aA (d':=⟨⟩) ?_|refine aR (by kernel_rfl) ?_|refine aP ?_ (by repeat' first|exact lr _|assumption|refine ls ?_ ?_|refine lt ?_ ?_|simp only[*];done|simp only[fb, *,not_false_eq_true,and_self];done|exact lf ‹_› (by simp only[*]))|refine aC ?_ (by repeat' first|exact lr _|assumption|refine ls ?_ ?_|refine lt ?_ ?_|simp only[*];done|simp only[fb, *,not_false_eq_true,and_self];done|exact lf ‹_› (by simp only[*]))|simp -dsimp only[↓bp,bq,br,seval,bG,bF, *]|refine wz ?_|fail)
 all_goals rfl
theorem C2d(l:List aO)(b z:Nat)(h1:b <=z)(h2:z <=l.length):eL Tryd.prog 23 (aW aO.enc l) (some (.int .i64 b)) (some (.int .i64 z))=some (aW aO.enc ((l.take z).drop b)):=by
 rw[rG aO.len_flat l _ _ (by rw[nP.2.2.2.1];exact oT.1)]
 simp[cM,h1,h2]
set_option maxHeartbeats 16000000 in
theorem kZ(hg:kJ G)(c:cU)(hc:c.bulk <=1000000000):aN Tryd.prog G 8 [c.enc] (.bool (cQ c)):=by
 obtain⟨es,is,cs⟩:=c
 have hb3:cP dA.bulk es <=1000000000 /\ cP aO.bulk is <=1000000000 /\ dI cs <=1000000000:=by unfold cU.bulk at hc;simp only at hc;omega
 have hle:es.length <=1000000000:=Nat.le_trans (iS dA.bulk_pos es) hb3.1
 have hli:is.length <=1000000000:=Nat.le_trans (iS aO.bulk_pos is) hb3.2.1
 intro σ
 have hcT:=uC G (σ0:=σ) (f:=25) (caps:=[]) (fun t=> !right t) cs (by have:=eB cs;omega) (fun t ht=> (yA t (by have:=lK (f:=aF.bulk) ht;rw[<- C4f]at this;omega)).pureC σ)
 have hce:(⟨es,is,cs⟩:cU).enc= .agg [aW dA.enc es,aW aO.enc is,dK cs]:=rfl
 rw[hce]
 clear hce
 by_cases q1:es.length <=16384 /\ is.length <=16384 /\ cs.length <=16384
 case neg=>
  have q1':(16384 < mx3 es.length is.length cs.length)=True:=by rw[C0y];exact eq_true (by omega)
  have hv:cQ ⟨es,is,cs⟩=false:=by
   rw[Bool.eq_false_iff];intro h;simp only[cQ,Bool.and_eq_true,decide_eq_true_eq]at h;omega
  rw[hv]
  clear hv q1 hg hc hb3 hle hli hcT
  refine aJ.of_awp mixed Tryd.func8 rfl (by kernel_rfl) (by kernel_rfl) (by simp[Tryd.ntmps8]) Tryd.results8 ?_
  repeat'(first|refine xs ?_ ?_ <;>intros|(refine wn ?_;intro bx hbx;try simp only[fb]at hbx)|refine aQ ?_|(refine aB ?_;intro bx hbx;(try simp only[fb]at hbx))|refine aD ?_|((with_reducible refine And.intro ?_ ?_);omega)|refine aA (d':=⟨⟩) ?_|refine aR (by kernel_rfl) ?_|refine aP ?_ (by repeat' first|exact lr _|assumption|refine ls ?_ ?_|refine lt ?_ ?_|simp only[*];done|simp only[fb, *,not_false_eq_true,and_self];done|exact lf ‹_› (by simp only[*]))|refine aC ?_ (by repeat' first|exact lr _|assumption|refine ls ?_ ?_|refine lt ?_ ?_|simp only[*];done|simp only[fb, *,not_false_eq_true,and_self];done|exact lf ‹_› (by simp only[*]))|simp -dsimp only[↓bp,bq,br,seval,bG,bF, *]|refine wz ?_|fail)
  all_goals first|rfl|exact aE σ (by repeat' first|exact lr _|assumption|refine ls ?_ ?_|refine lt ?_ ?_|simp only[*];done|simp only[fb, *,not_false_eq_true,and_self];done|exact lf ‹_› (by simp only[*])) ⟨rfl,rfl⟩
 have q1':(16384 < mx3 es.length is.length cs.length)=False:=by rw[C0y];exact eq_false (by omega)
 by_cases q2:es=[] /\ is ≠ []
 case pos=>
  have hv:cQ ⟨es,is,cs⟩=false:=by
   rw[Bool.eq_false_iff];intro h;simp only[cQ,Bool.and_eq_true,Bool.not_eq_true',Bool.and_eq_false_iff,decide_eq_false_iff_not,Bool.not_eq_false',decide_eq_true_eq]at h
   exact h.1.2.elim (fun h=>h q2.1) q2.2
  have q2':((es.length:Int)=0)=True:=eq_true (by rw[q2.1];rfl)
  have q3':(0 < (is.length:Int))=True:=eq_true (by have:=List.length_pos_iff.2 q2.2;omega)
  rw[hv]
  clear hv q1 q2 hg hc hb3 hle hli hcT
  refine aJ.of_awp mixed Tryd.func8 rfl (by kernel_rfl) (by kernel_rfl) (by simp[Tryd.ntmps8]) Tryd.results8 ?_
  repeat'(first|refine xs ?_ ?_ <;>intros|(refine wn ?_;intro bx hbx;try simp only[fb]at hbx)|refine aQ ?_|(refine aB ?_;intro bx hbx;(try simp only[fb]at hbx))|refine aD ?_|((with_reducible refine And.intro ?_ ?_);omega)|refine aA (d':=⟨⟩) ?_|refine aR (by kernel_rfl) ?_|refine aP ?_ (by repeat' first|exact lr _|assumption|refine ls ?_ ?_|refine lt ?_ ?_|simp only[*];done|simp only[fb, *,not_false_eq_true,and_self];done|exact lf ‹_› (by simp only[*]))|refine aC ?_ (by repeat' first|exact lr _|assumption|refine ls ?_ ?_|refine lt ?_ ?_|simp only[*];done|simp only[fb, *,not_false_eq_true,and_self];done|exact lf ‹_› (by simp only[*]))|simp -dsimp only[↓bp,bq,br,seval,bG,bF, *]|refine wz ?_|fail)
  all_goals first|rfl|exact aE σ (by repeat' first|exact lr _|assumption|refine ls ?_ ?_|refine lt ?_ ?_|simp only[*];done|simp only[fb, *,not_false_eq_true,and_self];done|exact lf ‹_› (by simp only[*])) ⟨rfl,rfl⟩
 have hv:cQ ⟨es,is,cs⟩=(!(cs.any fun t=> !right t) && bA ⟨es,is,cs⟩ 0 es):=by
  unfold cQ;simp only
  rw[decide_eq_true q1.1,decide_eq_true q1.2.1,decide_eq_true q1.2.2,List.not_any_eq_all_not]
  have:(!(decide (es=[]) && !decide (is=[])))=true:=by
   rw[Bool.not_eq_true',Bool.and_eq_false_iff]
   by_cases h:es=[]
   ·right;rw[Bool.not_eq_false',decide_eq_true_eq];exact Classical.byContradiction fun h'=>q2 ⟨h,h'⟩
   ·left;exact decide_eq_false h
  rw[this];simp
 rw[hv]
 generalize hct:(cs.any fun t=> !right t)=ct at*
 clear hct hv
 have hq:(((es.length:Int)=0)=False /\ es ≠ []) \/ (((es.length:Int)=0)=True /\ es=[] /\ (0 < (is.length:Int))=False):=by
  by_cases h:es=[]
  ·right;refine⟨eq_true (by rw[h];rfl),h,eq_false ?_⟩
   have:is=[]:=Classical.byContradiction fun h'=>q2 ⟨h,h'⟩
   rw[this];simp
  ·left;exact⟨eq_false (by have:=List.length_pos_iff.2 h;omega),h⟩
 have hbi:=hb3.2.1
 clear q1 q2 hb3
 rcases hq with⟨q4,q5⟩|⟨q4,q5,q6⟩
 case inr=>
  have hv0:bA ⟨es,is,cs⟩ 0 es=true:=by rw[q5];rfl
  have q7:(0 < (es.length:Int))=False:=eq_false (by rw[q5];simp)
  rw[hv0]
  clear hg hc hle hv0 q5
  cases ct with
  | true=>
   refine aJ.of_awp mixed Tryd.func8 rfl (by kernel_rfl) (by kernel_rfl) (by simp[Tryd.ntmps8]) Tryd.results8 ?_
   repeat'(first|refine xs ?_ ?_ <;>intros|(refine wn ?_;intro bx hbx;try simp only[fb]at hbx)|refine bZ.use (hcT) (by repeat' first|exact lr _|assumption|refine ls ?_ ?_|refine lt ?_ ?_|simp only[*];done|simp only[fb, *,not_false_eq_true,and_self];done|exact lf ‹_› (by simp only[*])) ?_|refine aQ ?_|(refine aB ?_;intro bx hbx;(try simp only[fb]at hbx))|refine aD ?_|((with_reducible refine And.intro ?_ ?_);omega)|refine aA (d':=⟨⟩) ?_|refine aR (by kernel_rfl) ?_|refine aP ?_ (by repeat' first|exact lr _|assumption|refine ls ?_ ?_|refine lt ?_ ?_|simp only[*];done|simp only[fb, *,not_false_eq_true,and_self];done|exact lf ‹_› (by simp only[*]))|refine aC ?_ (by repeat' first|exact lr _|assumption|refine ls ?_ ?_|refine lt ?_ ?_|simp only[*];done|simp only[fb, *,not_false_eq_true,and_self];done|exact lf ‹_› (by simp only[*]))|simp -dsimp only[↓bp,bq,br,seval,bG,bF, *]|refine wz ?_|fail)
   all_goals first|rfl|exact aE σ (by repeat' first|exact lr _|assumption|refine ls ?_ ?_|refine lt ?_ ?_|simp only[*];done|simp only[fb, *,not_false_eq_true,and_self];done|exact lf ‹_› (by simp only[*])) ⟨rfl,rfl⟩
  | false=>
   refine aJ.of_awp mixed Tryd.func8 rfl (by kernel_rfl) (by kernel_rfl) (by simp[Tryd.ntmps8]) Tryd.results8 ?_
   repeat'(first|refine xs ?_ ?_ <;>intros|(refine wn ?_;intro bx hbx;try simp only[fb]at hbx)|refine bZ.use (hcT) (by repeat' first|exact lr _|assumption|refine ls ?_ ?_|refine lt ?_ ?_|simp only[*];done|simp only[fb, *,not_false_eq_true,and_self];done|exact lf ‹_› (by simp only[*])) ?_|refine aQ ?_|(refine aB ?_;intro bx hbx;(try simp only[fb]at hbx))|refine aD ?_|((with_reducible refine And.intro ?_ ?_);omega)|refine aA (d':=⟨⟩) ?_|refine aR (by kernel_rfl) ?_|refine aP ?_ (by repeat' first|exact lr _|assumption|refine ls ?_ ?_|refine lt ?_ ?_|simp only[*];done|simp only[fb, *,not_false_eq_true,and_self];done|exact lf ‹_› (by simp only[*]))|refine aC ?_ (by repeat' first|exact lr _|assumption|refine ls ?_ ?_|refine lt ?_ ?_|simp only[*];done|simp only[fb, *,not_false_eq_true,and_self];done|exact lf ‹_› (by simp only[*]))|simp -dsimp only[↓bp,bq,br,seval,bG,bF, *]|refine wz ?_|fail)
   refine aY (fun n e' σ'=>n=0 /\ e' 37= .int .i64 0 /\ σ.le σ') 0 ⟨rfl,by first|(simp -dsimp only[↓bp,bq,br,seval,bG,bF];done)|(simp -dsimp only[↓bp,bq,br,seval,bG,bF];try rfl),by repeat' first|exact lr _|assumption|refine ls ?_ ?_|refine lt ?_ ?_|simp only[*];done|simp only[fb, *,not_false_eq_true,and_self];done|exact lf ‹_› (by simp only[*])⟩ ?_
   rintro n v σ2 ⟨rfl,h37,hle0⟩
   simp -dsimp only[↓bp,bq,br,seval,bG,bF]at h37
   repeat'(first|refine xs ?_ ?_ <;>intros|(refine wn ?_;intro bx hbx;try simp only[fb]at hbx)|refine aQ ?_|(refine aB ?_;intro bx hbx;(try simp only[fb]at hbx))|refine aD ?_|((with_reducible refine And.intro ?_ ?_);omega)|refine aA (d':=⟨⟩) ?_|refine aR (by kernel_rfl) ?_|refine aP ?_ (by repeat' first|exact lr _|assumption|refine ls ?_ ?_|refine lt ?_ ?_|simp only[*];done|simp only[fb, *,not_false_eq_true,and_self];done|exact lf ‹_› (by simp only[*]))|refine aC ?_ (by repeat' first|exact lr _|assumption|refine ls ?_ ?_|refine lt ?_ ?_|simp only[*];done|simp only[fb, *,not_false_eq_true,and_self];done|exact lf ‹_› (by simp only[*]))|simp -dsimp only[↓bp,bq,br,seval,bG,bF, *]|refine wz ?_|fail)
   all_goals first|rfl|exact aE σ hle0 ⟨rfl,rfl⟩
 cases ct with
 | true=>
  clear hg hc hle
  refine aJ.of_awp mixed Tryd.func8 rfl (by kernel_rfl) (by kernel_rfl) (by simp[Tryd.ntmps8]) Tryd.results8 ?_
  repeat'(first|refine xs ?_ ?_ <;>intros|(refine wn ?_;intro bx hbx;try simp only[fb]at hbx)|refine bZ.use (hcT) (by repeat' first|exact lr _|assumption|refine ls ?_ ?_|refine lt ?_ ?_|simp only[*];done|simp only[fb, *,not_false_eq_true,and_self];done|exact lf ‹_› (by simp only[*])) ?_|refine aQ ?_|(refine aB ?_;intro bx hbx;(try simp only[fb]at hbx))|refine aD ?_|((with_reducible refine And.intro ?_ ?_);omega)|refine aA (d':=⟨⟩) ?_|refine aR (by kernel_rfl) ?_|refine aP ?_ (by repeat' first|exact lr _|assumption|refine ls ?_ ?_|refine lt ?_ ?_|simp only[*];done|simp only[fb, *,not_false_eq_true,and_self];done|exact lf ‹_› (by simp only[*]))|refine aC ?_ (by repeat' first|exact lr _|assumption|refine ls ?_ ?_|refine lt ?_ ?_|simp only[*];done|simp only[fb, *,not_false_eq_true,and_self];done|exact lf ‹_› (by simp only[*]))|simp -dsimp only[↓bp,bq,br,seval,bG,bF, *]|refine wz ?_|fail)
  all_goals first|rfl|exact aE σ (by repeat' first|exact lr _|assumption|refine ls ?_ ?_|refine lt ?_ ?_|simp only[*];done|simp only[fb, *,not_false_eq_true,and_self];done|exact lf ‹_› (by simp only[*])) ⟨rfl,rfl⟩
 |false=>
 rw[Bool.not_false,Bool.true_and]
 refine aJ.of_awp mixed Tryd.func8 rfl (by kernel_rfl) (by kernel_rfl) (by simp[Tryd.ntmps8]) Tryd.results8 ?_
 repeat'(first|refine xs ?_ ?_ <;>intros|(refine wn ?_;intro bx hbx;try simp only[fb]at hbx)|refine bZ.use (hcT) (by repeat' first|exact lr _|assumption|refine ls ?_ ?_|refine lt ?_ ?_|simp only[*];done|simp only[fb, *,not_false_eq_true,and_self];done|exact lf ‹_› (by simp only[*])) ?_|refine aQ ?_|(refine aB ?_;intro bx hbx;(try simp only[fb]at hbx))|refine aD ?_|((with_reducible refine And.intro ?_ ?_);omega)|refine aA (d':=⟨⟩) ?_|refine aR (by kernel_rfl) ?_|refine aP ?_ (by repeat' first|exact lr _|assumption|refine ls ?_ ?_|refine lt ?_ ?_|simp only[*];done|simp only[fb, *,not_false_eq_true,and_self];done|exact lf ‹_› (by simp only[*]))|refine aC ?_ (by repeat' first|exact lr _|assumption|refine ls ?_ ?_|refine lt ?_ ?_|simp only[*];done|simp only[fb, *,not_false_eq_true,and_self];done|exact lf ‹_› (by simp only[*]))|simp -dsimp only[↓bp,bq,br,seval,bG,bF, *]|refine wz ?_|fail)
 obtain⟨S,hS⟩:∃ S,S=σ.setBox bx [aW dA.enc es,aW aO.enc is,dK cs]:=⟨_,rfl⟩
 have hS1:S.box bx=some [aW dA.enc es,aW aO.enc is,dK cs]:=by rw[hS];simp[AS.setBox]
 have hleS:σ.le S:=by rw[hS];exact(AS.le.refl σ).setBox hbx.1 _
 rw[<- hS]
 clear hS hbx hcT q1' q4
 refine aY (fun n e' σ'=>∃ i b:Nat,i <=es.length /\ n=es.length - i /\ e' 37= .int .i64 i /\ e' 3= .int .i64 b /\ S.le σ' /\ b <=is.length /\ bA ⟨es,is,cs⟩ 0 es=bA ⟨es,is,cs⟩ b (es.drop i)) es.length
  ⟨0,0,by omega,by omega,by first|(simp -dsimp only[↓bp,bq,br,seval,bG,bF];done)|(simp -dsimp only[↓bp,bq,br,seval,bG,bF];try rfl),by first|(simp -dsimp only[↓bp,bq,br,seval,bG,bF];done)|(simp -dsimp only[↓bp,bq,br,seval,bG,bF];try rfl),AS.le.refl _,by omega,rfl⟩ ?_
 rintro n v σ2 ⟨i,b,hi,rfl,h37,h3,hleR,hb,hent⟩
 simp -dsimp only[↓bp,bq,br,seval,bG,bF]at h37
 simp -dsimp only[↓bp,bq,br,seval,bG,bF]at h3
 have hb1:=hleR.box _ _ hS1
 have hle0:=hleS.trans hleR
 have hne:∀ b',σ2.fresh b' -> (bx=b')=False:=fun b' h=>eq_false fun e=>by subst e;rw[h.1]at hb1;cases hb1
 by_cases hlt:i < es.length
 case neg=>
  have:i=es.length:=by omega
  subst this
  rw[List.drop_length]at hent
  have hlt':((es.length:Int) < es.length)=False:=eq_false (by omega)
  rw[hent,show bA ⟨es,is,cs⟩ b []=true from rfl]
  clear hg hc hle hli hbi hlt hb hent hi
  repeat'(first|refine xs ?_ ?_ <;>intros|(refine wn ?_;intro bx hbx;try simp only[fb]at hbx)|refine aQ ?_|(refine aB ?_;intro bx hbx;(try simp only[fb]at hbx))|refine aD ?_|((with_reducible refine And.intro ?_ ?_);omega)|refine aA (d':=⟨⟩) ?_|refine aR (by kernel_rfl) ?_|refine aP ?_ (by repeat' first|exact lr _|assumption|refine ls ?_ ?_|refine lt ?_ ?_|simp only[*];done|simp only[fb, *,not_false_eq_true,and_self];done|exact lf ‹_› (by simp only[*]))|refine aC ?_ (by repeat' first|exact lr _|assumption|refine ls ?_ ?_|refine lt ?_ ?_|simp only[*];done|simp only[fb, *,not_false_eq_true,and_self];done|exact lf ‹_› (by simp only[*]))|simp -dsimp only[↓bp,bq,br,seval,bG,bF, *]|refine wz ?_|fail)
  all_goals first|rfl|exact aE σ hle0 ⟨rfl,rfl⟩
 obtain⟨e,hk⟩:∃ e,es[i]? =some e:=⟨_,List.getElem?_eq_getElem hlt⟩
 have hdrop:es.drop i=e::es.drop (i+1):=by
  rw[List.drop_eq_getElem_cons hlt];congr 1;rw[List.getElem?_eq_getElem hlt]at hk;exact Option.some.inj hk
 have hwi:IntKind.i64.wrap ((i:Int)+1)=((i+1:Nat):Int):=by rw[aH (by omega) (by omega)];rfl
 have hlt':((i:Int) < es.length)=True:=eq_true (by omega)
 by_cases hl2:i+1 < es.length
 ·obtain⟨e2,hk2⟩:∃ e,es[i+1]? =some e:=⟨_,List.getElem?_eq_getElem hl2⟩
  have hl2':(((i+1:Nat):Int) < es.length)=True:=eq_true (by omega)
  have hend:oH ⟨es,is,cs⟩ (es.drop (i+1))=e2.pos:=by
   rw[List.drop_eq_getElem_cons hl2];rw[List.getElem?_eq_getElem hl2]at hk2;rw[Option.some.inj hk2];rfl
  clear hl2
  by_cases c0:e.pos=(b:Int)
  case neg=>
   have hbad:cB ⟨es,is,cs⟩ b e2.pos e=false:=by
    rw[Bool.eq_false_iff];intro h;simp only[cB,Bool.and_eq_true,decide_eq_true_eq]at h;omega
   have hv2:bA ⟨es,is,cs⟩ 0 es=false:=by rw[hent,hdrop];simp only[bA];rw[hend,hbad,Bool.false_and]
   rw[hv2]
   have g0:=eq_false c0
   clear hv2 hbad hg hc hli hbi hle hent hdrop hend hlt hi hb c0
   repeat'(first|refine xs ?_ ?_ <;>intros|(refine wn ?_;intro bx hbx;try simp only[fb]at hbx)|refine aQ ?_|(refine aB ?_;intro bx hbx;(try simp only[fb]at hbx))|refine aD ?_|((with_reducible refine And.intro ?_ ?_);omega)|refine aA (d':=⟨⟩) ?_|refine aR (by kernel_rfl) ?_|refine aP ?_ (by repeat' first|exact lr _|assumption|refine ls ?_ ?_|refine lt ?_ ?_|simp only[*];done|simp only[fb, *,not_false_eq_true,and_self];done|exact lf ‹_› (by simp only[*]))|refine aC ?_ (by repeat' first|exact lr _|assumption|refine ls ?_ ?_|refine lt ?_ ?_|simp only[*];done|simp only[fb, *,not_false_eq_true,and_self];done|exact lf ‹_› (by simp only[*]))|simp -dsimp only[↓bp,bq,br,seval,bG,bF, *]|refine wz ?_|fail)
   all_goals first|rfl|exact aE σ (hle0.trans (by repeat' first|exact lr _|assumption|refine ls ?_ ?_|refine lt ?_ ?_|simp only[*];done|simp only[fb, *,not_false_eq_true,and_self];done|exact lf ‹_› (by simp only[*]))) ⟨rfl,rfl⟩
  by_cases c1:e2.pos <=(b:Int)
  case pos=>
   have hbad:cB ⟨es,is,cs⟩ b e2.pos e=false:=by
    rw[Bool.eq_false_iff];intro h;simp only[cB,Bool.and_eq_true,decide_eq_true_eq]at h;omega
   have hv2:bA ⟨es,is,cs⟩ 0 es=false:=by rw[hent,hdrop];simp only[bA];rw[hend,hbad,Bool.false_and]
   rw[hv2]
   have g0:=eq_true c0
   have g1:=eq_true c1
   clear hv2 hbad hg hc hli hbi hle hent hdrop hend hlt hi hb c0 c1
   repeat'(first|refine xs ?_ ?_ <;>intros|(refine wn ?_;intro bx hbx;try simp only[fb]at hbx)|refine aQ ?_|(refine aB ?_;intro bx hbx;(try simp only[fb]at hbx))|refine aD ?_|((with_reducible refine And.intro ?_ ?_);omega)|refine aA (d':=⟨⟩) ?_|refine aR (by kernel_rfl) ?_|refine aP ?_ (by repeat' first|exact lr _|assumption|refine ls ?_ ?_|refine lt ?_ ?_|simp only[*];done|simp only[fb, *,not_false_eq_true,and_self];done|exact lf ‹_› (by simp only[*]))|refine aC ?_ (by repeat' first|exact lr _|assumption|refine ls ?_ ?_|refine lt ?_ ?_|simp only[*];done|simp only[fb, *,not_false_eq_true,and_self];done|exact lf ‹_› (by simp only[*]))|simp -dsimp only[↓bp,bq,br,seval,bG,bF, *]|refine wz ?_|fail)
   all_goals first|rfl|exact aE σ (hle0.trans (by repeat' first|exact lr _|assumption|refine ls ?_ ?_|refine lt ?_ ?_|simp only[*];done|simp only[fb, *,not_false_eq_true,and_self];done|exact lf ‹_› (by simp only[*]))) ⟨rfl,rfl⟩
  by_cases c2:(is.length:Int) < e2.pos
  case pos=>
   have hbad:cB ⟨es,is,cs⟩ b e2.pos e=false:=by
    rw[Bool.eq_false_iff];intro h;simp only[cB,Bool.and_eq_true,decide_eq_true_eq]at h;omega
   have hv2:bA ⟨es,is,cs⟩ 0 es=false:=by rw[hent,hdrop];simp only[bA];rw[hend,hbad,Bool.false_and]
   rw[hv2]
   have g0:=eq_true c0
   have g1:=eq_false c1
   have g2:=eq_true c2
   clear hv2 hbad hg hc hli hbi hle hent hdrop hend hlt hi hb c0 c1 c2
   repeat'(first|refine xs ?_ ?_ <;>intros|(refine wn ?_;intro bx hbx;try simp only[fb]at hbx)|refine aQ ?_|(refine aB ?_;intro bx hbx;(try simp only[fb]at hbx))|refine aD ?_|((with_reducible refine And.intro ?_ ?_);omega)|refine aA (d':=⟨⟩) ?_|refine aR (by kernel_rfl) ?_|refine aP ?_ (by repeat' first|exact lr _|assumption|refine ls ?_ ?_|refine lt ?_ ?_|simp only[*];done|simp only[fb, *,not_false_eq_true,and_self];done|exact lf ‹_› (by simp only[*]))|refine aC ?_ (by repeat' first|exact lr _|assumption|refine ls ?_ ?_|refine lt ?_ ?_|simp only[*];done|simp only[fb, *,not_false_eq_true,and_self];done|exact lf ‹_› (by simp only[*]))|simp -dsimp only[↓bp,bq,br,seval,bG,bF, *]|refine wz ?_|fail)
   all_goals first|rfl|exact aE σ (hle0.trans (by repeat' first|exact lr _|assumption|refine ls ?_ ?_|refine lt ?_ ?_|simp only[*];done|simp only[fb, *,not_false_eq_true,and_self];done|exact lf ‹_› (by simp only[*]))) ⟨rfl,rfl⟩
  by_cases c3:40 < (e.name.length:Int)
  case pos=>
   have hbad:cB ⟨es,is,cs⟩ b e2.pos e=false:=by
    rw[Bool.eq_false_iff];intro h;simp only[cB,Bool.and_eq_true,decide_eq_true_eq]at h;omega
   have hv2:bA ⟨es,is,cs⟩ 0 es=false:=by rw[hent,hdrop];simp only[bA];rw[hend,hbad,Bool.false_and]
   rw[hv2]
   have g0:=eq_true c0
   have g1:=eq_false c1
   have g2:=eq_false c2
   have g3:=eq_true c3
   clear hv2 hbad hg hc hli hbi hle hent hdrop hend hlt hi hb c0 c1 c2 c3
   repeat'(first|refine xs ?_ ?_ <;>intros|(refine wn ?_;intro bx hbx;try simp only[fb]at hbx)|refine aQ ?_|(refine aB ?_;intro bx hbx;(try simp only[fb]at hbx))|refine aD ?_|((with_reducible refine And.intro ?_ ?_);omega)|refine aA (d':=⟨⟩) ?_|refine aR (by kernel_rfl) ?_|refine aP ?_ (by repeat' first|exact lr _|assumption|refine ls ?_ ?_|refine lt ?_ ?_|simp only[*];done|simp only[fb, *,not_false_eq_true,and_self];done|exact lf ‹_› (by simp only[*]))|refine aC ?_ (by repeat' first|exact lr _|assumption|refine ls ?_ ?_|refine lt ?_ ?_|simp only[*];done|simp only[fb, *,not_false_eq_true,and_self];done|exact lf ‹_› (by simp only[*]))|simp -dsimp only[↓bp,bq,br,seval,bG,bF, *]|refine wz ?_|fail)
   all_goals first|rfl|exact aE σ (hle0.trans (by repeat' first|exact lr _|assumption|refine ls ?_ ?_|refine lt ?_ ?_|simp only[*];done|simp only[fb, *,not_false_eq_true,and_self];done|exact lf ‹_› (by simp only[*]))) ⟨rfl,rfl⟩
  by_cases c4:e.extra < 0
  case pos=>
   have hbad:cB ⟨es,is,cs⟩ b e2.pos e=false:=by
    rw[Bool.eq_false_iff];intro h;simp only[cB,Bool.and_eq_true,decide_eq_true_eq]at h;omega
   have hv2:bA ⟨es,is,cs⟩ 0 es=false:=by rw[hent,hdrop];simp only[bA];rw[hend,hbad,Bool.false_and]
   rw[hv2]
   have g0:=eq_true c0
   have g1:=eq_false c1
   have g2:=eq_false c2
   have g3:=eq_false c3
   have g4:=eq_true c4
   clear hv2 hbad hg hc hli hbi hle hent hdrop hend hlt hi hb c0 c1 c2 c3 c4
   repeat'(first|refine xs ?_ ?_ <;>intros|(refine wn ?_;intro bx hbx;try simp only[fb]at hbx)|refine aQ ?_|(refine aB ?_;intro bx hbx;(try simp only[fb]at hbx))|refine aD ?_|((with_reducible refine And.intro ?_ ?_);omega)|refine aA (d':=⟨⟩) ?_|refine aR (by kernel_rfl) ?_|refine aP ?_ (by repeat' first|exact lr _|assumption|refine ls ?_ ?_|refine lt ?_ ?_|simp only[*];done|simp only[fb, *,not_false_eq_true,and_self];done|exact lf ‹_› (by simp only[*]))|refine aC ?_ (by repeat' first|exact lr _|assumption|refine ls ?_ ?_|refine lt ?_ ?_|simp only[*];done|simp only[fb, *,not_false_eq_true,and_self];done|exact lf ‹_› (by simp only[*]))|simp -dsimp only[↓bp,bq,br,seval,bG,bF, *]|refine wz ?_|fail)
   all_goals first|rfl|exact aE σ (hle0.trans (by repeat' first|exact lr _|assumption|refine ls ?_ ?_|refine lt ?_ ?_|simp only[*];done|simp only[fb, *,not_false_eq_true,and_self];done|exact lf ‹_› (by simp only[*]))) ⟨rfl,rfl⟩
  by_cases c5:e.arity < e.extra
  case pos=>
   have hbad:cB ⟨es,is,cs⟩ b e2.pos e=false:=by
    rw[Bool.eq_false_iff];intro h;simp only[cB,Bool.and_eq_true,decide_eq_true_eq]at h;omega
   have hv2:bA ⟨es,is,cs⟩ 0 es=false:=by rw[hent,hdrop];simp only[bA];rw[hend,hbad,Bool.false_and]
   rw[hv2]
   have g0:=eq_true c0
   have g1:=eq_false c1
   have g2:=eq_false c2
   have g3:=eq_false c3
   have g4:=eq_false c4
   have g5:=eq_true c5
   clear hv2 hbad hg hc hli hbi hle hent hdrop hend hlt hi hb c0 c1 c2 c3 c4 c5
   repeat'(first|refine xs ?_ ?_ <;>intros|(refine wn ?_;intro bx hbx;try simp only[fb]at hbx)|refine aQ ?_|(refine aB ?_;intro bx hbx;(try simp only[fb]at hbx))|refine aD ?_|((with_reducible refine And.intro ?_ ?_);omega)|refine aA (d':=⟨⟩) ?_|refine aR (by kernel_rfl) ?_|refine aP ?_ (by repeat' first|exact lr _|assumption|refine ls ?_ ?_|refine lt ?_ ?_|simp only[*];done|simp only[fb, *,not_false_eq_true,and_self];done|exact lf ‹_› (by simp only[*]))|refine aC ?_ (by repeat' first|exact lr _|assumption|refine ls ?_ ?_|refine lt ?_ ?_|simp only[*];done|simp only[fb, *,not_false_eq_true,and_self];done|exact lf ‹_› (by simp only[*]))|simp -dsimp only[↓bp,bq,br,seval,bG,bF, *]|refine wz ?_|fail)
   all_goals first|rfl|exact aE σ (hle0.trans (by repeat' first|exact lr _|assumption|refine ls ?_ ?_|refine lt ?_ ?_|simp only[*];done|simp only[fb, *,not_false_eq_true,and_self];done|exact lf ‹_› (by simp only[*]))) ⟨rfl,rfl⟩
  by_cases c6:12 < e.arity
  case pos=>
   have hbad:cB ⟨es,is,cs⟩ b e2.pos e=false:=by
    rw[Bool.eq_false_iff];intro h;simp only[cB,Bool.and_eq_true,decide_eq_true_eq]at h;omega
   have hv2:bA ⟨es,is,cs⟩ 0 es=false:=by rw[hent,hdrop];simp only[bA];rw[hend,hbad,Bool.false_and]
   rw[hv2]
   have g0:=eq_true c0
   have g1:=eq_false c1
   have g2:=eq_false c2
   have g3:=eq_false c3
   have g4:=eq_false c4
   have g5:=eq_false c5
   have g6:=eq_true c6
   clear hv2 hbad hg hc hli hbi hle hent hdrop hend hlt hi hb c0 c1 c2 c3 c4 c5 c6
   repeat'(first|refine xs ?_ ?_ <;>intros|(refine wn ?_;intro bx hbx;try simp only[fb]at hbx)|refine aQ ?_|(refine aB ?_;intro bx hbx;(try simp only[fb]at hbx))|refine aD ?_|((with_reducible refine And.intro ?_ ?_);omega)|refine aA (d':=⟨⟩) ?_|refine aR (by kernel_rfl) ?_|refine aP ?_ (by repeat' first|exact lr _|assumption|refine ls ?_ ?_|refine lt ?_ ?_|simp only[*];done|simp only[fb, *,not_false_eq_true,and_self];done|exact lf ‹_› (by simp only[*]))|refine aC ?_ (by repeat' first|exact lr _|assumption|refine ls ?_ ?_|refine lt ?_ ?_|simp only[*];done|simp only[fb, *,not_false_eq_true,and_self];done|exact lf ‹_› (by simp only[*]))|simp -dsimp only[↓bp,bq,br,seval,bG,bF, *]|refine wz ?_|fail)
   all_goals first|rfl|exact aE σ (hle0.trans (by repeat' first|exact lr _|assumption|refine ls ?_ ?_|refine lt ?_ ?_|simp only[*];done|simp only[fb, *,not_false_eq_true,and_self];done|exact lf ‹_› (by simp only[*]))) ⟨rfl,rfl⟩
  by_cases c7:e.slots < e.arity
  case pos=>
   have hbad:cB ⟨es,is,cs⟩ b e2.pos e=false:=by
    rw[Bool.eq_false_iff];intro h;simp only[cB,Bool.and_eq_true,decide_eq_true_eq]at h;omega
   have hv2:bA ⟨es,is,cs⟩ 0 es=false:=by rw[hent,hdrop];simp only[bA];rw[hend,hbad,Bool.false_and]
   rw[hv2]
   have g0:=eq_true c0
   have g1:=eq_false c1
   have g2:=eq_false c2
   have g3:=eq_false c3
   have g4:=eq_false c4
   have g5:=eq_false c5
   have g6:=eq_false c6
   have g7:=eq_true c7
   clear hv2 hbad hg hc hli hbi hle hent hdrop hend hlt hi hb c0 c1 c2 c3 c4 c5 c6 c7
   repeat'(first|refine xs ?_ ?_ <;>intros|(refine wn ?_;intro bx hbx;try simp only[fb]at hbx)|refine aQ ?_|(refine aB ?_;intro bx hbx;(try simp only[fb]at hbx))|refine aD ?_|((with_reducible refine And.intro ?_ ?_);omega)|refine aA (d':=⟨⟩) ?_|refine aR (by kernel_rfl) ?_|refine aP ?_ (by repeat' first|exact lr _|assumption|refine ls ?_ ?_|refine lt ?_ ?_|simp only[*];done|simp only[fb, *,not_false_eq_true,and_self];done|exact lf ‹_› (by simp only[*]))|refine aC ?_ (by repeat' first|exact lr _|assumption|refine ls ?_ ?_|refine lt ?_ ?_|simp only[*];done|simp only[fb, *,not_false_eq_true,and_self];done|exact lf ‹_› (by simp only[*]))|simp -dsimp only[↓bp,bq,br,seval,bG,bF, *]|refine wz ?_|fail)
   all_goals first|rfl|exact aE σ (hle0.trans (by repeat' first|exact lr _|assumption|refine ls ?_ ?_|refine lt ?_ ?_|simp only[*];done|simp only[fb, *,not_false_eq_true,and_self];done|exact lf ‹_› (by simp only[*]))) ⟨rfl,rfl⟩
  by_cases c8:1000 < e.slots
  case pos=>
   have hbad:cB ⟨es,is,cs⟩ b e2.pos e=false:=by
    rw[Bool.eq_false_iff];intro h;simp only[cB,Bool.and_eq_true,decide_eq_true_eq]at h;omega
   have hv2:bA ⟨es,is,cs⟩ 0 es=false:=by rw[hent,hdrop];simp only[bA];rw[hend,hbad,Bool.false_and]
   rw[hv2]
   have g0:=eq_true c0
   have g1:=eq_false c1
   have g2:=eq_false c2
   have g3:=eq_false c3
   have g4:=eq_false c4
   have g5:=eq_false c5
   have g6:=eq_false c6
   have g7:=eq_false c7
   have g8:=eq_true c8
   clear hv2 hbad hg hc hli hbi hle hent hdrop hend hlt hi hb c0 c1 c2 c3 c4 c5 c6 c7 c8
   repeat'(first|refine xs ?_ ?_ <;>intros|(refine wn ?_;intro bx hbx;try simp only[fb]at hbx)|refine aQ ?_|(refine aB ?_;intro bx hbx;(try simp only[fb]at hbx))|refine aD ?_|((with_reducible refine And.intro ?_ ?_);omega)|refine aA (d':=⟨⟩) ?_|refine aR (by kernel_rfl) ?_|refine aP ?_ (by repeat' first|exact lr _|assumption|refine ls ?_ ?_|refine lt ?_ ?_|simp only[*];done|simp only[fb, *,not_false_eq_true,and_self];done|exact lf ‹_› (by simp only[*]))|refine aC ?_ (by repeat' first|exact lr _|assumption|refine ls ?_ ?_|refine lt ?_ ?_|simp only[*];done|simp only[fb, *,not_false_eq_true,and_self];done|exact lf ‹_› (by simp only[*]))|simp -dsimp only[↓bp,bq,br,seval,bG,bF, *]|refine wz ?_|fail)
   all_goals first|rfl|exact aE σ (hle0.trans (by repeat' first|exact lr _|assumption|refine ls ?_ ?_|refine lt ?_ ?_|simp only[*];done|simp only[fb, *,not_false_eq_true,and_self];done|exact lf ‹_› (by simp only[*]))) ⟨rfl,rfl⟩
  obtain⟨z,hz⟩:=Int.eq_ofNat_of_zero_le (a:=e2.pos) (by omega)
  have hgood:cB ⟨es,is,cs⟩ b e2.pos e=true:=by
   simp only[cB,Bool.and_eq_true,decide_eq_true_eq];omega
  have g0:=eq_true c0
  have g1:=eq_false c1
  have g2:=eq_false c2
  have g3:=eq_false c3
  have g4:=eq_false c4
  have g5:=eq_false c5
  have g6:=eq_false c6
  have g7:=eq_false c7
  have g8:=eq_false c8
  have hbz:b <=z /\ z <=is.length:=by omega
  replace hz:=hz.symm
  have hsl:=C2d is b z hbz.1 hbz.2
  rw[hz]at hsl
  have hwi':sZ ⟨es,is,cs⟩ b e2.pos=(is.take z).drop b:=by unfold sZ;rw[<- hz];rfl
  have hv2:bA ⟨es,is,cs⟩ 0 es=(!(((is.take z).drop b).any fun x=> !cS ⟨es,is,cs⟩ e b e2.pos x) && bA ⟨es,is,cs⟩ e2.pos (es.drop (i+1))):=by
   rw[hent,hdrop];simp only[bA];rw[hend,hgood,Bool.true_and,hwi',List.not_any_eq_all_not];simp
  have hcn:∀ {s0:AS} {bx:Nat},s0.box bx=some [aW dA.enc es,aW aO.enc is,dK cs, .str e.name, .int .i64 e.arity, .int .i64 e.extra, .int .i64 e.slots, .int .i64 e.pos, .int .i64 b, .int .i64 e2.pos] ->bZ Tryd.prog G 27 [aW aO.enc ((is.take z).drop b), .fn 28 [.ptr bx 0]] s0 (.bool (((is.take z).drop b).any fun x=> !cS ⟨es,is,cs⟩ e b e2.pos x)):=fun {s0 bx} h0=>
   nG G (fun x=> !cS ⟨es,is,cs⟩ e b e2.pos x) _ (by rw[List.length_drop,List.length_take];omega) (fun x hx=>zC hg h0 hc x (by have:=lK (f:=aO.bulk) (List.mem_of_mem_take (List.mem_of_mem_drop hx));omega))
  generalize(((is.take z).drop b).any fun x=> !cS ⟨es,is,cs⟩ e b e2.pos x)=r at*
  skip
  clear hg hc hli hbi hent hend hwi' hgood hb c0 c1 c2 c3 c4 c5 c6 c7 c8
  cases r with
  | true=>
   rw[hv2,Bool.not_true,Bool.false_and]
   clear hv2 hdrop hlt hi
   repeat'(first|refine xs ?_ ?_ <;>intros|(refine wn ?_;intro bx hbx;try simp only[fb]at hbx)|(refine bZ.use (hcn AS.set_get) (AS.le.refl _) ?_)|refine aQ ?_|(refine aB ?_;intro bx hbx;(try simp only[fb]at hbx))|refine aD ?_|((with_reducible refine And.intro ?_ ?_);omega)|refine aA (d':=⟨⟩) ?_|refine aR (by kernel_rfl) ?_|refine aP ?_ (by repeat' first|exact lr _|assumption|refine ls ?_ ?_|refine lt ?_ ?_|simp only[*];done|simp only[fb, *,not_false_eq_true,and_self];done|exact lf ‹_› (by simp only[*]))|refine aC ?_ (by repeat' first|exact lr _|assumption|refine ls ?_ ?_|refine lt ?_ ?_|simp only[*];done|simp only[fb, *,not_false_eq_true,and_self];done|exact lf ‹_› (by simp only[*]))|simp -dsimp only[↓bp,bq,br,seval,bG,bF, *]|refine wz ?_|fail)
   all_goals first|rfl|exact aE σ (hle0.trans (by repeat' first|exact lr _|assumption|refine ls ?_ ?_|refine lt ?_ ?_|simp only[*];done|simp only[fb, *,not_false_eq_true,and_self];done|exact lf ‹_› (by simp only[*]))) ⟨rfl,rfl⟩
  | false=>
   rw[Bool.not_false,Bool.true_and]at hv2
   clear hdrop
   repeat'(first|refine xs ?_ ?_ <;>intros|(refine wn ?_;intro bx hbx;try simp only[fb]at hbx)|(refine bZ.use (hcn AS.set_get) (AS.le.refl _) ?_)|refine aQ ?_|(refine aB ?_;intro bx hbx;(try simp only[fb]at hbx))|refine aD ?_|((with_reducible refine And.intro ?_ ?_);omega)|refine aA (d':=⟨⟩) ?_|refine aR (by kernel_rfl) ?_|refine aP ?_ (by repeat' first|exact lr _|assumption|refine ls ?_ ?_|refine lt ?_ ?_|simp only[*];done|simp only[fb, *,not_false_eq_true,and_self];done|exact lf ‹_› (by simp only[*]))|refine aC ?_ (by repeat' first|exact lr _|assumption|refine ls ?_ ?_|refine lt ?_ ?_|simp only[*];done|simp only[fb, *,not_false_eq_true,and_self];done|exact lf ‹_› (by simp only[*]))|simp -dsimp only[↓bp,bq,br,seval,bG,bF, *]|refine wz ?_|fail)
   all_goals refine⟨es.length - (i+1),by omega,i+1,z,by omega,rfl,by first|(simp -dsimp only[↓bp,bq,br,seval,bG,bF];done)|(simp -dsimp only[↓bp,bq,br,seval,bG,bF];try rfl),by first|rw[hz]|(rw[hz];first|(simp -dsimp only[↓bp,bq,br,seval,bG,bF];done)|(simp -dsimp only[↓bp,bq,br,seval,bG,bF];try rfl)),by repeat' first|exact lr _|assumption|refine ls ?_ ?_|refine lt ?_ ?_|simp only[*];done|simp only[fb, *,not_false_eq_true,and_self];done|exact lf ‹_› (by simp only[*]),hbz.2,by first|rw[hz]|rw[hv2,hz]⟩
 ·have hl2':(((i+1:Nat):Int) < es.length)=False:=eq_false (by omega)
  have hend:oH ⟨es,is,cs⟩ (es.drop (i+1))=(is.length:Int):=by rw[List.drop_of_length_le (by omega)];rfl
  clear hl2
  by_cases c0:e.pos=(b:Int)
  case neg=>
   have hbad:cB ⟨es,is,cs⟩ b (is.length:Int) e=false:=by
    rw[Bool.eq_false_iff];intro h;simp only[cB,Bool.and_eq_true,decide_eq_true_eq]at h;omega
   have hv2:bA ⟨es,is,cs⟩ 0 es=false:=by rw[hent,hdrop];simp only[bA];rw[hend,hbad,Bool.false_and]
   rw[hv2]
   have g0:=eq_false c0
   clear hv2 hbad hg hc hli hbi hle hent hdrop hend hlt hi hb c0
   repeat'(first|refine xs ?_ ?_ <;>intros|(refine wn ?_;intro bx hbx;try simp only[fb]at hbx)|refine aQ ?_|(refine aB ?_;intro bx hbx;(try simp only[fb]at hbx))|refine aD ?_|((with_reducible refine And.intro ?_ ?_);omega)|refine aA (d':=⟨⟩) ?_|refine aR (by kernel_rfl) ?_|refine aP ?_ (by repeat' first|exact lr _|assumption|refine ls ?_ ?_|refine lt ?_ ?_|simp only[*];done|simp only[fb, *,not_false_eq_true,and_self];done|exact lf ‹_› (by simp only[*]))|refine aC ?_ (by repeat' first|exact lr _|assumption|refine ls ?_ ?_|refine lt ?_ ?_|simp only[*];done|simp only[fb, *,not_false_eq_true,and_self];done|exact lf ‹_› (by simp only[*]))|simp -dsimp only[↓bp,bq,br,seval,bG,bF, *]|refine wz ?_|fail)
   all_goals first|rfl|exact aE σ (hle0.trans (by repeat' first|exact lr _|assumption|refine ls ?_ ?_|refine lt ?_ ?_|simp only[*];done|simp only[fb, *,not_false_eq_true,and_self];done|exact lf ‹_› (by simp only[*]))) ⟨rfl,rfl⟩
  by_cases c1:(is.length:Int) <=(b:Int)
  case pos=>
   have hbad:cB ⟨es,is,cs⟩ b (is.length:Int) e=false:=by
    rw[Bool.eq_false_iff];intro h;simp only[cB,Bool.and_eq_true,decide_eq_true_eq]at h;omega
   have hv2:bA ⟨es,is,cs⟩ 0 es=false:=by rw[hent,hdrop];simp only[bA];rw[hend,hbad,Bool.false_and]
   rw[hv2]
   have g0:=eq_true c0
   have g1:=eq_true c1
   clear hv2 hbad hg hc hli hbi hle hent hdrop hend hlt hi hb c0 c1
   repeat'(first|refine xs ?_ ?_ <;>intros|(refine wn ?_;intro bx hbx;try simp only[fb]at hbx)|refine aQ ?_|(refine aB ?_;intro bx hbx;(try simp only[fb]at hbx))|refine aD ?_|((with_reducible refine And.intro ?_ ?_);omega)|refine aA (d':=⟨⟩) ?_|refine aR (by kernel_rfl) ?_|refine aP ?_ (by repeat' first|exact lr _|assumption|refine ls ?_ ?_|refine lt ?_ ?_|simp only[*];done|simp only[fb, *,not_false_eq_true,and_self];done|exact lf ‹_› (by simp only[*]))|refine aC ?_ (by repeat' first|exact lr _|assumption|refine ls ?_ ?_|refine lt ?_ ?_|simp only[*];done|simp only[fb, *,not_false_eq_true,and_self];done|exact lf ‹_› (by simp only[*]))|simp -dsimp only[↓bp,bq,br,seval,bG,bF, *]|refine wz ?_|fail)
   all_goals first|rfl|exact aE σ (hle0.trans (by repeat' first|exact lr _|assumption|refine ls ?_ ?_|refine lt ?_ ?_|simp only[*];done|simp only[fb, *,not_false_eq_true,and_self];done|exact lf ‹_› (by simp only[*]))) ⟨rfl,rfl⟩
  by_cases c2:(is.length:Int) < (is.length:Int)
  case pos=>
   have hbad:cB ⟨es,is,cs⟩ b (is.length:Int) e=false:=by
    rw[Bool.eq_false_iff];intro h;simp only[cB,Bool.and_eq_true,decide_eq_true_eq]at h;omega
   have hv2:bA ⟨es,is,cs⟩ 0 es=false:=by rw[hent,hdrop];simp only[bA];rw[hend,hbad,Bool.false_and]
   rw[hv2]
   have g0:=eq_true c0
   have g1:=eq_false c1
   have g2:=eq_true c2
   clear hv2 hbad hg hc hli hbi hle hent hdrop hend hlt hi hb c0 c1 c2
   repeat'(first|refine xs ?_ ?_ <;>intros|(refine wn ?_;intro bx hbx;try simp only[fb]at hbx)|refine aQ ?_|(refine aB ?_;intro bx hbx;(try simp only[fb]at hbx))|refine aD ?_|((with_reducible refine And.intro ?_ ?_);omega)|refine aA (d':=⟨⟩) ?_|refine aR (by kernel_rfl) ?_|refine aP ?_ (by repeat' first|exact lr _|assumption|refine ls ?_ ?_|refine lt ?_ ?_|simp only[*];done|simp only[fb, *,not_false_eq_true,and_self];done|exact lf ‹_› (by simp only[*]))|refine aC ?_ (by repeat' first|exact lr _|assumption|refine ls ?_ ?_|refine lt ?_ ?_|simp only[*];done|simp only[fb, *,not_false_eq_true,and_self];done|exact lf ‹_› (by simp only[*]))|simp -dsimp only[↓bp,bq,br,seval,bG,bF, *]|refine wz ?_|fail)
   all_goals first|rfl|exact aE σ (hle0.trans (by repeat' first|exact lr _|assumption|refine ls ?_ ?_|refine lt ?_ ?_|simp only[*];done|simp only[fb, *,not_false_eq_true,and_self];done|exact lf ‹_› (by simp only[*]))) ⟨rfl,rfl⟩
  by_cases c3:40 < (e.name.length:Int)
  case pos=>
   have hbad:cB ⟨es,is,cs⟩ b (is.length:Int) e=false:=by
    rw[Bool.eq_false_iff];intro h;simp only[cB,Bool.and_eq_true,decide_eq_true_eq]at h;omega
   have hv2:bA ⟨es,is,cs⟩ 0 es=false:=by rw[hent,hdrop];simp only[bA];rw[hend,hbad,Bool.false_and]
   rw[hv2]
   have g0:=eq_true c0
   have g1:=eq_false c1
   have g2:=eq_false c2
   have g3:=eq_true c3
   clear hv2 hbad hg hc hli hbi hle hent hdrop hend hlt hi hb c0 c1 c2 c3
   repeat'(first|refine xs ?_ ?_ <;>intros|(refine wn ?_;intro bx hbx;try simp only[fb]at hbx)|refine aQ ?_|(refine aB ?_;intro bx hbx;(try simp only[fb]at hbx))|refine aD ?_|((with_reducible refine And.intro ?_ ?_);omega)|refine aA (d':=⟨⟩) ?_|refine aR (by kernel_rfl) ?_|refine aP ?_ (by repeat' first|exact lr _|assumption|refine ls ?_ ?_|refine lt ?_ ?_|simp only[*];done|simp only[fb, *,not_false_eq_true,and_self];done|exact lf ‹_› (by simp only[*]))|refine aC ?_ (by repeat' first|exact lr _|assumption|refine ls ?_ ?_|refine lt ?_ ?_|simp only[*];done|simp only[fb, *,not_false_eq_true,and_self];done|exact lf ‹_› (by simp only[*]))|simp -dsimp only[↓bp,bq,br,seval,bG,bF, *]|refine wz ?_|fail)
   all_goals first|rfl|exact aE σ (hle0.trans (by repeat' first|exact lr _|assumption|refine ls ?_ ?_|refine lt ?_ ?_|simp only[*];done|simp only[fb, *,not_false_eq_true,and_self];done|exact lf ‹_› (by simp only[*]))) ⟨rfl,rfl⟩
  by_cases c4:e.extra < 0
  case pos=>
   have hbad:cB ⟨es,is,cs⟩ b (is.length:Int) e=false:=by
    rw[Bool.eq_false_iff];intro h;simp only[cB,Bool.and_eq_true,decide_eq_true_eq]at h;omega
   have hv2:bA ⟨es,is,cs⟩ 0 es=false:=by rw[hent,hdrop];simp only[bA];rw[hend,hbad,Bool.false_and]
   rw[hv2]
   have g0:=eq_true c0
   have g1:=eq_false c1
   have g2:=eq_false c2
   have g3:=eq_false c3
   have g4:=eq_true c4
   clear hv2 hbad hg hc hli hbi hle hent hdrop hend hlt hi hb c0 c1 c2 c3 c4
   repeat'(first|refine xs ?_ ?_ <;>intros|(refine wn ?_;intro bx hbx;try simp only[fb]at hbx)|refine aQ ?_|(refine aB ?_;intro bx hbx;(try simp only[fb]at hbx))|refine aD ?_|((with_reducible refine And.intro ?_ ?_);omega)|refine aA (d':=⟨⟩) ?_|refine aR (by kernel_rfl) ?_|refine aP ?_ (by repeat' first|exact lr _|assumption|refine ls ?_ ?_|refine lt ?_ ?_|simp only[*];done|simp only[fb, *,not_false_eq_true,and_self];done|exact lf ‹_› (by simp only[*]))|refine aC ?_ (by repeat' first|exact lr _|assumption|refine ls ?_ ?_|refine lt ?_ ?_|simp only[*];done|simp only[fb, *,not_false_eq_true,and_self];done|exact lf ‹_› (by simp only[*]))|simp -dsimp only[↓bp,bq,br,seval,bG,bF, *]|refine wz ?_|fail)
   all_goals first|rfl|exact aE σ (hle0.trans (by repeat' first|exact lr _|assumption|refine ls ?_ ?_|refine lt ?_ ?_|simp only[*];done|simp only[fb, *,not_false_eq_true,and_self];done|exact lf ‹_› (by simp only[*]))) ⟨rfl,rfl⟩
  by_cases c5:e.arity < e.extra
  case pos=>
   have hbad:cB ⟨es,is,cs⟩ b (is.length:Int) e=false:=by
    rw[Bool.eq_false_iff];intro h;simp only[cB,Bool.and_eq_true,decide_eq_true_eq]at h;omega
   have hv2:bA ⟨es,is,cs⟩ 0 es=false:=by rw[hent,hdrop];simp only[bA];rw[hend,hbad,Bool.false_and]
   rw[hv2]
   have g0:=eq_true c0
   have g1:=eq_false c1
   have g2:=eq_false c2
   have g3:=eq_false c3
   have g4:=eq_false c4
   have g5:=eq_true c5
   clear hv2 hbad hg hc hli hbi hle hent hdrop hend hlt hi hb c0 c1 c2 c3 c4 c5
   repeat'(first|refine xs ?_ ?_ <;>intros|(refine wn ?_;intro bx hbx;try simp only[fb]at hbx)|refine aQ ?_|(refine aB ?_;intro bx hbx;(try simp only[fb]at hbx))|refine aD ?_|((with_reducible refine And.intro ?_ ?_);omega)|refine aA (d':=⟨⟩) ?_|refine aR (by kernel_rfl) ?_|refine aP ?_ (by repeat' first|exact lr _|assumption|refine ls ?_ ?_|refine lt ?_ ?_|simp only[*];done|simp only[fb, *,not_false_eq_true,and_self];done|exact lf ‹_› (by simp only[*]))|refine aC ?_ (by repeat' first|exact lr _|assumption|refine ls ?_ ?_|refine lt ?_ ?_|simp only[*];done|simp only[fb, *,not_false_eq_true,and_self];done|exact lf ‹_› (by simp only[*]))|simp -dsimp only[↓bp,bq,br,seval,bG,bF, *]|refine wz ?_|fail)
   all_goals first|rfl|exact aE σ (hle0.trans (by repeat' first|exact lr _|assumption|refine ls ?_ ?_|refine lt ?_ ?_|simp only[*];done|simp only[fb, *,not_false_eq_true,and_self];done|exact lf ‹_› (by simp only[*]))) ⟨rfl,rfl⟩
  by_cases c6:12 < e.arity
  case pos=>
   have hbad:cB ⟨es,is,cs⟩ b (is.length:Int) e=false:=by
    rw[Bool.eq_false_iff];intro h;simp only[cB,Bool.and_eq_true,decide_eq_true_eq]at h;omega
   have hv2:bA ⟨es,is,cs⟩ 0 es=false:=by rw[hent,hdrop];simp only[bA];rw[hend,hbad,Bool.false_and]
   rw[hv2]
   have g0:=eq_true c0
   have g1:=eq_false c1
   have g2:=eq_false c2
   have g3:=eq_false c3
   have g4:=eq_false c4
   have g5:=eq_false c5
   have g6:=eq_true c6
   clear hv2 hbad hg hc hli hbi hle hent hdrop hend hlt hi hb c0 c1 c2 c3 c4 c5 c6
   repeat'(first|refine xs ?_ ?_ <;>intros|(refine wn ?_;intro bx hbx;try simp only[fb]at hbx)|refine aQ ?_|(refine aB ?_;intro bx hbx;(try simp only[fb]at hbx))|refine aD ?_|((with_reducible refine And.intro ?_ ?_);omega)|refine aA (d':=⟨⟩) ?_|refine aR (by kernel_rfl) ?_|refine aP ?_ (by repeat' first|exact lr _|assumption|refine ls ?_ ?_|refine lt ?_ ?_|simp only[*];done|simp only[fb, *,not_false_eq_true,and_self];done|exact lf ‹_› (by simp only[*]))|refine aC ?_ (by repeat' first|exact lr _|assumption|refine ls ?_ ?_|refine lt ?_ ?_|simp only[*];done|simp only[fb, *,not_false_eq_true,and_self];done|exact lf ‹_› (by simp only[*]))|simp -dsimp only[↓bp,bq,br,seval,bG,bF, *]|refine wz ?_|fail)
   all_goals first|rfl|exact aE σ (hle0.trans (by repeat' first|exact lr _|assumption|refine ls ?_ ?_|refine lt ?_ ?_|simp only[*];done|simp only[fb, *,not_false_eq_true,and_self];done|exact lf ‹_› (by simp only[*]))) ⟨rfl,rfl⟩
  by_cases c7:e.slots < e.arity
  case pos=>
   have hbad:cB ⟨es,is,cs⟩ b (is.length:Int) e=false:=by
    rw[Bool.eq_false_iff];intro h;simp only[cB,Bool.and_eq_true,decide_eq_true_eq]at h;omega
   have hv2:bA ⟨es,is,cs⟩ 0 es=false:=by rw[hent,hdrop];simp only[bA];rw[hend,hbad,Bool.false_and]
   rw[hv2]
   have g0:=eq_true c0
   have g1:=eq_false c1
   have g2:=eq_false c2
   have g3:=eq_false c3
   have g4:=eq_false c4
   have g5:=eq_false c5
   have g6:=eq_false c6
   have g7:=eq_true c7
   clear hv2 hbad hg hc hli hbi hle hent hdrop hend hlt hi hb c0 c1 c2 c3 c4 c5 c6 c7
   repeat'(first|refine xs ?_ ?_ <;>intros|(refine wn ?_;intro bx hbx;try simp only[fb]at hbx)|refine aQ ?_|(refine aB ?_;intro bx hbx;(try simp only[fb]at hbx))|refine aD ?_|((with_reducible refine And.intro ?_ ?_);omega)|refine aA (d':=⟨⟩) ?_|refine aR (by kernel_rfl) ?_|refine aP ?_ (by repeat' first|exact lr _|assumption|refine ls ?_ ?_|refine lt ?_ ?_|simp only[*];done|simp only[fb, *,not_false_eq_true,and_self];done|exact lf ‹_› (by simp only[*]))|refine aC ?_ (by repeat' first|exact lr _|assumption|refine ls ?_ ?_|refine lt ?_ ?_|simp only[*];done|simp only[fb, *,not_false_eq_true,and_self];done|exact lf ‹_› (by simp only[*]))|simp -dsimp only[↓bp,bq,br,seval,bG,bF, *]|refine wz ?_|fail)
   all_goals first|rfl|exact aE σ (hle0.trans (by repeat' first|exact lr _|assumption|refine ls ?_ ?_|refine lt ?_ ?_|simp only[*];done|simp only[fb, *,not_false_eq_true,and_self];done|exact lf ‹_› (by simp only[*]))) ⟨rfl,rfl⟩
  by_cases c8:1000 < e.slots
  case pos=>
   have hbad:cB ⟨es,is,cs⟩ b (is.length:Int) e=false:=by
    rw[Bool.eq_false_iff];intro h;simp only[cB,Bool.and_eq_true,decide_eq_true_eq]at h;omega
   have hv2:bA ⟨es,is,cs⟩ 0 es=false:=by rw[hent,hdrop];simp only[bA];rw[hend,hbad,Bool.false_and]
   rw[hv2]
   have g0:=eq_true c0
   have g1:=eq_false c1
   have g2:=eq_false c2
   have g3:=eq_false c3
   have g4:=eq_false c4
   have g5:=eq_false c5
   have g6:=eq_false c6
   have g7:=eq_false c7
   have g8:=eq_true c8
   clear hv2 hbad hg hc hli hbi hle hent hdrop hend hlt hi hb c0 c1 c2 c3 c4 c5 c6 c7 c8
   repeat'(first|refine xs ?_ ?_ <;>intros|(refine wn ?_;intro bx hbx;try simp only[fb]at hbx)|refine aQ ?_|(refine aB ?_;intro bx hbx;(try simp only[fb]at hbx))|refine aD ?_|((with_reducible refine And.intro ?_ ?_);omega)|refine aA (d':=⟨⟩) ?_|refine aR (by kernel_rfl) ?_|refine aP ?_ (by repeat' first|exact lr _|assumption|refine ls ?_ ?_|refine lt ?_ ?_|simp only[*];done|simp only[fb, *,not_false_eq_true,and_self];done|exact lf ‹_› (by simp only[*]))|refine aC ?_ (by repeat' first|exact lr _|assumption|refine ls ?_ ?_|refine lt ?_ ?_|simp only[*];done|simp only[fb, *,not_false_eq_true,and_self];done|exact lf ‹_› (by simp only[*]))|simp -dsimp only[↓bp,bq,br,seval,bG,bF, *]|refine wz ?_|fail)
   all_goals first|rfl|exact aE σ (hle0.trans (by repeat' first|exact lr _|assumption|refine ls ?_ ?_|refine lt ?_ ?_|simp only[*];done|simp only[fb, *,not_false_eq_true,and_self];done|exact lf ‹_› (by simp only[*]))) ⟨rfl,rfl⟩
  obtain⟨z,hz⟩:=Int.eq_ofNat_of_zero_le (a:=(is.length:Int)) (by omega)
  have hgood:cB ⟨es,is,cs⟩ b (is.length:Int) e=true:=by
   simp only[cB,Bool.and_eq_true,decide_eq_true_eq];omega
  have g0:=eq_true c0
  have g1:=eq_false c1
  have g2:=eq_false c2
  have g3:=eq_false c3
  have g4:=eq_false c4
  have g5:=eq_false c5
  have g6:=eq_false c6
  have g7:=eq_false c7
  have g8:=eq_false c8
  have hbz:b <=z /\ z <=is.length:=by omega
  replace hz:=hz.symm
  have hsl:=C2d is b z hbz.1 hbz.2
  rw[hz]at hsl
  have hwi':sZ ⟨es,is,cs⟩ b (is.length:Int)=(is.take z).drop b:=by unfold sZ;rw[<- hz];rfl
  have hv2:bA ⟨es,is,cs⟩ 0 es=(!(((is.take z).drop b).any fun x=> !cS ⟨es,is,cs⟩ e b (is.length:Int) x) && bA ⟨es,is,cs⟩ (is.length:Int) (es.drop (i+1))):=by
   rw[hent,hdrop];simp only[bA];rw[hend,hgood,Bool.true_and,hwi',List.not_any_eq_all_not];simp
  have hcn:∀ {s0:AS} {bx:Nat},s0.box bx=some [aW dA.enc es,aW aO.enc is,dK cs, .str e.name, .int .i64 e.arity, .int .i64 e.extra, .int .i64 e.slots, .int .i64 e.pos, .int .i64 b, .int .i64 (is.length:Int)] ->bZ Tryd.prog G 27 [aW aO.enc ((is.take z).drop b), .fn 28 [.ptr bx 0]] s0 (.bool (((is.take z).drop b).any fun x=> !cS ⟨es,is,cs⟩ e b (is.length:Int) x)):=fun {s0 bx} h0=>
   nG G (fun x=> !cS ⟨es,is,cs⟩ e b (is.length:Int) x) _ (by rw[List.length_drop,List.length_take];omega) (fun x hx=>zC hg h0 hc x (by have:=lK (f:=aO.bulk) (List.mem_of_mem_take (List.mem_of_mem_drop hx));omega))
  generalize(((is.take z).drop b).any fun x=> !cS ⟨es,is,cs⟩ e b (is.length:Int) x)=r at*
  skip
  clear hg hc hli hbi hent hend hwi' hgood hb c0 c1 c2 c3 c4 c5 c6 c7 c8
  cases r with
  | true=>
   rw[hv2,Bool.not_true,Bool.false_and]
   clear hv2 hdrop hlt hi
   repeat'(first|refine xs ?_ ?_ <;>intros|(refine wn ?_;intro bx hbx;try simp only[fb]at hbx)|(refine bZ.use (hcn AS.set_get) (AS.le.refl _) ?_)|refine aQ ?_|(refine aB ?_;intro bx hbx;(try simp only[fb]at hbx))|refine aD ?_|((with_reducible refine And.intro ?_ ?_);omega)|refine aA (d':=⟨⟩) ?_|refine aR (by kernel_rfl) ?_|refine aP ?_ (by repeat' first|exact lr _|assumption|refine ls ?_ ?_|refine lt ?_ ?_|simp only[*];done|simp only[fb, *,not_false_eq_true,and_self];done|exact lf ‹_› (by simp only[*]))|refine aC ?_ (by repeat' first|exact lr _|assumption|refine ls ?_ ?_|refine lt ?_ ?_|simp only[*];done|simp only[fb, *,not_false_eq_true,and_self];done|exact lf ‹_› (by simp only[*]))|simp -dsimp only[↓bp,bq,br,seval,bG,bF, *]|refine wz ?_|fail)
   all_goals first|rfl|exact aE σ (hle0.trans (by repeat' first|exact lr _|assumption|refine ls ?_ ?_|refine lt ?_ ?_|simp only[*];done|simp only[fb, *,not_false_eq_true,and_self];done|exact lf ‹_› (by simp only[*]))) ⟨rfl,rfl⟩
  | false=>
   rw[Bool.not_false,Bool.true_and]at hv2
   clear hdrop
   repeat'(first|refine xs ?_ ?_ <;>intros|(refine wn ?_;intro bx hbx;try simp only[fb]at hbx)|(refine bZ.use (hcn AS.set_get) (AS.le.refl _) ?_)|refine aQ ?_|(refine aB ?_;intro bx hbx;(try simp only[fb]at hbx))|refine aD ?_|((with_reducible refine And.intro ?_ ?_);omega)|refine aA (d':=⟨⟩) ?_|refine aR (by kernel_rfl) ?_|refine aP ?_ (by repeat' first|exact lr _|assumption|refine ls ?_ ?_|refine lt ?_ ?_|simp only[*];done|simp only[fb, *,not_false_eq_true,and_self];done|exact lf ‹_› (by simp only[*]))|refine aC ?_ (by repeat' first|exact lr _|assumption|refine ls ?_ ?_|refine lt ?_ ?_|simp only[*];done|simp only[fb, *,not_false_eq_true,and_self];done|exact lf ‹_› (by simp only[*]))|simp -dsimp only[↓bp,bq,br,seval,bG,bF, *]|refine wz ?_|fail)
   all_goals refine⟨es.length - (i+1),by omega,i+1,z,by omega,rfl,by first|(simp -dsimp only[↓bp,bq,br,seval,bG,bF];done)|(simp -dsimp only[↓bp,bq,br,seval,bG,bF];try rfl),by first|rw[hz]|(rw[hz];first|(simp -dsimp only[↓bp,bq,br,seval,bG,bF];done)|(simp -dsimp only[↓bp,bq,br,seval,bG,bF];try rfl)),by repeat' first|exact lr _|assumption|refine ls ?_ ?_|refine lt ?_ ?_|simp only[*];done|simp only[fb, *,not_false_eq_true,and_self];done|exact lf ‹_› (by simp only[*]),hbz.2,by first|rw[hz]|rw[hv2,hz]⟩
end
set_option maxRecDepth 20000
section
def C2o:=And.intro (And.intro (And.intro (And.intro (And.intro @nK @nL) (And.intro @lY @kW)) (And.intro (And.intro @kI @kE) (And.intro @uH (And.intro @oT @nP)))) (And.intro (And.intro (And.intro @uI @sV) (And.intro @yJ (And.intro @jD @iF))) (And.intro (And.intro @B4m @A5y) (And.intro @A6c (And.intro @A5z @C2r))))) (And.intro (And.intro (And.intro (And.intro @C2s @dH) (And.intro @cK (And.intro @dR @eF))) (And.intro (And.intro @iQ @cA) (And.intro @bL (And.intro @dE @aO.flat_enc)))) (And.intro (And.intro (And.intro @aO.isv_enc @aO.fold_enc) (And.intro @dA.flat_enc (And.intro @dA.isv_enc @dA.fold_enc))) (And.intro (And.intro @cU.flat_enc @cU.isv_enc) (And.intro @cU.fold_enc (And.intro @hU @fW)))))
variable {G:Nat ->AV}
theorem D7k{P:Program}{f:FuncId}{args:List AV}{σ:AS}{n:Nat}{E:TypeId}{xs:List AV}{k:IntKind}{m:Int}(h:aJ P G f args σ fun r σ'=>∃ v,r= .tup [v, .int k m] /\ fU n E σ σ' v xs):aJ P G f args σ fun r σ'=> (∃ v,r= .tup [v, .int k m] /\ Le v (.sl .none xs [])) /\ σ'=σ:=by
 refine aJ.back (Q:=fun r=>∃ v,r= .tup [v, .int k m] /\ Le v (.sl .none xs [])) ⟨h.1,fun K w vals hr hv=> (h.2 K w vals hr hv).mono ?_⟩
 rintro e w' ⟨v,r,σ',K',he,⟨v0,rfl,hQ⟩,h1,h2,h3⟩
 cases hQ with
 |nil hl=>exact⟨v,_,σ',K',he,⟨⟨_,rfl,Le.nil⟩,hl⟩,h1,h2,h3⟩
 | row b xs hl h0 ht hb hx=>
  cases h1 with
  | tup _ vs hvl hvv=>
   obtain⟨cap,F,g1,g2,g3⟩:=(Has.bs (b:=b) (n:=xs.length) (s:=n) (E:=E)) K' _ (hvv 0 (by simp))
   obtain⟨K2,k1,k2,k3⟩:=mI h2 hb ⟨rfl,rfl,hx⟩ g1 g2 g3
   refine⟨_, .tup [.sl (.own b) xs [], .int k m],_,K2,he,⟨⟨_,rfl,Le.gh⟩,AS.froze_le hl h0 ht⟩, .tup _ vs hvl (fun j hj=> ?_),k2,h3.trans k1⟩
   match j,hj with
   |0,_=>exact k3 _ _ _ (.here E) (hvv 0 (by simp))
   |1,_=>exact(hvv 1 (by simp)).mono k1
theorem A3q{P:Program}{σ:AS}{t e:TypeId}{n dB:Nat}{K:AV ->AS ->Prop}{d:Dum σ}{d':Dum K}(he:fV P t=some (e,n,dB))(hK:∀ b,σ.fresh b ->K (.bs b 0 n e) (σ.setBox b [])):bmW true P σ t 0 [] K d d':=by
 refine .inr ⟨rfl,?_⟩
 have h1:cX P t 0 []=some (.sl .full [] []):=by
  refine jS ?_
  unfold bsk
  rw[he]
  simp
 obtain⟨h2,ag,h3⟩:=A9w he
 unfold mA
 rw[h1,h3,h2]
 simpa using hK
theorem A7o(xs:List UInt8)(hl:xs.length <=1000000000)(h0:0 < xs.length)(σ:AS):aJ Tryd.prog G 22 [.sl .none (aI xs) []] σ fun r σ'=>fU 1 5 σ σ' r (aI xs):=by
 obtain⟨y,ys,hy⟩:∃ y ys,aI xs=y::ys:=by
  cases xs with
  |nil=>cases h0
  |cons x xs=>exact⟨_,_,rfl⟩
 have h3:iL Tryd.prog .eql 27 (.sl .none (y::ys) []) .nil=some (.bool false):=by simp[iL,tP,B4n,nM]
 have hok:=vR xs
 have hln:(aI xs).length <=1000000000:=by rw[dF];exact hl
 rw[hy]at hok hln ⊢
 refine aJ.of_awp mixed Tryd.func22 rfl (by kernel_rfl) (by kernel_rfl) (by simp[Tryd.ntmps22]) Tryd.results22 ?_
 simp -dsimp only[↓bp,bq,br,seval,C2o,h3]
 refine A3q tfU fun b hb=> ?_
 simp -dsimp only[↓bp,bq,br,seval,C2o]
 refine pQ (σ0:=σ) (xs:=[]) (ys:=y::ys) (.row b [] (bQ hb (AS.le.refl σ)) hb.1 hb.2.1 AS.set_get (fun a ha=>by cases ha)) tfU (kO B4n) hok (by simp only[List.length_nil];omega) (fun v2 σ2 hA2=> ?_)
 have hB2:=hA2.buf
 rw[List.nil_append]at hB2
 simp -dsimp only[↓bp,bq,br,seval,C2o]
 exact aE _ (AS.le.refl _) hB2
structure C9c(c:cU):Prop where
 es:c.entries.length <=16384
 is:c.instrs.length <=16384
 cs:c.consts.length <=16384
 ent:∀ e,e ∈ c.entries ->e.name.length <=40 /\ (0 <=e.arity /\ e.arity <=1000000) /\ (0 <=e.extra /\ e.extra <=1000000) /\ (0 <=e.slots /\ e.slots <=1000000) /\ (0 <=e.pos /\ e.pos <=1000000)
 ins:∀ i,i ∈ c.instrs ->Rg i /\ i.op.toNat < 30
 con:∀ t,t ∈ c.consts ->right t=true
theorem D6l{op:UInt8}(h:rW op ≠ []):op.toNat < 30:=by
 unfold rW at h
 by_cases hc:op.toNat < 1 \/ 29 < op.toNat
 ·rw[if_pos hc]at h;exact absurd rfl h
 ·omega
theorem D2u{c:cU}(h:cQ c=true):C9c c:=by
 simp only[cQ,Bool.and_eq_true,decide_eq_true_eq,Bool.not_eq_true',Bool.and_eq_false_iff,Bool.not_eq_false',decide_eq_false_iff_not]at h
 obtain⟨⟨⟨⟨h1,h2⟩,h3⟩,h4⟩,h5,h6⟩:=h
 obtain⟨g1,g2⟩:=vX c c.entries 0 (by omega) h6
 refine⟨by omega,by omega,by omega,fun e he=> ?_,fun i hi=> ?_,fun t ht=>List.all_eq_true.1 h5 t ht⟩
 ·obtain⟨z,q1,q2,q3⟩:=g1 e he
  simp only[cB,Bool.and_eq_true,decide_eq_true_eq]at q3
  omega
 ·obtain⟨k,hk⟩:=List.getElem?_of_mem hi
  have hne:c.entries ≠ []:=fun e=>by
   rcases h4 with h4|h4
   ·exact h4 e
   ·rw[h4]at hi;cases hi
  obtain⟨e,z,q1,q2,q3,q4,q5⟩:=g2 hne k i (by omega) hk
  simp only[cB,Bool.and_eq_true,decide_eq_true_eq]at q4
  obtain⟨p1,p2,p3⟩:=C9m q5 (by omega) q2 (by omega) (by omega) (by omega)
  exact⟨p1,D6l p3⟩
theorem B7i(e:dA):(kG e).length <=8*e.bulk:=by
 unfold kG gK dA.bulk
 simp only[List.length_append,bC];omega
theorem B9p(i:aO):(lN i).length <=16*i.bulk:=by
 have h1:=pV i (pF i.op)
 have h2:=B0j i.op
 have h3:3*i.bulk*(pF i.op).length <=3*i.bulk*4:=Nat.mul_le_mul_left _ h2
 have:=i.bulk_pos
 rw[B0e,List.length_append,bC];omega
theorem rZ{α:Type}{f:α ->List UInt8}{w:α ->Nat}{k:Nat}(hf:∀ x,(f x).length <=k*w x):∀ l:List α,(l.flatMap f).length <=k*cP w l
 |[]=>by simp
 | x::l=>by
  have h1:=hf x
  have h2:=rZ hf l
  rw[List.flatMap_cons,List.length_append,cP,Nat.mul_add];omega
theorem yU{α:Type}{f:α ->List UInt8}{l:List α}{i:Nat}{x:α}(h:l[i]? =some x):(l.take (i+1)).flatMap f=(l.take i).flatMap f++f x:=by rw[aK _ _ _ h];simp
end
set_option maxRecDepth 20000
section
def kV:=And.intro (And.intro (And.intro (And.intro (And.intro @nK @nL) (And.intro @lY @kW)) (And.intro (And.intro @kI @kE) (And.intro @uH (And.intro @oT @nP)))) (And.intro (And.intro (And.intro @uI @sV) (And.intro @yJ (And.intro @jD @iF))) (And.intro (And.intro @B4m @A5y) (And.intro @A6c (And.intro @A5z @C2r))))) (And.intro (And.intro (And.intro (And.intro @C2s @dH) (And.intro @cK (And.intro @dR @eF))) (And.intro (And.intro @iQ @cA) (And.intro @bL (And.intro @dE @aO.flat_enc)))) (And.intro (And.intro (And.intro @aO.isv_enc @aO.fold_enc) (And.intro @dA.flat_enc (And.intro @dA.isv_enc @dA.fold_enc))) (And.intro (And.intro @cU.flat_enc @cU.isv_enc) (And.intro @cU.fold_enc (And.intro @hU @fW)))))
variable {G:Nat ->AV}
theorem yP{α:Type}{f:α ->Nat} :∀ (l:List α) (k:Nat),cP f (l.take k)+cP f (l.drop k)=cP f l
 |[],k=>by simp[cP]
 |x::l,0=>by simp[cP]
 | x::l,k+1=>by
  have:=yP (f:=f) l k
  simp only[List.take_succ_cons,List.drop_succ_cons,cP]
  omega
theorem B6r{α:Type}{f:α ->Nat}{l:List α}{i:Nat}{x:α}(h:l[i]? =some x):cP f (l.take i)+f x <=cP f l:=by
 have h1:=yP (f:=f) l i
 obtain⟨hi,he⟩:=List.getElem?_eq_some_iff.1 h
 rw[List.drop_eq_getElem_cons hi,he,cP]at h1
 omega
theorem B4s{n:Nat}{E:TypeId}{σ1 σ0 σ:AS}{v:AV}{xs:List AV}(hl:σ1.le σ0)(h:fU n E σ0 σ v xs):fU n E σ1 σ v xs:=by
 cases h with
 |nil h=>exact .nil (hl.trans h)
 | row b xs h h0 ht hb hx=>
  refine .row b xs (hl.trans h) ?_ ?_ hb hx
  ·cases e:σ1.box b with
   |none=>rfl
   |some z=>rw[hl.box _ _ e]at h0;cases h0
  ·cases e:σ1.tip b with
   |none=>rfl
   |some z=>rw[hl.tip _ _ e]at ht;cases ht
def D3y(c:cU)(σ:AS)(r:AV)(σ':AS):Prop:=∃ v,r= .tup [v, .int .i64 0] /\ fU 1 5 σ σ' v (aI (iI c))
set_option maxHeartbeats 4000000 in
theorem A5e(hg:lF G){c:cU}(hright:aN Tryd.prog G 8 [c.enc] (.bool true))(hok:C9c c)(hb:c.bulk <=10000000)(σ:AS):aJ Tryd.prog G 7 [c.enc] σ (D3y c σ):=by
 have w1:=fun(σ0 σ:AS) (b:Nat) (h1:σ0.le σ) (h2:σ0.box b=none) (h3:σ.box b=some (eX .nil))=>C3g (G:=G) h1 h2 h3 iU (by decide) (by decide)
 have hbe:cP dA.bulk c.entries <=10000000 /\ cP aO.bulk c.instrs <=10000000 /\ dI c.consts <=10000000:=by unfold cU.bulk at hb;omega
 have hel:=rZ (k:=8) B7i
 have hil:=rZ (k:=16) B9p
 have hes:=hok.es;have his:=hok.is;have hcs:=hok.cs
 refine aJ.of_awp mixed Tryd.func7 rfl (by kernel_rfl) (by kernel_rfl) (by simp[Tryd.ntmps7]) Tryd.results7 ?_
 simp -dsimp only[↓bp,bq,br,seval,kV]
 refine eT fun b1 hb1=> ?_
 simp -dsimp only[↓bp,bq,br,seval,kV]
 refine aN.use hright ?_
 simp -dsimp only[↓bp,bq,br,seval,kV]
 refine bO fun b2 hb2=> ?_
 simp only[fb]at hb2
 obtain⟨hb2,hn1,hn2⟩:=hb2
 obtain⟨S,hS⟩:∃ S,S=σ.setBox b1 [aW dA.enc c.entries,aW aO.enc c.instrs,dK c.consts]:=⟨_,rfl⟩
 have hSl:σ.le S:=by rw[hS];exact(AS.le.refl σ).setBox hb1.1 _
 have hSb:S.box b1=some [aW dA.enc c.entries,aW aO.enc c.instrs,dK c.consts]:=by rw[hS];exact AS.set_get
 have hSn:S.box b2=none:=by rw[hS];simp[AS.setBox,hn1,hn2,hb2.1]
 have hSt:S.tip b2=none:=by rw[hS];exact hb2.2.1
 rw[<- hS]
 clear hS
 have t1:=w1 S (S.setBox b2 (eX .nil)) b2 ((AS.le.refl S).setBox hSn _) hSn AS.set_get
 have e1:iU=[112,105,103,115]:=rfl
 have hml:iU.length=4:=rfl
 have t2:=fun s3 (h3:dZ S s3 b2 iU)=>dM (G:=G) h3 (by decide) 2 (by omega) c.entries.length (by omega) (by omega) (by decide) .full
 simp only[Int.toNat_natCast]at t2
 clear w1 hright hb1 hb2 hn1 hn2
 repeat'(first|refine xs ?_ ?_ <;>intros|(refine wn ?_;intro bx hbx;try simp only[fb]at hbx)|((refine aJ.mono t1 ?_;rintro r s3 ⟨rfl,hB3⟩;clear t1;have f3:=hB3.le.box _ _ hSb))|((refine aJ.mono (t2 _ hB3) ?_;rintro r s4 ⟨rfl,hB4⟩;clear t2;have f4:=hB4.le.box _ _ hSb))|refine aQ ?_|(refine aB ?_;intro bx hbx;(try simp only[fb]at hbx))|refine aD ?_|((with_reducible refine And.intro ?_ ?_);omega)|refine aA (d':=⟨⟩) ?_|refine aR (by kernel_rfl) ?_|refine aP ?_ (by repeat' first|exact lr _|assumption|refine ls ?_ ?_|refine lt ?_ ?_|simp only[*];done|simp only[fb, *,not_false_eq_true,and_self];done|exact lf ‹_› (by simp only[*]))|refine aC ?_ (by repeat' first|exact lr _|assumption|refine ls ?_ ?_|refine lt ?_ ?_|simp only[*];done|simp only[fb, *,not_false_eq_true,and_self];done|exact lf ‹_› (by simp only[*]))|simp -dsimp only[↓bp,bq,br,seval,kV,e1, *]|refine wz ?_|fail)
 obtain⟨X0,hX0⟩:∃ X,iU++bU 2 c.entries.length=X:=⟨_,rfl⟩
 have hX0l:X0.length=6:=by rw[<- hX0,List.length_append,bC,hml]
 rw[hX0]at hB4
 clear hB3 f3
 refine aY (fun n e σ'=>∃ i:Nat,i <=(c.entries).length /\ n=(c.entries).length - i /\ e 22= .int .i64 i /\ dZ S σ' b2 (X0++(c.entries.take i).flatMap kG)) (c.entries).length
   ⟨0,by omega,by omega,by simp -dsimp only[↓bp,bq,br,seval,kV];first|done|rfl,by simpa using hB4⟩ ?_
 rintro n v σ' ⟨i,hi,rfl,h22,hB⟩
 simp -dsimp only[↓bp,bq,br,seval,kV]at h22
 simp -dsimp only[↓bp,bq,br,seval,kV,h22]
 refine dQ (fun hlt=> ?_) (fun hge=> ?_)
 ·obtain⟨x,hx⟩:∃ x,c.entries[i]? =some x:=⟨_,List.getElem?_eq_getElem (by omega)⟩
  have hi:i < c.entries.length:=(List.getElem?_eq_some_iff.1 hx).1
  obtain⟨g1,g2,g3,g4,g5⟩:=hok.ent x (List.mem_of_getElem? hx)
  have hlen:=hel (c.entries.take i)
  have hbt:=vP (f:=dA.bulk) c.entries i
  have hX:(X0++(c.entries.take i).flatMap kG).length=6+((c.entries.take i).flatMap kG).length:=by rw[List.length_append,hX0l]
  have hBl:=hB.le
  have hfin:∀ s7,dZ S s7 b2 (X0++(c.entries.take i).flatMap kG++gK x.name++jI 1 [x.arity,x.extra]++jI 2 [x.slots,x.pos]) ->dZ S s7 b2 (X0++(c.entries.take (i+1)).flatMap kG):=fun s7 h7=>by
   rw[yU (f:=kG) hx]
   simpa [kG,jI,List.append_assoc] using h7
  clear hB4 f4 hel hil hok
  generalize X0++(c.entries.take i).flatMap kG=X at*
  have t3:=fun(s5:AS) (S5:AS) (h5:dZ S5 s5 b2 X)=>wJ (G:=G) h5 (by omega) x.name (by omega)
  have t4:=fun(s5:AS) (S5:AS) (h5:dZ S5 s5 b2 (X++gK x.name))=>mO (G:=G) h5 (by rw[List.length_append];omega) 1 (by omega) [x.arity,x.extra] (fun n hn=>by simp at hn;rcases hn with rfl|rfl <;>omega) (by simp) (by simp only[List.length_append,gK,bC,List.length_cons,List.length_nil];omega)
  have t5:=fun(s5:AS) (S5:AS) (h5:dZ S5 s5 b2 (X++gK x.name++jI 1 [x.arity,x.extra]))=>mO (G:=G) h5 (by rw[List.length_append,List.length_append];omega) 2 (by omega) [x.slots,x.pos] (fun n hn=>by simp at hn;rcases hn with rfl|rfl <;>omega) (by simp) (by simp only[List.length_append,gK,bC,List.length_cons,List.length_nil,sL];omega)
  have hr4:∀ z w:Int,Le (.sl .full [.int .i64 z, .int .i64 w] []) (aW kH [z,w]):=fun z w=>Le.gh
  repeat'(first|refine xs ?_ ?_ <;>intros|(refine wn ?_;intro bx hbx;try simp only[fb]at hbx)|((refine aJ.mono (t3 _ _ (hB.setBox (.inr hbx.1) _)) ?_;rintro r s5 ⟨rfl,hB5⟩;clear t3;have f5:=hB5.le.box bx _ AS.set_get))|((refine aJ.mono (aJ.weaken (.cons (Le.refl _) (.cons (Le.refl _) (.cons (hr4 _ _) .nil))) (t4 _ _ hB5)) ?_;rintro r s6 ⟨rfl,hB6⟩;clear t4;have f6:=hB6.le.box bx _ AS.set_get))|((refine aJ.mono (aJ.weaken (.cons (Le.refl _) (.cons (Le.refl _) (.cons (hr4 _ _) .nil))) (t5 _ _ hB6)) ?_;rintro r s7 ⟨rfl,hB7⟩;clear t5))|refine aQ ?_|(refine aB ?_;intro bx hbx;(try simp only[fb]at hbx))|refine aD ?_|((with_reducible refine And.intro ?_ ?_);omega)|refine aA (d':=⟨⟩) ?_|refine aR (by kernel_rfl) ?_|refine aP ?_ (by repeat' first|exact lr _|assumption|refine ls ?_ ?_|refine lt ?_ ?_|simp only[*];done|simp only[fb, *,not_false_eq_true,and_self];done|exact lf ‹_› (by simp only[*]))|refine aC ?_ (by repeat' first|exact lr _|assumption|refine ls ?_ ?_|refine lt ?_ ?_|simp only[*];done|simp only[fb, *,not_false_eq_true,and_self];done|exact lf ‹_› (by simp only[*]))|simp -dsimp only[↓bp,bq,br,seval,kV, *]|refine wz ?_|fail)
  exact⟨c.entries.length - (i+1),by omega,i+1,by omega,rfl,by rw[aH (by omega) (by omega)];rfl,hfin _ (hB7.less (AS.le.setBox (AS.le.refl S) (hBl.fresh hbx).1 _))⟩
 ·have:i=c.entries.length:=by omega
  subst this
  rw[List.take_length]at hB
  have hlen:=hel c.entries
  have f5:=hB.le.box _ _ hSb
  have hX1l:(X0++c.entries.flatMap kG).length=6+(c.entries.flatMap kG).length:=by rw[List.length_append,hX0l]
  obtain⟨X1,hX1⟩:∃ X,X0++c.entries.flatMap kG=X:=⟨_,rfl⟩
  rw[hX1]at hB hX1l
  clear hi hge hB4 f4 hel
  have t1:=dM (G:=G) hB (by omega) 2 (by omega) c.instrs.length (by omega) (by omega) (by omega) .full
  simp only[Int.toNat_natCast]at t1
  repeat'(first|refine xs ?_ ?_ <;>intros|(refine wn ?_;intro bx hbx;try simp only[fb]at hbx)|((refine aJ.mono t1 ?_;rintro r s6 ⟨rfl,hB6⟩;clear t1;have f6:=hB6.le.box _ _ hSb))|refine aQ ?_|(refine aB ?_;intro bx hbx;(try simp only[fb]at hbx))|refine aD ?_|((with_reducible refine And.intro ?_ ?_);omega)|refine aA (d':=⟨⟩) ?_|refine aR (by kernel_rfl) ?_|refine aP ?_ (by repeat' first|exact lr _|assumption|refine ls ?_ ?_|refine lt ?_ ?_|simp only[*];done|simp only[fb, *,not_false_eq_true,and_self];done|exact lf ‹_› (by simp only[*]))|refine aC ?_ (by repeat' first|exact lr _|assumption|refine ls ?_ ?_|refine lt ?_ ?_|simp only[*];done|simp only[fb, *,not_false_eq_true,and_self];done|exact lf ‹_› (by simp only[*]))|simp -dsimp only[↓bp,bq,br,seval,kV, *]|refine wz ?_|fail)
  obtain⟨X2,hX2⟩:∃ X,X1++bU 2 c.instrs.length=X:=⟨_,rfl⟩
  have hX2l:X2.length=8+(c.entries.flatMap kG).length:=by rw[<- hX2,List.length_append,bC];omega
  rw[hX2]at hB6
  clear hB f5
  refine aY (fun n e σ'=>∃ i:Nat,i <=(c.instrs).length /\ n=(c.instrs).length - i /\ e 50= .int .i64 i /\ dZ S σ' b2 (X2++(c.instrs.take i).flatMap lN)) (c.instrs).length
    ⟨0,by omega,by omega,by simp -dsimp only[↓bp,bq,br,seval,kV];first|done|rfl,by simpa using hB6⟩ ?_
  rintro n v σ' ⟨i,hi,rfl,h50,hB⟩
  simp -dsimp only[↓bp,bq,br,seval,kV]at h50
  simp -dsimp only[↓bp,bq,br,seval,kV,h50]
  refine dQ (fun hlt=> ?_) (fun hge=> ?_)
  ·obtain⟨x,hx⟩:∃ x,c.instrs[i]? =some x:=⟨_,List.getElem?_eq_getElem (by omega)⟩
   have hi:i < c.instrs.length:=(List.getElem?_eq_some_iff.1 hx).1
   obtain⟨g1,g2⟩:=hok.ins x (List.mem_of_getElem? hx)
   have hlen2:=hil (c.instrs.take i)
   have hbt:=vP (f:=aO.bulk) c.instrs i
   have hbx':=B6r (f:=aO.bulk) hx
   have hX:(X2++(c.instrs.take i).flatMap lN).length=8+(c.entries.flatMap kG).length+((c.instrs.take i).flatMap lN).length:=by rw[List.length_append,hX2l]
   have hBl:=hB.le
   have hfin:∀ s7,dZ S s7 b2 (X2++(c.instrs.take i).flatMap lN++lN x) ->dZ S s7 b2 (X2++(c.instrs.take (i+1)).flatMap lN):=fun s7 h7=>by
    rw[yU (f:=lN) hx,<- List.append_assoc]
    exact h7
   clear hB6 f6 hil hok
   generalize X2++(c.instrs.take i).flatMap lN=X at*
   have t3:=fun(s5:AS) (S5:AS) (h5:dZ S5 s5 b2 X)=>A9p hg x g1 g2 h5 (by omega) (by omega)
   repeat'(first|refine xs ?_ ?_ <;>intros|(refine wn ?_;intro bx hbx;try simp only[fb]at hbx)|((refine aJ.mono (t3 _ _ (hB.setBox (.inr hbx.1) _)) ?_;rintro r s5 ⟨rfl,hB5⟩;clear t3))|refine aQ ?_|(refine aB ?_;intro bx hbx;(try simp only[fb]at hbx))|refine aD ?_|((with_reducible refine And.intro ?_ ?_);omega)|refine aA (d':=⟨⟩) ?_|refine aR (by kernel_rfl) ?_|refine aP ?_ (by repeat' first|exact lr _|assumption|refine ls ?_ ?_|refine lt ?_ ?_|simp only[*];done|simp only[fb, *,not_false_eq_true,and_self];done|exact lf ‹_› (by simp only[*]))|refine aC ?_ (by repeat' first|exact lr _|assumption|refine ls ?_ ?_|refine lt ?_ ?_|simp only[*];done|simp only[fb, *,not_false_eq_true,and_self];done|exact lf ‹_› (by simp only[*]))|simp -dsimp only[↓bp,bq,br,seval,kV, *]|refine wz ?_|fail)
   exact⟨c.instrs.length - (i+1),by omega,i+1,by omega,rfl,by rw[aH (by omega) (by omega)];rfl,hfin _ (hB5.less (AS.le.setBox (AS.le.refl S) (hBl.fresh hbx).1 _))⟩
  ·have:i=c.instrs.length:=by omega
   subst this
   rw[List.take_length]at hB
   have hlen2:=hil c.instrs
   have f7:=hB.le.box _ _ hSb
   clear hi hge hB6 f6 hil
   have hl3:(X2++c.instrs.flatMap lN).length=8+(c.entries.flatMap kG).length+(c.instrs.flatMap lN).length:=by rw[List.length_append,hX2l]
   have hXX:X2++c.instrs.flatMap lN++(bU 2 c.consts.length++bE c.consts)=iI c:=by
    rw[<- hX2,<- hX1,<- hX0];unfold iI;simp only[List.append_assoc]
   have t1:=xD (G:=G) c.consts (fun x hx=>B5c (G:=G) x (hok.con x hx)) hB (by omega) (by omega)
   rw[hXX]at t1
   have h8:8 <=(iI c).length:=by rw[<- hXX,List.length_append];omega
   have h9:(iI c).length <=1000000000:=by
    have:=gZ c.consts
    rw[<- hXX];simp only[List.length_append,bC,hX2l];omega
   have t2:=fun s3 (h3:dZ S s3 b2 (iI c))=>A0q (G:=G) h3 (by omega)
   have t3:=fun s3=>A7o (G:=G) (iI c) h9 (by omega) s3
   clear hXX hlen2 hl3 hX2 hX1 hX0 hok
   repeat'(first|refine xs ?_ ?_ <;>intros|(refine wn ?_;intro bx hbx;try simp only[fb]at hbx)|((refine aJ.mono t1 ?_;rintro r s6 ⟨rfl,hB6⟩;clear t1))|((refine aJ.mono (t2 _ hB6) ?_;rintro r s7 ⟨rfl,hl7⟩;clear t2))|((refine aJ.mono (t3 _) ?_;intro r s8 hW;clear t3))|refine aQ ?_|(refine aB ?_;intro bx hbx;(try simp only[fb]at hbx))|refine aD ?_|((with_reducible refine And.intro ?_ ?_);omega)|refine aA (d':=⟨⟩) ?_|refine aR (by kernel_rfl) ?_|refine aP ?_ (by repeat' first|exact lr _|assumption|refine ls ?_ ?_|refine lt ?_ ?_|simp only[*];done|simp only[fb, *,not_false_eq_true,and_self];done|exact lf ‹_› (by simp only[*]))|refine aC ?_ (by repeat' first|exact lr _|assumption|refine ls ?_ ?_|refine lt ?_ ?_|simp only[*];done|simp only[fb, *,not_false_eq_true,and_self];done|exact lf ‹_› (by simp only[*]))|simp -dsimp only[↓bp,bq,br,seval,kV, *]|refine wz ?_|fail)
   exact aE _ (AS.le.refl _) ⟨_,rfl,B4s (hSl.trans hl7) hW⟩
end
set_option maxRecDepth 20000
section
variable {G:Nat ->AV}
def C1q(f:Nat):Rd cU:=fun r=> (fK A0y r).bind fun(es,r)=> (fK uE r).bind fun(is,r)=> (fK (gD f) r).map fun(cs,r)=> (⟨es,is,cs⟩,r)
theorem B8r(f:Nat):eW (B2t f) (C1q f):=
 (kA C4r).bind (m2:=fun es st=> ((⟨es,(aS lO st).1,(aS (bB f) (aS lO st).2).1⟩:cU),(aS (bB f) (aS lO st).2).2)) (D2:=fun es r=> (fK uE r).bind fun(is,r)=> (fK (gD f) r).map fun(cs,r)=> ((⟨es,is,cs⟩:cU),r)) fun es=>
 (kA C6c).bind (m2:=fun is st=> ((⟨es,is,(aS (bB f) st).1⟩:cU),(aS (bB f) st).2)) (D2:=fun is r=> (fK (gD f) r).map fun(cs,r)=> ((⟨es,is,cs⟩:cU),r)) fun is=>
 (kA (A5v f)).map fun cs=> (⟨es,is,cs⟩:cU)
def B8u(b:List UInt8):AV:=match nN b with|some c=> .tup [c.enc, .int .i64 0]|none=> .tup [(⟨[],[],[]⟩:cU).enc, .int .i64 4]
theorem A1w:Le (.tup [noC, .int .i64 4]) (.tup [(⟨[],[],[]⟩:cU).enc, .int .i64 4]):=
 Le.tup (.cons (Le.agg (.cons Le.nil (.cons Le.nil (.cons Le.nil .nil))) (fun d hd=>by simp[aW,dK]at hd;rcases hd with rfl|rfl|rfl <;>rfl)) (.cons (Le.refl _) .nil))
theorem lM{b:List UInt8}(h:nN b=none):B8u b= .tup [(⟨[],[],[]⟩:cU).enc, .int .i64 4]:=by unfold B8u;rw[h]
theorem yS(f:Nat)(b:List UInt8):A0v f b=(lT 4 b).bind fun(m,r)=>if m=iU then C1q f r else none:=rfl
theorem A4g(hg:lF G)(hgC:kJ G)(b:List UInt8)(hb:b.length <=900000000):aN Tryd.prog G 9 [eD b] (B8u b):=by
 refine aN.of_le fun σ=> ?_
 by_cases h:(bV 4 (b,false)).1=iU
 ·rcases(rJ 4).two b with⟨m,r,e1,e2⟩|⟨e1,e2⟩
  ·rw [e2]at h
   simp only at h
   subst h
   have hcd:A0v (b.length+1) b=C1q (b.length+1) r:=by rw[yS,e1];simp
   rcases(B8r (b.length+1)).two r with⟨c,rest,g1,g2⟩|⟨g1,g2⟩
   ·have hgo:=B8s hg (b:=b) (by rw[e2]) (cQ c) (by
     rw[e2];simp only;rw[g2];intro hx
     exact kZ hgC c (by have:=A3u (hcd.trans g1);omega)) σ
    rw[e2]at hgo
    simp only at hgo
    rw[g2]at hgo
    refine aJ.mono hgo ?_
    rintro r' s ⟨rfl,rfl⟩
    refine⟨?_,rfl⟩
    unfold C5f
    simp only
    cases rest with
    | nil=>
     have hgot:nN b=if cQ c=true then some c else none:=by unfold nN;rw[hcd,g1]
     cases hc:cQ c with
     | true=>
      rw[if_neg (by simp)]
      rw[hc,if_pos rfl]at hgot
      unfold B8u;rw[hgot];exact Le.refl _
     | false=>
      rw[if_pos (.inr (.inr rfl))]
      rw[hc,if_neg (by decide)]at hgot
      rw[lM hgot];exact A1w
    | cons x rest=>
     rw[if_pos (.inr (.inl (by simp)))]
     rw[lM (by unfold nN;rw[hcd,g1])];exact A1w
   ·have hgo:=B8s hg (b:=b) (by rw[e2]) false (by rw[e2];simp only;intro hx;rw[hx]at g2;cases g2) σ
    rw[e2]at hgo
    simp only at hgo
    refine aJ.mono hgo ?_
    rintro r' s ⟨rfl,rfl⟩
    refine⟨?_,rfl⟩
    unfold C5f
    rw[if_pos (.inl g2)]
    rw[lM (by unfold nN;rw[hcd,g1])];exact A1w
  ·exfalso
   have:(bV 4 (b,false)).1=[]:=by
    unfold bV at e2 ⊢
    split
    ·rfl
    ·rename_i hn;rw[if_neg hn]at e2;cases e2
   rw[this]at h;cases h
 ·refine aJ.mono (D0p h σ) ?_
  rintro r s ⟨rfl,rfl⟩
  refine⟨?_,rfl⟩
  rw[lM ?_]
  ·exact A1w
  ·unfold nN
   rw[yS]
   rcases(rJ 4).two b with⟨m,r,e1,e2⟩|⟨e1,e2⟩
   ·rw[e1]
    rw[e2]at h
    simp only at h
    simp[h]
   ·rw[e1];rfl
theorem A1y(hg:lF G)(hgC:kJ G){c:cU}(hr:cQ c=true)(hb:c.bulk <=10000000)(σ:AS):aJ Tryd.prog G 7 [c.enc] σ (D3y c σ):=by
 have h:=kZ hgC c (by omega)
 rw[hr]at h
 exact A5e hg h (D2u hr) hb σ
end
end Go.Proofs.YthoenjlenkpnnaaDoor
