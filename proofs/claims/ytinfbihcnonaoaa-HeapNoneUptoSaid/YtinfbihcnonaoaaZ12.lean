/- The kit's copies of terms with marks in their spare room; whether they are as they were. -/
import Derived.Test.YtinfbihcnonaoaaZ09
import Derived.Test.YtinfbihcnonaoaaZ11
import Derived.Test.YtinfbihcnonaoaaZ10
import Derived.Test.YtinfbihcnonaoaaZ08
set_option linter.unusedVariables false
set_option linter.unusedSimpArgs false
set_option maxRecDepth 20000
set_option linter.defProp false
namespace Go.Proofs.Ytinfbihcnonaoaa
open Go Go.Av
section
variable (G:Nat ->AV)
def C8y(k i:Int):aE:= .mk 0 false [] [] (C2b k i) [] []
theorem A4n(k:UInt8)(g:Bool)(s:List UInt8)(n:Int):Le (.agg [.int .u8 k.toNat, .bool g, .nil, .str s, .int .i64 n, .nil, .nil]) (aE.mk k g [] s n [] []).enc:=by
 have e:(aE.mk k g [] s n [] []).enc= .agg [.int .u8 k.toNat, .bool g, .sl .none [] [], .str s, .int .i64 n, .sl .none [] [], .sl .none [] []]:=by simp[aE.enc,cO]
 rw[e]
 exact Le.agg (.cons (Le.refl _) (.cons (Le.refl _) (.cons Le.nil (.cons (Le.refl _) (.cons (Le.refl _) (.cons Le.nil (.cons Le.nil .nil))))))) (fun d hd=>by simp at hd;rcases hd with rfl|rfl|rfl|rfl|rfl|rfl <;>rfl)
def B9n(k i:Nat):List AV:=(List.range i).map fun(i:Nat)=> (C8y k (i:Int)).enc
def B3q:List AV:=B9n 1 12
def aE.lent:aE ->AV
 | .mk k g l s n ks ts=> .agg [.int .u8 k.toNat, .bool g,sS l, .str s, .int .i64 n, .sl .none (ks.map aE.lent) B3q, .sl .none (ts.map aE.lent) B3q]
def uV(l:List aE):AV:= .sl .none (l.map aE.lent) B3q
theorem aE.flat_lent(t:aE):flat t.lent=[.int .u8 t.knd, .bool t.neg,sS t.limbs, .str t.text, .int .i64 t.num,uV t.items,uV t.tail]:=by
 cases t;simp[aE.lent,flat,aE.knd,aE.kind,aE.neg,aE.limbs,aE.text,aE.num,aE.items,aE.tail,uV]
theorem aE.fold_lent(t:aE):AV.agg [.int .u8 t.knd, .bool t.neg,sS t.limbs, .str t.text, .int .i64 t.num,uV t.items,uV t.tail]=t.lent:=by
 cases t;simp[aE.lent,aE.knd,aE.kind,aE.neg,aE.limbs,aE.text,aE.num,aE.items,aE.tail,uV]
theorem LeE.le{a b:aE}(h:tL (flat a.lent) (flat b.enc)):Le a.lent b.enc:=by
 rw[<- a.fold_lent,<- b.fold_enc]
 rw[a.flat_lent,b.flat_enc]at h
 exact Le.agg h (fun d hd=>by simp at hd;rcases hd with rfl|rfl|rfl|rfl|rfl|rfl|rfl <;>rfl)
theorem tfN:eI Try.prog 32=some (34,7,104):=eQ.2.2.2.2.2.2
theorem tfE:el Try.prog 32=some 34:=eQ.2.2.2.1
end
set_option maxRecDepth 20000
section
def cS:=And.intro (And.intro (And.intro (And.intro @jN (And.intro @kI @kJ)) (And.intro @eW (And.intro @jO @eJ))) (And.intro (And.intro @eY (And.intro @eQ @eZ)) (And.intro @gC (And.intro @aE.flat_enc @aE.isv_enc)))) (And.intro (And.intro (And.intro @aE.fold_enc (And.intro @aW @aO)) (And.intro @aX (And.intro @bP @dN))) (And.intro (And.intro @aP (And.intro @aM @aQ)) (And.intro (And.intro @bJ @dD) (And.intro @cJ @iY))))
variable (G:Nat ->AV)
theorem vI(t:aE):aN Try.prog G 77 [t.enc] (dS t).enc:=by
 refine aN.of_le fun σ=> ?_
 cases ht:t.tail with
 | nil=>
  have e:dS t=oM [] []:=by unfold dS;rw[ht]
  rw[e]
  have hl:t.tail.length=0:=by rw[ht];rfl
  have hlz:(t.tail.length:Int)=0:=by omega
  clear ht e hl
  refine aH.of_awp aG Try.func77 rfl (by kernel_rfl) (by kernel_rfl) (by simp[Try.ntmps77]) Try.results77 ?_
  repeat'(first|refine xs ?_ ?_ <;>intros|(refine wn ?_;intro bx hbx;try simp only[fb]at hbx)|refine bE ?_|(refine aB ?_;intro bx hbx;(try simp only[fb]at hbx))|refine aD ?_|((with_reducible refine And.intro ?_ ?_);omega)|refine aA (d':=⟨⟩) ?_|refine bG (by kernel_rfl) ?_|refine bD ?_ (by repeat' first|exact lr _|assumption|refine ls ?_ ?_|refine lt ?_ ?_|simp only[*];done|simp only[fb, *,not_false_eq_true,and_self];done|exact lf ‹_› (by simp only[*]))|refine aC ?_ (by repeat' first|exact lr _|assumption|refine ls ?_ ?_|refine lt ?_ ?_|simp only[*];done|simp only[fb, *,not_false_eq_true,and_self];done|exact lf ‹_› (by simp only[*]))|simp -dsimp only[↓bp,bq,br,seval,cS, *]|refine wz ?_|fail)
  refine bM (fun n e σ'=>n=0 /\ e 8= .int .i64 0 /\ σ.le σ' /\ ∃ z,σ'.box bx=some z /\ z.length=7) 0 ⟨rfl,by simp -dsimp only[↓bp,bq,br,seval,cS],by repeat' first|exact lr _|assumption|refine ls ?_ ?_|refine lt ?_ ?_|simp only[*];done|simp only[fb, *,not_false_eq_true,and_self];done|exact lf ‹_› (by simp only[*]),⟨_,by simp -dsimp only[↓bp,bq,br,seval,cS];try rfl,rfl⟩⟩ ?_
  rintro n v σ' ⟨rfl,h8,hle,z,hz,hz7⟩
  simp -dsimp only[↓bp,bq,br,seval,cS]at h8
  repeat'(first|refine xs ?_ ?_ <;>intros|(refine wn ?_;intro bx hbx;try simp only[fb]at hbx)|refine bE ?_|(refine aB ?_;intro bx hbx;(try simp only[fb]at hbx))|refine aD ?_|((with_reducible refine And.intro ?_ ?_);omega)|refine aA (d':=⟨⟩) ?_|refine bG (by kernel_rfl) ?_|refine bD ?_ (by repeat' first|exact lr _|assumption|refine ls ?_ ?_|refine lt ?_ ?_|simp only[*];done|simp only[fb, *,not_false_eq_true,and_self];done|exact lf ‹_› (by simp only[*]))|refine aC ?_ (by repeat' first|exact lr _|assumption|refine ls ?_ ?_|refine lt ?_ ?_|simp only[*];done|simp only[fb, *,not_false_eq_true,and_self];done|exact lf ‹_› (by simp only[*]))|simp -dsimp only[↓bp,bq,br,seval,cS, *]|refine wz ?_|fail)
  exact jZ (A4n 7 false [] 0) (by repeat' first|exact lr _|assumption|refine ls ?_ ?_|refine lt ?_ ?_|simp only[*];done|simp only[fb, *,not_false_eq_true,and_self];done|exact lf ‹_› (by simp only[*]))
 | cons x l=>
  have e:dS t=x:=by unfold dS;rw[ht]
  rw[e]
  have hx:t.tail[0]? =some x:=by rw[ht];rfl
  have hlz:(0:Int) < t.tail.length:=by rw[ht];simp
  clear ht e
  refine aH.of_awp aG Try.func77 rfl (by kernel_rfl) (by kernel_rfl) (by simp[Try.ntmps77]) Try.results77 ?_
  repeat'(first|refine xs ?_ ?_ <;>intros|(refine wn ?_;intro bx hbx;try simp only[fb]at hbx)|refine bE ?_|(refine aB ?_;intro bx hbx;(try simp only[fb]at hbx))|refine aD ?_|((with_reducible refine And.intro ?_ ?_);omega)|refine aA (d':=⟨⟩) ?_|refine bG (by kernel_rfl) ?_|refine bD ?_ (by repeat' first|exact lr _|assumption|refine ls ?_ ?_|refine lt ?_ ?_|simp only[*];done|simp only[fb, *,not_false_eq_true,and_self];done|exact lf ‹_› (by simp only[*]))|refine aC ?_ (by repeat' first|exact lr _|assumption|refine ls ?_ ?_|refine lt ?_ ?_|simp only[*];done|simp only[fb, *,not_false_eq_true,and_self];done|exact lf ‹_› (by simp only[*]))|simp -dsimp only[↓bp,bq,br,seval,cS, *]|refine wz ?_|fail)
  refine bM (fun n e σ'=>n=0 /\ e 8= .int .i64 0 /\ σ.le σ' /\ ∃ z,σ'.box bx=some z /\ z.length=7) 0 ⟨rfl,by simp -dsimp only[↓bp,bq,br,seval,cS],by repeat' first|exact lr _|assumption|refine ls ?_ ?_|refine lt ?_ ?_|simp only[*];done|simp only[fb, *,not_false_eq_true,and_self];done|exact lf ‹_› (by simp only[*]),⟨_,by simp -dsimp only[↓bp,bq,br,seval,cS];try rfl,rfl⟩⟩ ?_
  rintro n v σ' ⟨rfl,h8,hle,z,hz,hz7⟩
  simp -dsimp only[↓bp,bq,br,seval,cS]at h8
  repeat'(first|refine xs ?_ ?_ <;>intros|((first|refine q8h ?_|refine q8i ?_);intro bx hbx;(try simp only[fb]at hbx);try(have nn:=fresh_ne (c:=bx) hz (by simp only[hbx])))|refine bE ?_|(refine aB ?_;intro bx hbx;(try simp only[fb]at hbx);try(have nn:=fresh_ne (c:=bx) hz (by simp only[hbx])))|refine aD ?_|((with_reducible refine And.intro ?_ ?_);omega)|refine aA (d':=⟨⟩) ?_|refine bG (by kernel_rfl) ?_|refine bD ?_ (by repeat' first|exact lr _|assumption|refine ls ?_ ?_|refine lt ?_ ?_|simp only[*];done|simp only[fb, *,not_false_eq_true,and_self];done|exact lf ‹_› (by simp only[*]))|refine aC ?_ (by repeat' first|exact lr _|assumption|refine ls ?_ ?_|refine lt ?_ ?_|simp only[*];done|simp only[fb, *,not_false_eq_true,and_self];done|exact lf ‹_› (by simp only[*]))|simp -dsimp only[↓bp,bq,br,seval,cS, *]|refine wz ?_|fail)
  exact jZ (Le.refl _) (by repeat' first|exact lr _|assumption|refine ls ?_ ?_|refine lt ?_ ?_|simp only[*];done|simp only[fb, *,not_false_eq_true,and_self];done|exact lf ‹_› (by simp only[*]))
theorem nH(a b:aE)(h:a.knd ≠ b.knd):aN Try.prog G 43 [a.enc,b.enc] (.int .i64 (dB a.knd b.knd)):=by
 have hp:=A6n G a.knd b.knd
 intro σ
 refine aH.of_awp aG Try.func43 rfl (by kernel_rfl) (by kernel_rfl) (by simp[Try.ntmps43]) Try.results43 ?_
 repeat'(first|refine xs ?_ ?_ <;>intros|(refine wn ?_;intro bx hbx;try simp only[fb]at hbx)|refine wp hp ?_|refine bE ?_|(refine aB ?_;intro bx hbx;(try simp only[fb]at hbx))|refine aD ?_|((with_reducible refine And.intro ?_ ?_);omega)|refine aA (d':=⟨⟩) ?_|refine bG (by kernel_rfl) ?_|refine bD ?_ (by repeat' first|exact lr _|assumption|refine ls ?_ ?_|refine lt ?_ ?_|simp only[*];done|simp only[fb, *,not_false_eq_true,and_self];done|exact lf ‹_› (by simp only[*]))|refine aC ?_ (by repeat' first|exact lr _|assumption|refine ls ?_ ?_|refine lt ?_ ?_|simp only[*];done|simp only[fb, *,not_false_eq_true,and_self];done|exact lf ‹_› (by simp only[*]))|simp -dsimp only[↓bp,bq,br,seval,cS, *]|refine wz ?_|fail)
 all_goals rfl
set_option maxHeartbeats 1000000 in
theorem A3u(a:aE):∀ b:aE,a.bulk <=1000000000 ->b.bulk <=1000000000 ->right a=true ->right b=true ->aN Try.prog G 43 [a.enc,b.enc] (.int .i64 (hZ a b)):=by
 refine aE.ind (P:=fun a=>∀ b:aE,a.bulk <=1000000000 ->b.bulk <=1000000000 ->right a=true ->right b=true ->aN Try.prog G 43 [a.enc,b.enc] (.int .i64 (hZ a b))) (fun a ih1 ih2 b ha hb ra rb=> ?_) a
 have A:=sW ra
 have B:=sW rb
 by_cases hk:a.knd=b.knd
 rotate_left
 ·rw[A3t hk];exact nH G a b hk
 have hitems:∀ x,x ∈ a.items ->∀ y,y ∈ b.items ->aN Try.prog G 43 [x.enc,y.enc] (.int .i64 (hZ x y)):=fun x hx y hy=>
  ih1 x hx y (by have:=pJ hx;omega) (by have:=pJ hy;omega) (A.items x hx) (B.items y hy)
 have hn:=uR G a.items.length b.items.length
 have hl1:=dR a
 have hl2:=dR b
 by_cases h1:a.knd=1
 ·have hw:=uJ G a b (A.int h1) (B.int (by omega))
  rw[oQ,if_neg (show ¬ a.knd ≠ b.knd by simp[hk]),if_pos h1]
  have hke:=eq_true hk
  have h1':=eq_true (show b.knd=1 by omega)
  have h1a:=eq_true h1
  clear hk h1 A B ih1 ih2 hitems
  intro σ
  refine aH.of_awp aG Try.func43 rfl (by kernel_rfl) (by kernel_rfl) (by simp[Try.ntmps43]) Try.results43 ?_
  repeat'(first|refine xs ?_ ?_ <;>intros|(refine wn ?_;intro bx hbx;try simp only[fb]at hbx)|refine wp hn ?_|refine wp hw ?_|refine bE ?_|(refine aB ?_;intro bx hbx;(try simp only[fb]at hbx))|refine aD ?_|((with_reducible refine And.intro ?_ ?_);omega)|refine aA (d':=⟨⟩) ?_|refine bG (by kernel_rfl) ?_|refine bD ?_ (by repeat' first|exact lr _|assumption|refine ls ?_ ?_|refine lt ?_ ?_|simp only[*];done|simp only[fb, *,not_false_eq_true,and_self];done|exact lf ‹_› (by simp only[*]))|refine aC ?_ (by repeat' first|exact lr _|assumption|refine ls ?_ ?_|refine lt ?_ ?_|simp only[*];done|simp only[fb, *,not_false_eq_true,and_self];done|exact lf ‹_› (by simp only[*]))|simp -dsimp only[↓bp,bq,br,seval,cS, *]|refine wz ?_|fail)
  all_goals rfl
 by_cases h7:a.knd=7
 ·have hrec:(a.tail.length:Int)+b.tail.length >0 ->aN Try.prog G 43 [(dS a).enc,(dS b).enc] (.int .i64 (tl a.tail b.tail)):=by
   intro h0
   obtain⟨c1,c2,c3⟩:=A.list h7
   obtain⟨d1,d2,d3⟩:=B.list (by omega)
   cases ea:a.tail with
   | nil=>cases eb:b.tail with
    |nil=>rw[ea,eb]at h0;simp at h0
    | cons y r=>
     have e1:dS a=oM [] []:=by unfold dS;rw[ea]
     have e2:dS b=y:=by unfold dS;rw[eb]
     rw[e1,e2,tl]
     exact nH G (oM [] []) y (fun h=>d3 y (by rw[eb];simp) h.symm)
   | cons x l=>cases eb:b.tail with
    | nil=>
     have e1:dS a=x:=by unfold dS;rw[ea]
     have e2:dS b=oM [] []:=by unfold dS;rw[eb]
     rw[e1,e2,tl]
     exact nH G x (oM [] []) (c3 x (by rw[ea];simp))
    | cons y r=>
     have e1:dS a=x:=by unfold dS;rw[ea]
     have e2:dS b=y:=by unfold dS;rw[eb]
     rw[e1,e2,tl]
     have hx:x ∈ a.tail:=by rw[ea];simp
     have hy:y ∈ b.tail:=by rw[eb];simp
     exact ih2 x hx y (by have:=pK hx;omega) (by have:=pK hy;omega) (A.tail x hx) (B.tail y hy)
  have hz:(a.tail.length:Int)+b.tail.length=0 ->tl a.tail b.tail=0:=fun h=>by
   rw[List.eq_nil_of_length_eq_zero (show a.tail.length=0 by omega),List.eq_nil_of_length_eq_zero (show b.tail.length=0 by omega),tl]
  rw[oQ,if_neg (show ¬ a.knd ≠ b.knd by simp[hk]),if_neg h1,if_pos h7]
  have ta:=vI G a
  have tb:=vI G b
  have ho:=B4f G (kY a.items b.items) (dB a.items.length b.items.length)
  have hws:IntKind.i64.wrap ((a.tail.length:Int)+b.tail.length)=a.tail.length+b.tail.length:=aF (by omega) (by omega)
  generalize tl a.tail b.tail=tt at*
  obtain⟨c,hc⟩:∃ c,c=lex (kY a.items b.items) (dB a.items.length b.items.length):=⟨_,rfl⟩
  rw[<- hc]at ho ⊢
  have hke:=eq_true hk
  have h1a:=eq_false h1
  have h1':=eq_false (show ¬ b.knd=1 by omega)
  have h7a:=eq_true h7
  have h7':=eq_true (show b.knd=7 by omega)
  have hrow:=A0q G a b ha hb hitems
  have hs0:0 <=(a.tail.length:Int)+b.tail.length:=by omega
  clear hk h1 h7 A B ih1 ih2 hitems ra rb hl1 hl2 hc
  intro σ
  by_cases c0:c=0
  ·subst c0
   by_cases s0:0 < (a.tail.length:Int)+b.tail.length
   ·replace hrec:=hrec s0
    rw[show lex 0 tt=tt by simp[lex]]
    clear hz hs0
    refine aH.of_awp aG Try.func43 rfl (by kernel_rfl) (by kernel_rfl) (by simp[Try.ntmps43]) Try.results43 ?_
    repeat'(first|refine xs ?_ ?_ <;>intros|(refine wn ?_;intro bx hbx;try simp only[fb]at hbx)|refine wp hn ?_|refine wp ho ?_|refine wp ta ?_|refine wp tb ?_|refine wp hrec ?_|((refine aH.mono (hrow _ _ _ (by rw[aE.flat_enc];simp -dsimp only[↓bp,bq,br,seval,cS,hbx]) (by rw[aE.flat_enc];simp -dsimp only[↓bp,bq,br,seval,cS,hbx])) ?_;rintro r s ⟨rfl,rfl⟩))|refine bE ?_|(refine aB ?_;intro bx hbx;(try simp only[fb]at hbx))|refine aD ?_|((with_reducible refine And.intro ?_ ?_);omega)|refine aA (d':=⟨⟩) ?_|refine bG (by kernel_rfl) ?_|refine bD ?_ (by repeat' first|exact lr _|assumption|refine ls ?_ ?_|refine lt ?_ ?_|simp only[*];done|simp only[fb, *,not_false_eq_true,and_self];done|exact lf ‹_› (by simp only[*]))|refine aC ?_ (by repeat' first|exact lr _|assumption|refine ls ?_ ?_|refine lt ?_ ?_|simp only[*];done|simp only[fb, *,not_false_eq_true,and_self];done|exact lf ‹_› (by simp only[*]))|simp -dsimp only[↓bp,bq,br,seval,cS, *]|refine wz ?_|fail)
    all_goals first|rfl|skip
   ·replace hz:=hz (by omega)
    subst hz
    clear hrec hs0
    rw[show lex 0 0=0 by simp[lex]]
    refine aH.of_awp aG Try.func43 rfl (by kernel_rfl) (by kernel_rfl) (by simp[Try.ntmps43]) Try.results43 ?_
    repeat'(first|refine xs ?_ ?_ <;>intros|(refine wn ?_;intro bx hbx;try simp only[fb]at hbx)|refine wp hn ?_|refine wp ho ?_|refine wp ta ?_|refine wp tb ?_|((refine aH.mono (hrow _ _ _ (by rw[aE.flat_enc];simp -dsimp only[↓bp,bq,br,seval,cS,hbx]) (by rw[aE.flat_enc];simp -dsimp only[↓bp,bq,br,seval,cS,hbx])) ?_;rintro r s ⟨rfl,rfl⟩))|refine bE ?_|(refine aB ?_;intro bx hbx;(try simp only[fb]at hbx))|refine aD ?_|((with_reducible refine And.intro ?_ ?_);omega)|refine aA (d':=⟨⟩) ?_|refine bG (by kernel_rfl) ?_|refine bD ?_ (by repeat' first|exact lr _|assumption|refine ls ?_ ?_|refine lt ?_ ?_|simp only[*];done|simp only[fb, *,not_false_eq_true,and_self];done|exact lf ‹_› (by simp only[*]))|refine aC ?_ (by repeat' first|exact lr _|assumption|refine ls ?_ ?_|refine lt ?_ ?_|simp only[*];done|simp only[fb, *,not_false_eq_true,and_self];done|exact lf ‹_› (by simp only[*]))|simp -dsimp only[↓bp,bq,br,seval,cS, *]|refine wz ?_|fail)
    all_goals first|rfl|skip
  ·have hl:lex c tt=c:=by simp[lex,c0]
   rw[hl]
   have c0':=eq_false c0
   clear c0 hl hz hrec hs0
   refine aH.of_awp aG Try.func43 rfl (by kernel_rfl) (by kernel_rfl) (by simp[Try.ntmps43]) Try.results43 ?_
   repeat'(first|refine xs ?_ ?_ <;>intros|(refine wn ?_;intro bx hbx;try simp only[fb]at hbx)|refine wp hn ?_|refine wp ho ?_|refine wp ta ?_|refine wp tb ?_|((refine aH.mono (hrow _ _ _ (by rw[aE.flat_enc];simp -dsimp only[↓bp,bq,br,seval,cS,hbx]) (by rw[aE.flat_enc];simp -dsimp only[↓bp,bq,br,seval,cS,hbx])) ?_;rintro r s ⟨rfl,rfl⟩))|refine bE ?_|(refine aB ?_;intro bx hbx;(try simp only[fb]at hbx))|refine aD ?_|((with_reducible refine And.intro ?_ ?_);omega)|refine aA (d':=⟨⟩) ?_|refine bG (by kernel_rfl) ?_|refine bD ?_ (by repeat' first|exact lr _|assumption|refine ls ?_ ?_|refine lt ?_ ?_|simp only[*];done|simp only[fb, *,not_false_eq_true,and_self];done|exact lf ‹_› (by simp only[*]))|refine aC ?_ (by repeat' first|exact lr _|assumption|refine ls ?_ ?_|refine lt ?_ ?_|simp only[*];done|simp only[fb, *,not_false_eq_true,and_self];done|exact lf ‹_› (by simp only[*]))|simp -dsimp only[↓bp,bq,br,seval,cS, *]|refine wz ?_|fail)
   all_goals first|rfl|skip
 ·rw[oQ,if_neg (show ¬ a.knd ≠ b.knd by simp[hk]),if_neg h1,if_neg h7]
  have hs:=A6o G a.text b.text
  have hm:=uR G a.num b.num
  have ho:=B4g G (kT a.text b.text) (dB a.num b.num) (dB a.items.length b.items.length)
  have hrow:=A0q G a b ha hb hitems
  obtain⟨c,hc⟩:∃ c,c=lex (kT a.text b.text) (lex (dB a.num b.num) (dB a.items.length b.items.length)):=⟨_,rfl⟩
  rw[<- hc]at ho ⊢
  have hke:=eq_true hk
  have h1a:=eq_false h1
  have h1':=eq_false (show ¬ b.knd=1 by omega)
  have h7a:=eq_false h7
  have h7':=eq_false (show ¬ b.knd=7 by omega)
  clear hk h1 h7 A B ih1 ih2 hitems ra rb hl1 hl2 hc
  intro σ
  by_cases c0:c=0
  ·subst c0
   rw[show ∀ x,lex 0 x=x by simp[lex]]
   refine aH.of_awp aG Try.func43 rfl (by kernel_rfl) (by kernel_rfl) (by simp[Try.ntmps43]) Try.results43 ?_
   repeat'(first|refine xs ?_ ?_ <;>intros|(refine wn ?_;intro bx hbx;try simp only[fb]at hbx)|refine wp hn ?_|refine wp hs ?_|refine wp hm ?_|refine wp ho ?_|((refine aH.mono (hrow _ _ _ (by rw[aE.flat_enc];simp -dsimp only[↓bp,bq,br,seval,cS,hbx]) (by rw[aE.flat_enc];simp -dsimp only[↓bp,bq,br,seval,cS,hbx])) ?_;rintro r s ⟨rfl,rfl⟩))|refine bE ?_|(refine aB ?_;intro bx hbx;(try simp only[fb]at hbx))|refine aD ?_|((with_reducible refine And.intro ?_ ?_);omega)|refine aA (d':=⟨⟩) ?_|refine bG (by kernel_rfl) ?_|refine bD ?_ (by repeat' first|exact lr _|assumption|refine ls ?_ ?_|refine lt ?_ ?_|simp only[*];done|simp only[fb, *,not_false_eq_true,and_self];done|exact lf ‹_› (by simp only[*]))|refine aC ?_ (by repeat' first|exact lr _|assumption|refine ls ?_ ?_|refine lt ?_ ?_|simp only[*];done|simp only[fb, *,not_false_eq_true,and_self];done|exact lf ‹_› (by simp only[*]))|simp -dsimp only[↓bp,bq,br,seval,cS, *]|refine wz ?_|fail)
   all_goals first|rfl|skip
  ·rw[show ∀ x,lex c x=c by simp[lex,c0]]
   have c0':=eq_false c0
   clear c0
   refine aH.of_awp aG Try.func43 rfl (by kernel_rfl) (by kernel_rfl) (by simp[Try.ntmps43]) Try.results43 ?_
   repeat'(first|refine xs ?_ ?_ <;>intros|(refine wn ?_;intro bx hbx;try simp only[fb]at hbx)|refine wp hn ?_|refine wp hs ?_|refine wp hm ?_|refine wp ho ?_|((refine aH.mono (hrow _ _ _ (by rw[aE.flat_enc];simp -dsimp only[↓bp,bq,br,seval,cS,hbx]) (by rw[aE.flat_enc];simp -dsimp only[↓bp,bq,br,seval,cS,hbx])) ?_;rintro r s ⟨rfl,rfl⟩))|refine bE ?_|(refine aB ?_;intro bx hbx;(try simp only[fb]at hbx))|refine aD ?_|((with_reducible refine And.intro ?_ ?_);omega)|refine aA (d':=⟨⟩) ?_|refine bG (by kernel_rfl) ?_|refine bD ?_ (by repeat' first|exact lr _|assumption|refine ls ?_ ?_|refine lt ?_ ?_|simp only[*];done|simp only[fb, *,not_false_eq_true,and_self];done|exact lf ‹_› (by simp only[*]))|refine aC ?_ (by repeat' first|exact lr _|assumption|refine ls ?_ ?_|refine lt ?_ ?_|simp only[*];done|simp only[fb, *,not_false_eq_true,and_self];done|exact lf ‹_› (by simp only[*]))|simp -dsimp only[↓bp,bq,br,seval,cS, *]|refine wz ?_|fail)
   all_goals first|rfl|skip
end
section
def C7h(n:Nat):List UInt8:=if h:n=0 then[]else UInt8.ofNat (48+n % 10)::C7h (n / 10)
termination_by n
decreasing_by omega
def C7g(n:Nat):List UInt8:=if n=0 then[48]else(C7h n).reverse
def D0i(t:aE):List UInt8:=(if t.neg=true then[45]else[])++C7g (val t.limbs)
def C4q(n:Int):List UInt8:=(if n < 0 then[45]else[])++C7g n.natAbs
def words:List (List UInt8):=[[97,102,116,101,114],[97,110,100],[97,110,100,97,108,115,111],[98,101,103,105,110],[99,97,115,101],[100,105,118],[101,110,100],[102,117,110],[105,102],[110,111,116],[111,102],[111,114],[111,114,101,108,115,101],[114,101,99,101,105,118,101],[114,101,109],[116,114,121],[99,97,116,99,104],[119,104,101,110],[120,111,114]]
def C4j(c:UInt8):Bool:=decide (97 <=c.toNat) && decide (c.toNat <=122)||decide (65 <=c.toNat) && decide (c.toNat <=90)||decide (48 <=c.toNat) && decide (c.toNat <=57)||decide (c.toNat=95)||decide (c.toNat=64)
def C5q(s:List UInt8):Bool:=match s with
 |[]=>false
 |c::_=>decide (97 <=c.toNat) && decide (c.toNat <=122) && !words.contains s && s.all C4j
def C7z(n:Nat):UInt8:=if n < 10 then UInt8.ofNat (48+n)else UInt8.ofNat (87+n)
def D1n(c:UInt8):List UInt8:=
 if c.toNat=39 \/ c.toNat=92 then[92,c]
 else if c.toNat=10 then[92,110]
 else if c.toNat < 32 \/ 126 < c.toNat then[92,120,C7z (c.toNat / 16),C7z (c.toNat % 16)]
 else[c]
def C5u(s:List UInt8):List UInt8:=39::(s.flatMap D1n++[39])
def C6y(s:List UInt8):List UInt8:=if C5q s=true then s else C5u s
mutual
def C0q:aE ->List UInt8
 | .mk k g l s n ks ts=>
  if(k.toNat:Int)=1 then D0i (.mk k g l s n ks ts)
  else if(k.toNat:Int)=2 then C6y s
  else if(k.toNat:Int)=3 then[35,82,101,102,60]++C4q n++[62]
  else if(k.toNat:Int)=4 then[35,70,117,110,60]++C4q n++[62]
  else if(k.toNat:Int)=5 then[60]++C4q n++[62]
  else if(k.toNat:Int)=6 then[123]++(C2f ks++B4x ts)++[125]
  else[91]++(C2f ks++B4x ts)++[93]
def C2f:List aE ->List UInt8
 |[]=> []
 |x::l=>C0q x++C2g l
def C2g:List aE ->List UInt8
 |[]=> []
 |x::l=>44::(C0q x++C2g l)
def B4x:List aE ->List UInt8
 |[]=> []
 |x::l=>124::(C0q x++B4x l)
end
def text(t:aE):List UInt8:=if right t=true then C0q t else[]
abbrev okC(c:UInt8):Prop:=32 <=c.toNat /\ c.toNat <=126
def okS(s:List UInt8):Prop:=∀ c,c ∈ s ->okC c
theorem okS.append{a b:List UInt8}(h:okS a)(k:okS b):okS (a++b):=fun c hc=> (List.mem_append.1 hc).elim (h c) (k c)
theorem okS.cons{c:UInt8}{b:List UInt8}(h:okC c)(k:okS b):okS (c::b):=fun d hd=> (List.mem_cons.1 hd).elim (fun e=>e ▸ h) (k d)
theorem okS.nil:okS []:=fun c hc=>by cases hc
def B6f:aE:= .mk 0 false [] [] 0 [] []
def C1s(h t:aE):aE:=if t.knd=7 then oM (h::t.items) t.tail else oM [h] [t]
def cons(h t:aE):aE:=if right h=true /\ right t=true /\ right (C1s h t)=true then C1s h t else B6f
def split(t:aE):Option (aE × aE):=if right t=true /\ t.knd=7 then(match t.items with
 |[]=>none
 |[x]=>some (x,dS t)
 |x::l=>some (x,oM l t.tail))else none
end
set_option maxRecDepth 20000
section
def eF:=And.intro (And.intro (And.intro (And.intro @jN (And.intro @kI @kJ)) (And.intro @eW (And.intro @jO @eJ))) (And.intro (And.intro @eY (And.intro @eQ @eZ)) (And.intro @jM (And.intro @aE.flat_enc @aE.isv_enc)))) (And.intro (And.intro (And.intro @aE.fold_enc (And.intro @aW @aO)) (And.intro @aX (And.intro @bP @dN))) (And.intro (And.intro @aP (And.intro @aM @aQ)) (And.intro @bJ (And.intro @dD @cJ))))
variable (G:Nat ->AV)
theorem B1y(n:Nat)(hn:n <=1000000000)(σ:AS):aH Try.prog G 93 [.nil, .int .i64 n] σ fun r σ'=>pC 7 34 σ σ' r [] /\ (r= .nil ->n=0):=by
 have h0: ¬ (n:Int) < 0:=by omega
 have hw0:IntKind.i64.wrap 0=0:=by decide
 have hw:IntKind.i64.wrap ((n:Int) - 0)=n:=aF (by omega) (by omega)
 have hw':IntKind.i64.wrap (n:Int)=n:=aF (by omega) (by omega)
 by_cases hp:0 < n
 ·have hp':(0:Int) < n:=by omega
  have hz0:(0 <=n)=True:=eq_true (Nat.zero_le _)
  clear hp
  refine aH.of_awp aG Try.func93 rfl (by kernel_rfl) (by kernel_rfl) (by simp[Try.ntmps93]) Try.results93 ?_
  repeat'(first|refine xs ?_ ?_ <;>intros|(refine wn ?_;intro bx hbx;try simp only[fb]at hbx)|refine bE ?_|(refine aB ?_;intro bx hbx;(try simp only[fb]at hbx))|refine aD ?_|((with_reducible refine And.intro ?_ ?_);omega)|refine aA (d':=⟨⟩) ?_|refine bG (by kernel_rfl) ?_|refine bD ?_ (by repeat' first|exact lr _|assumption|refine ls ?_ ?_|refine lt ?_ ?_|simp only[*];done|simp only[fb, *,not_false_eq_true,and_self];done|exact lf ‹_› (by simp only[*]))|refine aC ?_ (by repeat' first|exact lr _|assumption|refine ls ?_ ?_|refine lt ?_ ?_|simp only[*];done|simp only[fb, *,not_false_eq_true,and_self];done|exact lf ‹_› (by simp only[*]))|simp -dsimp only[↓bp,bq,br,seval,eF, *]|refine wz ?_|fail)
  refine .inr (.inr (.inl ?_))
  refine .inl ?_
  unfold jV
  rw[tfN,jN.2.1]
  refine⟨hp',by omega,fun b hb=> ?_⟩
  repeat'(first|refine xs ?_ ?_ <;>intros|(refine wn ?_;intro bx hbx;try simp only[fb]at hbx)|refine bE ?_|(refine aB ?_;intro bx hbx;(try simp only[fb]at hbx))|refine aD ?_|((with_reducible refine And.intro ?_ ?_);omega)|refine aA (d':=⟨⟩) ?_|refine bG (by kernel_rfl) ?_|refine bD ?_ (by repeat' first|exact lr _|assumption|refine ls ?_ ?_|refine lt ?_ ?_|simp only[*];done|simp only[fb, *,not_false_eq_true,and_self];done|exact lf ‹_› (by simp only[*]))|refine aC ?_ (by repeat' first|exact lr _|assumption|refine ls ?_ ?_|refine lt ?_ ?_|simp only[*];done|simp only[fb, *,not_false_eq_true,and_self];done|exact lf ‹_› (by simp only[*]))|simp -dsimp only[↓bp,bq,br,seval,eF, *]|refine wz ?_|fail)
  exact dX _ (AS.le.refl _) ⟨.row b [] (bH hb (AS.le.refl _)) hb.1 hb.2.1 (by simp[AS.setBox]) (fun a ha=>by cases ha),fun h=>by cases h⟩
 ·have hz:n=0:=by omega
  subst hz
  rw[show((0:Nat):Int)=0 from rfl]
  clear hp hn h0 hw hw'
  have hw:IntKind.i64.wrap (0 - 0)=0:=by decide
  refine aH.of_awp aG Try.func93 rfl (by kernel_rfl) (by kernel_rfl) (by simp[Try.ntmps93]) Try.results93 ?_
  repeat'(first|refine xs ?_ ?_ <;>intros|(refine wn ?_;intro bx hbx;try simp only[fb]at hbx)|refine bE ?_|(refine aB ?_;intro bx hbx;(try simp only[fb]at hbx))|refine aD ?_|((with_reducible refine And.intro ?_ ?_);omega)|refine aA (d':=⟨⟩) ?_|refine bG (by kernel_rfl) ?_|refine bD ?_ (by repeat' first|exact lr _|assumption|refine ls ?_ ?_|refine lt ?_ ?_|simp only[*];done|simp only[fb, *,not_false_eq_true,and_self];done|exact lf ‹_› (by simp only[*]))|refine aC ?_ (by repeat' first|exact lr _|assumption|refine ls ?_ ?_|refine lt ?_ ?_|simp only[*];done|simp only[fb, *,not_false_eq_true,and_self];done|exact lf ‹_› (by simp only[*]))|simp -dsimp only[↓bp,bq,br,seval,eF, *]|refine wz ?_|fail)
  exact dX _ (AS.le.refl _) ⟨.nil (AS.le.refl _),fun _=>rfl⟩
def zH(ls:List (List aE)):AV:= .sl .none (ls.map bR) []
theorem kB{P:Program}{t:TypeId}(l:List (List aE)):eK P .len #[t] [zH l]=if(el P t).isSome then some (.int .i64 l.length)else none:=by
 simp[zH,A7q]
theorem lZ{P:Program}{t:TypeId}{k:IntKind}(l:List (List aE))(i:Nat):cR P t (zH l) (.int k (i:Int))=ixk ((el P t).bind (tk P)) ((l[i]?).map bR):=by
 simp[zH,fE]
theorem jL{α:Type}(ls:List (List α))(i:Nat)(l:List α)(h:ls[i]? =some l):(ls.take (i+1)).flatten=(ls.take i).flatten++l:=by
 rw[bV _ _ _ h,List.flatten_append];simp
theorem gU{α:Type} :∀ (ls:List (List α)) (i:Nat),(ls.take i).flatten.length <=ls.flatten.length
 |[],i=>by simp
 |l::ls,0=>by simp
 |l::ls,i+1=>by have:=gU ls i;simp only[List.take_succ_cons,List.flatten_cons,List.length_append];omega
theorem zC(ls:List (List aE))(hl:ls.length <=1000000)(hb:ls.flatten.length <=1000000000):aN Try.prog G 63 [zH ls] (bR ls.flatten):=by
 refine aN.of_le fun σ=>aH.wbuf ?_ (n:=7) (E:=34) (xs:=ls.flatten.map aE.enc)
 refine aH.of_awp aG Try.func63 rfl (by kernel_rfl) (by kernel_rfl) (by simp[Try.ntmps63]) Try.results63 ?_
 repeat'(first|refine xs ?_ ?_ <;>intros|(refine wn ?_;intro bx hbx;try simp only[fb]at hbx)|refine bE ?_|(refine aB ?_;intro bx hbx;(try simp only[fb]at hbx))|refine aD ?_|((with_reducible refine And.intro ?_ ?_);omega)|refine aA (d':=⟨⟩) ?_|refine bG (by kernel_rfl) ?_|refine bD ?_ (by repeat' first|exact lr _|assumption|refine ls ?_ ?_|refine lt ?_ ?_|simp only[*];done|simp only[fb, *,not_false_eq_true,and_self];done|exact lf ‹_› (by simp only[*]))|refine aC ?_ (by repeat' first|exact lr _|assumption|refine ls ?_ ?_|refine lt ?_ ?_|simp only[*];done|simp only[fb, *,not_false_eq_true,and_self];done|exact lf ‹_› (by simp only[*]))|simp -dsimp only[↓bp,bq,br,seval,eF,kB,lZ, *]|refine wz ?_|fail)
 refine pR aG (fun n e=>∃ i:Nat,i <=(ls).length /\ n=(ls).length - i /\ e 11= .int .i64 i /\ e 3= .int .i64 ((ls.take i).flatten.length:Nat)) (ls).length
   ⟨0,by omega,by omega,by simp -dsimp only[↓bp,bq,br,seval,eF];first|done|rfl,by first|(simp -dsimp only[↓bp,bq,br,seval,eF];done)|(simp -dsimp only[↓bp,bq,br,seval,eF];try rfl)⟩ ?_
 rintro n v ⟨i,hi,rfl,h11,h3⟩
 simp -dsimp only[↓bp,bq,br,seval,eF]at h11 h3
 simp -dsimp only[↓bp,bq,br,seval,eF,h11,h3]
 refine eU (fun hlt=> ?_) (fun hge=> ?_)
 ·obtain⟨l,hx⟩:∃ l,ls[i]? =some l:=⟨_,List.getElem?_eq_getElem (by omega)⟩
  have hsz:=jL ls i l hx
  have hle:=gU ls (i+1)
  rw[hsz,List.length_append]at hle
  have hw:IntKind.i64.wrap (((ls.take i).flatten.length:Nat)+(l.length:Int))=((ls.take i).flatten.length:Nat)+(l.length:Int):=aF (by omega) (by omega)
  have hn: ¬ (((ls.take i).flatten.length:Nat)+(l.length:Int)) < 0:=by omega
  clear hi hlt
  repeat'(first|refine xs ?_ ?_ <;>intros|(refine wn ?_;intro bx hbx;try simp only[fb]at hbx)|refine bE ?_|(refine aB ?_;intro bx hbx;(try simp only[fb]at hbx))|refine aD ?_|((with_reducible refine And.intro ?_ ?_);omega)|refine aA (d':=⟨⟩) ?_|refine bG (by kernel_rfl) ?_|refine bD ?_ (by repeat' first|exact lr _|assumption|refine ls ?_ ?_|refine lt ?_ ?_|simp only[*];done|simp only[fb, *,not_false_eq_true,and_self];done|exact lf ‹_› (by simp only[*]))|refine aC ?_ (by repeat' first|exact lr _|assumption|refine ls ?_ ?_|refine lt ?_ ?_|simp only[*];done|simp only[fb, *,not_false_eq_true,and_self];done|exact lf ‹_› (by simp only[*]))|simp -dsimp only[↓bp,bq,br,seval,eF,kB,lZ, *]|refine wz ?_|fail)
  all_goals(have hlt:=(List.getElem?_eq_some_iff.1 hx).1)
  all_goals exact⟨ls.length - (i+1),by omega,i+1,by omega,rfl,by rw[aF (by omega) (by omega)];rfl,by rw[hsz,List.length_append];simp⟩
 ·have:i=ls.length:=by omega
  subst this
  rw[List.take_length]at h3
  clear hi hge
  repeat'(first|refine xs ?_ ?_ <;>intros|(refine wn ?_;intro bx hbx;try simp only[fb]at hbx)|((refine aH.mono (B1y G _ hb _) ?_;rintro r s ⟨hB,hr0⟩))|refine bE ?_|(refine aB ?_;intro bx hbx;(try simp only[fb]at hbx))|refine aD ?_|((with_reducible refine And.intro ?_ ?_);omega)|refine aA (d':=⟨⟩) ?_|refine bG (by kernel_rfl) ?_|refine bD ?_ (by repeat' first|exact lr _|assumption|refine ls ?_ ?_|refine lt ?_ ?_|simp only[*];done|simp only[fb, *,not_false_eq_true,and_self];done|exact lf ‹_› (by simp only[*]))|refine aC ?_ (by repeat' first|exact lr _|assumption|refine ls ?_ ?_|refine lt ?_ ?_|simp only[*];done|simp only[fb, *,not_false_eq_true,and_self];done|exact lf ‹_› (by simp only[*]))|simp -dsimp only[↓bp,bq,br,seval,eF,kB,lZ, *]|refine wz ?_|fail)
  refine bM (fun n e σ'=>∃ i:Nat,i <=(ls).length /\ n=(ls).length - i /\ e 27= .int .i64 i /\ ∃ v,e 6=v /\ pC 7 34 σ σ' v ((ls.take i).flatten.map aE.enc) /\ (v= .nil ->ls.flatten.length=0)) (ls).length
    ⟨0,by omega,by omega,by simp -dsimp only[↓bp,bq,br,seval,eF];first|done|rfl,⟨r,by first|(simp -dsimp only[↓bp,bq,br,seval,eF];done)|(simp -dsimp only[↓bp,bq,br,seval,eF];try rfl),by simpa using hB,hr0⟩⟩ ?_
  rintro n v σ' ⟨i,hi,rfl,h27,⟨v6,h6,hB6,hr6⟩⟩
  simp -dsimp only[↓bp,bq,br,seval,eF]at h27 h6
  simp -dsimp only[↓bp,bq,br,seval,eF,h27,h6]
  refine eU (fun hlt=> ?_) (fun hge=> ?_)
  ·obtain⟨l,hx⟩:∃ l,ls[i]? =some l:=⟨_,List.getElem?_eq_getElem (by omega)⟩
   have hsz:=jL ls i l hx
   have hle:=gU ls (i+1)
   rw[hsz,List.length_append]at hle
   clear hi hlt hB
   repeat'(first|refine xs ?_ ?_ <;>intros|(refine wn ?_;intro bx hbx;try simp only[fb]at hbx)|(refine A9k (ys:=l.map aE.enc) hB6 tfN (iC tfE) (fun a ha=>by obtain⟨x,_,rfl⟩:=List.mem_map.1 ha;exact⟨by rw[x.flat_enc];rfl,x.isv_enc⟩) (fun e=>by rw[List.map_eq_nil_iff];have:=hr6 e;exact List.eq_nil_of_length_eq_zero (by omega)) (by simp only[List.length_map];omega) (fun v7 σ7 hB7 hn7=> ?_))|refine bE ?_|(refine aB ?_;intro bx hbx;(try simp only[fb]at hbx))|refine aD ?_|((with_reducible refine And.intro ?_ ?_);omega)|refine aA (d':=⟨⟩) ?_|refine bG (by kernel_rfl) ?_|refine bD ?_ (by repeat' first|exact lr _|assumption|refine ls ?_ ?_|refine lt ?_ ?_|simp only[*];done|simp only[fb, *,not_false_eq_true,and_self];done|exact lf ‹_› (by simp only[*]))|refine aC ?_ (by repeat' first|exact lr _|assumption|refine ls ?_ ?_|refine lt ?_ ?_|simp only[*];done|simp only[fb, *,not_false_eq_true,and_self];done|exact lf ‹_› (by simp only[*]))|simp -dsimp only[↓bp,bq,br,seval,eF,kB,lZ, *]|refine wz ?_|fail)
   all_goals(have hlt:=(List.getElem?_eq_some_iff.1 hx).1)
   all_goals exact⟨ls.length - (i+1),by omega,i+1,by omega,rfl,by rw[aF (by omega) (by omega)];rfl,by rw[hsz,List.map_append];exact hB7,fun e=>hr6 (hn7 e)⟩
  ·have:i=ls.length:=by omega
   subst this
   rw[List.take_length]at hB6
   clear hi hge hB
   repeat'(first|refine xs ?_ ?_ <;>intros|(refine wn ?_;intro bx hbx;try simp only[fb]at hbx)|refine bE ?_|(refine aB ?_;intro bx hbx;(try simp only[fb]at hbx))|refine aD ?_|((with_reducible refine And.intro ?_ ?_);omega)|refine aA (d':=⟨⟩) ?_|refine bG (by kernel_rfl) ?_|refine bD ?_ (by repeat' first|exact lr _|assumption|refine ls ?_ ?_|refine lt ?_ ?_|simp only[*];done|simp only[fb, *,not_false_eq_true,and_self];done|exact lf ‹_› (by simp only[*]))|refine aC ?_ (by repeat' first|exact lr _|assumption|refine ls ?_ ?_|refine lt ?_ ?_|simp only[*];done|simp only[fb, *,not_false_eq_true,and_self];done|exact lf ‹_› (by simp only[*]))|simp -dsimp only[↓bp,bq,br,seval,eF,kB,lZ, *]|refine wz ?_|fail)
   exact dX _ (AS.le.refl _) hB6
end
set_option maxRecDepth 20000
section
def tE:=And.intro (And.intro (And.intro (And.intro (And.intro @jN @rA) (And.intro @kI @gT)) (And.intro (And.intro @eC @kJ) (And.intro @jO (And.intro @gX @gC)))) (And.intro (And.intro (And.intro @gY @fP) (And.intro @jF @jC)) (And.intro (And.intro @jE @jD) (And.intro @gF (And.intro @eY @eZ))))) (And.intro (And.intro (And.intro (And.intro @eQ @eJ) (And.intro @eW @jM)) (And.intro (And.intro @cQ @cP) (And.intro @cD (And.intro @aE.flat_enc @aE.isv_enc)))) (And.intro (And.intro (And.intro @aE.fold_enc @aW) (And.intro @aO @aP)) (And.intro (And.intro @aM @aX) (And.intro @bP (And.intro @aQ @bJ)))))
variable {G:Nat ->AV}
def xW(k:Int)(S:Int)(l:Int × Bool)(cO items:Int):Int:=if k=1 then(if l.2 then S else 2+cO)else if k=6 then S+(1+items)else if k=4 then S+(2+items)else if k=7 then S+2*items else S
mutual
def eA:aE ->Int
 | .mk k g l s n ks ts=>xW (k.toNat:Int) (cF ks+cF ts) (A3k (.mk k g l s n ks ts)) l.length ks.length
def cF:List aE ->Int
 |[]=>0
 |t::ts=>eA t+cF ts
end
theorem vL(t:aE):eA t=xW t.knd (cF t.items+cF t.tail) (A3k t) t.limbs.length t.items.length:=by cases t;rw[eA];rfl
theorem jT:∀ (l r:List aE),cF (l++r)=cF l+cF r
 |[],r=>by rw[List.nil_append,cF];omega
 |t::l,r=>by rw[List.cons_append,cF,cF,jT l r];omega
theorem mQ:∀ (l:List aE),(∀ k,k ∈ l ->0 <=eA k /\ eA k <=4*(k.bulk:Int) - 2) ->0 <=cF l /\ cF l <=4*(aL l:Int) - 2*(l.length:Int)
 |[],_=>by simp[cF,aL]
 | t::l,h=>by
  have h1:=h t (by simp)
  have h2:=mQ l fun k hk=>h k (by simp[hk])
  rw[cF,aL,List.length_cons];omega
theorem B6d(t:aE):0 <=eA t /\ eA t <=4*(t.bulk:Int) - 2:=by
 refine aE.ind (P:=fun t=>0 <=eA t /\ eA t <=4*(t.bulk:Int) - 2) (fun t h1 h2=> ?_) t
 have i1:=mQ t.items h1
 have i2:=mQ t.tail h2
 have hb:t.bulk=t.limbs.length+t.text.length+aL t.items+aL t.tail+1:=by cases t;rw[aE.bulk];rfl
 rw[vL,xW]
 split
 ·split <;>omega
 split
 ·omega
 split
 ·omega
 split <;>omega
theorem lD(l:List aE):0 <=cF l /\ cF l <=4*(aL l:Int) - 2*(l.length:Int):=mQ l fun k _=>B6d k
set_option maxHeartbeats 4000000 in
theorem tJ(t:aE):t.bulk <=1000000 ->aN Try.prog G 38 [t.enc] (.int .i64 (eA t)):=by
 refine aE.ind (P:=fun t=>t.bulk <=1000000 ->aN Try.prog G 38 [t.enc] (.int .i64 (eA t))) (fun t ih1 ih2 hb=> ?_) t
 have hbl:t.bulk=t.limbs.length+t.text.length+aL t.items+aL t.tail+1:=by cases t;rw[aE.bulk];rfl
 have hfe:flat t.enc=[.int .u8 t.knd, .bool t.neg,cO t.limbs, .str t.text, .int .i64 t.num,bR t.items,bR t.tail]:=t.flat_enc
 have b1:=lD t.items
 have b2:=lD t.tail
 have hll:(t.items++t.tail).length=t.items.length+t.tail.length:=List.length_append
 have hcc:aN Try.prog G 63 [.sl .full [bR t.items,bR t.tail] []] (bR (t.items++t.tail)):=by
  have h0:aN Try.prog G 63 [.sl .full [bR t.items,bR t.tail] []] (bR [t.items,t.tail].flatten):=(zC (G:=G) [t.items,t.tail] (by simp) (by simp;have:=cV t;have:=dR t;omega)).lessArgs (.cons Le.gh .nil)
  simpa using h0
 have hlp:=qH (G:=G) t (by omega)
 have ihx:∀ x,x ∈ t.items++t.tail ->aN Try.prog G 38 [x.enc] (.int .i64 (eA x)):=fun x hx=>by
  rcases List.mem_append.1 hx with h|h
  ·exact ih1 x h (by have:=iO h;omega)
  ·exact ih2 x h (by have:=iO h;omega)
 intro σ
 clear ih1 ih2
 generalize hls:t.items++t.tail=L at*
 have hwL:cF L=cF t.items+cF t.tail:=by rw[<- hls,jT]
 have hbL:aL L=aL t.items+aL t.tail:=by rw[<- hls,fU]
 have bL:=lD L
 have hLb:L.length <=2000000:=by have:=cV t;have:=dR t;omega
 have hib:t.items.length <=1000000:=by have:=cV t;omega
 have hxb:t.limbs.length <=1000000:=by omega
 clear b1 b2 hll hls
 refine aH.of_awp aG Try.func38 rfl (by kernel_rfl) (by kernel_rfl) (by simp[Try.ntmps38]) Try.results38 ?_
 repeat'(first|refine xs ?_ ?_ <;>intros|(refine wn ?_;intro bx hbx;try simp only[fb]at hbx)|refine wp hcc ?_|refine bE ?_|(refine aB ?_;intro bx hbx;(try simp only[fb]at hbx))|refine aD ?_|((with_reducible refine And.intro ?_ ?_);omega)|refine aA (d':=⟨⟩) ?_|refine bG (by kernel_rfl) ?_|refine bD ?_ (by repeat' first|exact lr _|assumption|refine ls ?_ ?_|refine lt ?_ ?_|simp only[*];done|simp only[fb, *,not_false_eq_true,and_self];done|exact lf ‹_› (by simp only[*]))|refine aC ?_ (by repeat' first|exact lr _|assumption|refine ls ?_ ?_|refine lt ?_ ?_|simp only[*];done|simp only[fb, *,not_false_eq_true,and_self];done|exact lf ‹_› (by simp only[*]))|simp -dsimp only[↓bp,bq,br,seval,tE, *]|refine wz ?_|fail)
 clear hcc
 have w1:(2:Int) ^ 63=9223372036854775808:=rfl
 refine bM (fun m e σ'=>∃ i:Nat,e 15= .int .i64 i /\ i+m=L.length /\ e 3= .int .i64 (cF (L.take i)) /\ σ'.box bx=some [.int .u8 t.knd, .bool t.neg,cO t.limbs, .str t.text, .int .i64 t.num,bR t.items,bR t.tail] /\ σ.le σ') L.length ⟨0,by simp -dsimp only[↓bp,bq,br,seval,tE],by omega,by(simp -dsimp only[↓bp,bq,br,seval,tE]);rfl,AS.set_get,(AS.le.refl σ).setBox hbx.1 _⟩ ?_
 rintro m e σ' ⟨i,h15,him,h3,hbx2,hle⟩
 simp -dsimp only[↓bp,bq,br,seval,tE]at h15
 simp -dsimp only[↓bp,bq,br,seval,tE]at h3
 have hwi:IntKind.i64.wrap ((i:Int)+1)=((i+1:Nat):Int):=by rw[aF (by omega) (by omega)];omega
 have hf2:=bA hbx2
 by_cases hi:i < L.length
 ·have c2:((i:Int) < L.length)=True:=eq_true (by omega)
  obtain⟨x,hx⟩:∃ x,L[i]? =some x:=⟨L[i],List.getElem?_eq_getElem hi⟩
  have hwx:=ihx x (List.mem_of_getElem? hx)
  have htk:L.take (i+1)=L.take i++[x]:=bV L i x hx
  have hsum:cF (L.take (i+1))=cF (L.take i)+eA x:=by rw[htk,jT,cF,cF];omega
  have k1:=lD (L.take (i+1))
  have k2:aL (L.take (i+1)) <=aL L:=lU _ _
  have hwr:IntKind.i64.wrap (cF (L.take i)+eA x)=cF (L.take i)+eA x:=by rw[<- hsum];exact aF (by omega) (by omega)
  clear ihx
  repeat'(first|refine xs ?_ ?_ <;>intros|(refine wn ?_;intro bx hbx;try simp only[fb]at hbx)|refine wp hwx ?_|refine bE ?_|(refine aB ?_;intro bx hbx;(try simp only[fb]at hbx))|refine aD ?_|((with_reducible refine And.intro ?_ ?_);omega)|refine aA (d':=⟨⟩) ?_|refine bG (by kernel_rfl) ?_|refine bD ?_ (by repeat' first|exact lr _|assumption|refine ls ?_ ?_|refine lt ?_ ?_|simp only[*];done|simp only[fb, *,not_false_eq_true,and_self];done|exact lf ‹_› (by simp only[*]))|refine aC ?_ (by repeat' first|exact lr _|assumption|refine ls ?_ ?_|refine lt ?_ ?_|simp only[*];done|simp only[fb, *,not_false_eq_true,and_self];done|exact lf ‹_› (by simp only[*]))|simp -dsimp only[↓bp,bq,br,seval,tE,hwi,hx,hwr,hf2, *]|refine wz ?_|fail)
  refine⟨m - 1,by omega,i+1,rfl,by omega,by rw[hsum],hle.setBox (hle.fresh hbx).1 _⟩
 ·have c2:((i:Int) < L.length)=False:=eq_false (by omega)
  obtain rfl:i=L.length:=by omega
  rw[List.take_length]at h3
  have q1:IntKind.i64.wrap (1+(t.items.length:Int))=1+t.items.length:=aF (by omega) (by omega)
  have q2:IntKind.i64.wrap (2+(t.items.length:Int))=2+t.items.length:=aF (by omega) (by omega)
  have q3:IntKind.i64.wrap (2*(t.items.length:Int))=2*t.items.length:=aF (by omega) (by omega)
  have q4:IntKind.i64.wrap (2+(t.limbs.length:Int))=2+t.limbs.length:=aF (by omega) (by omega)
  have q5:IntKind.i64.wrap (cF L+(1+(t.items.length:Int)))=cF L+(1+t.items.length):=aF (by omega) (by omega)
  have q6:IntKind.i64.wrap (cF L+(2+(t.items.length:Int)))=cF L+(2+t.items.length):=aF (by omega) (by omega)
  have q7:IntKind.i64.wrap (cF L+2*(t.items.length:Int))=cF L+2*t.items.length:=aF (by omega) (by omega)
  rw[vL,<- hwL]
  unfold xW
  clear ihx hwL hbL
  repeat'(first|refine xs ?_ ?_ <;>intros|(refine wn ?_;intro bx hbx;try simp only[fb]at hbx)|refine wp hlp ?_|refine bE ?_|(refine aB ?_;intro bx hbx;(try simp only[fb]at hbx))|refine aD ?_|((with_reducible refine And.intro ?_ ?_);omega)|refine aA (d':=⟨⟩) ?_|refine bG (by kernel_rfl) ?_|refine bD ?_ (by repeat' first|exact lr _|assumption|refine ls ?_ ?_|refine lt ?_ ?_|simp only[*];done|simp only[fb, *,not_false_eq_true,and_self];done|exact lf ‹_› (by simp only[*]))|refine aC ?_ (by repeat' first|exact lr _|assumption|refine ls ?_ ?_|refine lt ?_ ?_|simp only[*];done|simp only[fb, *,not_false_eq_true,and_self];done|exact lf ‹_› (by simp only[*]))|simp -dsimp only[↓bp,bq,br,seval,tE,q1,q2,q3,q4,q5,q6,q7, *]|refine wz ?_|fail)
  all_goals simp only[decide_eq_true_eq,decide_eq_false_iff_not,Decidable.not_not]at*
  all_goals refine congrArg (AV.int _) ?_
  all_goals simp only[*,if_true,if_false]
  all_goals first|done|(simp_all;done)|trace_state
end
set_option maxRecDepth 20000
section
def mP:=And.intro (And.intro (And.intro (And.intro @jN (And.intro @kI @kJ)) (And.intro @eW (And.intro @jO @eJ))) (And.intro (And.intro @eY (And.intro @eQ @eZ)) (And.intro @jM (And.intro @aE.flat_enc @aE.isv_enc)))) (And.intro (And.intro (And.intro @aE.fold_enc (And.intro @aW @aO)) (And.intro @aX (And.intro @bP @dN))) (And.intro (And.intro @aP (And.intro @aM @aQ)) (And.intro @bJ (And.intro @dD @cJ))))
variable (G:Nat ->AV)
theorem iV(t:aE)(hb:t.bulk <=1000000000):aN Try.prog G 12 [t.enc] (.bool (right t)):=by
 have h:=A8i G t hb
 unfold right
 intro σ
 refine aH.of_awp aG Try.func12 rfl (by kernel_rfl) (by kernel_rfl) (by simp[Try.ntmps12]) Try.results12 ?_
 repeat'(first|refine xs ?_ ?_ <;>intros|(refine wn ?_;intro bx hbx;try simp only[fb]at hbx)|refine wp h ?_|refine bE ?_|(refine aB ?_;intro bx hbx;(try simp only[fb]at hbx))|refine aD ?_|((with_reducible refine And.intro ?_ ?_);omega)|refine aA (d':=⟨⟩) ?_|refine bG (by kernel_rfl) ?_|refine bD ?_ (by repeat' first|exact lr _|assumption|refine ls ?_ ?_|refine lt ?_ ?_|simp only[*];done|simp only[fb, *,not_false_eq_true,and_self];done|exact lf ‹_› (by simp only[*]))|refine aC ?_ (by repeat' first|exact lr _|assumption|refine ls ?_ ?_|refine lt ?_ ?_|simp only[*];done|simp only[fb, *,not_false_eq_true,and_self];done|exact lf ‹_› (by simp only[*]))|simp -dsimp only[↓bp,bq,br,seval,mP, *]|refine wz ?_|fail)
 all_goals rfl
theorem A3z(a b:aE)(ha:a.bulk <=1000000000)(hb:b.bulk <=1000000000):aN Try.prog G 16 [a.enc,b.enc] (.bool (B4z a b)):=by
 have ra:=iV G a ha
 have rb:=iV G b hb
 have ho:=A3u G a b ha hb
 unfold B4z
 intro σ
 cases ea:right a with
 | false=>
  rw[ea]at ra
  rw[Bool.false_and,Bool.false_and]
  clear ho
  refine aH.of_awp aG Try.func16 rfl (by kernel_rfl) (by kernel_rfl) (by simp[Try.ntmps16]) Try.results16 ?_
  repeat'(first|refine xs ?_ ?_ <;>intros|(refine wn ?_;intro bx hbx;try simp only[fb]at hbx)|refine wp ra ?_|refine wp rb ?_|refine bE ?_|(refine aB ?_;intro bx hbx;(try simp only[fb]at hbx))|refine aD ?_|((with_reducible refine And.intro ?_ ?_);omega)|refine aA (d':=⟨⟩) ?_|refine bG (by kernel_rfl) ?_|refine bD ?_ (by repeat' first|exact lr _|assumption|refine ls ?_ ?_|refine lt ?_ ?_|simp only[*];done|simp only[fb, *,not_false_eq_true,and_self];done|exact lf ‹_› (by simp only[*]))|refine aC ?_ (by repeat' first|exact lr _|assumption|refine ls ?_ ?_|refine lt ?_ ?_|simp only[*];done|simp only[fb, *,not_false_eq_true,and_self];done|exact lf ‹_› (by simp only[*]))|simp -dsimp only[↓bp,bq,br,seval,mP, *]|refine wz ?_|fail)
  all_goals rfl
 | true=>cases eb:right b with
  | false=>
   rw[ea]at ra
   rw[eb]at rb
   rw[Bool.true_and,Bool.false_and]
   clear ho
   refine aH.of_awp aG Try.func16 rfl (by kernel_rfl) (by kernel_rfl) (by simp[Try.ntmps16]) Try.results16 ?_
   repeat'(first|refine xs ?_ ?_ <;>intros|(refine wn ?_;intro bx hbx;try simp only[fb]at hbx)|refine wp ra ?_|refine wp rb ?_|refine bE ?_|(refine aB ?_;intro bx hbx;(try simp only[fb]at hbx))|refine aD ?_|((with_reducible refine And.intro ?_ ?_);omega)|refine aA (d':=⟨⟩) ?_|refine bG (by kernel_rfl) ?_|refine bD ?_ (by repeat' first|exact lr _|assumption|refine ls ?_ ?_|refine lt ?_ ?_|simp only[*];done|simp only[fb, *,not_false_eq_true,and_self];done|exact lf ‹_› (by simp only[*]))|refine aC ?_ (by repeat' first|exact lr _|assumption|refine ls ?_ ?_|refine lt ?_ ?_|simp only[*];done|simp only[fb, *,not_false_eq_true,and_self];done|exact lf ‹_› (by simp only[*]))|simp -dsimp only[↓bp,bq,br,seval,mP, *]|refine wz ?_|fail)
   all_goals rfl
  | true=>
   rw[ea]at ra
   rw[eb]at rb
   rw[Bool.true_and,Bool.true_and]
   have ho:=ho ea eb
   refine aH.of_awp aG Try.func16 rfl (by kernel_rfl) (by kernel_rfl) (by simp[Try.ntmps16]) Try.results16 ?_
   repeat'(first|refine xs ?_ ?_ <;>intros|(refine wn ?_;intro bx hbx;try simp only[fb]at hbx)|refine wp ra ?_|refine wp rb ?_|refine wp ho ?_|refine bE ?_|(refine aB ?_;intro bx hbx;(try simp only[fb]at hbx))|refine aD ?_|((with_reducible refine And.intro ?_ ?_);omega)|refine aA (d':=⟨⟩) ?_|refine bG (by kernel_rfl) ?_|refine bD ?_ (by repeat' first|exact lr _|assumption|refine ls ?_ ?_|refine lt ?_ ?_|simp only[*];done|simp only[fb, *,not_false_eq_true,and_self];done|exact lf ‹_› (by simp only[*]))|refine aC ?_ (by repeat' first|exact lr _|assumption|refine ls ?_ ?_|refine lt ?_ ?_|simp only[*];done|simp only[fb, *,not_false_eq_true,and_self];done|exact lf ‹_› (by simp only[*]))|simp -dsimp only[↓bp,bq,br,seval,mP, *]|refine wz ?_|fail)
   all_goals rfl
end
end Go.Proofs.Ytinfbihcnonaoaa
