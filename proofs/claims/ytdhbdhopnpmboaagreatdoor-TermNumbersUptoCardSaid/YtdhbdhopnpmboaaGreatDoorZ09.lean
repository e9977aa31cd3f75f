/- The order of terms, plainly: what it is, and that it is one. -/
import Derived.Test.YtdhbdhopnpmboaaGreatDoorZ08
import Derived.Test.YtdhbdhopnpmboaaGreatDoorZ07
set_option linter.unusedVariables false
set_option linter.unusedSimpArgs false
set_option linter.defProp false
namespace Go.Proofs.YtdhbdhopnpmboaaGreatDoor
open Go Go.Av
section
def dR(a b:Int):Int:=if a < b then -1 else if b < a then 1 else 0
def lex(a b:Int):Int:=if a=0 then b else a
def pL:List UInt8 ->List UInt8 ->Int
 |[],[]=>0
 |[],_::_=> -1
 |_::_,[]=>1
 |a::l,b::r=>lex (dR a.toNat b.toNat) (pL l r)
def sT:List UInt32 ->List UInt32 ->Int
 |[],[]=>0
 |[],_::_=> -1
 |_::_,[]=>1
 |a::l,b::r=>lex (dR a.toNat b.toNat) (sT l r)
def B1m(a b:List UInt32):Int:=lex (dR a.length b.length) (sT a.reverse b.reverse)
def sgn(t:aA):Int:=if t.neg=true then -1 else 1
def B4b(a b:aA):Int:=if sgn a ≠ sgn b then sgn a else B1m a.limbs b.limbs*sgn a
def G3(x y z:Int):Prop:=(x=0 ->z=y) /\ (y=0 ->z=x) /\ (x=y ->z=x)
def R3(x:Int):Prop:=x= -1 \/ x=0 \/ x=1
theorem G3.lex{x y z x' y' z':Int}(h:G3 x y z)(h':G3 x' y' z')(hx:R3 x)(hy:R3 y)(hz:R3 z):G3 (Proofs.YtdhbdhopnpmboaaGreatDoor.lex x x') (Proofs.YtdhbdhopnpmboaaGreatDoor.lex y y') (Proofs.YtdhbdhopnpmboaaGreatDoor.lex z z'):=by
 obtain⟨a,b,c⟩:=h
 obtain⟨a',b',c'⟩:=h'
 unfold Proofs.YtdhbdhopnpmboaaGreatDoor.lex G3
 unfold R3 at hx hy hz
 rcases hx with rfl|rfl|rfl <;>rcases hy with rfl|rfl|rfl <;>simp_all
theorem R3.lex{x x':Int}(h:R3 x)(h':R3 x'):R3 (Proofs.YtdhbdhopnpmboaaGreatDoor.lex x x'):=by
 unfold Proofs.YtdhbdhopnpmboaaGreatDoor.lex;split <;>assumption
theorem D2d{x y:Int} :lex x y=0 ↔ x=0 /\ y=0:=by
 unfold lex
 by_cases h:x=0
 ·simp[h]
 ·simp[h]
theorem B8q(a b:Int):R3 (dR a b):=by unfold dR R3;split <;> (try split) <;>simp
theorem C4j(a b:Int):dR a b=0 ↔ a=b:=by
 unfold dR
 by_cases h1:a < b
 ·simp[h1];omega
 ·by_cases h2:b < a
  ·simp[h1,h2];omega
  ·simp[h1,h2];omega
theorem B8r:∀ a b,R3 (sT a b)
 |[],[]=> .inr (.inl rfl)
 |[],_::_=> .inl rfl
 |_::_,[]=> .inr (.inr rfl)
 |a::l,b::r=> (B8q _ _).lex (B8r l r)
theorem B8s:∀ a b,R3 (pL a b)
 |[],[]=> .inr (.inl rfl)
 |[],_::_=> .inl rfl
 |_::_,[]=> .inr (.inr rfl)
 |a::l,b::r=> (B8q _ _).lex (B8s l r)
theorem A0b:∀ a b,pL a b=0 ↔ a=b
 |[],[]=>by simp[pL]
 |[],_::_=>by simp[pL]
 |_::_,[]=>by simp[pL]
 | a::l,b::r=>by
  simp only[pL]
  rw[D2d,C4j,A0b l r,List.cons.injEq]
  constructor
  ·rintro⟨h,rfl⟩;exact⟨UInt8.toNat_inj.1 (by omega),rfl⟩
  ·rintro⟨rfl,rfl⟩;exact⟨rfl,rfl⟩
theorem E2q(a b:List UInt32):R3 (B1m a b):=(B8q _ _).lex (B8r _ _)
theorem E5f(a:aA):sgn a= -1 \/ sgn a=1:=by unfold sgn;cases a.neg <;>simp
mutual
def iO:aA ->aA ->Int
 | .mk k g l s n ks ts,b=>
  if(k.toNat:Int) ≠ b.knd then dR k.toNat b.knd
  else if(k.toNat:Int)=1 then B4b (.mk k g l s n ks ts) b
  else if(k.toNat:Int)=7 then lex (lex (lK ks b.items) (dR ks.length b.items.length)) (tl ts b.tail)
  else lex (lex (pL s b.text) (lex (dR n b.num) (dR ks.length b.items.length))) (lK ks b.items)
def tl:List aA ->List aA ->Int
 |[],[]=>0
 |[],b::_=>dR 7 b.knd
 |a::_,[]=>dR a.knd 7
 |a::_,b::_=>iO a b
def lK:List aA ->List aA ->Int
 |[],_=>0
 |_,[]=>0
 |a::l,b::r=>lex (iO a b) (lK l r)
end
theorem uX(a b:aA):iO a b=if a.knd ≠ b.knd then dR a.knd b.knd
  else if a.knd=1 then B4b a b
  else if a.knd=7 then lex (lex (lK a.items b.items) (dR a.items.length b.items.length)) (tl a.tail b.tail)
  else lex (lex (pL a.text b.text) (lex (dR a.num b.num) (dR a.items.length b.items.length))) (lK a.items b.items):=by
 cases a;rw[iO];rfl
theorem wD(a b c:Int):lex (lex a b) c=lex a (lex b c):=by
 unfold lex;by_cases h:a=0 <;>simp[h]
def rl:List aA ->List aA ->Int
 |[],[]=>0
 |[],_::_=> -1
 |_::_,[]=>1
 |a::l,b::r=>lex (iO a b) (rl l r)
theorem C4i(a b:Nat):dR ((a+1:Nat):Int) ((b+1:Nat):Int)=dR a b:=by
 unfold dR
 by_cases h1:(a:Int) < b
 ·rw[if_pos h1,if_pos (by omega)]
 ·by_cases h2:(b:Int) < a
  ·rw[if_neg h1,if_pos h2,if_neg (by omega),if_pos (by omega)]
  ·rw[if_neg h1,if_neg h2,if_neg (by omega),if_neg (by omega)]
theorem D3d:∀ l r,lex (lK l r) (dR l.length r.length)=rl l r
 |[],[]=>by simp[lK,rl,lex,dR]
 | [],_::_=>by
  simp only[lK,rl,lex,if_true,dR,List.length_cons,List.length_nil]
  rw[if_pos (by omega)]
 | _::_,[]=>by
  simp only[lK,rl,lex,if_true,dR,List.length_cons,List.length_nil]
  rw[if_neg (by omega),if_pos (by omega)]
 | a::l,b::r=>by
  simp only[lK,rl,List.length_cons]
  rw[wD,C4i,D3d l r]
theorem D9x(l r:List aA):lex (dR l.length r.length) (lK l r)=lex (dR l.length r.length) (rl l r):=by
 by_cases h:dR l.length r.length=0
 ·rw[<- D3d,h]
  unfold lex
  by_cases h2:lK l r=0 <;>simp[h2]
 ·unfold lex;rw[if_neg h,if_neg h]
theorem C6a(a b:aA):iO a b=if a.knd ≠ b.knd then dR a.knd b.knd
  else if a.knd=1 then B4b a b
  else if a.knd=7 then lex (rl a.items b.items) (tl a.tail b.tail)
  else lex (pL a.text b.text) (lex (dR a.num b.num) (lex (dR a.items.length b.items.length) (rl a.items b.items))):=by
 rw[uX,D3d,wD,wD,D9x]
def right(t:aA):Bool:=decide (0 < size t)
theorem rJ{each:Int} :∀ (l:List aA) (a:Int × Bool),(bI l each a).2=true ->a.2=true /\ ∀ x,x ∈ l ->0 < size x
 |[],a,h=> ⟨h,fun x hx=>by cases hx⟩
 | k::ks,a,h=>by
  simp only[bI]at h
  split at h
  ·rename_i ha
   obtain⟨h1,h2⟩:=rJ ks _ h
   simp only[Bool.and_eq_true,decide_eq_true_eq]at h1
   refine⟨ha,fun x hx=> ?_⟩
   rcases List.mem_cons.1 hx with rfl|hx
   ·exact h1.1
   ·exact h2 x hx
  ·rename_i ha;exact absurd h ha
structure Rt(t:aA):Prop where
 items:∀ x,x ∈ t.items ->right x=true
 tail:∀ x,x ∈ t.tail ->right x=true
 kind:1 <=t.knd /\ t.knd <=7
 int:t.knd=1 ->wr t=true
 rest:t.knd ≠ 1 ->t.neg=false /\ t.limbs=[] /\ (t.knd ≠ 2 ->t.text=[]) /\ (t.knd ≠ 7 ->t.tail=[]) /\ (t.knd=2 \/ t.knd=6 \/ t.knd=7 ->t.num=0) /\ (t.knd=2 \/ t.knd=3 \/ t.knd=5 ->t.items=[])
 list:t.knd=7 ->t.tail.length <=1 /\ t.tail.length <=t.items.length /\ ∀ x,x ∈ t.tail ->x.knd ≠ 7
theorem oR{t:aA}(h:wr t=true):t.knd=1 /\ t.text=[] /\ t.num=0 /\ t.items=[] /\ t.tail=[] /\ t.limbs.length <=32 /\ (t.limbs=[] ->t.neg=false) /\ (t.limbs ≠ [] ->jT t.limbs=true):=by
 simp only[wr,Bool.and_eq_true,Bool.or_eq_true,decide_eq_true_eq,Bool.not_eq_true']at h
 obtain⟨⟨⟨⟨⟨h1,h2⟩,h3⟩,h4⟩,h5⟩,h6⟩:=h
 refine⟨h1,h2,h3,List.eq_nil_of_length_eq_zero (by omega),List.eq_nil_of_length_eq_zero (by omega),by omega,fun hl=> ?_,fun hl=> ?_⟩
 ·rcases h6 with h6|h6
  ·exact h6.2
  ·rw[hl]at h6;simp at h6
 ·rcases h6 with h6|h6
  ·have:t.limbs.length=0:=by have:=h6.1;omega
   exact absurd (List.eq_nil_of_length_eq_zero this) hl
  ·exact h6.2
theorem rM{t:aA}{a b c d:Bool}(h:fG t a b c d=true):t.neg=false /\ t.limbs=[] /\ (a=false ->t.text=[]) /\ (b=false ->t.num=0) /\ (c=false ->t.items=[]) /\ (d=false ->t.tail=[]):=by
 simp only[fG,Bool.and_eq_true,Bool.or_eq_true,decide_eq_true_eq,Bool.not_eq_true']at h
 obtain⟨⟨⟨⟨⟨h1,h2⟩,h3⟩,h4⟩,h5⟩,h6⟩:=h
 refine⟨h1,List.eq_nil_of_length_eq_zero (by omega),fun e=> ?_,fun e=> ?_,fun e=> ?_,fun e=> ?_⟩
 ·subst e;simpa using h3
 ·subst e;simpa using h4
 ·subst e;simp at h5;exact h5
 ·subst e;simp at h6;exact h6
theorem jV{t:aA}(h:right t=true):Rt t:=by
 simp only[right,decide_eq_true_eq]at h
 rw[jL]at h
 by_cases h1:t.knd=1
 ·rw[if_pos h1]at h
  split at h
  ·rename_i hw
   obtain⟨_,w2,w3,w4,w5,w6,w7,w8⟩:=oR hw
   refine⟨fun x hx=> (by rw[w4]at hx;cases hx),fun x hx=> (by rw[w5]at hx;cases hx),by omega,fun _=>hw,fun e=>absurd h1 e,fun e=>by omega⟩
  ·omega
 ·rw [if_neg h1]at h
  split at h
  ·rename_i hf
   obtain⟨f1,f2⟩:=rJ _ _ hf
   obtain⟨f3,f4⟩:=rJ _ _ f1
   simp only at f3
   refine⟨fun x hx=>by simp[right,f4 x hx],fun x hx=>by simp[right,f2 x hx],?_,fun e=>absurd e h1,fun _=> ?_,fun h7=> ?_⟩
   ·have:=t.knd_nn
    unfold head at f3
    by_cases e2:t.knd=2
    ·omega
    by_cases e3:t.knd=3 \/ t.knd=5
    ·omega
    by_cases e4:t.knd=4
    ·omega
    by_cases e6:t.knd=6
    ·omega
    by_cases e7:t.knd=7
    ·omega
    simp[e2,e3,e4,e6,e7]at f3
   ·unfold head at f3
    by_cases e2:t.knd=2
    ·rw[if_pos e2]at f3
     simp only[Bool.and_eq_true]at f3
     obtain⟨b1,b2,b3,b4,b5,b6⟩:=rM f3.1
     exact⟨b1,b2,fun e=>absurd e2 e,fun _=>b6 rfl,fun _=>b4 rfl,fun _=>b5 rfl⟩
    rw[if_neg e2]at f3
    by_cases e3:t.knd=3 \/ t.knd=5
    ·rw[if_pos e3]at f3
     simp only[Bool.and_eq_true]at f3
     obtain⟨b1,b2,b3,b4,b5,b6⟩:=rM f3.1.1
     exact⟨b1,b2,fun _=>b3 rfl,fun _=>b6 rfl,fun e=>by omega,fun _=>b5 rfl⟩
    rw[if_neg e3]at f3
    by_cases e4:t.knd=4
    ·rw[if_pos e4]at f3
     simp only[Bool.and_eq_true]at f3
     obtain⟨b1,b2,b3,b4,b5,b6⟩:=rM f3.1.1
     exact⟨b1,b2,fun _=>b3 rfl,fun _=>b6 rfl,fun e=>by omega,fun e=>by omega⟩
    rw[if_neg e4]at f3
    by_cases e6:t.knd=6
    ·rw[if_pos e6]at f3
     obtain⟨b1,b2,b3,b4,b5,b6⟩:=rM f3
     exact⟨b1,b2,fun _=>b3 rfl,fun _=>b6 rfl,fun _=>b4 rfl,fun e=>by omega⟩
    rw[if_neg e6]at f3
    by_cases e7:t.knd=7
    ·rw[if_pos e7]at f3
     simp only[Bool.and_eq_true]at f3
     obtain⟨b1,b2,b3,b4,b5,b6⟩:=rM f3.1.1
     exact⟨b1,b2,fun _=>b3 rfl,fun e=>absurd e7 e,fun _=>b4 rfl,fun e=>by omega⟩
    rw[if_neg e7]at f3
    cases f3
   ·unfold head at f3
    rw[if_neg (by omega),if_neg (by omega),if_neg (by omega),if_neg (by omega),if_pos h7]at f3
    simp only[Bool.and_eq_true,decide_eq_true_eq,List.all_eq_true]at f3
    obtain⟨⟨_,f5⟩,f6⟩:=f3
    refine⟨?_,?_,fun x hx=>f6 x hx⟩
    ·split at f5 <;>omega
    ·split at f5 <;>omega
  ·omega
theorem D4h{a b:aA}(h1:a.knd=b.knd)(h2:a.neg=b.neg)(h3:a.limbs=b.limbs)(h4:a.text=b.text)(h5:a.num=b.num)(h6:a.items=b.items)(h7:a.tail=b.tail):a=b:=by
 cases a;cases b
 simp only[aA.knd,aA.kind,aA.neg,aA.limbs,aA.text,aA.num,aA.items,aA.tail]at*
 have h1':=UInt8.toNat_inj.1 (Int.ofNat.inj h1)
 subst h1' h2 h3 h4 h5 h6 h7
 rfl
theorem A5l{a b:aA}(h:a.knd ≠ b.knd):iO a b=dR a.knd b.knd:=by rw[C6a,if_pos h]
def bA(ks ts:List aA):aA:= .mk 7 false [] [] 0 ks ts
def cR(t:aA):aA:=match t.tail with|[]=>bA [] []|x::_=>x
def sU(a b:aA):Int:=if right a=true /\ right b=true then iO a b else 0
def wR(a b:aA):Bool:=right a && right b && decide (iO a b=0)
end
set_option maxRecDepth 20000
section
def sD:=And.intro (And.intro (And.intro (And.intro @jD (And.intro @iZ @jJ)) (And.intro @eG (And.intro @jE @dL))) (And.intro (And.intro @eN (And.intro @dV @eD)) (And.intro @D4j (And.intro @aA.flat_enc @aA.isv_enc)))) (And.intro (And.intro (And.intro @aA.fold_enc (And.intro @aS @aN)) (And.intro @aU (And.intro @bW @bG))) (And.intro (And.intro @aQ (And.intro @aM @aZ)) (And.intro @cH (And.intro @bQ @bB))))
variable (G:Nat ->AV)
theorem lT{a b:List UInt8} :wM .gtr a b=some (.bool (!(Op.bytesLess a b||a==b))):=rfl
theorem rW(a:Int):(a=a)=True:=eq_true rfl
theorem A9f(a:Int):aB Tryz.prog G 158 [.int .u8 a] (.bool false):=by
 intro σ
 refine aJ.of_awp mixed Tryz.func158 rfl (by kernel_rfl) (by kernel_rfl) (by simp[Tryz.ntmps158]) Tryz.results158 ?_
 repeat'(first|refine xs ?_ ?_ <;>intros|(refine wn ?_;intro bx hbx;try simp only[fb]at hbx)|refine wj ?_|simp -dsimp only[↓bp,bq,br,seval,sD,lT,rW, *]|refine wz ?_|fail)
 all_goals simp
theorem A9e(a:Int):aB Tryz.prog G 159 [.int .i64 a] (.bool false):=by
 intro σ
 refine aJ.of_awp mixed Tryz.func159 rfl (by kernel_rfl) (by kernel_rfl) (by simp[Tryz.ntmps159]) Tryz.results159 ?_
 repeat'(first|refine xs ?_ ?_ <;>intros|(refine wn ?_;intro bx hbx;try simp only[fb]at hbx)|refine wj ?_|simp -dsimp only[↓bp,bq,br,seval,sD,lT,rW, *]|refine wz ?_|fail)
 all_goals simp
theorem A9g(a:List UInt8):aB Tryz.prog G 162 [.str a] (.bool false):=by
 intro σ
 refine aJ.of_awp mixed Tryz.func162 rfl (by kernel_rfl) (by kernel_rfl) (by simp[Tryz.ntmps162]) Tryz.results162 ?_
 repeat'(first|refine xs ?_ ?_ <;>intros|(refine wn ?_;intro bx hbx;try simp only[fb]at hbx)|refine wj ?_|simp -dsimp only[↓bp,bq,br,seval,sD,lT,rW, *]|refine wz ?_|fail)
 all_goals simp
theorem C4k(a b:Int):aB Tryz.prog G 113 [.int .u8 a, .int .u8 b] (.int .i64 (dR a b)):=by
 have h1:=A9f G a
 have h2:=A9f G b
 intro σ
 refine aJ.of_awp mixed Tryz.func113 rfl (by kernel_rfl) (by kernel_rfl) (by simp[Tryz.ntmps113]) Tryz.results113 ?_
 repeat'(first|refine xs ?_ ?_ <;>intros|(refine wn ?_;intro bx hbx;try simp only[fb]at hbx)|refine wp h1 ?_|refine wp h2 ?_|refine wj ?_|simp -dsimp only[↓bp,bq,br,seval,sD,lT,rW, *]|refine wz ?_|fail)
 all_goals(first|(simp only[dR, *,Bool.and_true,Bool.true_and,Bool.and_false,Bool.false_and,Bool.or_true,Bool.true_or,Bool.or_false,Bool.false_or,Bool.not_true,Bool.not_false,if_true,if_false,Bool.and_self,Bool.or_self];done)|(simp[dR, *];done)|(simp_all [dR];done))
theorem A8v(a b:Int):aB Tryz.prog G 114 [.int .i64 a, .int .i64 b] (.int .i64 (dR a b)):=by
 have h1:=A9e G a
 have h2:=A9e G b
 intro σ
 refine aJ.of_awp mixed Tryz.func114 rfl (by kernel_rfl) (by kernel_rfl) (by simp[Tryz.ntmps114]) Tryz.results114 ?_
 repeat'(first|refine xs ?_ ?_ <;>intros|(refine wn ?_;intro bx hbx;try simp only[fb]at hbx)|refine wp h1 ?_|refine wp h2 ?_|refine wj ?_|simp -dsimp only[↓bp,bq,br,seval,sD,lT,rW, *]|refine wz ?_|fail)
 all_goals(first|(simp only[dR, *,Bool.and_true,Bool.true_and,Bool.and_false,Bool.false_and,Bool.or_true,Bool.true_or,Bool.or_false,Bool.false_or,Bool.not_true,Bool.not_false,if_true,if_false,Bool.and_self,Bool.or_self];done)|(simp[dR, *];done)|(simp_all [dR];done))
theorem sQ:∀ a b:List UInt8,Op.bytesLess a b=decide (pL a b= -1) /\ (a==b)=decide (pL a b=0)
 |[],[]=>by simp[Op.bytesLess,pL]
 |[],_::_=>by simp[Op.bytesLess,pL]
 |_::_,[]=>by simp[Op.bytesLess,pL]
 | a ::l,b::r=>by
  obtain⟨h1,h2⟩:=sQ l r
  have hz:=A0b (a::l) (b::r)
  refine⟨?_,by rw[Bool.eq_iff_iff];simp only[decide_eq_true_eq,beq_iff_eq];rw[A0b]⟩
  simp only[Op.bytesLess,h1,pL,lex,dR,UInt8.lt_iff_toNat_lt]
  by_cases c1:a.toNat < b.toNat
  ·have c2:(a.toNat:Int) < b.toNat:=by omega
   simp[c1,c2]
  ·have c2: ¬ (a.toNat:Int) < b.toNat:=by omega
   by_cases c3:b.toNat < a.toNat
   ·have c4:(b.toNat:Int) < a.toNat:=by omega
    have c5: ¬ a=b:=fun e=>by subst e;omega
    simp[c1,c2,c3,c4,c5]
   ·have c4: ¬ (b.toNat:Int) < a.toNat:=by omega
    have c5:a=b:=UInt8.toNat_inj.1 (by omega)
    subst c5
    simp
theorem C4l(a b:List UInt8):aB Tryz.prog G 119 [.str a, .str b] (.int .i64 (pL a b)):=by
 have h1:=A9g G a
 have h2:=A9g G b
 obtain⟨e1,e2⟩:=sQ a b
 have hr:=B8s a b
 intro σ
 rcases hr with hr|hr|hr <;>rw[hr]at e1 e2 ⊢
 all_goals
  simp at e1 e2
  refine aJ.of_awp mixed Tryz.func119 rfl (by kernel_rfl) (by kernel_rfl) (by simp[Tryz.ntmps119]) Tryz.results119 ?_
  repeat'(first|refine xs ?_ ?_ <;>intros|(refine wn ?_;intro bx hbx;try simp only[fb]at hbx)|refine wp h1 ?_|refine wp h2 ?_|refine wj ?_|simp -dsimp only[↓bp,bq,br,seval,sD,lT,rW, *]|refine wz ?_|fail)
  all_goals first|rfl|(simp_all;done)
def E3z(l:List Int):AV:= .sl .none (l.map fun n=> .int .i64 n) []
def orI:List Int ->Int
 |[]=>0
 |x::l=>if x=0 then orI l else x
theorem C2o(l:List Int)(hl:l.length <=1000000000):aB Tryz.prog G 118 [E3z l] (.int .i64 (orI l)):=by
 intro σ
 unfold E3z
 refine aJ.of_awp mixed Tryz.func118 rfl (by kernel_rfl) (by kernel_rfl) (by simp[Tryz.ntmps118]) Tryz.results118 ?_
 repeat'(first|refine xs ?_ ?_ <;>intros|(refine wn ?_;intro bx hbx;try simp only[fb]at hbx)|refine wj ?_|simp -dsimp only[↓bp,bq,br,seval,sD,lT,rW, *]|refine wz ?_|fail)
 refine aD mixed (fun n e=>∃ i:Nat,i <=(l).length /\ n=(l).length - i /\ e 8= .int .i64 i /\ orI (l.drop i)=orI l) (l).length
   ⟨0,by omega,by omega,by simp -dsimp only[↓bp,bq,br,seval,sD,lT,rW];first|done|rfl,rfl⟩ ?_
 rintro n v ⟨i,hi,rfl,h8,htk⟩
 simp -dsimp only[↓bp,bq,br,seval,sD,lT,rW]at h8
 simp -dsimp only[↓bp,bq,br,seval,sD,lT,rW,h8]
 refine cG (fun hlt=> ?_) (fun hge=> ?_)
 ·obtain⟨x,hx⟩:∃ x,l[i]? =some x:=⟨_,List.getElem?_eq_getElem (by omega)⟩
  have hd:=dC _ _ _ hx
  rw[hd]at htk
  clear hi hlt hd
  by_cases h0:x=0
  ·subst h0
   repeat'(first|refine xs ?_ ?_ <;>intros|(refine wn ?_;intro bx hbx;try simp only[fb]at hbx)|refine wj ?_|simp -dsimp only[↓bp,bq,br,seval,sD,lT,rW, *]|refine wz ?_|fail)
   all_goals(have hlt:=(List.getElem?_eq_some_iff.1 hx).1)
   all_goals exact⟨l.length - (i+1),by omega,i+1,by omega,rfl,by rw[aC (by omega) (by omega)];rfl,by simpa [orI] using htk⟩
  ·repeat'(first|refine xs ?_ ?_ <;>intros|(refine wn ?_;intro bx hbx;try simp only[fb]at hbx)|refine wj ?_|simp -dsimp only[↓bp,bq,br,seval,sD,lT,rW, *]|refine wz ?_|fail)
   all_goals simp_all [orI]
 ·have:i=l.length:=by omega
  subst this
  rw[List.drop_length]at htk
  clear hi hge
  repeat'(first|refine xs ?_ ?_ <;>intros|(refine wn ?_;intro bx hbx;try simp only[fb]at hbx)|refine wj ?_|simp -dsimp only[↓bp,bq,br,seval,sD,lT,rW, *]|refine wz ?_|fail)
  all_goals simp[<- htk,orI]
theorem D2r(a b:Int):aB Tryz.prog G 118 [.sl .full [.int .i64 a, .int .i64 b] []] (.int .i64 (lex a b)):=by
 have h:=(C2o G [a,b] (by simp)).lessArgs (args:=[.sl .full [.int .i64 a, .int .i64 b] []]) (.cons Le.gh .nil)
 have e:orI [a,b]=lex a b:=by simp only[orI,lex];split <;> (try split) <;>simp_all
 rwa [e]at h
theorem D2s(a b c:Int):aB Tryz.prog G 118 [.sl .full [.int .i64 a, .int .i64 b, .int .i64 c] []] (.int .i64 (lex a (lex b c))):=by
 have h:=(C2o G [a,b,c] (by simp)).lessArgs (args:=[.sl .full [.int .i64 a, .int .i64 b, .int .i64 c] []]) (.cons Le.gh .nil)
 have e:orI [a,b,c]=lex a (lex b c):=by simp only[orI,lex];split <;> (try split) <;> (try split) <;>simp_all
 rwa [e]at h
end
set_option maxRecDepth 20000
section
def gV:=And.intro (And.intro (And.intro (And.intro @jD (And.intro @iZ @jJ)) (And.intro @eG (And.intro @jE @dL))) (And.intro (And.intro @eN (And.intro @dV @eD)) (And.intro @D4j (And.intro @aA.flat_enc @aA.isv_enc)))) (And.intro (And.intro (And.intro @aA.fold_enc (And.intro @aS @aN)) (And.intro @aU (And.intro @bW @bG))) (And.intro (And.intro @aQ (And.intro @aM @aZ)) (And.intro (And.intro @cH @bQ) (And.intro @bB @lT))))
variable (G:Nat ->AV)
def amt(a b:List UInt32):Int:=if(a.length:Int) ≠ b.length then(a.length:Int) - b.length else sT a.reverse b.reverse
theorem B0x(a b:List UInt32)(ha:a.length <=1000000000)(hb:b.length <=1000000000):aB Tryz.prog G 161 [bD a,bD b] (.int .i64 (amt a b)):=by
 have hw:IntKind.i64.wrap ((a.length:Int) - b.length)=a.length - b.length:=aC (by omega) (by omega)
 have hw2:IntKind.i64.wrap ((a.length:Int) - 1)=a.length - 1:=aC (by omega) (by omega)
 have hw2b:IntKind.i64.wrap ((b.length:Int) - 1)=b.length - 1:=aC (by omega) (by omega)
 intro σ
 by_cases hne:(a.length:Int)=b.length
 ·have hamt:amt a b=sT a.reverse b.reverse:=by unfold amt;rw[if_neg (by simpa using hne)]
  rw[hamt]
  refine aJ.of_awp mixed Tryz.func161 rfl (by kernel_rfl) (by kernel_rfl) (by simp[Tryz.ntmps161]) Tryz.results161 ?_
  repeat'(first|refine xs ?_ ?_ <;>intros|(refine wn ?_;intro bx hbx;try simp only[fb]at hbx)|refine wj ?_|simp -dsimp only[↓bp,bq,br,seval,gV, *]|refine wz ?_|fail)
  refine aD mixed (fun k e=>k <=a.length /\ e 5= .int .i64 ((k:Int) - 1) /\ sT (a.take k).reverse (b.take k).reverse=sT a.reverse b.reverse) a.length
   ⟨by omega,by first|(simp -dsimp only[↓bp,bq,br,seval,gV,hw2,hw2b,hne];done)|(simp -dsimp only[↓bp,bq,br,seval,gV,hw2,hw2b,hne];try rfl),by rw[List.take_length,show a.length=b.length by omega,List.take_length]⟩ ?_
  rintro k v ⟨hk,h5,hc⟩
  simp -dsimp only[↓bp,bq,br,seval,gV]at h5
  cases k with
  | zero=>
   simp at h5
   simp only[List.take_zero,List.reverse_nil,sT]at hc
   rw[<- hc]
   clear hk hc
   repeat'(first|refine xs ?_ ?_ <;>intros|(refine wn ?_;intro bx hbx;try simp only[fb]at hbx)|refine wj ?_|simp -dsimp only[↓bp,bq,br,seval,gV, *]|refine wz ?_|fail)
   all_goals rfl
  | succ k=>
   have e5:((k+1:Nat):Int) - 1=k:=by omega
   rw[e5]at h5
   obtain⟨x,hx⟩:∃ x,a[k]? =some x:=⟨_,List.getElem?_eq_getElem (by omega)⟩
   obtain⟨y,hy⟩:∃ y,b[k]? =some y:=⟨_,List.getElem?_eq_getElem (by omega)⟩
   rw[aW _ _ _ hx,aW _ _ _ hy,List.reverse_append,List.reverse_append]at hc
   simp only[List.reverse_cons,List.reverse_nil,List.nil_append,List.cons_append,sT]at hc
   have h0:(0:Int) <=k:=by omega
   have hwk:IntKind.i64.wrap ((k:Int) - 1)=k - 1:=aC (by omega) (by omega)
   by_cases c1:(x.toNat:Int) < y.toNat
   ·have:sT a.reverse b.reverse= -1:=by rw[<- hc];simp[lex,dR,c1]
    rw[this]
    clear hc hk
    repeat'(first|refine xs ?_ ?_ <;>intros|(refine wn ?_;intro bx hbx;try simp only[fb]at hbx)|refine wj ?_|simp -dsimp only[↓bp,bq,br,seval,gV,bC, *]|refine wz ?_|fail)
    all_goals rfl
   ·by_cases c2:(y.toNat:Int) < x.toNat
    ·have:sT a.reverse b.reverse=1:=by rw[<- hc];simp[lex,dR,c1,c2]
     rw[this]
     clear hc hk
     repeat'(first|refine xs ?_ ?_ <;>intros|(refine wn ?_;intro bx hbx;try simp only[fb]at hbx)|refine wj ?_|simp -dsimp only[↓bp,bq,br,seval,gV,bC, *]|refine wz ?_|fail)
     all_goals rfl
    ·have hc2:sT (a.take k).reverse (b.take k).reverse=sT a.reverse b.reverse:=by rw[<- hc];simp[lex,dR,c1,c2]
     clear hc hk
     have hkk:k <=a.length:=by have:=(List.getElem?_eq_some_iff.1 hx).1;omega
     repeat'(first|refine xs ?_ ?_ <;>intros|(refine wn ?_;intro bx hbx;try simp only[fb]at hbx)|refine wj ?_|simp -dsimp only[↓bp,bq,br,seval,gV,bC, *]|refine wz ?_|fail)
     all_goals exact⟨k,by omega,by omega,rfl,hc2⟩
 ·have hamt:amt a b=(a.length:Int) - b.length:=by unfold amt;rw[if_pos (by simpa using hne)]
  rw[hamt]
  have hne':=eq_false hne
  clear hne
  refine aJ.of_awp mixed Tryz.func161 rfl (by kernel_rfl) (by kernel_rfl) (by simp[Tryz.ntmps161]) Tryz.results161 ?_
  repeat'(first|refine xs ?_ ?_ <;>intros|(refine wn ?_;intro bx hbx;try simp only[fb]at hbx)|refine wj ?_|simp -dsimp only[↓bp,bq,br,seval,gV, *]|refine wz ?_|fail)
  all_goals rfl
theorem A9z(t:aA):aB Tryz.prog G 160 [t.enc] (.int .i64 (sgn t)):=by
 intro σ
 refine aJ.of_awp mixed Tryz.func160 rfl (by kernel_rfl) (by kernel_rfl) (by simp[Tryz.ntmps160]) Tryz.results160 ?_
 repeat'(first|refine xs ?_ ?_ <;>intros|(refine wn ?_;intro bx hbx;try simp only[fb]at hbx)|refine wj ?_|simp -dsimp only[↓bp,bq,br,seval,gV, *]|refine wz ?_|fail)
 all_goals simp_all [sgn]
theorem D5m(a b:List UInt32):(amt a b < 0 ↔ B1m a b= -1) /\ (amt a b=0 ↔ B1m a b=0) /\ (0 < amt a b ↔ B1m a b=1):=by
 have hr:=B8r a.reverse b.reverse
 unfold amt B1m lex dR
 unfold R3 at hr
 by_cases h1:(a.length:Int) < b.length
 ·simp[h1];omega
 ·by_cases h2:(b.length:Int) < a.length
  ·have h3: ¬ (a.length:Int)=b.length:=by omega
   simp[h1,h2];omega
  ·have h3:(a.length:Int)=b.length:=by omega
   simp[h3]
   omega
theorem A8h(a b:aA)(ha:wr a=true)(hb:wr b=true):aB Tryz.prog G 117 [a.enc,b.enc] (.int .i64 (B4b a b)):=by
 have bulk32:∀ t:aA,wr t=true ->t.bulk <=1000000000 /\ t.limbs.length <=32:=fun t h=>by
  obtain⟨_,h2,_,h4,h5,h6,_⟩:=oR h
  have:=t.bulk_eq
  rw[h2,h4,h5]at this
  simp[aV]at this
  omega
 have pa:=mY G a (bulk32 a ha).1
 have pb:=mY G b (bulk32 b hb).1
 have sa:=A9z G a
 have sb:=A9z G b
 have am:=B0x G a.limbs b.limbs (by have:=bulk32 a ha;omega) (by have:=bulk32 b hb;omega)
 rw[ha]at pa
 rw[hb]at pb
 have hc:=D5m a.limbs b.limbs
 have hR:=E2q a.limbs b.limbs
 generalize amt a.limbs b.limbs=m at am hc
 unfold B4b
 intro σ
 by_cases hs:sgn a=sgn b
 ·rw[if_neg (by simpa using hs)]
  rw[<- hs]at sb
  obtain⟨q,hq⟩:∃ q,q=sgn a:=⟨_,rfl⟩
  have ho:=E5f a
  rw[<- hq]at sa sb ho ⊢
  generalize B1m a.limbs b.limbs=c at hc hR ⊢
  clear ha hb hs hq
  refine aJ.of_awp mixed Tryz.func117 rfl (by kernel_rfl) (by kernel_rfl) (by simp[Tryz.ntmps117]) Tryz.results117 ?_
  repeat'(first|refine xs ?_ ?_ <;>intros|(refine wn ?_;intro bx hbx;try simp only[fb]at hbx)|refine wp pa ?_|refine wp pb ?_|refine wp sa ?_|refine wp sb ?_|refine wp am ?_|refine wj ?_|simp -dsimp only[↓bp,bq,br,seval,gV, *]|refine wz ?_|fail)
  have e:(if -1 > (if 1 < m then 1 else m)then -1 else if 1 < m then 1 else m)=c:=by
   unfold R3 at hR
   by_cases h1:1 < m
   ·simp only[h1,if_true];rw[if_neg (by omega)];omega
   ·simp only[h1,if_false];split <;>omega
  rw[e]
  unfold R3 at hR
  rcases hR with rfl|rfl|rfl <;>rcases ho with rfl|rfl <;>rfl
 ·rw[if_pos (by simpa using hs)]
  have hs':=eq_false hs
  generalize sgn a=p at*
  generalize sgn b=q at*
  clear hs ha hb
  refine aJ.of_awp mixed Tryz.func117 rfl (by kernel_rfl) (by kernel_rfl) (by simp[Tryz.ntmps117]) Tryz.results117 ?_
  repeat'(first|refine xs ?_ ?_ <;>intros|(refine wn ?_;intro bx hbx;try simp only[fb]at hbx)|refine wp pa ?_|refine wp pb ?_|refine wp sa ?_|refine wp sb ?_|refine wp am ?_|refine wj ?_|simp -dsimp only[↓bp,bq,br,seval,gV, *]|refine wz ?_|fail)
  all_goals rfl
theorem C4m(l r:List aA)(hl:l.length <=1000000000)(hr:r.length <=1000000000)(hf:∀ x,x ∈ l ->∀ y,y ∈ r ->aB Tryz.prog G 69 [x.enc,y.enc] (.int .i64 (iO x y))):
  aB Tryz.prog G 116 [aH l,aH r, .fn 69 []] (.int .i64 (rl l r)):=by
 intro σ
 refine aJ.of_awp mixed Tryz.func116 rfl (by kernel_rfl) (by kernel_rfl) (by simp[Tryz.ntmps116]) Tryz.results116 ?_
 simp -dsimp only[↓bp,bq,br,seval,gV]
 refine aI (fun n e σ'=>∃ i:Nat,i <=(l).length /\ n=(l).length - i /\ e 13= .int .i64 i /\ σ.le σ' /\ rl (l.drop i) (r.drop i)=rl l r) (l).length
   ⟨0,by omega,by omega,by simp -dsimp only[↓bp,bq,br,seval,gV];first|done|rfl,AS.le.refl σ,rfl⟩ ?_
 rintro n v σ' ⟨i,hi,rfl,h13,⟨hle,hrl⟩⟩
 simp -dsimp only[↓bp,bq,br,seval,gV]at h13
 simp -dsimp only[↓bp,bq,br,seval,gV,h13]
 refine cG (fun hlt=> ?_) (fun hge=> ?_)
 ·obtain⟨x,hx⟩:∃ x,l[i]? =some x:=⟨_,List.getElem?_eq_getElem (by omega)⟩
  have hxm:x ∈ l:=List.mem_of_getElem? hx
  have hdx:=dC _ _ _ hx
  rw[hdx]at hrl
  clear hi hlt
  by_cases hir:i < r.length
  ·obtain⟨y,hy⟩:∃ y,r[i]? =some y:=⟨_,List.getElem?_eq_getElem (by omega)⟩
   have hym:y ∈ r:=List.mem_of_getElem? hy
   have hdy:=dC _ _ _ hy
   rw[hdy]at hrl
   simp only[rl]at hrl
   have hp:=hf x hxm y hym
   have hge: ¬ (r.length:Int) <=i:=by omega
   clear hir hdx hdy hf
   by_cases h0:iO x y=0
   ·rw[h0]at hp hrl
    repeat'(first|refine xs ?_ ?_ <;>intros|(refine wn ?_;intro bx hbx;try simp only[fb]at hbx)|refine wp hp ?_|refine wj ?_|simp -dsimp only[↓bp,bq,br,seval,gV, *]|refine wz ?_|fail)
    all_goals(have hlt:=(List.getElem?_eq_some_iff.1 hx).1)
    all_goals exact⟨l.length - (i+1),by omega,i+1,by omega,rfl,by rw[aC (by omega) (by omega)];rfl,by repeat' first|exact lr _|assumption|refine ls ?_ ?_|refine lt ?_ ?_|simp only[*];done|simp only[fb, *,not_false_eq_true,and_self];done|exact lf ‹_› (by simp only[*]),by simpa [lex] using hrl⟩
   ·have h0':=eq_false h0
    have e:rl l r=iO x y:=by rw[<- hrl];simp[lex,h0]
    rw[e]
    clear h0 hrl e
    generalize iO x y=c at*
    repeat'(first|refine xs ?_ ?_ <;>intros|(refine wn ?_;intro bx hbx;try simp only[fb]at hbx)|refine wp hp ?_|refine wj ?_|simp -dsimp only[↓bp,bq,br,seval,gV, *]|refine wz ?_|fail)
    all_goals first|rfl|skip
  ·have hdr:r.drop i=[]:=List.drop_eq_nil_of_le (by omega)
   rw[hdr]at hrl
   simp only[rl]at hrl
   have hge:(r.length:Int) <=i:=by omega
   rw[<- hrl]
   clear hir hdr hf hrl hdx
   repeat'(first|refine xs ?_ ?_ <;>intros|(refine wn ?_;intro bx hbx;try simp only[fb]at hbx)|refine wj ?_|simp -dsimp only[↓bp,bq,br,seval,gV, *]|refine wz ?_|fail)
   all_goals first|rfl|skip
 ·have:i=l.length:=by omega
  subst this
  rw[List.drop_length]at hrl
  clear hi hge hf
  by_cases hlr:(l.length:Int) < r.length
  ·obtain⟨y,s,hs⟩:∃ y s,r.drop l.length=y::s:=by
    cases h:r.drop l.length with
    |nil=>have:=congrArg List.length h;simp at this;omega
    |cons y s=>exact⟨y,s,rfl⟩
   rw[hs]at hrl
   simp only[rl]at hrl
   rw[<- hrl]
   clear hrl hs
   repeat'(first|refine xs ?_ ?_ <;>intros|(refine wn ?_;intro bx hbx;try simp only[fb]at hbx)|refine wj ?_|simp -dsimp only[↓bp,bq,br,seval,gV, *]|refine wz ?_|fail)
   all_goals first|rfl|skip
  ·have hs:r.drop l.length=[]:=List.drop_eq_nil_of_le (by omega)
   rw[hs]at hrl
   simp only[rl]at hrl
   rw[<- hrl]
   clear hrl hs
   repeat'(first|refine xs ?_ ?_ <;>intros|(refine wn ?_;intro bx hbx;try simp only[fb]at hbx)|refine wj ?_|simp -dsimp only[↓bp,bq,br,seval,gV, *]|refine wz ?_|fail)
   all_goals first|rfl|skip
theorem B7d:∀ (l r:List aA),rl (l.take (min l.length r.length)) (r.take (min l.length r.length))=lK l r
 |[],r=>by simp[rl,lK]
 |_::_,[]=>by simp[rl,lK]
 | a::l,b::r=>by
  have e:min (a::l).length (b::r).length=min l.length r.length+1:=by simp only[List.length_cons];omega
  rw[e,List.take_succ_cons,List.take_succ_cons,rl,lK,B7d l r]
theorem B6m(a b:aA)(ha:a.bulk <=1000000000)(hb:b.bulk <=1000000000)(hf:∀ x,x ∈ a.items ->∀ y,y ∈ b.items ->aB Tryz.prog G 69 [x.enc,y.enc] (.int .i64 (iO x y)))(σ:AS)(p q:Nat)(hp:σ.box p=some (flat a.enc))(hq:σ.box q=some (flat b.enc)):
  aJ Tryz.prog G 115 [.ptr p 0, .ptr q 0] σ fun r σ'=>r= .int .i64 (lK a.items b.items) /\ σ'=σ:=by
 have h1:=cA a
 have h2:=cA b
 obtain⟨k,hk⟩:∃ k,k=min a.items.length b.items.length:=⟨_,rfl⟩
 have hkk:(if(b.items.length:Int) < a.items.length then(b.items.length:Int)else a.items.length)=(k:Int):=by split <;>omega
 have hkk2:(if(a.items.length:Int) < b.items.length then(a.items.length:Int)else b.items.length)=(k:Int):=by split <;>omega
 have hc:=C4m G (a.items.take k) (b.items.take k) (by rw[List.length_take];omega) (by rw[List.length_take];omega) (fun x hx y hy=>hf x (List.mem_of_mem_take hx) y (List.mem_of_mem_take hy))
 rw[hk,B7d,<- hk]at hc
 have hka:k <=a.items.length:=by omega
 have hkb:k <=b.items.length:=by omega
 rw[aA.flat_enc]at hp hq
 clear hf h1 h2 hk
 refine aJ.of_awp mixed Tryz.func115 rfl (by kernel_rfl) (by kernel_rfl) (by simp[Tryz.ntmps115]) Tryz.results115 ?_
 repeat'(first|refine xs ?_ ?_ <;>intros|(refine wn ?_;intro bx hbx;try simp only[fb]at hbx)|refine wp hc ?_|refine wj ?_|simp -dsimp only[↓bp,bq,br,seval,gV,zG,hkk,hkk2, *]|refine wz ?_|fail)
 all_goals skip
end
set_option maxRecDepth 20000
section
def cI:=And.intro (And.intro (And.intro (And.intro @jD @iZ) (And.intro @jJ (And.intro @eG @jE))) (And.intro (And.intro @dL (And.intro @eN @dV)) (And.intro @eD (And.intro @aA.flat_enc @aA.isv_enc)))) (And.intro (And.intro (And.intro @aA.fold_enc (And.intro @aS @aN)) (And.intro @aU (And.intro @bW @bG))) (And.intro (And.intro @aQ (And.intro @aM @aZ)) (And.intro @cH (And.intro @bQ @bB))))
variable (G:Nat ->AV)
set_option maxHeartbeats 4000000 in
theorem C6p(t:aA)(hb:t.bulk <=1000000000)(e7:t.knd=7)(hit:∀ x,x ∈ t.items ->aB Tryz.prog G 39 [x.enc] (.int .i64 (size x)))(htt:∀ x,x ∈ t.tail ->aB Tryz.prog G 39 [x.enc] (.int .i64 (size x))):
  aB Tryz.prog G 39 [t.enc] (.int .i64 (size t)):=by
 have hli:=cA t
 have hlt:=dD t
 have hll:=cQ t
 have hp4:=jR G t
 have hse:=jL t
 have hle:=fun x (_:x ∈ t.items)=>kK x
 have hw1:IntKind.i64.wrap (1+(t.limbs.length:Int))=1+t.limbs.length:=aC (by omega) (by omega)
 have hkn:=t.knd_nn
 intro σ
 refine aJ.of_awp mixed Tryz.func39 rfl (by kernel_rfl) (by kernel_rfl) (by simp[Tryz.ntmps39]) Tryz.results39 ?_
 simp -dsimp only[↓bp,bq,br,seval,cI]
 refine cX fun b1 h1=> ?_
 simp -dsimp only[↓bp,bq,br,seval,cI]
 refine aY fun b3 h3=> ?_
 simp only[eR]at h3
 obtain⟨h3,h31,h13⟩:=h3
 simp -dsimp only[↓bp,bq,br,seval,cI]
 refine aY fun b5 h5=> ?_
 simp only[eR]at h5
 obtain⟨⟨h5,h51,h15⟩,h53,h35⟩:=h5
 have k1:=eq_false (show ¬ t.knd=1 by omega)
 have k2:=eq_false (show ¬ t.knd=2 by omega)
 have k3:=eq_false (show ¬ t.knd=3 by omega)
 have k4:=eq_false (show ¬ t.knd=4 by omega)
 have k5:=eq_false (show ¬ t.knd=5 by omega)
 have k6:=eq_false (show ¬ t.knd=6 by omega)
 have k7:=eq_true e7
 obtain⟨f0,hf0⟩:∃ f0,f0=(fG t false false true true && decide ((t.tail.length:Int) <=if(t.items.length:Int) < 1 then(t.items.length:Int)else 1)):=⟨_,rfl⟩
 have hhd:head t=(1,1,f0 && t.tail.all fun x=>decide (x.knd ≠ 7)):=by unfold head;rw[if_neg (by omega),if_neg (by omega),if_neg (by omega),if_neg (by omega),if_pos e7,hf0]
 clear e7
 cases hbr:fG t false false true true
 ·rw [hbr]at hp4 hf0
  simp only[Bool.false_and]at hf0
  repeat'(first|refine xs ?_ ?_ <;>intros|(refine wn ?_;intro bx hbx;try simp only[fb]at hbx)|refine wp hp4 ?_|refine wj ?_|simp -dsimp only[↓bp,bq,br,seval,cI,h53,h35,h51,h15,h31,h13, *]|refine wz ?_|fail)
  refine aI (fun n e σ'=>∃ i:Nat,i <=t.tail.length /\ n=t.tail.length - i /\ e 80= .int .i64 i /\ σ.le σ' /\ σ'.box b1=some [.int .u8 t.knd, .bool t.neg,bD t.limbs, .str t.text, .int .i64 t.num,aH t.items,aH t.tail] /\
    σ'.box b3=some [.int .i64 1] /\ σ'.box b5=some [.bool (f0 && (t.tail.take i).all fun x=>decide (x.knd ≠ 7))]) t.tail.length ⟨0,by omega,by omega,by simp -dsimp only[↓bp,bq,br,seval,cI];try rfl,by repeat'(first|exact AS.le.refl _|assumption|(refine cE (by assumption) ?_)),by simp -dsimp only[↓bp,bq,br,seval,cI,h53,h35,h51,h15,h31,h13],by simp -dsimp only[↓bp,bq,br,seval,cI,h53,h35,h51,h15,h31,h13],by simp[AS.setBox,h53,h35,h51,h15,h31,h13,hf0]⟩ ?_
  rintro n v σ' ⟨i,hi,rfl,h80,hle',hB1,hB3,hB5⟩
  simp -dsimp only[↓bp,bq,br,seval,cI]at h80
  simp -dsimp only[↓bp,bq,br,seval,cI,h80]
  refine cG (fun hlt2=> ?_) (fun hge2=> ?_)
  ·obtain⟨x,hx⟩:∃ x,t.tail[i]? =some x:=⟨_,List.getElem?_eq_getElem (by omega)⟩
   have hsn:(f0 && (t.tail.take (i+1)).all (fun x=>decide (x.knd ≠ 7)))=((f0 && (t.tail.take i).all fun x=>decide (x.knd ≠ 7)) && decide (x.knd ≠ 7)):=by rw[aW _ _ _ hx,List.all_append];simp[Bool.and_assoc]
   obtain⟨g,hg⟩:∃ g,g=(f0 && (t.tail.take i).all fun x=>decide (x.knd ≠ 7)):=⟨_,rfl⟩
   rw[<- hg]at hB5 hsn
   simp -dsimp only[↓bp,bq,br,seval,cI,h80,hx]
   refine aY fun b7 h7=> ?_
   have n1: ¬ b1=b7:=fun e=>by rw[<- e]at h7;rw[h7.1]at hB1;cases hB1
   have n3: ¬ b3=b7:=fun e=>by rw[<- e]at h7;rw[h7.1]at hB3;cases hB3
   have n5: ¬ b5=b7:=fun e=>by rw[<- e]at h7;rw[h7.1]at hB5;cases hB5
   have m5: ¬ b7=b5:=fun e=>n5 e.symm
   cases g with
   | false=>
    simp -dsimp only[↓bp,bq,br,seval,cI,h80,hx,hB1,hB3,hB5,n1,n3,n5,m5,h53,h35,h51,h15,h31,h13]
    refine⟨t.tail.length - (i+1),by omega,i+1,by omega,rfl,by rw[aC (by omega) (by omega)];rfl,by repeat'(first|assumption|(refine cE (by first|assumption|exact hle'.fresh h7) ?_)),?_⟩
    rw[hsn]
    first|rfl|simp
   | true=>
    simp -dsimp only[↓bp,bq,br,seval,cI,h80,hx,hB1,hB3,hB5,n1,n3,n5,m5,h53,h35,h51,h15,h31,h13]
    refine⟨t.tail.length - (i+1),by omega,i+1,by omega,rfl,by rw[aC (by omega) (by omega)];rfl,by repeat'(first|assumption|(refine cE (by first|assumption|exact hle'.fresh h7) ?_)),?_⟩
    rw[hsn]
    first|rfl|simp
  ·have:i=t.tail.length:=by omega
   subst this
   rw[List.take_length]at hB5
   simp -dsimp only[↓bp,bq,br,seval,cI,h80,hB1,hB3,hB5,h53,h35,h51,h15,h31,h13]
   refine aJ.mono (cJ G t.items 1 (by omega) (by omega) (by omega) hit _ b5 b3 h53 1 (f0 && t.tail.all fun x=>decide (x.knd ≠ 7)) (by simp -dsimp only[↓bp,bq,br,seval,cI,h53,h35,h51,h15,h31,h13,hB1,hB3,hB5]) (by simp -dsimp only[↓bp,bq,br,seval,cI,h53,h35,h51,h15,h31,h13,hB1,hB3,hB5]) (by omega) (fun _=>by omega) (by omega)) ?_
   rintro r σ' rfl
   have ha:=fU t.items hle 1 (by omega) (by omega) (1,(f0 && t.tail.all fun x=>decide (x.knd ≠ 7))) (by simp only;omega) (fun _=>by simp only;omega) (by simp only;omega)
   simp -dsimp only[↓bp,bq,br,seval,cI,h53,h35,h51,h15,h31,h13,hB1,hB3,hB5]
   refine aJ.mono (cJ G t.tail 0 (by omega) (by omega) (by omega) htt _ b5 b3 h53 (bI t.items 1 (1,(f0 && t.tail.all fun x=>decide (x.knd ≠ 7)))).1 (bI t.items 1 (1,(f0 && t.tail.all fun x=>decide (x.knd ≠ 7)))).2 (by simp -dsimp only[↓bp,bq,br,seval,cI,h53,h35,h51,h15,h31,h13,hB1,hB3,hB5]) (by simp -dsimp only[↓bp,bq,br,seval,cI,h53,h35,h51,h15,h31,h13,hB1,hB3,hB5]) ha.1 ha.2.1 ha.2.2) ?_
   rintro r σ' rfl
   simp -dsimp only[↓bp,bq,br,seval,cI,h53,h35,h51,h15,h31,h13,hB1,hB3,hB5]
   cases hfin:(bI t.tail 0 ((bI t.items 1 (1,(f0 && t.tail.all fun x=>decide (x.knd ≠ 7)))).1,(bI t.items 1 (1,(f0 && t.tail.all fun x=>decide (x.knd ≠ 7)))).2)).2
   ·simp -dsimp only[↓bp,bq,br,seval,cI,h53,h35,h51,h15,h31,h13,hB1,hB3,hB5]
    refine aP ?_ (by repeat'(first|exact AS.le.refl _|assumption|(refine cE (by assumption) ?_)))
    rw[hse,hhd]
    simp only[k1,hfin,if_false,Bool.true_and,Bool.false_and,Bool.false_eq_true,if_true]
   ·simp -dsimp only[↓bp,bq,br,seval,cI,h53,h35,h51,h15,h31,h13,hB1,hB3,hB5]
    refine aP ?_ (by repeat'(first|exact AS.le.refl _|assumption|(refine cE (by assumption) ?_)))
    rw[hse,hhd]
    simp only[k1,hfin,if_false,Bool.true_and,Bool.false_and,Bool.false_eq_true,if_true]
 ·rw [hbr]at hp4 hf0
  simp only[Bool.true_and]at hf0
  repeat'(first|refine xs ?_ ?_ <;>intros|(refine wn ?_;intro bx hbx;try simp only[fb]at hbx)|refine wp hp4 ?_|refine wj ?_|simp -dsimp only[↓bp,bq,br,seval,cI,h53,h35,h51,h15,h31,h13, *]|refine wz ?_|fail)
  refine aI (fun n e σ'=>∃ i:Nat,i <=t.tail.length /\ n=t.tail.length - i /\ e 80= .int .i64 i /\ σ.le σ' /\ σ'.box b1=some [.int .u8 t.knd, .bool t.neg,bD t.limbs, .str t.text, .int .i64 t.num,aH t.items,aH t.tail] /\
    σ'.box b3=some [.int .i64 1] /\ σ'.box b5=some [.bool (f0 && (t.tail.take i).all fun x=>decide (x.knd ≠ 7))]) t.tail.length ⟨0,by omega,by omega,by simp -dsimp only[↓bp,bq,br,seval,cI];try rfl,by repeat'(first|exact AS.le.refl _|assumption|(refine cE (by assumption) ?_)),by simp -dsimp only[↓bp,bq,br,seval,cI,h53,h35,h51,h15,h31,h13],by simp -dsimp only[↓bp,bq,br,seval,cI,h53,h35,h51,h15,h31,h13],by simp[AS.setBox,h53,h35,h51,h15,h31,h13,hf0]⟩ ?_
  rintro n v σ' ⟨i,hi,rfl,h80,hle',hB1,hB3,hB5⟩
  simp -dsimp only[↓bp,bq,br,seval,cI]at h80
  simp -dsimp only[↓bp,bq,br,seval,cI,h80]
  refine cG (fun hlt2=> ?_) (fun hge2=> ?_)
  ·obtain⟨x,hx⟩:∃ x,t.tail[i]? =some x:=⟨_,List.getElem?_eq_getElem (by omega)⟩
   have hsn:(f0 && (t.tail.take (i+1)).all (fun x=>decide (x.knd ≠ 7)))=((f0 && (t.tail.take i).all fun x=>decide (x.knd ≠ 7)) && decide (x.knd ≠ 7)):=by rw[aW _ _ _ hx,List.all_append];simp[Bool.and_assoc]
   obtain⟨g,hg⟩:∃ g,g=(f0 && (t.tail.take i).all fun x=>decide (x.knd ≠ 7)):=⟨_,rfl⟩
   rw[<- hg]at hB5 hsn
   simp -dsimp only[↓bp,bq,br,seval,cI,h80,hx]
   refine aY fun b7 h7=> ?_
   have n1: ¬ b1=b7:=fun e=>by rw[<- e]at h7;rw[h7.1]at hB1;cases hB1
   have n3: ¬ b3=b7:=fun e=>by rw[<- e]at h7;rw[h7.1]at hB3;cases hB3
   have n5: ¬ b5=b7:=fun e=>by rw[<- e]at h7;rw[h7.1]at hB5;cases hB5
   have m5: ¬ b7=b5:=fun e=>n5 e.symm
   cases g with
   | false=>
    simp -dsimp only[↓bp,bq,br,seval,cI,h80,hx,hB1,hB3,hB5,n1,n3,n5,m5,h53,h35,h51,h15,h31,h13]
    refine⟨t.tail.length - (i+1),by omega,i+1,by omega,rfl,by rw[aC (by omega) (by omega)];rfl,by repeat'(first|assumption|(refine cE (by first|assumption|exact hle'.fresh h7) ?_)),?_⟩
    rw[hsn]
    first|rfl|simp
   | true=>
    simp -dsimp only[↓bp,bq,br,seval,cI,h80,hx,hB1,hB3,hB5,n1,n3,n5,m5,h53,h35,h51,h15,h31,h13]
    refine⟨t.tail.length - (i+1),by omega,i+1,by omega,rfl,by rw[aC (by omega) (by omega)];rfl,by repeat'(first|assumption|(refine cE (by first|assumption|exact hle'.fresh h7) ?_)),?_⟩
    rw[hsn]
    first|rfl|simp
  ·have:i=t.tail.length:=by omega
   subst this
   rw[List.take_length]at hB5
   simp -dsimp only[↓bp,bq,br,seval,cI,h80,hB1,hB3,hB5,h53,h35,h51,h15,h31,h13]
   refine aJ.mono (cJ G t.items 1 (by omega) (by omega) (by omega) hit _ b5 b3 h53 1 (f0 && t.tail.all fun x=>decide (x.knd ≠ 7)) (by simp -dsimp only[↓bp,bq,br,seval,cI,h53,h35,h51,h15,h31,h13,hB1,hB3,hB5]) (by simp -dsimp only[↓bp,bq,br,seval,cI,h53,h35,h51,h15,h31,h13,hB1,hB3,hB5]) (by omega) (fun _=>by omega) (by omega)) ?_
   rintro r σ' rfl
   have ha:=fU t.items hle 1 (by omega) (by omega) (1,(f0 && t.tail.all fun x=>decide (x.knd ≠ 7))) (by simp only;omega) (fun _=>by simp only;omega) (by simp only;omega)
   simp -dsimp only[↓bp,bq,br,seval,cI,h53,h35,h51,h15,h31,h13,hB1,hB3,hB5]
   refine aJ.mono (cJ G t.tail 0 (by omega) (by omega) (by omega) htt _ b5 b3 h53 (bI t.items 1 (1,(f0 && t.tail.all fun x=>decide (x.knd ≠ 7)))).1 (bI t.items 1 (1,(f0 && t.tail.all fun x=>decide (x.knd ≠ 7)))).2 (by simp -dsimp only[↓bp,bq,br,seval,cI,h53,h35,h51,h15,h31,h13,hB1,hB3,hB5]) (by simp -dsimp only[↓bp,bq,br,seval,cI,h53,h35,h51,h15,h31,h13,hB1,hB3,hB5]) ha.1 ha.2.1 ha.2.2) ?_
   rintro r σ' rfl
   simp -dsimp only[↓bp,bq,br,seval,cI,h53,h35,h51,h15,h31,h13,hB1,hB3,hB5]
   cases hfin:(bI t.tail 0 ((bI t.items 1 (1,(f0 && t.tail.all fun x=>decide (x.knd ≠ 7)))).1,(bI t.items 1 (1,(f0 && t.tail.all fun x=>decide (x.knd ≠ 7)))).2)).2
   ·simp -dsimp only[↓bp,bq,br,seval,cI,h53,h35,h51,h15,h31,h13,hB1,hB3,hB5]
    refine aP ?_ (by repeat'(first|exact AS.le.refl _|assumption|(refine cE (by assumption) ?_)))
    rw[hse,hhd]
    simp only[k1,hfin,if_false,Bool.true_and,Bool.false_and,Bool.false_eq_true,if_true]
   ·simp -dsimp only[↓bp,bq,br,seval,cI,h53,h35,h51,h15,h31,h13,hB1,hB3,hB5]
    refine aP ?_ (by repeat'(first|exact AS.le.refl _|assumption|(refine cE (by assumption) ?_)))
    rw[hse,hhd]
    simp only[k1,hfin,if_false,Bool.true_and,Bool.false_and,Bool.false_eq_true,if_true]
end
set_option maxRecDepth 20000
section
def eA:=And.intro (And.intro (And.intro (And.intro @jD @iZ) (And.intro @jJ (And.intro @eG @jE))) (And.intro (And.intro @dL (And.intro @eN @dV)) (And.intro @eD (And.intro @aA.flat_enc @aA.isv_enc)))) (And.intro (And.intro (And.intro @aA.fold_enc (And.intro @aS @aN)) (And.intro @aU (And.intro @bW @bG))) (And.intro (And.intro @aQ (And.intro @aM @aZ)) (And.intro @cH (And.intro @bQ @bB))))
variable (G:Nat ->AV)
set_option maxHeartbeats 4000000 in
theorem E0n(t:aA)(hb:t.bulk <=1000000000)(hk:t.knd=1)(hit:∀ x,x ∈ t.items ->aB Tryz.prog G 39 [x.enc] (.int .i64 (size x)))(htt:∀ x,x ∈ t.tail ->aB Tryz.prog G 39 [x.enc] (.int .i64 (size x))):
  aB Tryz.prog G 39 [t.enc] (.int .i64 (size t)):=by
 have hli:=cA t
 have hlt:=dD t
 have hll:=cQ t
 have hwr:=mY G t hb
 have hp0:=kO G t
 have hp1:=kP G t
 have hp2:=kQ G t
 have hp3:=kR G t
 have hp4:=jR G t
 have hse:=jL t
 have hle:=fun x (_:x ∈ t.items)=>kK x
 have hw1:IntKind.i64.wrap (1+(t.limbs.length:Int))=1+t.limbs.length:=aC (by omega) (by omega)
 have hkn:=t.knd_nn
 intro σ
 refine aJ.of_awp mixed Tryz.func39 rfl (by kernel_rfl) (by kernel_rfl) (by simp[Tryz.ntmps39]) Tryz.results39 ?_
 simp -dsimp only[↓bp,bq,br,seval,eA]
 refine cX fun b1 h1=> ?_
 simp -dsimp only[↓bp,bq,br,seval,eA]
 refine aY fun b3 h3=> ?_
 simp only[eR]at h3
 obtain⟨h3,h31,h13⟩:=h3
 simp -dsimp only[↓bp,bq,br,seval,eA]
 refine aY fun b5 h5=> ?_
 simp only[eR]at h5
 obtain⟨⟨h5,h51,h15⟩,h53,h35⟩:=h5
 have e1:t.knd=1:=hk
 have e2: ¬ t.knd=2:=by omega
 have e3: ¬ t.knd=3:=by omega
 have e4: ¬ t.knd=4:=by omega
 have e5: ¬ t.knd=5:=by omega
 have e6: ¬ t.knd=6:=by omega
 have e7: ¬ t.knd=7:=by omega
 have k1:=eq_true e1
 clear hk e1
 repeat'(first|refine xs ?_ ?_ <;>intros|(refine wn ?_;intro bx hbx;try simp only[fb]at hbx)|refine wp hwr ?_|refine wj ?_|simp -dsimp only[↓bp,bq,br,seval,eA,h53,h35,h51,h15,h31,h13,k1, *]|refine wz ?_|fail)
 all_goals simp_all
set_option maxHeartbeats 4000000 in
theorem E0o(t:aA)(hb:t.bulk <=1000000000)(hk:t.knd=2)(hit:∀ x,x ∈ t.items ->aB Tryz.prog G 39 [x.enc] (.int .i64 (size x)))(htt:∀ x,x ∈ t.tail ->aB Tryz.prog G 39 [x.enc] (.int .i64 (size x))):
  aB Tryz.prog G 39 [t.enc] (.int .i64 (size t)):=by
 have hli:=cA t
 have hlt:=dD t
 have hll:=cQ t
 have hwr:=mY G t hb
 have hp0:=kO G t
 have hp1:=kP G t
 have hp2:=kQ G t
 have hp3:=kR G t
 have hp4:=jR G t
 have hse:=jL t
 have hle:=fun x (_:x ∈ t.items)=>kK x
 have hw1:IntKind.i64.wrap (1+(t.limbs.length:Int))=1+t.limbs.length:=aC (by omega) (by omega)
 have hkn:=t.knd_nn
 intro σ
 refine aJ.of_awp mixed Tryz.func39 rfl (by kernel_rfl) (by kernel_rfl) (by simp[Tryz.ntmps39]) Tryz.results39 ?_
 simp -dsimp only[↓bp,bq,br,seval,eA]
 refine cX fun b1 h1=> ?_
 simp -dsimp only[↓bp,bq,br,seval,eA]
 refine aY fun b3 h3=> ?_
 simp only[eR]at h3
 obtain⟨h3,h31,h13⟩:=h3
 simp -dsimp only[↓bp,bq,br,seval,eA]
 refine aY fun b5 h5=> ?_
 simp only[eR]at h5
 obtain⟨⟨h5,h51,h15⟩,h53,h35⟩:=h5
 have e1: ¬ t.knd=1:=by omega
 have e2:t.knd=2:=hk
 have e3: ¬ t.knd=3:=by omega
 have e4: ¬ t.knd=4:=by omega
 have e5: ¬ t.knd=5:=by omega
 have e6: ¬ t.knd=6:=by omega
 have e7: ¬ t.knd=7:=by omega
 have k1:=eq_false e1
 have k2:=eq_true e2
 have hhd:head t=(1,0,fG t true false false false && decide ((t.text.length:Int) <=40)):=by unfold head;rw[if_pos e2]
 clear hk e1 e2
 simp -dsimp only[↓bp,bq,br,seval,eA,h53,h35,h51,h15,h31,h13,k1,k2]
 refine aB.use hp0 ?_
 simp -dsimp only[↓bp,bq,br,seval,eA,h53,h35,h51,h15,h31,h13,k1,k2]
 cases hbr:fG t true false false false
 ·rw[hbr]at hhd
  simp -dsimp only[↓bp,bq,br,seval,eA,h53,h35,h51,h15,h31,h13,k1,k2]
  refine aJ.mono (cJ G t.items 0 (by omega) (by omega) (by omega) hit _ b5 b3 h53 1 false (by simp -dsimp only[↓bp,bq,br,seval,eA,h53,h35,h51,h15,h31,h13]) (by simp -dsimp only[↓bp,bq,br,seval,eA,h53,h35,h51,h15,h31,h13]) (by omega) (fun _=>by omega) (by omega)) ?_
  rintro r σ' rfl
  have ha:=fU t.items hle 0 (by omega) (by omega) (1,false) (by simp only;omega) (fun _=>by simp only;omega) (by simp only;omega)
  simp -dsimp only[↓bp,bq,br,seval,eA,h53,h35,h51,h15,h31,h13]
  refine aJ.mono (cJ G t.tail 0 (by omega) (by omega) (by omega) htt _ b5 b3 h53 (bI t.items 0 (1,false)).1 (bI t.items 0 (1,false)).2 (by simp -dsimp only[↓bp,bq,br,seval,eA,h53,h35,h51,h15,h31,h13]) (by simp -dsimp only[↓bp,bq,br,seval,eA,h53,h35,h51,h15,h31,h13]) ha.1 ha.2.1 ha.2.2) ?_
  rintro r σ' rfl
  simp -dsimp only[↓bp,bq,br,seval,eA,h53,h35,h51,h15,h31,h13]
  cases hfin:(bI t.tail 0 ((bI t.items 0 (1,false)).1,(bI t.items 0 (1,false)).2)).2
  ·simp -dsimp only[↓bp,bq,br,seval,eA,h53,h35,h51,h15,h31,h13]
   refine aP ?_ (by repeat'(first|exact AS.le.refl _|assumption|(refine cE (by assumption) ?_)))
   rw[hse,hhd]
   simp only[k1,hfin,if_false,Bool.true_and,Bool.false_and,Bool.false_eq_true,if_true]
  ·simp -dsimp only[↓bp,bq,br,seval,eA,h53,h35,h51,h15,h31,h13]
   refine aP ?_ (by repeat'(first|exact AS.le.refl _|assumption|(refine cE (by assumption) ?_)))
   rw[hse,hhd]
   simp only[k1,hfin,if_false,Bool.true_and,Bool.false_and,Bool.false_eq_true,if_true]
 ·rw[hbr]at hhd
  simp -dsimp only[↓bp,bq,br,seval,eA,h53,h35,h51,h15,h31,h13,k1,k2]
  refine aJ.mono (cJ G t.items 0 (by omega) (by omega) (by omega) hit _ b5 b3 h53 1 (decide ((t.text.length:Int) <=40)) (by simp -dsimp only[↓bp,bq,br,seval,eA,h53,h35,h51,h15,h31,h13]) (by simp -dsimp only[↓bp,bq,br,seval,eA,h53,h35,h51,h15,h31,h13]) (by omega) (fun _=>by omega) (by omega)) ?_
  rintro r σ' rfl
  have ha:=fU t.items hle 0 (by omega) (by omega) (1,(decide ((t.text.length:Int) <=40))) (by simp only;omega) (fun _=>by simp only;omega) (by simp only;omega)
  simp -dsimp only[↓bp,bq,br,seval,eA,h53,h35,h51,h15,h31,h13]
  refine aJ.mono (cJ G t.tail 0 (by omega) (by omega) (by omega) htt _ b5 b3 h53 (bI t.items 0 (1,(decide ((t.text.length:Int) <=40)))).1 (bI t.items 0 (1,(decide ((t.text.length:Int) <=40)))).2 (by simp -dsimp only[↓bp,bq,br,seval,eA,h53,h35,h51,h15,h31,h13]) (by simp -dsimp only[↓bp,bq,br,seval,eA,h53,h35,h51,h15,h31,h13]) ha.1 ha.2.1 ha.2.2) ?_
  rintro r σ' rfl
  simp -dsimp only[↓bp,bq,br,seval,eA,h53,h35,h51,h15,h31,h13]
  cases hfin:(bI t.tail 0 ((bI t.items 0 (1,(decide ((t.text.length:Int) <=40)))).1,(bI t.items 0 (1,(decide ((t.text.length:Int) <=40)))).2)).2
  ·simp -dsimp only[↓bp,bq,br,seval,eA,h53,h35,h51,h15,h31,h13]
   refine aP ?_ (by repeat'(first|exact AS.le.refl _|assumption|(refine cE (by assumption) ?_)))
   rw[hse,hhd]
   simp only[k1,hfin,if_false,Bool.true_and,Bool.false_and,Bool.false_eq_true,if_true]
  ·simp -dsimp only[↓bp,bq,br,seval,eA,h53,h35,h51,h15,h31,h13]
   refine aP ?_ (by repeat'(first|exact AS.le.refl _|assumption|(refine cE (by assumption) ?_)))
   rw[hse,hhd]
   simp only[k1,hfin,if_false,Bool.true_and,Bool.false_and,Bool.false_eq_true,if_true]
end
set_option maxRecDepth 20000
section
def dG:=And.intro (And.intro (And.intro (And.intro @jD @iZ) (And.intro @jJ (And.intro @eG @jE))) (And.intro (And.intro @dL (And.intro @eN @dV)) (And.intro @eD (And.intro @aA.flat_enc @aA.isv_enc)))) (And.intro (And.intro (And.intro @aA.fold_enc (And.intro @aS @aN)) (And.intro @aU (And.intro @bW @bG))) (And.intro (And.intro @aQ (And.intro @aM @aZ)) (And.intro @cH (And.intro @bQ @bB))))
variable (G:Nat ->AV)
set_option maxHeartbeats 4000000 in
theorem E0p(t:aA)(hb:t.bulk <=1000000000)(hk:t.knd=3)(hit:∀ x,x ∈ t.items ->aB Tryz.prog G 39 [x.enc] (.int .i64 (size x)))(htt:∀ x,x ∈ t.tail ->aB Tryz.prog G 39 [x.enc] (.int .i64 (size x))):
  aB Tryz.prog G 39 [t.enc] (.int .i64 (size t)):=by
 have hli:=cA t
 have hlt:=dD t
 have hll:=cQ t
 have hwr:=mY G t hb
 have hp0:=kO G t
 have hp1:=kP G t
 have hp2:=kQ G t
 have hp3:=kR G t
 have hp4:=jR G t
 have hse:=jL t
 have hle:=fun x (_:x ∈ t.items)=>kK x
 have hw1:IntKind.i64.wrap (1+(t.limbs.length:Int))=1+t.limbs.length:=aC (by omega) (by omega)
 have hkn:=t.knd_nn
 intro σ
 refine aJ.of_awp mixed Tryz.func39 rfl (by kernel_rfl) (by kernel_rfl) (by simp[Tryz.ntmps39]) Tryz.results39 ?_
 simp -dsimp only[↓bp,bq,br,seval,dG]
 refine cX fun b1 h1=> ?_
 simp -dsimp only[↓bp,bq,br,seval,dG]
 refine aY fun b3 h3=> ?_
 simp only[eR]at h3
 obtain⟨h3,h31,h13⟩:=h3
 simp -dsimp only[↓bp,bq,br,seval,dG]
 refine aY fun b5 h5=> ?_
 simp only[eR]at h5
 obtain⟨⟨h5,h51,h15⟩,h53,h35⟩:=h5
 have e1: ¬ t.knd=1:=by omega
 have e2: ¬ t.knd=2:=by omega
 have e3:t.knd=3:=hk
 have e4: ¬ t.knd=4:=by omega
 have e5: ¬ t.knd=5:=by omega
 have e6: ¬ t.knd=6:=by omega
 have e7: ¬ t.knd=7:=by omega
 have k1:=eq_false e1
 have k2:=eq_false e2
 have k3:=eq_true e3
 have hhd:head t=(1,0,fG t false true false false && decide (0 <=t.num) && decide (t.num <=1099511627776)):=by unfold head;rw[if_neg e2,if_pos (.inl e3)]
 clear hk e1 e2 e3
 cases hbr:fG t false true false false
 ·rw[hbr]at hhd hp1
  simp only[Bool.false_and]at hhd
  repeat'(first|refine xs ?_ ?_ <;>intros|(refine wn ?_;intro bx hbx;try simp only[fb]at hbx)|refine wp hp1 ?_|refine wj ?_|simp -dsimp only[↓bp,bq,br,seval,dG,h53,h35,h51,h15,h31,h13, *]|refine wz ?_|fail)
  refine aJ.mono (cJ G t.items 0 (by omega) (by omega) (by omega) hit _ b5 b3 h53 1 false (by simp -dsimp only[↓bp,bq,br,seval,dG,h53,h35,h51,h15,h31,h13]) (by simp -dsimp only[↓bp,bq,br,seval,dG,h53,h35,h51,h15,h31,h13]) (by omega) (fun _=>by omega) (by omega)) ?_
  rintro r σ' rfl
  have ha:=fU t.items hle 0 (by omega) (by omega) (1,false) (by simp only;omega) (fun _=>by simp only;omega) (by simp only;omega)
  simp -dsimp only[↓bp,bq,br,seval,dG,h53,h35,h51,h15,h31,h13]
  refine aJ.mono (cJ G t.tail 0 (by omega) (by omega) (by omega) htt _ b5 b3 h53 (bI t.items 0 (1,false)).1 (bI t.items 0 (1,false)).2 (by simp -dsimp only[↓bp,bq,br,seval,dG,h53,h35,h51,h15,h31,h13]) (by simp -dsimp only[↓bp,bq,br,seval,dG,h53,h35,h51,h15,h31,h13]) ha.1 ha.2.1 ha.2.2) ?_
  rintro r σ' rfl
  simp -dsimp only[↓bp,bq,br,seval,dG,h53,h35,h51,h15,h31,h13]
  cases hfin:(bI t.tail 0 ((bI t.items 0 (1,false)).1,(bI t.items 0 (1,false)).2)).2
  ·simp -dsimp only[↓bp,bq,br,seval,dG,h53,h35,h51,h15,h31,h13]
   refine aP ?_ (by repeat'(first|exact AS.le.refl _|assumption|(refine cE (by assumption) ?_)))
   rw[hse,hhd]
   simp only[k1,hfin,if_false,Bool.true_and,Bool.false_and,Bool.false_eq_true,if_true]
  ·simp -dsimp only[↓bp,bq,br,seval,dG,h53,h35,h51,h15,h31,h13]
   refine aP ?_ (by repeat'(first|exact AS.le.refl _|assumption|(refine cE (by assumption) ?_)))
   rw[hse,hhd]
   simp only[k1,hfin,if_false,Bool.true_and,Bool.false_and,Bool.false_eq_true,if_true]
 ·rw [hbr]at hhd hp1
  by_cases en:0 <=t.num
  ·have kn:=eq_true en
   clear en
   simp only[kn,decide_true,Bool.and_true,Bool.true_and]at hhd
   repeat'(first|refine xs ?_ ?_ <;>intros|(refine wn ?_;intro bx hbx;try simp only[fb]at hbx)|refine wp hp1 ?_|refine wj ?_|simp -dsimp only[↓bp,bq,br,seval,dG,h53,h35,h51,h15,h31,h13,kn, *]|refine wz ?_|fail)
   refine aJ.mono (cJ G t.items 0 (by omega) (by omega) (by omega) hit _ b5 b3 h53 1 (decide (t.num <=1099511627776)) (by simp -dsimp only[↓bp,bq,br,seval,dG,h53,h35,h51,h15,h31,h13]) (by simp -dsimp only[↓bp,bq,br,seval,dG,h53,h35,h51,h15,h31,h13]) (by omega) (fun _=>by omega) (by omega)) ?_
   rintro r σ' rfl
   have ha:=fU t.items hle 0 (by omega) (by omega) (1,(decide (t.num <=1099511627776))) (by simp only;omega) (fun _=>by simp only;omega) (by simp only;omega)
   simp -dsimp only[↓bp,bq,br,seval,dG,h53,h35,h51,h15,h31,h13]
   refine aJ.mono (cJ G t.tail 0 (by omega) (by omega) (by omega) htt _ b5 b3 h53 (bI t.items 0 (1,(decide (t.num <=1099511627776)))).1 (bI t.items 0 (1,(decide (t.num <=1099511627776)))).2 (by simp -dsimp only[↓bp,bq,br,seval,dG,h53,h35,h51,h15,h31,h13]) (by simp -dsimp only[↓bp,bq,br,seval,dG,h53,h35,h51,h15,h31,h13]) ha.1 ha.2.1 ha.2.2) ?_
   rintro r σ' rfl
   simp -dsimp only[↓bp,bq,br,seval,dG,h53,h35,h51,h15,h31,h13]
   cases hfin:(bI t.tail 0 ((bI t.items 0 (1,(decide (t.num <=1099511627776)))).1,(bI t.items 0 (1,(decide (t.num <=1099511627776)))).2)).2
   ·simp -dsimp only[↓bp,bq,br,seval,dG,h53,h35,h51,h15,h31,h13]
    refine aP ?_ (by repeat'(first|exact AS.le.refl _|assumption|(refine cE (by assumption) ?_)))
    rw[hse,hhd]
    simp only[k1,hfin,if_false,Bool.true_and,Bool.false_and,Bool.false_eq_true,if_true]
   ·simp -dsimp only[↓bp,bq,br,seval,dG,h53,h35,h51,h15,h31,h13]
    refine aP ?_ (by repeat'(first|exact AS.le.refl _|assumption|(refine cE (by assumption) ?_)))
    rw[hse,hhd]
    simp only[k1,hfin,if_false,Bool.true_and,Bool.false_and,Bool.false_eq_true,if_true]
  ·have kn:=eq_false en
   clear en
   simp only[kn,decide_false,Bool.and_false,Bool.false_and]at hhd
   repeat'(first|refine xs ?_ ?_ <;>intros|(refine wn ?_;intro bx hbx;try simp only[fb]at hbx)|refine wp hp1 ?_|refine wj ?_|simp -dsimp only[↓bp,bq,br,seval,dG,h53,h35,h51,h15,h31,h13,kn, *]|refine wz ?_|fail)
   refine aJ.mono (cJ G t.items 0 (by omega) (by omega) (by omega) hit _ b5 b3 h53 1 false (by simp -dsimp only[↓bp,bq,br,seval,dG,h53,h35,h51,h15,h31,h13]) (by simp -dsimp only[↓bp,bq,br,seval,dG,h53,h35,h51,h15,h31,h13]) (by omega) (fun _=>by omega) (by omega)) ?_
   rintro r σ' rfl
   have ha:=fU t.items hle 0 (by omega) (by omega) (1,false) (by simp only;omega) (fun _=>by simp only;omega) (by simp only;omega)
   simp -dsimp only[↓bp,bq,br,seval,dG,h53,h35,h51,h15,h31,h13]
   refine aJ.mono (cJ G t.tail 0 (by omega) (by omega) (by omega) htt _ b5 b3 h53 (bI t.items 0 (1,false)).1 (bI t.items 0 (1,false)).2 (by simp -dsimp only[↓bp,bq,br,seval,dG,h53,h35,h51,h15,h31,h13]) (by simp -dsimp only[↓bp,bq,br,seval,dG,h53,h35,h51,h15,h31,h13]) ha.1 ha.2.1 ha.2.2) ?_
   rintro r σ' rfl
   simp -dsimp only[↓bp,bq,br,seval,dG,h53,h35,h51,h15,h31,h13]
   cases hfin:(bI t.tail 0 ((bI t.items 0 (1,false)).1,(bI t.items 0 (1,false)).2)).2
   ·simp -dsimp only[↓bp,bq,br,seval,dG,h53,h35,h51,h15,h31,h13]
    refine aP ?_ (by repeat'(first|exact AS.le.refl _|assumption|(refine cE (by assumption) ?_)))
    rw[hse,hhd]
    simp only[k1,hfin,if_false,Bool.true_and,Bool.false_and,Bool.false_eq_true,if_true]
   ·simp -dsimp only[↓bp,bq,br,seval,dG,h53,h35,h51,h15,h31,h13]
    refine aP ?_ (by repeat'(first|exact AS.le.refl _|assumption|(refine cE (by assumption) ?_)))
    rw[hse,hhd]
    simp only[k1,hfin,if_false,Bool.true_and,Bool.false_and,Bool.false_eq_true,if_true]
end
end Go.Proofs.YtdhbdhopnpmboaaGreatDoor
