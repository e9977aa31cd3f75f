/- The order of terms, plainly: what it is, and that it is one. -/
import Derived.Test.YthoenjlenkpnnaaDoorY08
import Derived.Lib.IndexMore
import Derived.Test.YthoenjlenkpnnaaDoorY06
import Derived.Shelf.Strings.BuilderX
import Derived.Lib.Strings
import Derived.Lib.Slices
import Derived.Lib.Walk
import Derived.Lib.Builder
import Derived.Lib.AppendStr
import Derived.Lib.UnsafeStr
import Derived.Lib.MakeNoZero
import Derived.Laws.Externs
import Derived.Test.YthoenjlenkpnnaaDoorY07
import Derived.Laws.Tables
set_option linter.unusedVariables false
set_option linter.unusedSimpArgs false
namespace Go.Proofs.YthoenjlenkpnnaaDoor
open Go Go.Av
section
def A0u(a b:Int):Int:=if a < b then -1 else if b < a then 1 else 0
def lex(a b:Int):Int:=if a=0 then b else a
def D4h:List UInt8 ->List UInt8 ->Int
 |[],[]=>0
 |[],_::_=> -1
 |_::_,[]=>1
 |a::l,b::r=>lex (A0u a.toNat b.toNat) (D4h l r)
def D4g:List UInt32 ->List UInt32 ->Int
 |[],[]=>0
 |[],_::_=> -1
 |_::_,[]=>1
 |a::l,b::r=>lex (A0u a.toNat b.toNat) (D4g l r)
def D8g(a b:List UInt32):Int:=lex (A0u a.length b.length) (D4g a.reverse b.reverse)
def sgn(t:aF):Int:=if t.neg=true then -1 else 1
def D8h(a b:aF):Int:=if sgn a ≠ sgn b then sgn a else D8g a.limbs b.limbs*sgn a
mutual
def C9l:aF ->aF ->Int
 | .mk k g l s n ks ts,b=>
  if(k.toNat:Int) ≠ b.knd then A0u k.toNat b.knd
  else if(k.toNat:Int)=1 then D8h (.mk k g l s n ks ts) b
  else if(k.toNat:Int)=7 then lex (lex (C1t ks b.items) (A0u ks.length b.items.length)) (tl ts b.tail)
  else lex (lex (D4h s b.text) (lex (A0u n b.num) (A0u ks.length b.items.length))) (C1t ks b.items)
def tl:List aF ->List aF ->Int
 |[],[]=>0
 |[],b::_=>A0u 7 b.knd
 |a::_,[]=>A0u a.knd 7
 |a::_,b::_=>C9l a b
def C1t:List aF ->List aF ->Int
 |[],_=>0
 |_,[]=>0
 |a::l,b::r=>lex (C9l a b) (C1t l r)
end
def right(t:aF):Bool:=decide (0 < size t)
theorem hH{each:Int} :∀ (l:List aF) (a:Int × Bool),(aU l each a).2=true ->a.2=true /\ ∀ x,x ∈ l ->0 < size x
 |[],a,h=> ⟨h,fun x hx=>by cases hx⟩
 | k::ks,a,h=>by
  simp only[aU]at h
  split at h
  ·rename_i ha
   obtain⟨h1,h2⟩:=hH ks _ h
   simp only[Bool.and_eq_true,decide_eq_true_eq]at h1
   refine⟨ha,fun x hx=> ?_⟩
   rcases List.mem_cons.1 hx with rfl|hx
   ·exact h1.1
   ·exact h2 x hx
  ·rename_i ha;exact absurd h ha
structure Rt(t:aF):Prop where
 items:∀ x,x ∈ t.items ->right x=true
 tail:∀ x,x ∈ t.tail ->right x=true
 kind:1 <=t.knd /\ t.knd <=7
 int:t.knd=1 ->wr t=true
 rest:t.knd ≠ 1 ->t.neg=false /\ t.limbs=[] /\ (t.knd ≠ 2 ->t.text=[]) /\ (t.knd ≠ 7 ->t.tail=[]) /\ (t.knd=2 \/ t.knd=6 \/ t.knd=7 ->t.num=0) /\ (t.knd=2 \/ t.knd=3 \/ t.knd=5 ->t.items=[])
 list:t.knd=7 ->t.tail.length <=1 /\ t.tail.length <=t.items.length /\ ∀ x,x ∈ t.tail ->x.knd ≠ 7
theorem A2k{t:aF}(h:wr t=true):t.knd=1 /\ t.text=[] /\ t.num=0 /\ t.items=[] /\ t.tail=[] /\ t.limbs.length <=32 /\ (t.limbs=[] ->t.neg=false) /\ (t.limbs ≠ [] ->A1u t.limbs=true):=by
 simp only[wr,Bool.and_eq_true,Bool.or_eq_true,decide_eq_true_eq,Bool.not_eq_true']at h
 obtain⟨⟨⟨⟨⟨h1,h2⟩,h3⟩,h4⟩,h5⟩,h6⟩:=h
 refine⟨h1,h2,h3,List.eq_nil_of_length_eq_zero (by omega),List.eq_nil_of_length_eq_zero (by omega),by omega,fun hl=> ?_,fun hl=> ?_⟩
 ·rcases h6 with h6|h6
  ·exact h6.2
  ·rw[hl]at h6;simp at h6
 ·rcases h6 with h6|h6
  ·have:t.limbs.length=0:=by have:=h6.1;omega
   exact absurd (List.eq_nil_of_length_eq_zero this) hl
  ·exact h6.2
theorem lJ{t:aF}{a b c d:Bool}(h:bare t a b c d=true):t.neg=false /\ t.limbs=[] /\ (a=false ->t.text=[]) /\ (b=false ->t.num=0) /\ (c=false ->t.items=[]) /\ (d=false ->t.tail=[]):=by
 simp only[bare,Bool.and_eq_true,Bool.or_eq_true,decide_eq_true_eq,Bool.not_eq_true']at h
 obtain⟨⟨⟨⟨⟨h1,h2⟩,h3⟩,h4⟩,h5⟩,h6⟩:=h
 refine⟨h1,List.eq_nil_of_length_eq_zero (by omega),fun e=> ?_,fun e=> ?_,fun e=> ?_,fun e=> ?_⟩
 ·subst e;simpa using h3
 ·subst e;simpa using h4
 ·subst e;simp at h5;exact h5
 ·subst e;simp at h6;exact h6
theorem mS{t:aF}(h:right t=true):Rt t:=by
 simp only[right,decide_eq_true_eq]at h
 rw[gO]at h
 by_cases h1:t.knd=1
 ·rw[if_pos h1]at h
  split at h
  ·rename_i hw
   obtain⟨_,w2,w3,w4,w5,w6,w7,w8⟩:=A2k hw
   refine⟨fun x hx=> (by rw[w4]at hx;cases hx),fun x hx=> (by rw[w5]at hx;cases hx),by omega,fun _=>hw,fun e=>absurd h1 e,fun e=>by omega⟩
  ·omega
 ·rw [if_neg h1]at h
  split at h
  ·rename_i hf
   obtain⟨f1,f2⟩:=hH _ _ hf
   obtain⟨f3,f4⟩:=hH _ _ f1
   simp only at f3
   refine⟨fun x hx=>by simp[right,f4 x hx],fun x hx=>by simp[right,f2 x hx],?_,fun e=>absurd e h1,fun _=> ?_,fun h7=> ?_⟩
   ·have:=t.knd_nn
    unfold head at f3
    by_cases e2:t.knd=2
    ·omega
    by_cases e3:t.knd=3 \/ t.knd=5
    ·omega
    by_cases e4:t.knd=4
    ·omega
    by_cases e6:t.knd=6
    ·omega
    by_cases e7:t.knd=7
    ·omega
    simp[e2,e3,e4,e6,e7]at f3
   ·unfold head at f3
    by_cases e2:t.knd=2
    ·rw[if_pos e2]at f3
     simp only[Bool.and_eq_true]at f3
     obtain⟨b1,b2,b3,b4,b5,b6⟩:=lJ f3.1
     exact⟨b1,b2,fun e=>absurd e2 e,fun _=>b6 rfl,fun _=>b4 rfl,fun _=>b5 rfl⟩
    rw[if_neg e2]at f3
    by_cases e3:t.knd=3 \/ t.knd=5
    ·rw[if_pos e3]at f3
     simp only[Bool.and_eq_true]at f3
     obtain⟨b1,b2,b3,b4,b5,b6⟩:=lJ f3.1.1
     exact⟨b1,b2,fun _=>b3 rfl,fun _=>b6 rfl,fun e=>by omega,fun _=>b5 rfl⟩
    rw[if_neg e3]at f3
    by_cases e4:t.knd=4
    ·rw[if_pos e4]at f3
     simp only[Bool.and_eq_true]at f3
     obtain⟨b1,b2,b3,b4,b5,b6⟩:=lJ f3.1.1
     exact⟨b1,b2,fun _=>b3 rfl,fun _=>b6 rfl,fun e=>by omega,fun e=>by omega⟩
    rw[if_neg e4]at f3
    by_cases e6:t.knd=6
    ·rw[if_pos e6]at f3
     obtain⟨b1,b2,b3,b4,b5,b6⟩:=lJ f3
     exact⟨b1,b2,fun _=>b3 rfl,fun _=>b6 rfl,fun _=>b4 rfl,fun e=>by omega⟩
    rw[if_neg e6]at f3
    by_cases e7:t.knd=7
    ·rw[if_pos e7]at f3
     simp only[Bool.and_eq_true]at f3
     obtain⟨b1,b2,b3,b4,b5,b6⟩:=lJ f3.1.1
     exact⟨b1,b2,fun _=>b3 rfl,fun e=>absurd e7 e,fun _=>b4 rfl,fun e=>by omega⟩
    rw[if_neg e7]at f3
    cases f3
   ·unfold head at f3
    rw[if_neg (by omega),if_neg (by omega),if_neg (by omega),if_neg (by omega),if_pos h7]at f3
    simp only[Bool.and_eq_true,decide_eq_true_eq,List.all_eq_true]at f3
    obtain⟨⟨_,f5⟩,f6⟩:=f3
    refine⟨?_,?_,fun x hx=>f6 x hx⟩
    ·split at f5 <;>omega
    ·split at f5 <;>omega
  ·omega
def B0g(ks ts:List aF):aF:= .mk 7 false [] [] 0 ks ts
def D3e(t:aF):aF:=match t.tail with|[]=>B0g [] []|x::_=>x
end
section
structure Shp where
 word:List UInt8
 fields:List UInt8
 next:Bool
 deriving DecidableEq
def D6r:List Shp:=[⟨[],[],false⟩,
 ⟨[99,111,110,115,116],[97,107],true⟩,
 ⟨[109,111,118,101],[97,98],true⟩,
 ⟨[116,117,112,108,101],[97,115],true⟩,
 ⟨[99,111,110,115],[97,98,99],true⟩,
 ⟨[102,117,110],[97,102,115],true⟩,
 ⟨[99,97,108,108],[97,102,115],true⟩,
 ⟨[116,97,105,108],[102,115],false⟩,
 ⟨[97,112,112,108,121],[97,98,115],true⟩,
 ⟨[116,97,105,108,102,117,110],[98,115],false⟩,
 ⟨[98,105,102],[97,116,115],true⟩,
 ⟨[114,101,116,117,114,110],[98],false⟩,
 ⟨[106,117,109,112],[108],false⟩,
 ⟨[105,115,116,117,112,108,101],[98,110,108],true⟩,
 ⟨[105,115,99,111,110,115],[98,108],true⟩,
 ⟨[105,115,99,111,110,115,116],[98,107,108],true⟩,
 ⟨[105,115,115,97,109,101],[98,99,108],true⟩,
 ⟨[101,108,101,109],[97,98,110],true⟩,
 ⟨[104,101,97,100],[97,98],true⟩,
 ⟨[114,101,115,116],[97,98],true⟩,
 ⟨[103,117,97,114,100],[97,116,115,108],true⟩,
 ⟨[114,101,99,101,105,118,101],[110],true⟩,
 ⟨[110,101,120,116],[97,108],true⟩,
 ⟨[116,97,107,101],[],true⟩,
 ⟨[115,107,105,112],[108],false⟩,
 ⟨[116,105,109,101],[98],true⟩,
 ⟨[116,114,121],[97,108],true⟩,
 ⟨[117,110,116,114,121],[],true⟩,
 ⟨[102,97,105,108],[98],false⟩,
 ⟨[114,97,105,115,101],[98],false⟩]
def cV(op:UInt8):Shp:=(D6r[op.toNat]?).getD ⟨[],[],false⟩
def kY(i:aO)(f:UInt8):List Int:=if f=98 then[i.b]else if f=99 then[i.c]else if f=115 then i.slots else[]
def A9c(i:aO)(fs:List UInt8):List Int:=fs.flatMap (kY i)
def B0k(i:aO):List Int:=A9c i (cV i.op).fields
def cO:List (List (List UInt8)):=[[[],[],[],[]],
 [[],[116,117,112,108,101,95,116,111,95,108,105,115,116,32,108,105,115,116,95,116,111,95,116,117,112,108,101,32,97,116,111,109,95,116,111,95,108,105,115,116,32,108,105,115,116,95,116,111,95,97,116,111,109,32,105,110,116,101,103,101,114,95,116,111,95,108,105,115,116,32,108,105,115,116,95,116,111,95,105,110,116,101,103,101,114,32,114,101,118,101,114,115,101,32,115,117,109,32,115,111,114,116,32,117,115,111,114,116,32,108,97,115,116,32,116,104,114,111,119,32,101,114,114,111,114,32,101,120,105,116],[43,43,32,45,45,32,109,97,120,32,109,105,110,32,110,116,104,32,110,116,104,116,97,105,108,32,109,101,109,98,101,114,32,115,101,113],[115,101,116,101,108,101,109,101,110,116]],
 [[],[43,32,45,32,110,111,116,32,97,98,115,32,104,100,32,116,108,32,108,101,110,103,116,104,32,116,117,112,108,101,95,115,105,122,101,32,105,115,95,105,110,116,101,103,101,114,32,105,115,95,97,116,111,109,32,105,115,95,116,117,112,108,101,32,105,115,95,108,105,115,116,32,105,115,95,112,105,100,32,105,115,95,114,101,102,101,114,101,110,99,101,32,105,115,95,102,117,110,99,116,105,111,110,32,105,115,95,98,111,111,108,101,97,110],[43,32,45,32,42,32,100,105,118,32,114,101,109,32,61,61,32,47,61,32,61,58,61,32,61,47,61,32,60,32,61,60,32,62,32,62,61,32,97,110,100,32,111,114,32,120,111,114,32,101,108,101,109,101,110,116,32,105,115,95,102,117,110,99,116,105,111,110],[]],
 [[115,101,108,102,32,109,97,107,101,95,114,101,102,32,110,111,119],[115,112,97,119,110,32,115,112,97,119,110,95,108,105,110,107,32,115,112,97,119,110,95,109,111,110,105,116,111,114,32,108,105,110,107,32,117,110,108,105,110,107,32,109,111,110,105,116,111,114,32,100,101,109,111,110,105,116,111,114,32,116,114,97,112,95,101,120,105,116,32,117,110,114,101,103,105,115,116,101,114,32,119,104,101,114,101,105,115,32,112,114,105,110,116],[33,32,101,120,105,116,32,114,101,103,105,115,116,101,114],[]]]
def qU(l name:List UInt8):Bool:=Go.Lib.contains ([32]++l++[32]) ([32]++name++[32])
def mL(name:List UInt8)(arity:Nat):Nat ->List (List (List UInt8)) ->Nat
 |_,[]=>0
 |k,r::rs=>if qU (r.getD arity []) name=true then k else mL name arity (k+1) rs
def eG(name:List UInt8)(arity:Nat):Nat:=if name=[] \/ 3 < arity \/ Go.Lib.contains name [32]=true then 0 else mL name arity 0 cO
def cZ(e:dA)(n:Int):Bool:=decide (0 <=n) && decide (n < e.slots)
def tN(c:cU)(i:aO):Bool:=
 if 0 <=i.n then(match c.entries[i.n.toNat]? with
  |none=>false
  |some e=>if i.op=5 then decide ((i.slots.length:Int)=e.extra)else decide (e.extra=0) && decide ((i.slots.length:Int)=e.arity))else false
def jB(op:UInt8)(n:Int):Bool:=if op=13 then decide (0 <=n) && decide (n <=4096)else if op=17 then decide (0 <=n) && decide (n < 4096)else decide (n=0)||decide (n=1)
def mZ(i:aO):Bool:=if i.op=10 then decide (eG i.text i.slots.length ≠ 0)else decide (eG i.text i.slots.length=2)||decide (i.text=[123,125])||(decide (i.text=[124]) && decide (i.slots.length=2))
def cR(c:cU)(e:dA)(b z:Int)(i:aO)(f:UInt8):Bool:=
 if f=97 then cZ e i.a else if f=98 then cZ e i.b else if f=99 then cZ e i.c
 else if f=107 then decide (0 <=i.n) && decide (i.n < c.consts.length)
 else if f=102 then tN c i else if f=110 then jB i.op i.n else if f=116 then mZ i
 else if f=115 then decide (i.slots.length <=4096) && i.slots.all (cZ e)else if f=108 then decide (b <=i.l) && decide (i.l < z)else true
def oB(i:aO)(fs:List UInt8):Bool:=
 (fs.contains 97||decide (i.a=0)) && (fs.contains 98||decide (i.b=0)) && (fs.contains 99||decide (i.c=0)) &&
 ((fs.contains 107||fs.contains 102||fs.contains 110)||decide (i.n=0)) && (fs.contains 108||decide (i.l=0)) && (fs.contains 116||decide (i.text=[])) && (fs.contains 115||decide (i.slots.length=0))
def cS(c:cU)(e:dA)(b z:Int)(i:aO):Bool:= !((cV i.op).word==[]) && ((cV i.op).fields.all (cR c e b z i) && oB i (cV i.op).fields)
def cB(c:cU)(b z:Int)(e:dA):Bool:=
 decide (e.pos=b) && decide (b < z) && decide (z <=c.instrs.length) && decide (e.name.length <=40) && decide (0 <=e.extra) && decide (e.extra <=e.arity) && decide (e.arity <=12) && decide (e.arity <=e.slots) && decide (e.slots <=1000)
def oH(c:cU):List dA ->Int
 |[]=>c.instrs.length
 |e::_=>e.pos
def sZ(c:cU)(b z:Int):List aO:=(c.instrs.take z.toNat).drop b.toNat
def bA(c:cU):Int ->List dA ->Bool
 |_,[]=>true
 |b,e::r=>cB c b (oH c r) e && ((sZ c b (oH c r)).all (cS c e b (oH c r)) && bA c (oH c r) r)
def cQ(c:cU):Bool:=
 decide (c.entries.length <=16384) && decide (c.instrs.length <=16384) && decide (c.consts.length <=16384) && !(decide (c.entries=[]) && !decide (c.instrs=[])) && (c.consts.all right && bA c 0 c.entries)
theorem B2d{c:cU}{e:dA}{b z:Int}{i:aO}{f:UInt8}(h:cR c e b z i f=true):∀ n,n ∈ kY i f ->cZ e n=true:=by
 intro n hn
 unfold kY at hn
 split at hn
 ·rename_i hf;subst hf;simp at hn;subst hn;simpa [cR] using h
 split at hn
 ·rename_i hf;subst hf;simp at hn;subst hn;simpa [cR] using h
 split at hn
 ·rename_i hf;subst hf
  simp only[cR,show((115:UInt8)=97)=False from by decide,show((115:UInt8)=98)=False from by decide,show((115:UInt8)=99)=False from by decide,show((115:UInt8)=107)=False from by decide,show((115:UInt8)=102)=False from by decide,show((115:UInt8)=110)=False from by decide,show((115:UInt8)=116)=False from by decide,if_false,if_true,Bool.and_eq_true,List.all_eq_true]at h
  exact h.2 n hn
 ·simp at hn
theorem C1o{c:cU}{e:dA}{b z:Int}{i:aO}(h:cS c e b z i=true):∀ n,n ∈ B0k i ->cZ e n=true:=by
 simp only[cS,Bool.and_eq_true,List.all_eq_true]at h
 intro n hn
 unfold B0k A9c at hn
 obtain⟨f,hf,hn⟩:=List.mem_flatMap.1 hn
 exact B2d (h.2.1 f hf) n hn
theorem C6s{c:cU}{e:dA}{b z:Int}{i:aO}(h:cS c e b z i=true)(hl:(cV i.op).fields.contains 108=true):b <=i.l /\ i.l < z:=by
 simp only[cS,Bool.and_eq_true,List.all_eq_true]at h
 have h2:=h.2.1 108 (by simpa using hl)
 simpa [cR] using h2
end
set_option maxRecDepth 20000
section
variable (G:Nat ->AV)
def val:List UInt32 ->Nat
 |[]=>0
 |x::l=>x.toNat+4294967296*val l
end
section
def D4k(n:Nat):List UInt8:=if h:n=0 then[]else UInt8.ofNat (48+n % 10)::D4k (n / 10)
termination_by n
decreasing_by omega
def D4j(n:Nat):List UInt8:=if n=0 then[48]else(D4k n).reverse
def D7m(t:aF):List UInt8:=(if t.neg=true then[45]else[])++D4j (val t.limbs)
def D1s(n:Int):List UInt8:=(if n < 0 then[45]else[])++D4j n.natAbs
def D7l:List (List UInt8):=[[97,102,116,101,114],[97,110,100],[97,110,100,97,108,115,111],[98,101,103,105,110],[99,97,115,101],[100,105,118],[101,110,100],[102,117,110],[105,102],[110,111,116],[111,102],[111,114],[111,114,101,108,115,101],[114,101,99,101,105,118,101],[114,101,109],[116,114,121],[99,97,116,99,104],[119,104,101,110],[120,111,114]]
def D1n(c:UInt8):Bool:=decide (97 <=c.toNat) && decide (c.toNat <=122)||decide (65 <=c.toNat) && decide (c.toNat <=90)||decide (48 <=c.toNat) && decide (c.toNat <=57)||decide (c.toNat=95)||decide (c.toNat=64)
def D2r(s:List UInt8):Bool:=match s with
 |[]=>false
 |c::_=>decide (97 <=c.toNat) && decide (c.toNat <=122) && !D7l.contains s && s.all D1n
def D5d(n:Nat):UInt8:=if n < 10 then UInt8.ofNat (48+n)else UInt8.ofNat (87+n)
def D8u(c:UInt8):List UInt8:=
 if c.toNat=39 \/ c.toNat=92 then[92,c]
 else if c.toNat=10 then[92,110]
 else if c.toNat < 32 \/ 126 < c.toNat then[92,120,D5d (c.toNat / 16),D5d (c.toNat % 16)]
 else[c]
def D2v(s:List UInt8):List UInt8:=39::(s.flatMap D8u++[39])
def D4b(s:List UInt8):List UInt8:=if D2r s=true then s else D2v s
mutual
def C8a:aF ->List UInt8
 | .mk k g l s n ks ts=>
  if(k.toNat:Int)=1 then D7m (.mk k g l s n ks ts)
  else if(k.toNat:Int)=2 then D4b s
  else if(k.toNat:Int)=3 then[35,82,101,102,60]++D1s n++[62]
  else if(k.toNat:Int)=4 then[35,70,117,110,60]++D1s n++[62]
  else if(k.toNat:Int)=5 then[60]++D1s n++[62]
  else if(k.toNat:Int)=6 then[123]++(C9o ks++C1v ts)++[125]
  else[91]++(C9o ks++C1v ts)++[93]
def C9o:List aF ->List UInt8
 |[]=> []
 |x::l=>C8a x++C9p l
def C9p:List aF ->List UInt8
 |[]=> []
 |x::l=>44::(C8a x++C9p l)
def C1v:List aF ->List UInt8
 |[]=> []
 |x::l=>124::(C8a x++C1v l)
end
def text(t:aF):List UInt8:=if right t=true then C8a t else[]
abbrev okC(c:UInt8):Prop:=32 <=c.toNat /\ c.toNat <=126
def okS(s:List UInt8):Prop:=∀ c,c ∈ s ->okC c
theorem okS.append{a b:List UInt8}(h:okS a)(k:okS b):okS (a++b):=fun c hc=> (List.mem_append.1 hc).elim (h c) (k c)
theorem okS.cons{c:UInt8}{b:List UInt8}(h:okC c)(k:okS b):okS (c::b):=fun d hd=> (List.mem_cons.1 hd).elim (fun e=>e ▸ h) (k d)
theorem okS.nil:okS []:=fun c hc=>by cases hc
def D7n:aF:= .mk 0 false [] [] 0 [] []
def C9e(h t:aF):aF:=if t.knd=7 then B0g (h::t.items) t.tail else B0g [h] [t]
def cons(h t:aF):aF:=if right h=true /\ right t=true /\ right (C9e h t)=true then C9e h t else D7n
def split(t:aF):Option (aF × aF):=if right t=true /\ t.knd=7 then(match t.items with
 |[]=>none
 |[x]=>some (x,D3e t)
 |x::l=>some (x,B0g l t.tail))else none
end
section
open Go Go.RowKit
end
set_option maxRecDepth 20000
section
variable (G:Nat ->AV)
end
set_option maxRecDepth 20000
section
variable (G:Nat ->AV)
def B5j(s t:List UInt8)(i:Nat):Prop:=t.length=s.length /\ ∀ k,k < s.length ->t[k]? =if k < i \/ s.length - i <=k then s[s.length - 1 - k]? else s[k]?
theorem B5j.done{s t:List UInt8}{i:Nat}(h:B5j s t i)(hi:s.length <=i+i+1):t=s.reverse:=by
 obtain⟨h1,h2⟩:=h
 refine List.ext_getElem? fun k=> ?_
 by_cases hk:k < s.length
 ·rw[h2 k hk,List.getElem?_reverse hk]
  split
  ·rfl
  ·congr 1;omega
 ·rw[List.getElem?_eq_none (by omega),List.getElem?_eq_none (by simp;omega)]
end
set_option maxRecDepth 20000
section
variable (G:Nat ->AV)
def D6b(k i:Int):aF:= .mk 0 false [] [] (C9k k i) [] []
def C6v(k i:Nat):List AV:=(List.range i).map fun(i:Nat)=> (D6b k (i:Int)).enc
def C0v:List AV:=C6v 1 12
def aF.lent:aF ->AV
 | .mk k g l s n ks ts=> .agg [.int .u8 k.toNat, .bool g,wH l, .str s, .int .i64 n, .sl .none (ks.map aF.lent) C0v, .sl .none (ts.map aF.lent) C0v]
def yZ(l:List aF):AV:= .sl .none (l.map aF.lent) C0v
theorem aF.flat_lent(t:aF):flat t.lent=[.int .u8 t.knd, .bool t.neg,wH t.limbs, .str t.text, .int .i64 t.num,yZ t.items,yZ t.tail]:=by
 cases t;simp[aF.lent,flat,aF.knd,aF.kind,aF.neg,aF.limbs,aF.text,aF.num,aF.items,aF.tail,yZ]
theorem aF.fold_lent(t:aF):AV.agg [.int .u8 t.knd, .bool t.neg,wH t.limbs, .str t.text, .int .i64 t.num,yZ t.items,yZ t.tail]=t.lent:=by
 cases t;simp[aF.lent,aF.knd,aF.kind,aF.neg,aF.limbs,aF.text,aF.num,aF.items,aF.tail,yZ]
theorem LeE.le{a b:aF}(h:uU (flat a.lent) (flat b.enc)):Le a.lent b.enc:=by
 rw[<- a.fold_lent,<- b.fold_enc]
 rw[a.flat_lent,b.flat_enc]at h
 exact Le.agg h (fun d hd=>by simp at hd;rcases hd with rfl|rfl|rfl|rfl|rfl|rfl|rfl <;>rfl)
end
set_option maxRecDepth 20000
section
variable (G:Nat ->AV)
end
set_option maxRecDepth 20000
section
variable (G:Nat ->AV)
end
section
def back:List UInt8 ->Nat
 |[]=>0
 |c::l=> (c.toNat - 48)+10*back l
end
end Go.Proofs.YthoenjlenkpnnaaDoor
