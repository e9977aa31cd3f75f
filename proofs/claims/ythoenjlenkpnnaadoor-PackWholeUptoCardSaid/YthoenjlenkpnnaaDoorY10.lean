/- Which names are built in: words within a text, plainly. -/
import Derived.Test.YthoenjlenkpnnaaDoorY09
import Derived.Lib.IndexMore
import Derived.Test.YthoenjlenkpnnaaDoorY06
import Derived.Test.YthoenjlenkpnnaaDoorY08
set_option linter.unusedVariables false
set_option linter.unusedSimpArgs false
set_option linter.defProp false
namespace Go.Proofs.YthoenjlenkpnnaaDoor
open Go Go.Av
section
theorem qO(s sub:List UInt8):Lib.contains s sub=true ↔ ∃ a b,s=a++(sub++b):=by
 unfold Lib.contains
 rw[decide_eq_true_eq]
 constructor
 ·intro h
  rcases Lib.index_spec s sub with⟨h1,_⟩|⟨i,h1,h2,h3,_⟩
  ·omega
  ·unfold Lib.occAt at h3
   obtain⟨b,hb⟩:=List.isPrefixOf_iff_prefix.1 h3
   exact⟨s.take i,b,by rw[hb,List.take_append_drop]⟩
 ·rintro⟨a,b,rfl⟩
  rcases Lib.index_spec (a++(sub++b)) sub with⟨_,h2⟩|⟨i,h1,_⟩
  ·have:=h2 a.length (by simp)
   unfold Lib.occAt at this
   rw[List.drop_left,List.isPrefixOf_iff_prefix.2 (List.prefix_append sub b)]at this
   cases this
  ·omega
theorem B0n:∀ (a b x y:List UInt8),(∀ c,c ∈ a ->c ≠ 32) -> (∀ c,c ∈ b ->c ≠ 32) ->a++32::x=b++32::y ->a=b /\ x=y
 |[],[],x,y,_,_,h=>by simp at h;exact⟨rfl,h⟩
 |c::a,[],x,y,ha,_,h=>by simp at h;exact absurd h.1 (ha c (by simp))
 |[],c::b,x,y,_,hb,h=>by simp at h;exact absurd h.1.symm (hb c (by simp))
 | c::a,d::b,x,y,ha,hb,h=>by
  simp only[List.cons_append,List.cons.injEq]at h
  obtain⟨e1,e2⟩:=B0n a b x y (fun c hc=>ha c (by simp[hc])) (fun c hc=>hb c (by simp[hc])) h.2
  exact⟨by rw[h.1,e1],e2⟩
def gX:List (List UInt8) ->List UInt8
 |[]=> [32]
 |w::ws=>32::(w++gX ws)
theorem tT(ws:List (List UInt8)):∃ y,gX ws=32::y:=by cases ws <;>exact⟨_,rfl⟩
def fY(w:List UInt8):Bool:=w.all fun c=> !(c==32)
theorem sB{w:List UInt8}(h:fY w=true):∀ c,c ∈ w ->c ≠ 32:=fun c hc=>by
 unfold fY at h
 have:=List.all_eq_true.1 h c hc
 simpa using this
theorem zH{name:List UInt8}(hn:fY name=true):∀ (ws:List (List UInt8)) (a b:List UInt8),ws.all fY=true ->gX ws=a++((32::(name++[32]))++b) ->name ∈ ws
 | [],a,b,_,h=>by
  have:=congrArg List.length h
  simp only[gX,List.length_append,List.length_cons,List.length_nil]at this
  omega
 | w::ws,[],b,hw,h=>by
  simp only[List.all_cons,Bool.and_eq_true]at hw
  obtain⟨y,hy⟩:=tT ws
  simp only[gX,hy,List.nil_append,List.cons_append,List.append_assoc,List.cons.injEq,true_and]at h
  have:=(B0n _ _ _ _ (sB hw.1) (sB hn) h).1
  rw[this];exact List.mem_cons_self
 | w ::ws,x::a,b,hw,h=>by
  simp only[List.all_cons,Bool.and_eq_true]at hw
  simp only[gX,List.cons_append,List.cons.injEq]at h
  obtain⟨_,h⟩:=h
  by_cases hl:a.length < w.length
  ·have e1:(w++gX ws)[a.length]? =some (w[a.length]):=by
    rw[List.getElem?_append_left hl,List.getElem?_eq_getElem hl]
   rw[h,List.getElem?_append_right (Nat.le_refl _),Nat.sub_self]at e1
   simp only[List.cons_append,List.getElem?_cons_zero,Option.some.injEq]at e1
   exact absurd e1.symm (sB hw.1 _ (List.getElem_mem hl))
  ·have e2:w=a.take w.length:=by
    have:=congrArg (List.take w.length) h
    rwa [List.take_left,List.take_append_of_le_length (by omega)]at this
   have e3:gX ws=a.drop w.length++((32::(name++[32]))++b):=by
    have:=congrArg (List.drop w.length) h
    rwa [List.drop_left,List.drop_append_of_le_length (by omega)]at this
   exact List.mem_cons_of_mem _ (zH hn ws _ b hw.2 e3)
theorem wT{name:List UInt8} :∀ (ws:List (List UInt8)),name ∈ ws ->∃ a b,gX ws=a++((32::(name++[32]))++b)
 | w::ws,h=>by
  rcases List.mem_cons.1 h with rfl|h
  ·obtain⟨y,hy⟩:=tT ws
   exact⟨[],y,by simp[gX,hy]⟩
  ·obtain⟨a,b,e⟩:=wT ws h
   exact⟨32::(w++a),b,by simp only[gX,e,List.cons_append,List.append_assoc]⟩
theorem A4k{l name:List UInt8}(ws:List (List UInt8))(hl:[32]++l++[32]=gX ws)(hws:ws.all fY=true)(hn:fY name=true):qU l name=ws.contains name:=by
 rw[Bool.eq_iff_iff]
 unfold qU
 rw[qO,hl,List.contains_iff_mem]
 constructor
 ·rintro⟨a,b,h⟩
  exact zH hn ws a b hws h
 ·intro h
  obtain⟨a,b,e⟩:=wT ws h
  exact⟨a,b,by rw[e];rfl⟩
theorem A7r(s:List UInt8):Lib.contains s [32]= !fY s:=by
 rw[Bool.eq_iff_iff,qO]
 constructor
 ·rintro⟨a,b,rfl⟩
  simp[fY]
 ·intro h
  have:∃ c,c ∈ s /\ c=32:=by
   have h2: ¬ (∀ c,c ∈ s ->c ≠ 32):=fun hh=>by
    have:fY s=true:=by unfold fY;rw[List.all_eq_true];intro c hc;simpa using hh c hc
    rw[this]at h;cases h
   exact Classical.byContradiction fun h3=>h2 fun c hc e=>h3 ⟨c,hc,e⟩
  obtain⟨c,hc,rfl⟩:=this
  obtain⟨a,b,e⟩:=List.append_of_mem hc
  exact⟨a,b,by rw[e];rfl⟩
def A2j:List (List (List (List UInt8))):=[[[[]],
  [[]],
  [[]],
  [[]]],
 [[[]],
  [[116,117,112,108,101,95,116,111,95,108,105,115,116],[108,105,115,116,95,116,111,95,116,117,112,108,101],[97,116,111,109,95,116,111,95,108,105,115,116],[108,105,115,116,95,116,111,95,97,116,111,109],[105,110,116,101,103,101,114,95,116,111,95,108,105,115,116],[108,105,115,116,95,116,111,95,105,110,116,101,103,101,114],[114,101,118,101,114,115,101],[115,117,109],[115,111,114,116],[117,115,111,114,116],[108,97,115,116],[116,104,114,111,119],[101,114,114,111,114],[101,120,105,116]],
  [[43,43],[45,45],[109,97,120],[109,105,110],[110,116,104],[110,116,104,116,97,105,108],[109,101,109,98,101,114],[115,101,113]],
  [[115,101,116,101,108,101,109,101,110,116]]],
 [[[]],
  [[43],[45],[110,111,116],[97,98,115],[104,100],[116,108],[108,101,110,103,116,104],[116,117,112,108,101,95,115,105,122,101],[105,115,95,105,110,116,101,103,101,114],[105,115,95,97,116,111,109],[105,115,95,116,117,112,108,101],[105,115,95,108,105,115,116],[105,115,95,112,105,100],[105,115,95,114,101,102,101,114,101,110,99,101],[105,115,95,102,117,110,99,116,105,111,110],[105,115,95,98,111,111,108,101,97,110]],
  [[43],[45],[42],[100,105,118],[114,101,109],[61,61],[47,61],[61,58,61],[61,47,61],[60],[61,60],[62],[62,61],[97,110,100],[111,114],[120,111,114],[101,108,101,109,101,110,116],[105,115,95,102,117,110,99,116,105,111,110]],
  [[]]],
 [[[115,101,108,102],[109,97,107,101,95,114,101,102],[110,111,119]],
  [[115,112,97,119,110],[115,112,97,119,110,95,108,105,110,107],[115,112,97,119,110,95,109,111,110,105,116,111,114],[108,105,110,107],[117,110,108,105,110,107],[109,111,110,105,116,111,114],[100,101,109,111,110,105,116,111,114],[116,114,97,112,95,101,120,105,116],[117,110,114,101,103,105,115,116,101,114],[119,104,101,114,101,105,115],[112,114,105,110,116]],
  [[33],[101,120,105,116],[114,101,103,105,115,116,101,114]],
  [[]]]]
theorem A7m:cO.map (fun r=>r.map fun l=> [32]++l++[32])=A2j.map (fun r=>r.map gX):=by decide+kernel
theorem A9r:A2j.all (fun r=>r.all fun ws=>ws.all fY)=true:=by decide+kernel
def yX(name:List UInt8)(arity:Nat):Nat ->List (List (List (List UInt8))) ->Nat
 |_,[]=>0
 |k,r::rs=>if(r.getD arity []).contains name=true then k else yX name arity (k+1) rs
theorem B0f{name:List UInt8}{arity:Nat}(hn:fY name=true):∀ (R:List (List (List UInt8))) (S:List (List (List (List UInt8)))) (k:Nat),R.map (fun r=>r.map fun l=> [32]++l++[32])=S.map (fun r=>r.map gX) ->
  S.all (fun r=>r.all fun ws=>ws.all fY)=true -> (∀ r,r ∈ R ->arity < r.length) ->mL name arity k R=yX name arity k S
 |[],[],_,_,_,_=>rfl
 |[],s::S,_,h,_,_=>by simp at h
 |r::R,[],_,h,_,_=>by simp at h
 | r::R,s::S,k,h,hf,ha=>by
  simp only[List.map_cons,List.cons.injEq]at h
  simp only[List.all_cons,Bool.and_eq_true]at hf
  have hr:=ha r (by simp)
  have hl:r.length=s.length:=by have:=congrArg List.length h.1;simpa using this
  obtain⟨x,hx⟩:∃ x,r[arity]? =some x:=⟨_,List.getElem?_eq_getElem hr⟩
  obtain⟨ws,hw⟩:∃ ws,s[arity]? =some ws:=⟨_,List.getElem?_eq_getElem (by omega)⟩
  have he:[32]++x++[32]=gX ws:=by
   have:=congrArg (fun l=>l[arity]?) h.1
   simp only[List.getElem?_map,hx,hw,Option.map_some,Option.some.injEq]at this
   exact this
  have hwf:ws.all fY=true:=List.all_eq_true.1 hf.1 ws (List.mem_of_getElem? hw)
  simp only[mL,yX,List.getD_eq_getElem?_getD,hx,hw,Option.getD_some]
  rw[A4k ws he hwf hn,B0f hn R S (k+1) h.2 hf.2 (fun r hr=>ha r (by simp[hr]))]
theorem A4u(name:List UInt8)(arity:Nat):eG name arity=if name=[] \/ 3 < arity \/ fY name=false then 0 else yX name arity 0 A2j:=by
 unfold eG
 rw[A7r]
 by_cases h1:name=[]
 ·rw[if_pos (.inl h1),if_pos (.inl h1)]
 by_cases h2:3 < arity
 ·rw[if_pos (.inr (.inl h2)),if_pos (.inr (.inl h2))]
 cases h3:fY name with
 |false=>rw[if_pos (.inr (.inr rfl)),if_pos (.inr (.inr rfl))]
 | true=>
  rw[if_neg (by simp[h1,h2]),if_neg (by simp[h1,h2])]
  exact B0f h3 _ _ _ A7m A9r (by
   have:cO.all (fun r=>decide (r.length=4))=true:=by decide+kernel
   intro r hr
   have:=List.all_eq_true.1 this r hr
   simp only[decide_eq_true_eq]at this
   omega)
def tA(w:List UInt8):Bool:=decide (w.length <=40) && fY w
theorem A6g:A2j.all (fun r=>r.all fun ws=>ws.all tA)=true:=by decide+kernel
theorem yY{name:List UInt8}{arity:Nat} :∀ (S:List (List (List (List UInt8)))) (k:Nat),yX name arity k S ≠ 0 -> (S.all (fun r=>r.all fun ws=>ws.all tA)=true) ->tA name=true
 |[],k,h,_=>absurd rfl h
 | s ::S,k,h,hs=>by
  simp only[List.all_cons,Bool.and_eq_true]at hs
  simp only[yX]at h
  split at h
  ·rename_i hc
   rw[List.contains_iff_mem]at hc
   rw[List.getD_eq_getElem?_getD]at hc
   cases hx:s[arity]? with
   |none=>rw[hx]at hc;simp at hc
   | some ws=>
    rw[hx]at hc
    exact List.all_eq_true.1 (List.all_eq_true.1 hs.1 ws (List.mem_of_getElem? hx)) name hc
  ·exact yY S (k+1) h hs.2
theorem pM{name:List UInt8}{arity:Nat}(h:eG name arity ≠ 0):tA name=true:=by
 rw[A4u]at h
 split at h
 ·exact absurd rfl h
 ·exact yY _ _ h A6g
end
section
theorem A5x{i:aO}(h:mZ i=true):tA i.text=true:=by
 unfold mZ at h
 split at h
 ·exact pM (of_decide_eq_true h)
 ·simp only[Bool.or_eq_true,Bool.and_eq_true,decide_eq_true_eq]at h
  rcases h with(h|h)|h
  ·exact pM (arity:=i.slots.length) (by rw[h];decide)
  ·rw[h];decide
  ·rw[h.1];decide
theorem jX{p:UInt8 ->Bool}(h:∀ k:Fin 256,p (UInt8.ofNat k)=true)(op:UInt8):p op=true:=by
 have:=h ⟨op.toNat,op.toNat_lt⟩
 simpa using this
end
section
def D2w:List (List UInt8):=[[99,111,110,115,116],[109,111,118,101],[116,117,112,108,101],[99,111,110,115],[102,117,110],[99,97,108,108],[116,97,105,108],[97,112,112,108,121],[116,97,105,108,102,117,110],[98,105,102],[114,101,116,117,114,110],[106,117,109,112],[105,115,116,117,112,108,101],[105,115,99,111,110,115],[105,115,99,111,110,115,116],[105,115,115,97,109,101],[101,108,101,109],[104,101,97,100],[114,101,115,116],[103,117,97,114,100],[114,101,99,101,105,118,101],[110,101,120,116],[116,97,107,101],[115,107,105,112],[116,105,109,101],[116,114,121],[117,110,116,114,121],[102,97,105,108],[114,97,105,115,101]]
def D8v:List (List UInt8):=[[65,78],[65,66],[65,83],[65,66,67],[65,78,83],[65,78,83],[78,83],[65,66,83],[66,83],[65,84,83],[66],[76],[66,78,76],[66,76],[66,78,76],[66,67,76],[65,66,78],[65,66],[65,66],[65,84,83,76],[78],[65,76],[],[76],[66],[65,76],[],[66],[66]]
def rW(op:UInt8):List UInt8:=if op.toNat < 1 \/ 29 < op.toNat then[]else D2w.getD (op.toNat - 1) []
def rF(op:UInt8):List UInt8:=if op.toNat < 1 \/ 29 < op.toNat then[]else D8v.getD (op.toNat - 1) []
def rH(op c:UInt8):Bool:=(rF op).contains c
def nsg(op:UInt8):UInt8:=if op=1 \/ op=15 then 107 else if op=5 \/ op=6 \/ op=7 then 102 else 110
def wK(p:Bool)(c:UInt8):List UInt8:=if p=true then[c]else[]
def yW(op:UInt8):List UInt8:=wK (rH op 65) 97++(wK (rH op 66) 98++(wK (rH op 67) 99++(wK (rH op 78) (nsg op)++(wK (rH op 84) 116++(wK (rH op 83) 115++wK (rH op 76) 108)))))
theorem A1c:∀ k:Fin 256,decide ((cV (UInt8.ofNat k)).fields=yW (UInt8.ofNat k))=true:=by decide+kernel
theorem tJ(op:UInt8):(cV op).fields=yW op:=of_decide_eq_true (jX (p:=fun op=>decide ((cV op).fields=yW op)) A1c op)
theorem A9q:∀ k:Fin 256,decide ((cV (UInt8.ofNat k)).word=rW (UInt8.ofNat k))=true:=by decide+kernel
theorem B4v(op:UInt8):(cV op).word=rW op:=of_decide_eq_true (jX (p:=fun op=>decide ((cV op).word=rW op)) A9q op)
theorem C7m{α:Type}(p:Bool)(c:UInt8)(f:UInt8 ->List α):(wK p c).flatMap f=if p=true then f c else[]:=by
 cases p <;>simp[wK]
theorem B8k{α:Type}(op:UInt8)(f:UInt8 ->List α):(yW op).flatMap f=(if rH op 65=true then f 97 else[])++((if rH op 66=true then f 98 else[])++((if rH op 67=true then f 99 else[])++((if rH op 78=true then f (nsg op)else[])++((if rH op 84=true then f 116 else[])++((if rH op 83=true then f 115 else[])++(if rH op 76=true then f 108 else[])))))):=by
 unfold yW;simp only[List.flatMap_append,C7m]
theorem B3s(op:UInt8):nsg op=107 \/ nsg op=102 \/ nsg op=110:=by
 unfold nsg;split
 ·exact .inl rfl
 split
 ·exact .inr (.inl rfl)
 ·exact .inr (.inr rfl)
def pX(i:aO):List Int:=(if rH i.op 66=true then[i.b]else[])++((if rH i.op 67=true then[i.c]else[])++(if rH i.op 83=true then i.slots else[]))
theorem C1n(i:aO):B0k i=pX i:=by
 unfold B0k A9c pX
 rw[tJ,B8k]
 have h1:kY i 97=[]:=rfl
 have h2:kY i 98=[i.b]:=rfl
 have h3:kY i 99=[i.c]:=rfl
 have h4:kY i (nsg i.op)=[]:=by rcases B3s i.op with h|h|h <;>rw[h] <;>rfl
 have h5:kY i 116=[]:=rfl
 have h6:kY i 115=i.slots:=rfl
 have h7:kY i 108=[]:=rfl
 rw[h1,h2,h3,h4,h5,h6,h7]
 simp only[ite_self,List.nil_append,List.append_nil]
theorem A8r:∀ k:Fin 256,decide ((cV (UInt8.ofNat k)).fields.contains 108=rH (UInt8.ofNat k) 76)=true:=by decide+kernel
theorem zA(op:UInt8):(cV op).fields.contains 108=rH op 76:=of_decide_eq_true (jX (p:=fun op=>decide ((cV op).fields.contains 108=rH op 76)) A8r op)
def rB(i:aO):Bool:=(rH i.op 65||decide (i.a=0)) && (rH i.op 66||decide (i.b=0)) && (rH i.op 67||decide (i.c=0)) && (rH i.op 78||decide (i.n=0)) && (rH i.op 76||decide (i.l=0)) && (rH i.op 84||decide (i.text=[])) && (rH i.op 83||decide (i.slots.length=0))
def wN(c:cU)(i:aO):Bool:=
 if i.op=1 \/ i.op=15 then decide (0 <=i.n) && decide (i.n < c.consts.length)
 else if i.op=5 \/ i.op=6 \/ i.op=7 then tN c i
 else if i.op=10 \/ i.op=20 then mZ i
 else if i.op=13 \/ i.op=17 \/ i.op=21 then jB i.op i.n else true
def A8z(c:cU)(e:dA)(b z:Int)(i:aO):Bool:=
 !decide (rW i.op=[]) && rB i && decide (i.slots.length <=4096) && wN c i && !(rH i.op 76 && (decide (i.l < b)||decide (z <=i.l))) && !(decide (i.a < 0)||(decide (e.slots <=i.a) && rH i.op 65)) && (pX i).all (cZ e)
theorem vT:∀ k:Fin 256,(decide ((cV (UInt8.ofNat k)).fields.contains 97=rH (UInt8.ofNat k) 65) && decide ((cV (UInt8.ofNat k)).fields.contains 98=rH (UInt8.ofNat k) 66) && decide ((cV (UInt8.ofNat k)).fields.contains 99=rH (UInt8.ofNat k) 67) && decide (((cV (UInt8.ofNat k)).fields.contains 107||(cV (UInt8.ofNat k)).fields.contains 102||(cV (UInt8.ofNat k)).fields.contains 110)=rH (UInt8.ofNat k) 78) && decide ((cV (UInt8.ofNat k)).fields.contains 116=rH (UInt8.ofNat k) 84) && decide ((cV (UInt8.ofNat k)).fields.contains 115=rH (UInt8.ofNat k) 83))=true:=by decide+kernel
theorem C3v(i:aO):oB i (cV i.op).fields=rB i:=by
 have h:=jX (p:=fun op=> (decide ((cV op).fields.contains 97=rH op 65) && decide ((cV op).fields.contains 98=rH op 66) && decide ((cV op).fields.contains 99=rH op 67) && decide (((cV op).fields.contains 107||(cV op).fields.contains 102||(cV op).fields.contains 110)=rH op 78) && decide ((cV op).fields.contains 116=rH op 84) && decide ((cV op).fields.contains 115=rH op 83))) vT i.op
 simp only[Bool.and_eq_true,decide_eq_true_eq]at h
 obtain⟨⟨⟨⟨⟨h1,h2⟩,h3⟩,h4⟩,h5⟩,h6⟩:=h
 unfold oB rB
 rw[h1,h2,h3,h4,h5,h6,zA]
def opt(p b:Bool):Bool:= !p||b
theorem C7l(p:Bool)(c:UInt8)(f:UInt8 ->Bool):(wK p c).all f=opt p (f c):=by cases p <;>simp[wK,opt]
def mQ(op:UInt8):Bool:=
 decide (rH op 78=(decide (op=1)||decide (op=15)||decide (op=5)||decide (op=6)||decide (op=7)||decide (op=13)||decide (op=17)||decide (op=21))) && decide (rH op 84=(decide (op=10)||decide (op=20)))
theorem sM:∀ k:Fin 256,mQ (UInt8.ofNat k)=true:=by decide+kernel
theorem C0z(c:cU)(e:dA)(b z:Int)(i:aO):(opt (rH i.op 78) (cR c e b z i (nsg i.op)) && opt (rH i.op 84) (cR c e b z i 116))=wN c i:=by
 have h:=jX (p:=mQ) sM i.op
 unfold mQ at h
 simp only[Bool.and_eq_true,decide_eq_true_eq]at h
 obtain⟨h1,h2⟩:=h
 have f1:cR c e b z i 107=(decide (0 <=i.n) && decide (i.n < c.consts.length)):=rfl
 have f2:cR c e b z i 102=tN c i:=rfl
 have f3:cR c e b z i 110=jB i.op i.n:=rfl
 have f4:cR c e b z i 116=mZ i:=rfl
 unfold wN nsg
 rw[h1,h2,f4]
 by_cases k1:i.op=1 \/ i.op=15
 ·rw[if_pos k1,if_pos k1,f1]
  rcases k1 with k|k <;>simp[k,opt]
 rw[if_neg k1,if_neg k1]
 by_cases k2:i.op=5 \/ i.op=6 \/ i.op=7
 ·rw[if_pos k2,if_pos k2,f2]
  rcases k2 with k|k|k <;>simp[k,opt]
 rw[if_neg k2,if_neg k2,f3]
 simp only[not_or]at k1 k2
 by_cases k3:i.op=10 \/ i.op=20
 ·rw[if_pos k3]
  rcases k3 with k|k <;>simp[k,opt]
 rw[if_neg k3]
 by_cases k4:i.op=13 \/ i.op=17 \/ i.op=21
 ·rw[if_pos k4]
  rcases k4 with k|k|k <;>simp[k,opt]
 rw[if_neg k4]
 simp only[not_or]at k3 k4
 simp[k1,k2,k3,k4,opt]
theorem C1r(c:cU)(e:dA)(b z:Int)(i:aO):cS c e b z i=A8z c e b z i:=by
 unfold cS
 rw[C3v,B4v,tJ]
 unfold yW
 simp only[List.all_append,C7l]
 have hn:=C0z c e b z i
 have f1:cR c e b z i 97=cZ e i.a:=rfl
 have f2:cR c e b z i 98=cZ e i.b:=rfl
 have f3:cR c e b z i 99=cZ e i.c:=rfl
 have f6:cR c e b z i 115=(decide (i.slots.length <=4096) && i.slots.all (cZ e)):=rfl
 have f7:cR c e b z i 108=(decide (b <=i.l) && decide (i.l < z)):=rfl
 rw[f1,f2,f3,f6,f7]
 unfold A8z pX
 rw[<- hn]
 have hw:(rW i.op==[])=decide (rW i.op=[]):=by
  rw[Bool.eq_iff_iff];simp
 rw[hw]
 generalize cR c e b z i (nsg i.op)=x at*
 generalize cR c e b z i 116=y at*
 unfold rB
 rw[Bool.eq_iff_iff]
 cases rH i.op 65 <;>cases rH i.op 66 <;>cases rH i.op 67 <;>cases rH i.op 78 <;>cases rH i.op 84 <;>cases rH i.op 83 <;>cases rH i.op 76 <;>
  simp only[opt,cZ,Bool.not_true,Bool.not_false,Bool.false_or,Bool.true_or,Bool.true_and,Bool.false_and,Bool.and_true,Bool.and_false,if_true,if_false,Bool.false_eq_true,List.nil_append,List.append_nil,List.cons_append,List.all_cons,List.all_nil,Bool.and_eq_true,Bool.or_eq_true,Bool.not_eq_true',Bool.or_eq_false_iff,Bool.and_eq_false_iff,decide_eq_true_eq,decide_eq_false_iff_not,Bool.or_false] <;>
  constructor <;>intro h <;>simp_all <;>omega
end
section
def bU:Nat ->Nat ->List UInt8
 |0,_=> []
 |s+1,n=>UInt8.ofNat (n / 256 ^ s)::bU s n
def jE(l:List UInt8):Nat:=l.foldl (fun n c=>n*256+c.toNat) 0
theorem bC:∀ s n,(bU s n).length=s
 |0,_=>rfl
 |s+1,n=>by simp only[bU,List.length_cons,bC s n]
theorem sY:∀ (l:List UInt8) (a:Nat),l.foldl (fun n c=>n*256+c.toNat) a=a*256 ^ l.length+jE l
 |[],a=>by simp[jE]
 | c::l,a=>by
  have h1:=sY l (a*256+c.toNat)
  have h2:=sY l (0*256+c.toNat)
  unfold jE at h2 ⊢
  simp only[List.foldl_cons,List.length_cons]
  rw[h1,h2,Nat.pow_succ,Nat.add_mul,Nat.add_mul]
  simp only[Nat.zero_mul,Nat.zero_add,Nat.mul_assoc,Nat.mul_comm (256 ^ l.length) 256,Nat.add_assoc]
  rfl
theorem sX(c:UInt8)(l:List UInt8):jE (c::l)=c.toNat*256 ^ l.length+jE l:=by
 have:=sY l (0*256+c.toNat)
 unfold jE at this ⊢
 simp only[List.foldl_cons]
 rw[this];simp
theorem pH:∀ l:List UInt8,jE l < 256 ^ l.length
 |[]=>by simp[jE]
 | c::l=>by
  have h1:=pH l
  have h2:=c.toNat_lt
  rw[sX,List.length_cons,Nat.pow_succ]
  have:c.toNat*256 ^ l.length <=255*256 ^ l.length:=Nat.mul_le_mul_right _ (by omega)
  omega
theorem A6f:∀ s n,jE (bU s n)=n % 256 ^ s
 |0,n=>by simp[bU,jE,Nat.mod_one]
 | s+1,n=>by
  have hp:256 ^ (s+1)=256 ^ s*256:=Nat.pow_succ ..
  simp only[bU]
  rw[sX,A6f s n,bC,UInt8.toNat_ofNat',hp,Nat.mod_mul,show(2:Nat) ^ 8=256 from rfl,Nat.mul_comm]
  omega
theorem A9y:∀ s n m,n % 256 ^ s=m % 256 ^ s ->bU s n=bU s m
 |0,n,m,_=>rfl
 | s+1,n,m,h=>by
  have hp:0 < 256 ^ s:=Nat.pow_pos (by omega)
  rw[Nat.pow_succ,Nat.mod_mul,Nat.mod_mul]at h
  have h1:n % 256 ^ s=m % 256 ^ s:=by
   have:=congrArg (· % 256 ^ s) h
   simpa [Nat.add_mul_mod_self_left] using this
  have h2:n / 256 ^ s % 256=m / 256 ^ s % 256:=by
   rw[h1]at h
   exact Nat.eq_of_mul_eq_mul_left hp (by omega)
  simp only[bU]
  rw[A9y s n m h1]
  congr 1
  apply UInt8.toNat_inj.1
  rw[UInt8.toNat_ofNat',UInt8.toNat_ofNat'];exact h2
theorem A3p:∀ l:List UInt8,bU l.length (jE l)=l
 |[]=>rfl
 | c::l=>by
  have ih:=A3p l
  have hp:0 < 256 ^ l.length:=Nat.pow_pos (by omega)
  have hl:=pH l
  simp only[List.length_cons,bU]
  rw[sX]
  congr 1
  ·apply UInt8.toNat_inj.1
   rw[UInt8.toNat_ofNat',Nat.mul_comm,Nat.mul_add_div hp,Nat.div_eq_of_lt hl]
   have:=c.toNat_lt;omega
  ·rw[A9y l.length _ (jE l) (by rw[Nat.mul_comm,Nat.mul_add_mod]),ih]
def gK(s:List UInt8):List UInt8:=bU 1 s.length++s
def eN(b:Bool):List UInt8:=bU 1 (if b then 1 else 0)
mutual
def dS:aF ->List UInt8
 | .mk k g l s n ks ts=>bU 1 k.toNat++(
  if k=1 then eN g++(bU 1 l.length++l.flatMap fun x=>bU 4 x.toNat)
  else if k=2 then gK s
  else if k=3 \/ k=5 then bU 6 n.toNat
  else if k=4 then bU 2 n.toNat++(bU 2 ks.length++bE ks)
  else if k=6 then bU 2 ks.length++bE ks
  else if k=7 then bU 2 ks.length++bE ks++(eN (!ts.isEmpty)++bE ts)
  else[])
def bE:List aF ->List UInt8
 |[]=> []
 |t::l=>dS t++bE l
end
theorem fH(l:List aF):bE l=l.flatMap dS:=by
 induction l with
 |nil=>rfl
 |cons t l ih=>simp only[bE,List.flatMap_cons,ih]
def tO(l:List Int):List UInt8:=l.flatMap fun n=>bU 2 n.toNat
def aX(i:aO)(f:UInt8):List UInt8:=
 if f=65 then bU 2 i.a.toNat else if f=66 then bU 2 i.b.toNat else if f=67 then bU 2 i.c.toNat else if f=78 then bU 2 i.n.toNat
 else if f=84 then gK i.text else if f=83 then bU 2 i.slots.length++tO i.slots else if f=76 then bU 2 i.l.toNat else[]
def lN(i:aO):List UInt8:=bU 1 i.op.toNat++(rF i.op).flatMap (aX i)
def kG(e:dA):List UInt8:=gK e.name++(bU 1 e.arity.toNat++(bU 1 e.extra.toNat++(bU 2 e.slots.toNat++bU 2 e.pos.toNat)))
def iU:List UInt8:=[112,105,103,115]
def iI(c:cU):List UInt8:=iU++(bU 2 c.entries.length++(c.entries.flatMap kG++(bU 2 c.instrs.length++(c.instrs.flatMap lN++(bU 2 c.consts.length++bE c.consts)))))
abbrev Rd(α:Type):=List UInt8 ->Option (α × List UInt8)
def lT(n:Nat):Rd (List UInt8):=fun b=>if n <=b.length then some (b.take n,b.drop n)else none
def eV(s:Nat):Rd Nat:=fun b=>if s <=b.length then some (jE (b.take s),b.drop s)else none
def oK:Rd (List UInt8):=fun b=> (eV 1 b).bind fun(n,r)=>lT n r
def lD:Rd Bool:=fun b=> (eV 1 b).bind fun(n,r)=>if 1 < n then none else some (n==1,r)
def jZ{α:Type}(one:Rd α):Nat ->Rd (List α)
 |0=>fun b=>some ([],b)
 |n+1=>fun b=> (one b).bind fun(x,r)=> (jZ one n r).map fun(l,r')=> (x::l,r')
def fK{α:Type}(one:Rd α):Rd (List α):=fun b=> (eV 2 b).bind fun(n,r)=>jZ one n r
def jA(term:Rd aF)(k:Nat):Rd aF:=fun b=>
 if k=1 then(lD b).bind fun(g,r)=> (eV 1 r).bind fun(n,r)=> (jZ (eV 4) n r).map fun(l,r)=> (.mk 1 g (l.map UInt32.ofNat) [] 0 [] [],r)
 else if k=2 then(oK b).map fun(s,r)=> (.mk 2 false [] s 0 [] [],r)
 else if k=3 \/ k=5 then(eV 6 b).map fun(n,r)=> (.mk (UInt8.ofNat k) false [] [] n [] [],r)
 else if k=4 then(eV 2 b).bind fun(n,r)=> (fK term r).map fun(l,r)=> (.mk 4 false [] [] n l [],r)
 else if k=6 then(fK term b).map fun(l,r)=> (.mk 6 false [] [] 0 l [],r)
 else if k=7 then(fK term b).bind fun(l,r)=> (lD r).bind fun(g,r)=> (jZ term (if g then 1 else 0) r).map fun(ts,r)=> (.mk 7 false [] [] 0 l ts,r)
 else none
def gD:Nat ->Rd aF
 |0=>fun _=>none
 |f+1=>fun b=> (eV 1 b).bind fun(k,r)=>jA (gD f) k r
def nO(i:aO)(f:UInt8)(n:Nat):aO:=
 if f=65 then {i with a:=n} else if f=66 then {i with b:=n} else if f=67 then {i with c:=n} else if f=78 then {i with n:=n} else {i with l:=n}
def eE(i:aO)(f:UInt8):Rd aO:=fun b=>
 if f=65 \/ f=66 \/ f=67 \/ f=78 \/ f=76 then(eV 2 b).map fun(n,r)=> (nO i f n,r)
 else if f=84 then(oK b).map fun(s,r)=> ({i with text:=s},r)
 else if f=83 then(fK (eV 2) b).map fun(l,r)=> ({i with slots:=l.map Int.ofNat},r)
 else some (i,b)
def iG:List UInt8 ->aO ->Rd aO
 |[],i=>fun b=>some (i,b)
 |f::fs,i=>fun b=> (eE i f b).bind fun(j,r)=>iG fs j r
def sD(op:UInt8):aO:=⟨op,0,0,0,0,0,[],[]⟩
def uE:Rd aO:=fun b=> (eV 1 b).bind fun(k,r)=>if rW (UInt8.ofNat k)=[]then none else iG (rF (UInt8.ofNat k)) (sD (UInt8.ofNat k)) r
def A0y:Rd dA:=fun b=> (oK b).bind fun(s,r)=> (eV 1 r).bind fun(a,r)=> (eV 1 r).bind fun(x,r)=> (eV 2 r).bind fun(n,r)=> (eV 2 r).map fun(p,r)=> (⟨s,a,x,n,p⟩,r)
def A0v(f:Nat):Rd cU:=fun b=> (lT 4 b).bind fun(m,r)=>if m=iU then(fK A0y r).bind fun(es,r)=> (fK uE r).bind fun(is,r)=> (fK (gD f) r).map fun(cs,r)=> (⟨es,is,cs⟩,r)else none
def nN(b:List UInt8):Option cU:=match A0v (b.length+1) b with
 |some (c,[])=>if cQ c=true then some c else none
 |_=>none
theorem dN{s n:Nat}{b r:List UInt8}(h:eV s b=some (n,r)):b=bU s n++r /\ n < 256 ^ s:=by
 unfold eV at h
 split at h
 ·rename_i hs
  simp only[Option.some.injEq,Prod.mk.injEq]at h
  obtain⟨rfl,rfl⟩:=h
  have hl:(b.take s).length=s:=by rw[List.length_take];omega
  have h1:=A3p (b.take s)
  have h2:=pH (b.take s)
  rw[hl]at h1 h2
  exact⟨by rw[h1,List.take_append_drop],h2⟩
 ·cases h
theorem eH(s n:Nat)(r:List UInt8)(h:n < 256 ^ s):eV s (bU s n++r)=some (n,r):=by
 unfold eV
 have hl:=bC s n
 rw[if_pos (by rw[List.length_append];omega)]
 have e1:(bU s n++r).take s=bU s n:=by rw[List.take_append_of_le_length (by omega),List.take_of_length_le (by omega)]
 have e2:(bU s n++r).drop s=r:=by rw[List.drop_append_of_le_length (by omega),List.drop_of_length_le (by omega)];rfl
 rw[e1,e2,A6f,Nat.mod_eq_of_lt h]
theorem pG{n:Nat}{b x r:List UInt8}(h:lT n b=some (x,r)):b=x++r /\ x.length=n:=by
 unfold lT at h
 split at h
 ·simp only[Option.some.injEq,Prod.mk.injEq]at h
  obtain⟨rfl,rfl⟩:=h
  exact⟨(List.take_append_drop _ _).symm,by rw[List.length_take];omega⟩
 ·cases h
theorem zI(x r:List UInt8):lT x.length (x++r)=some (x,r):=by
 unfold lT
 rw[if_pos (by simp),List.take_left,List.drop_left]
theorem sH{b s r:List UInt8}(h:oK b=some (s,r)):b=gK s++r:=by
 unfold oK at h
 obtain⟨⟨n,r1⟩,h1,h2⟩:=Option.bind_eq_some_iff.1 h
 obtain⟨rfl,_⟩:=dN h1
 obtain⟨rfl,rfl⟩:=pG h2
 simp[gK]
theorem sI(s r:List UInt8)(h:s.length < 256):oK (gK s++r)=some (s,r):=by
 unfold oK gK
 rw[List.append_assoc,eH 1 _ _ (by simpa using h)]
 exact zI s r
theorem wY{b r:List UInt8}{g:Bool}(h:lD b=some (g,r)):b=eN g++r:=by
 unfold lD at h
 obtain⟨⟨n,r1⟩,h1,h2⟩:=Option.bind_eq_some_iff.1 h
 obtain⟨rfl,_⟩:=dN h1
 simp only at h2
 split at h2
 ·cases h2
 ·simp only[Option.some.injEq,Prod.mk.injEq]at h2
  obtain⟨rfl,rfl⟩:=h2
  have:n=0 \/ n=1:=by omega
  rcases this with rfl|rfl <;>rfl
theorem wZ(g:Bool)(r:List UInt8):lD (eN g++r)=some (g,r):=by
 unfold lD eN
 rw[eH 1 _ _ (by split <;>decide)]
 cases g <;>rfl
theorem rC{α:Type}{one:Rd α}{put:α ->List UInt8} :∀ (n:Nat) (b:List UInt8) (l:List α) (r:List UInt8),(∀ b x r,one b=some (x,r) ->b=put x++r) ->jZ one n b=some (l,r) ->b=l.flatMap put++r /\ l.length=n
 | 0,b,l,r,_,h=>by
  simp only[jZ,Option.some.injEq,Prod.mk.injEq]at h
  obtain⟨rfl,rfl⟩:=h
  exact⟨rfl,rfl⟩
 | n+1,b,l,r,ho,h=>by
  simp only[jZ]at h
  obtain⟨⟨x,r1⟩,h1,h2⟩:=Option.bind_eq_some_iff.1 h
  obtain⟨⟨l1,r2⟩,h3,h4⟩:=Option.map_eq_some_iff.1 h2
  simp only[Prod.mk.injEq]at h4
  obtain⟨rfl,rfl⟩:=h4
  obtain⟨e1,e2⟩:=rC n r1 l1 r2 ho h3
  exact⟨by rw[ho _ _ _ h1,e1];simp,by simp[e2]⟩
theorem rD{α:Type}{one:Rd α}{put:α ->List UInt8} :∀ (l:List α) (r:List UInt8),(∀ x,x ∈ l ->∀ r,one (put x++r)=some (x,r)) ->jZ one l.length (l.flatMap put++r)=some (l,r)
 |[],r,_=>rfl
 | x::l,r,ho=>by
  simp only[jZ,List.length_cons,List.flatMap_cons,List.append_assoc]
  rw[ho x (by simp),Option.bind_some]
  simp only
  rw[rD l r (fun y hy=>ho y (by simp[hy]))];rfl
theorem lQ{α:Type}{one:Rd α}{put:α ->List UInt8}{b:List UInt8}{l:List α}{r:List UInt8}(ho:∀ b x r,one b=some (x,r) ->b=put x++r)(h:fK one b=some (l,r)):b=bU 2 l.length++(l.flatMap put++r):=by
 unfold fK at h
 obtain⟨⟨n,r1⟩,h1,h2⟩:=Option.bind_eq_some_iff.1 h
 obtain⟨rfl,_⟩:=dN h1
 obtain⟨rfl,rfl⟩:=rC n r1 l r ho h2
 rfl
theorem lR{α:Type}{one:Rd α}{put:α ->List UInt8}(l:List α)(r:List UInt8)(hl:l.length < 65536)(ho:∀ x,x ∈ l ->∀ r,one (put x++r)=some (x,r)):fK one (bU 2 l.length++(l.flatMap put++r))=some (l,r):=by
 unfold fK
 rw[eH 2 _ _ (by simpa using hl),Option.bind_some]
 exact rD l r ho
theorem C1c(s:Nat){n:Nat}{b:List UInt8}{l:List Nat}{r:List UInt8}(h:jZ (eV s) n b=some (l,r)):b=l.flatMap (bU s)++r /\ l.length=n /\ ∀ x,x ∈ l ->x < 256 ^ s:=by
 obtain⟨h1,h2⟩:=rC (put:=bU s) n b l r (fun b x r h=> (dN h).1) h
 refine⟨h1,h2,?_⟩
 clear h1
 induction n generalizing b l with
 |zero=>intro x hx;rw[List.length_eq_zero_iff.1 h2]at hx;cases hx
 | succ n ih=>
  simp only[jZ]at h
  obtain⟨⟨x,r1⟩,g1,g2⟩:=Option.bind_eq_some_iff.1 h
  obtain⟨⟨l1,r2⟩,g3,g4⟩:=Option.map_eq_some_iff.1 g2
  simp only[Prod.mk.injEq]at g4
  obtain⟨rfl,rfl⟩:=g4
  intro y hy
  rcases List.mem_cons.1 hy with rfl|hy
  ·exact(dN g1).2
  ·exact ih g3 (by simpa using h2) y hy
theorem iH(k:UInt8)(g:Bool)(l:List UInt32)(s:List UInt8)(n:Int)(ks ts:List aF):dS (.mk k g l s n ks ts)=bU 1 k.toNat++(
  if k=1 then eN g++(bU 1 l.length++l.flatMap fun x=>bU 4 x.toNat)
  else if k=2 then gK s
  else if k=3 \/ k=5 then bU 6 n.toNat
  else if k=4 then bU 2 n.toNat++(bU 2 ks.length++bE ks)
  else if k=6 then bU 2 ks.length++bE ks
  else if k=7 then bU 2 ks.length++bE ks++(eN (!ts.isEmpty)++bE ts)
  else[]):=by rw[dS]
theorem B3o(l:List Nat)(h:∀ x,x ∈ l ->x < 256 ^ 4):(l.map UInt32.ofNat).flatMap (fun x=>bU 4 x.toNat)=l.flatMap (bU 4):=by
 induction l with
 |nil=>rfl
 | cons x l ih=>
  have hx:=h x (by simp)
  simp only[List.map_cons,List.flatMap_cons]
  rw[ih (fun y hy=>h y (by simp[hy])),UInt32.toNat_ofNat',Nat.mod_eq_of_lt (by simpa using hx)]
theorem zK:∀ (f:Nat) (b:List UInt8) (t:aF) (r:List UInt8),gD f b=some (t,r) ->b=dS t++r
 |0,b,t,r,h=>by simp[gD]at h
 | f +1,b,t,r,h=>by
  have ih:=zK f
  simp only[gD]at h
  obtain⟨⟨k,r0⟩,h0,hx⟩:=Option.bind_eq_some_iff.1 h
  clear h
  have h:jA (gD f) k r0=some (t,r):=hx
  clear hx
  obtain⟨rfl,hk⟩:=dN h0
  have hrow:∀ {b l r},fK (gD f) b=some (l,r) ->b=bU 2 l.length++(bE l++r):=fun h=>by
   rw[fH];exact lQ ih h
  unfold jA at h
  by_cases k1:k=1
  ·subst k1
   rw[if_pos rfl]at h
   obtain⟨⟨g,r1⟩,h1,h⟩:=Option.bind_eq_some_iff.1 h
   obtain⟨⟨n,r2⟩,h2,h⟩:=Option.bind_eq_some_iff.1 h
   obtain⟨⟨l,r3⟩,h3,h⟩:=Option.map_eq_some_iff.1 h
   simp only[Prod.mk.injEq]at h
   obtain⟨rfl,rfl⟩:=h
   have e1:=wY h1
   obtain⟨e2,_⟩:=dN h2
   obtain⟨e3,e4,e5⟩:=C1c 4 h3
   subst e1;subst e2;subst e3;subst e4
   rw[iH,if_pos rfl,B3o l e5,List.length_map]
   simp
  rw[if_neg k1]at h
  by_cases k2:k=2
  ·subst k2
   rw[if_pos rfl]at h
   obtain⟨⟨s,r1⟩,h1,h⟩:=Option.map_eq_some_iff.1 h
   simp only[Prod.mk.injEq]at h
   obtain⟨rfl,rfl⟩:=h
   rw[iH,sH h1];rfl
  rw[if_neg k2]at h
  by_cases k3:k=3 \/ k=5
  ·rw[if_pos k3]at h
   obtain⟨⟨n,r1⟩,h1,h⟩:=Option.map_eq_some_iff.1 h
   simp only[Prod.mk.injEq]at h
   obtain⟨rfl,rfl⟩:=h
   obtain⟨rfl,_⟩:=dN h1
   rcases k3 with rfl|rfl <;> (rw[iH];simp[Int.toNat_natCast])
  rw[if_neg k3]at h
  by_cases k4:k=4
  ·subst k4
   rw[if_pos rfl]at h
   obtain⟨⟨n,r1⟩,h1,h⟩:=Option.bind_eq_some_iff.1 h
   obtain⟨⟨l,r2⟩,h2,h⟩:=Option.map_eq_some_iff.1 h
   simp only[Prod.mk.injEq]at h
   obtain⟨rfl,rfl⟩:=h
   obtain⟨rfl,_⟩:=dN h1
   rw[iH,hrow h2];simp[Int.toNat_natCast]
  rw[if_neg k4]at h
  by_cases k6:k=6
  ·subst k6
   rw[if_pos rfl]at h
   obtain⟨⟨l,r2⟩,h2,h⟩:=Option.map_eq_some_iff.1 h
   simp only[Prod.mk.injEq]at h
   obtain⟨rfl,rfl⟩:=h
   rw[iH,hrow h2];simp
  rw[if_neg k6]at h
  by_cases k7:k=7
  ·subst k7
   rw[if_pos rfl]at h
   obtain⟨⟨l,r2⟩,h2,h⟩:=Option.bind_eq_some_iff.1 h
   obtain⟨⟨g,r3⟩,h3,h⟩:=Option.bind_eq_some_iff.1 h
   obtain⟨⟨ts,r4⟩,h4,h⟩:=Option.map_eq_some_iff.1 h
   simp only[Prod.mk.injEq]at h
   obtain⟨rfl,rfl⟩:=h
   obtain⟨e4,e5⟩:=rC (put:=dS) _ _ _ _ ih h4
   rw[iH,hrow h2,wY h3,e4,fH ts]
   cases g with
   |false=>rw[List.length_eq_zero_iff.1 e5];simp
   | true=>
    obtain⟨x,rfl⟩:=List.length_eq_one_iff.1 e5
    simp
  rw[if_neg k7]at h
  cases h
theorem C7i{k:Nat}(h:k < 256 ^ 1):(UInt8.ofNat k).toNat=k:=by rw[UInt8.toNat_ofNat'];exact Nat.mod_eq_of_lt (by simpa using h)
theorem A7x{i j:aO}{f:UInt8}{b r:List UInt8}(h:eE i f b=some (j,r)):b=aX j f++r /\ j.op=i.op /\ ∀ g,g ≠ f ->aX j g=aX i g:=by
 unfold eE at h
 split at h
 ·rename_i hf
  obtain⟨⟨n,r1⟩,h1,h⟩:=Option.map_eq_some_iff.1 h
  simp only[Prod.mk.injEq]at h
  obtain⟨rfl,rfl⟩:=h
  obtain⟨rfl,_⟩:=dN h1
  rcases hf with rfl|rfl|rfl|rfl|rfl <;>refine⟨by simp[aX,nO],by simp[nO],fun g hg=> ?_⟩ <;> (unfold aX nO;simp[hg])
 ·split at h
  ·rename_i hf
   subst hf
   obtain⟨⟨s,r1⟩,h1,h⟩:=Option.map_eq_some_iff.1 h
   simp only[Prod.mk.injEq]at h
   obtain⟨rfl,rfl⟩:=h
   refine⟨by rw[sH h1];simp[aX],rfl,fun g hg=> ?_⟩
   unfold aX;simp[hg]
  ·split at h
   ·rename_i hf
    subst hf
    obtain⟨⟨l,r1⟩,h1,h⟩:=Option.map_eq_some_iff.1 h
    simp only[Prod.mk.injEq]at h
    obtain⟨rfl,rfl⟩:=h
    have e:=lQ (put:=bU 2) (fun b x r h=> (dN h).1) h1
    refine⟨?_,rfl,fun g hg=> ?_⟩
    ·rw[e]
     have:tO (l.map Int.ofNat)=l.flatMap (bU 2):=by
      unfold tO;rw[List.flatMap_map];congr 1
     simp[aX,this]
    ·unfold aX;simp[hg]
   ·rename_i h1 h2 h3
    simp only[Option.some.injEq,Prod.mk.injEq]at h
    obtain⟨rfl,rfl⟩:=h
    simp only[not_or]at h1
    refine⟨by simp[aX,h1,h2,h3],rfl,fun _ _=>rfl⟩
theorem tF:∀ (fs:List UInt8) (i j:aO) (b r:List UInt8),fs.Nodup ->iG fs i b=some (j,r) ->b=fs.flatMap (aX j)++r /\ j.op=i.op /\ ∀ g,g ∉ fs ->aX j g=aX i g
 | [],i,j,b,r,_,h=>by
  simp only[iG,Option.some.injEq,Prod.mk.injEq]at h
  obtain⟨rfl,rfl⟩:=h
  exact⟨rfl,rfl,fun _ _=>rfl⟩
 | f::fs,i,j,b,r,hn,h=>by
  simp only[iG]at h
  obtain⟨⟨k,r1⟩,h1,h2⟩:=Option.bind_eq_some_iff.1 h
  obtain⟨e1,e2,e3⟩:=A7x h1
  rw[List.nodup_cons]at hn
  obtain⟨g1,g2,g3⟩:=tF fs k j r1 r hn.2 h2
  refine⟨?_,g2.trans e2,fun g hg=> ?_⟩
  ·rw[e1,g1,List.flatMap_cons,g3 f hn.1];simp
  ·simp only[List.mem_cons,not_or]at hg
   rw[g3 g hg.2,e3 g hg.1]
theorem A4y:∀ k:Fin 256,decide ((rF (UInt8.ofNat k)).Nodup)=true:=by decide+kernel
theorem A8s(op:UInt8):(rF op).Nodup:=of_decide_eq_true (jX (p:=fun op=>decide ((rF op).Nodup)) A4y op)
theorem B9q{b r:List UInt8}{i:aO}(h:uE b=some (i,r)):b=lN i++r:=by
 unfold uE at h
 obtain⟨⟨k,r1⟩,h1,h2⟩:=Option.bind_eq_some_iff.1 h
 obtain⟨rfl,hk⟩:=dN h1
 simp only at h2
 split at h2
 ·cases h2
 ·obtain⟨e1,e2,_⟩:=tF _ _ _ _ _ (A8s _) h2
  unfold lN
  rw[e2,e1]
  simp[sD,C7i hk]
theorem B7j{b r:List UInt8}{e:dA}(h:A0y b=some (e,r)):b=kG e++r:=by
 unfold A0y at h
 obtain⟨⟨s,r1⟩,h1,h⟩:=Option.bind_eq_some_iff.1 h
 obtain⟨⟨a,r2⟩,h2,h⟩:=Option.bind_eq_some_iff.1 h
 obtain⟨⟨x,r3⟩,h3,h⟩:=Option.bind_eq_some_iff.1 h
 obtain⟨⟨n,r4⟩,h4,h⟩:=Option.bind_eq_some_iff.1 h
 obtain⟨⟨p,r5⟩,h5,h⟩:=Option.map_eq_some_iff.1 h
 simp only[Prod.mk.injEq]at h
 obtain⟨rfl,rfl⟩:=h
 have e1:=sH h1
 have e2:=(dN h2).1
 have e3:=(dN h3).1
 have e4:=(dN h4).1
 have e5:=(dN h5).1
 subst e1;subst e2;subst e3;subst e4;subst e5
 simp[kG]
theorem B6v{f:Nat}{b r:List UInt8}{c:cU}(h:A0v f b=some (c,r)):b=iI c++r:=by
 unfold A0v at h
 obtain⟨⟨m,r0⟩,h0,h⟩:=Option.bind_eq_some_iff.1 h
 simp only at h
 split at h
 ·rename_i hm
  subst hm
  obtain⟨⟨es,r1⟩,h1,h⟩:=Option.bind_eq_some_iff.1 h
  obtain⟨⟨is,r2⟩,h2,h⟩:=Option.bind_eq_some_iff.1 h
  obtain⟨⟨cs,r3⟩,h3,h⟩:=Option.map_eq_some_iff.1 h
  simp only[Prod.mk.injEq]at h
  obtain⟨rfl,rfl⟩:=h
  obtain⟨e0,_⟩:=pG h0
  have e1:=lQ (fun b x r h=>B7j h) h1
  have e2:=lQ (fun b x r h=>B9q h) h2
  have e3:=lQ (zK f) h3
  subst e0;subst e1;subst e2;subst e3
  simp[iI,fH]
 ·cases h
theorem B0d{b:List UInt8}{c:cU}(h:nN b=some c):cQ c=true /\ iI c=b:=by
 unfold nN at h
 split at h
 ·rename_i c' hc
  split at h
  ·rename_i hr
   simp only[Option.some.injEq]at h
   subst h
   exact⟨hr,by rw[B6v hc];simp⟩
  ·cases h
 ·cases h
end
section
section
variable {P:Program} {G:Nat ->AV}
def A6k(P:Program)(G:Nat ->AV)(σ:AS)(e:aM)(n m:Nat)(sl:Nat ->Nat)(val:Nat ->AV)(Q:AV ->AS ->Prop):Nat ->List Oper ->Prop
 |_,[]=>True
 | k,o::r=> (o.dst=some (sl k) /\ ∀ e' σ',σ.le σ' -> (∀ j,j ∈ nD o ->j ≠ m ->e' (sl j)=val j) -> (∀ t,(∀ j,j < n ->sl j ≠ t) ->e' t=e t) ->
   (k=m ->σ'=σ ->eK P G o e' σ Q) /\ (k ≠ m ->eK P G o e' σ' (fun r s=>r=val k /\ s=σ'))) /\ A6k P G σ e n m sl val Q (k+1) r
def D3z(σ:AS)(e:aM)(n m:Nat)(sl:Nat ->Nat)(val:Nat ->AV)(Q:AV ->AS ->Prop)(D:Nat ->Bool)(e':aM)(σ':AS):Prop:=
 (∀ t,(∀ j,j < n ->sl j ≠ t) ->e' t=e t) /\ (∀ k,k < n ->k ≠ m ->D k=true ->e' (sl k)=val k) /\ (D m=true ->Q (e' (sl m)) σ') /\ (D m=false ->σ'=σ)
theorem A5t{σ:AS}{e:aM}{n m:Nat}{sl:Nat ->Nat}{val:Nat ->AV}{Q:AV ->AS ->Prop}(hm:m < n)(hQ:∀ r s,Q r s ->σ.le s)(hi:∀ i,i < n ->∀ j,j < n ->sl i=sl j ->i=j):∀ (l:List Oper) (k:Nat),k+l.length <=n -> (∀ o,o ∈ l ->∀ j,j ∈ nD o ->j < n) ->A6k P G σ e n m sl val Q k l ->mW P G (D3z σ e n m sl val Q) k l
 |[],_,_,_,_=>trivial
 | o ::r,k,hl,hw,⟨⟨hd,h⟩,hr⟩=>by
  simp only[List.length_cons]at hl
  refine⟨?_,A5t hm hQ hi r (k+1) (by omega) (fun o' ho=>hw o' (List.mem_cons_of_mem _ ho)) hr⟩
  rintro D e' σ' hD hwt ⟨hfr,hv,hq,hn⟩
  have hle:σ.le σ':=by
   cases hDm:D m with
   |true=>exact hQ _ _ (hq hDm)
   |false=>rw[hn hDm];exact AS.le.refl σ
  obtain⟨ha,hb⟩:=h e' σ' hle (fun j hj hjm=>hv j (hw o List.mem_cons_self j hj) hjm (hwt j hj)) hfr
  have frame:∀ v t,(∀ j,j < n ->sl j ≠ t) -> (e'.upd (some (sl k)) v) t=e t:=fun v t ht=>by
   rw[<- hfr t ht]
   exact aM.upd_other fun y hy hyu=>by cases hy;exact ht k (by omega) hyu
  have other:∀ v j,j < n ->j ≠ k -> (e'.upd (some (sl k)) v) (sl j)=e' (sl j):=fun v j hj hjk=>
   aM.upd_other fun y hy hyu=>by cases hy;exact hjk (hi k (by omega) j hj hyu).symm
  have own:∀ v,(e'.upd (some (sl k)) v) (sl k)=v:=fun v=>by simp[aM.upd]
  have dn:∀ j,j ≠ k ->uK D k j=D j:=fun j hj=>by unfold uK;rw[if_neg hj]
  have dk:uK D k k=true:=by unfold uK;rw[if_pos rfl]
  by_cases hkm:k=m
  ·subst hkm
   have he:=hn hD
   subst he
   refine eQ (fun v s hq'=> ?_) (ha rfl rfl)
   rw[hd]
   refine⟨frame v,fun j hj hjm hDj=> ?_,fun _=>by rw[own];exact hq',fun hx=>by rw[dk]at hx;cases hx⟩
   rw[other v j hj hjm]
   exact hv j hj hjm (by rw[<- dn j hjm];exact hDj)
  ·refine eQ ?_ (hb hkm)
   rintro v s ⟨rfl,rfl⟩
   rw[hd]
   refine⟨frame _,fun j hj hjm hDj=> ?_,fun hx=> ?_,fun hx=>hn (by rw[<- dn m (Ne.symm hkm)];exact hx)⟩
   ·by_cases hjk:j=k
    ·subst hjk;exact own _
    ·rw[other _ j hj hjk];exact hv j hj hjm (by rw[<- dn j hjk];exact hDj)
   ·rw[other _ m hm (Ne.symm hkm)];exact hq (by rw[<- dn m (Ne.symm hkm)];exact hx)
theorem B7h {R:aM ->AS ->Prop} {e:aM} {σ:AS} {l:List Oper} {d:Dum l.toArray} {d':Dum R} {d2:Dum e} {d3:Dum σ} (n m:Nat) (sl:Nat ->Nat) (val:Nat ->AV) (Q:AV ->AS ->Prop) (hn:tR l.toArray n=true) (hm:m < n) (hi:∀ i,i < n ->∀ j,j < n ->sl i=sl j ->i=j) (hQ:∀ r s,Q r s ->σ.le s)
  {hd tl:List Oper} (h1:l.take n=hd) (h2:l.drop n=tl) (hs:A6k P G σ e n m sl val Q 0 hd)
  (hq:∀ e' s,(∀ k,k < n ->k ≠ m ->e' (sl k)=val k) ->Q (e' (sl m)) s -> (∀ t,(∀ k,k < n ->sl k ≠ t) ->e' t=e t) ->cF P G l R tl e' s):qP P G l.toArray R e σ d d' d2 d3:=by
 refine A3x n (D3z σ e n m sl val Q) hn h1 h2 (fun _=> ⟨fun _ _=>rfl,fun k _ _ h=> (by cases h),fun h=> (by cases h),fun _=>rfl⟩) ?_ (fun D e' s hD ⟨hfr,hv,hq',_⟩=>hq e' s (fun k hk hkm=>hv k hk hkm (hD k hk)) (hq' (hD m hm)) hfr)
 unfold tR at hn
 simp only[Bool.and_eq_true,decide_eq_true_eq,List.all_eq_true,List.mem_range]at hn
 obtain⟨⟨⟨hns,hb⟩,_⟩,_⟩:=hn
 refine A5t hm hQ hi hd 0 (by rw[<- h1];simp only[List.length_take];omega) (fun o ho j hj=> ?_) hs
 subst h1
 obtain⟨i,hio⟩:=List.getElem?_of_mem ho
 have hin:i < n:=by
  have:=(List.getElem?_eq_some_iff.1 hio).1
  simp only[List.length_take]at this;omega
 rw[List.getElem?_take_of_lt hin]at hio
 have:=hb i hin
 simp only[List.getElem?_toArray,hio,Bool.and_eq_true,List.all_eq_true,decide_eq_true_eq]at this
 have:=this.2 j hj
 omega
end
end
set_option maxRecDepth 20000
section
def cW:=And.intro (And.intro (And.intro @nK @nL) (And.intro @lY @kW)) (And.intro (And.intro @kI @D3j) (And.intro @A5y (And.intro @A6c @A5z)))
variable {G:Nat ->AV}
abbrev eX(v:AV):List AV:=[v, .int .i64 0, .int .i8 0]
theorem rL{σ:AS}{b g l cap n:Nat}(hb:σ.box b=some (eX (tE g l cap)))(h:l+n <=cap)(hc:cap <=9223372036854775807):
  aJ Tryd.prog G 41 [.ptr b 0, .int .i64 n] σ fun r σ'=>r= .tup [.int .i64 l, .bool true] /\ σ'=σ.setBox b (eX (tE g (l+n) cap)):=by
 have hw1:IntKind.i64.wrap ((cap:Int) - (l:Int))=((cap - l:Nat):Int):=by rw[aH (by omega) (by omega)];omega
 have hw2:IntKind.i64.wrap ((l:Int)+(n:Int))=((l+n:Nat):Int):=by rw[aH (by omega) (by omega)];omega
 have c1:((n:Int) <=((cap - l:Nat):Int))=True:=eq_true (by omega)
 refine aJ.of_awp mixed Tryd.func41 rfl (by kernel_rfl) (by kernel_rfl) (by simp[Tryd.ntmps41]) Tryd.results41 ?_
 repeat'(first|refine xs ?_ ?_ <;>intros|(refine wn ?_;intro bx hbx;try simp only[fb]at hbx)|((refine pE (ag:=false) (l:=0) (h:=l+n) (s:=1) A2i rfl (by simp[cM];omega) (by omega) h ?_;rw[vN,Nat.sub_zero,Nat.sub_zero]))|refine aQ ?_|(refine aB ?_;intro bx hbx;(try simp only[fb]at hbx))|refine aD ?_|((with_reducible refine And.intro ?_ ?_);omega)|refine aA (d':=⟨⟩) ?_|refine aR (by kernel_rfl) ?_|refine aP ?_ (by repeat' first|exact lr _|assumption|refine ls ?_ ?_|refine lt ?_ ?_|simp only[*];done|simp only[fb, *,not_false_eq_true,and_self];done|exact lf ‹_› (by simp only[*]))|refine aC ?_ (by repeat' first|exact lr _|assumption|refine ls ?_ ?_|refine lt ?_ ?_|simp only[*];done|simp only[fb, *,not_false_eq_true,and_self];done|exact lf ‹_› (by simp only[*]))|simp -dsimp only[↓bp,bq,br,seval,cW,hw1,hw2, *]|refine wz ?_|fail)
theorem nC{σ:AS}{b g l cap n:Nat}(hb:σ.box b=some (eX (tE g l cap)))(h:cap < l+n)(hl:l <=cap)(hc:cap <=9223372036854775807):
  aJ Tryd.prog G 41 [.ptr b 0, .int .i64 n] σ fun r σ'=>r= .tup [.int .i64 0, .bool false] /\ σ'=σ:=by
 have hw1:IntKind.i64.wrap ((cap:Int) - (l:Int))=((cap - l:Nat):Int):=by rw[aH (by omega) (by omega)];omega
 have c1:((n:Int) <=((cap - l:Nat):Int))=False:=eq_false (by omega)
 refine aJ.of_awp mixed Tryd.func41 rfl (by kernel_rfl) (by kernel_rfl) (by simp[Tryd.ntmps41]) Tryd.results41 ?_
 repeat'(first|refine xs ?_ ?_ <;>intros|(refine wn ?_;intro bx hbx;try simp only[fb]at hbx)|refine aQ ?_|(refine aB ?_;intro bx hbx;(try simp only[fb]at hbx))|refine aD ?_|((with_reducible refine And.intro ?_ ?_);omega)|refine aA (d':=⟨⟩) ?_|refine aR (by kernel_rfl) ?_|refine aP ?_ (by repeat' first|exact lr _|assumption|refine ls ?_ ?_|refine lt ?_ ?_|simp only[*];done|simp only[fb, *,not_false_eq_true,and_self];done|exact lf ‹_› (by simp only[*]))|refine aC ?_ (by repeat' first|exact lr _|assumption|refine ls ?_ ?_|refine lt ?_ ?_|simp only[*];done|simp only[fb, *,not_false_eq_true,and_self];done|exact lf ‹_› (by simp only[*]))|simp -dsimp only[↓bp,bq,br,seval,cW,hw1, *]|refine wz ?_|fail)
theorem tY{σ:AS}{b n:Nat}(hb:σ.box b=some (eX .nil))(h:0 < n):
  aJ Tryd.prog G 41 [.ptr b 0, .int .i64 n] σ fun r σ'=>r= .tup [.int .i64 0, .bool false] /\ σ'=σ:=by
 have hw1:IntKind.i64.wrap 0=0:=by decide
 have c1:((n:Int) <=0)=False:=eq_false (by omega)
 refine aJ.of_awp mixed Tryd.func41 rfl (by kernel_rfl) (by kernel_rfl) (by simp[Tryd.ntmps41]) Tryd.results41 ?_
 repeat'(first|refine xs ?_ ?_ <;>intros|(refine wn ?_;intro bx hbx;try simp only[fb]at hbx)|refine aQ ?_|(refine aB ?_;intro bx hbx;(try simp only[fb]at hbx))|refine aD ?_|((with_reducible refine And.intro ?_ ?_);omega)|refine aA (d':=⟨⟩) ?_|refine aR (by kernel_rfl) ?_|refine aP ?_ (by repeat' first|exact lr _|assumption|refine ls ?_ ?_|refine lt ?_ ?_|simp only[*];done|simp only[fb, *,not_false_eq_true,and_self];done|exact lf ‹_› (by simp only[*]))|refine aC ?_ (by repeat' first|exact lr _|assumption|refine ls ?_ ?_|refine lt ?_ ?_|simp only[*];done|simp only[fb, *,not_false_eq_true,and_self];done|exact lf ‹_› (by simp only[*]))|simp -dsimp only[↓bp,bq,br,seval,cW,hw1, *]|refine wz ?_|fail)
theorem A7l{σ:AS}{b g l cap:Nat}(hb:σ.box b=some (eX (tE g l cap)))(hl:l <=140737488355328):aJ Tryd.prog G 62 [.ptr b 0] σ fun r σ'=>r= .int .i64 l /\ σ'=σ:=by
 have hw1:IntKind.i64.wrap ((l:Int) - 0)=(l:Int):=by rw[aH (by omega) (by omega)];omega
 refine aJ.of_awp mixed Tryd.func62 rfl (by kernel_rfl) (by kernel_rfl) (by simp[Tryd.ntmps62]) Tryd.results62 ?_
 repeat'(first|refine xs ?_ ?_ <;>intros|(refine wn ?_;intro bx hbx;try simp only[fb]at hbx)|refine aQ ?_|(refine aB ?_;intro bx hbx;(try simp only[fb]at hbx))|refine aD ?_|((with_reducible refine And.intro ?_ ?_);omega)|refine aA (d':=⟨⟩) ?_|refine aR (by kernel_rfl) ?_|refine aP ?_ (by repeat' first|exact lr _|assumption|refine ls ?_ ?_|refine lt ?_ ?_|simp only[*];done|simp only[fb, *,not_false_eq_true,and_self];done|exact lf ‹_› (by simp only[*]))|refine aC ?_ (by repeat' first|exact lr _|assumption|refine ls ?_ ?_|refine lt ?_ ?_|simp only[*];done|simp only[fb, *,not_false_eq_true,and_self];done|exact lf ‹_› (by simp only[*]))|simp -dsimp only[↓bp,bq,br,seval,cW,hw1, *]|refine wz ?_|fail)
theorem A7k{σ:AS}{b:Nat}(hb:σ.box b=some (eX .nil)):aJ Tryd.prog G 62 [.ptr b 0] σ fun r σ'=>r= .int .i64 0 /\ σ'=σ:=by
 have hw1:IntKind.i64.wrap 0=0:=by decide
 refine aJ.of_awp mixed Tryd.func62 rfl (by kernel_rfl) (by kernel_rfl) (by simp[Tryd.ntmps62]) Tryd.results62 ?_
 repeat'(first|refine xs ?_ ?_ <;>intros|(refine wn ?_;intro bx hbx;try simp only[fb]at hbx)|refine aQ ?_|(refine aB ?_;intro bx hbx;(try simp only[fb]at hbx))|refine aD ?_|((with_reducible refine And.intro ?_ ?_);omega)|refine aA (d':=⟨⟩) ?_|refine aR (by kernel_rfl) ?_|refine aP ?_ (by repeat' first|exact lr _|assumption|refine ls ?_ ?_|refine lt ?_ ?_|simp only[*];done|simp only[fb, *,not_false_eq_true,and_self];done|exact lf ‹_› (by simp only[*]))|refine aC ?_ (by repeat' first|exact lr _|assumption|refine ls ?_ ?_|refine lt ?_ ?_|simp only[*];done|simp only[fb, *,not_false_eq_true,and_self];done|exact lf ‹_› (by simp only[*]))|simp -dsimp only[↓bp,bq,br,seval,cW,hw1, *]|refine wz ?_|fail)
def oV:List AV:=(List.replicate 64 [AV.int .u8 0]).flatten
theorem A9u:oV.length=64:=by simp[oV]
theorem B8v{σ:AS}{b n:Nat}(hb:σ.box b=some (eX .nil))(h:0 < n)(hn:n <=64):
  aJ Tryd.prog G 42 [.ptr b 0, .int .i64 n] σ fun r σ'=>r= .int .i64 0 /\ ∃ g,σ.fresh g /\ g ≠ b /\ σ'=((σ.setBox g oV).setTy g (.t 5,64)).setBox b (eX (tE g n 64)):=by
 have c1:((n:Int) <=64)=True:=eq_true (by omega)
 have t1:=A7k (G:=G) hb
 have t2:=tY (G:=G) hb h
 refine aJ.of_awp mixed Tryd.func42 rfl (by kernel_rfl) (by kernel_rfl) (by simp[Tryd.ntmps42]) Tryd.results42 ?_
 repeat'(first|refine xs ?_ ?_ <;>intros|(refine wn ?_;intro bx hbx;try simp only[fb]at hbx)|((refine aJ.mono t1 ?_;rintro r s ⟨rfl,hse⟩;rw[hse];clear hse s t1))|((refine aJ.mono t2 ?_;rintro r s ⟨rfl,hse⟩;rw[hse];clear hse s t2))|((refine C0u n 64 tfU D8x (by omega) (by omega) (fun g hg=> ?_);have hn1:=fresh_ne hb hg;generalize hZ:(List.replicate 64 [AV.int .u8 0]).flatten=Z))|refine aQ ?_|(refine aB ?_;intro bx hbx;(try simp only[fb]at hbx))|refine aD ?_|((with_reducible refine And.intro ?_ ?_);omega)|refine aA (d':=⟨⟩) ?_|refine aR (by kernel_rfl) ?_|refine aP ?_ (by repeat' first|exact lr _|assumption|refine ls ?_ ?_|refine lt ?_ ?_|simp only[*];done|simp only[fb, *,not_false_eq_true,and_self];done|exact lf ‹_› (by simp only[*]))|refine aC ?_ (by repeat' first|exact lr _|assumption|refine ls ?_ ?_|refine lt ?_ ?_|simp only[*];done|simp only[fb, *,not_false_eq_true,and_self];done|exact lf ‹_› (by simp only[*]))|simp -dsimp only[↓bp,bq,br,seval,cW, *]|refine wz ?_|fail)
 exact aE _ (AS.le.refl _) ⟨rfl,g,hg,hn1.2,by rw[<- hZ];rfl⟩
theorem A4h{σ:AS}{b g l cap n:Nat}{cs:List AV}(hb:σ.box b=some (eX (tE g l cap)))(hg:σ.box g=some cs)(ht:σ.ty g=some (.t 5,cap))(hl:l <=cs.length)(hcl:cs.length <=cap)(h0:0 < l)(h:cap < l+n)(hn:0 < n)(hlim:l+n <=1000000000000)(hint:∀ a,a ∈ cs.take l ->∃ u:UInt8,a=fN u):
  aJ Tryd.prog G 42 [.ptr b 0, .int .i64 n] σ fun r σ'=>r= .int .i64 l /\ ∃ g2 cap2,σ.fresh g2 /\ g2 ≠ b /\ l+n <=cap2 /\ cap2 <=maxLen /\ σ'=((σ.setBox g2 (cs.take l++List.replicate (cap2 - l) (.int .u8 0))).setTy g2 (.t 5,cap2)).setBox b (eX (tE g2 (l+n) cap2)):=by
 have c0:((l:Int)=0)=False:=eq_false (by omega)
 have t1:=A7l (G:=G) hb (by omega)
 have t2:=nC (G:=G) hb h (by omega) (by omega)
 have t3:=B2w G hg ht hl hcl hn hlim (by omega) hint
 have hq:IntKind.i64.wrap ((cap:Int).tdiv 2)=((cap / 2:Nat):Int):=by
  rw[Int.tdiv_eq_ediv_of_nonneg (by omega),show(cap:Int) / 2=((cap / 2:Nat):Int)by simp,aH (by omega) (by omega)]
 have hq2:IntKind.i64.wrap (((cap / 2:Nat):Int) - (l:Int))=((cap / 2:Nat):Int) - (l:Int):=aH (by omega) (by omega)
 have c2:((n:Int) <=((cap / 2:Nat):Int) - (l:Int))=False:=eq_false (by omega)
 have hq3:IntKind.i64.wrap ((9223372036854775807:Int) - (cap:Int))=9223372036854775807 - cap:=aH (by omega) (by omega)
 have hq4:IntKind.i64.wrap ((9223372036854775807:Int) - (cap:Int) - (n:Int))=9223372036854775807 - cap - n:=aH (by omega) (by omega)
 have c3:((9223372036854775807:Int) - cap - n < cap)=False:=eq_false (by omega)
 have hq5:IntKind.i64.wrap (0+(n:Int))=n:=by rw[aH (by omega) (by omega)];omega
 have hq6:IntKind.i64.wrap ((l:Int)+(n:Int))=((l+n:Nat):Int):=by rw[aH (by omega) (by omega)];omega
 have hlc:l <=cap:=by omega
 clear hl hcl hint
 refine aJ.of_awp mixed Tryd.func42 rfl (by kernel_rfl) (by kernel_rfl) (by simp[Tryd.ntmps42]) Tryd.results42 ?_
 repeat'(first|(refine wn ?_;intro bx hbx;try simp only[fb]at hbx)|((refine aJ.mono t1 ?_;rintro r s ⟨rfl,hse⟩;rw[hse];clear hse s t1))|((refine aJ.mono t2 ?_;rintro r s ⟨rfl,hse⟩;rw[hse];clear hse s t2))|refine aQ ?_|(refine aB ?_;intro bx hbx;(try simp only[fb]at hbx))|refine aD ?_|((with_reducible refine And.intro ?_ ?_);omega)|refine aA (d':=⟨⟩) ?_|refine aP ?_ (by repeat' first|exact lr _|assumption|refine ls ?_ ?_|refine lt ?_ ?_|simp only[*];done|simp only[fb, *,not_false_eq_true,and_self];done|exact lf ‹_› (by simp only[*]))|refine aC ?_ (by repeat' first|exact lr _|assumption|refine ls ?_ ?_|refine lt ?_ ?_|simp only[*];done|simp only[fb, *,not_false_eq_true,and_self];done|exact lf ‹_› (by simp only[*]))|simp -dsimp only[↓bp,bq,br,seval,cW,hq,hq2,hq3,hq4,hq5,hq6, *]|refine wz ?_|fail)
 refine B7h 17 16 (fun k=>76+k) (fun k=> [.ptr b 0, .ptr b 0, .ptr b 0, .ptr b 0,tE g l cap, .ptr b 0, .ptr b 0, .ptr b 1, .int .i64 0,tE g l cap, .ptr b 0, .ptr b 0, .ptr b 1, .int .i64 0, .int .i64 (n:Int), .int .i64 (n:Int)].getD k .undef) (fun r s'=>∃ g2 cap2,σ.fresh g2 /\ r=tE g2 l cap2 /\ l+n <=cap2 /\ cap2 <=maxLen /\ s'=(σ.setBox g2 (cs.take l++List.replicate (cap2 - l) (.int .u8 0))).setTy g2 (.t 5,cap2)) (by decide+kernel) (by decide) (by intro i _ j _ h;simpa using h) ?_ rfl rfl ?_ ?_
 ·rintro r s' ⟨g2,cap2,hf2,_,_,_,rfl⟩
  exact((AS.le.refl σ).setBox hf2.1 _).setTy hf2.2.2 _
 ·refine⟨?_,?_,?_,?_,?_,?_,?_,?_,?_,?_,?_,?_,?_,?_,?_,?_,?_,trivial⟩
  ·refine⟨rfl,fun e' s hs hw hf=> ⟨fun hk=>absurd hk (by decide),fun hk=> ?_⟩⟩
   have h0:=hf 0 (by decide)
   simp -dsimp only[↓bp,bq,br,seval,cW]at h0
   simp -dsimp only[↓bp,bq,br,seval,cW,h0]
  ·refine⟨rfl,fun e' s hs hw hf=> ⟨fun hk=>absurd hk (by decide),fun hk=> ?_⟩⟩
   have h0:=hf 0 (by decide)
   simp -dsimp only[↓bp,bq,br,seval,cW]at h0
   simp -dsimp only[↓bp,bq,br,seval,cW,h0]
  ·refine⟨rfl,fun e' s hs hw hf=> ⟨fun hk=>absurd hk (by decide),fun hk=> ?_⟩⟩
   have h1:e' 77= .ptr b 0:=hw 1 (by decide+kernel) (by decide)
   simp -dsimp only[↓bp,bq,br,seval,cW,h1]
  ·refine⟨rfl,fun e' s hs hw hf=> ⟨fun hk=>absurd hk (by decide),fun hk=> ?_⟩⟩
   have h2:e' 78= .ptr b 0:=hw 2 (by decide+kernel) (by decide)
   simp -dsimp only[↓bp,bq,br,seval,cW,h2]
  ·refine⟨rfl,fun e' s hs hw hf=> ⟨fun hk=>absurd hk (by decide),fun hk=> ?_⟩⟩
   have h3:e' 79= .ptr b 0:=hw 3 (by decide+kernel) (by decide)
   have hb':=hs.box _ _ hb
   simp -dsimp only[↓bp,bq,br,seval,cW,h3,hb']
  ·refine⟨rfl,fun e' s hs hw hf=> ⟨fun hk=>absurd hk (by decide),fun hk=> ?_⟩⟩
   have h0:=hf 0 (by decide)
   simp -dsimp only[↓bp,bq,br,seval,cW]at h0
   simp -dsimp only[↓bp,bq,br,seval,cW,h0]
  ·refine⟨rfl,fun e' s hs hw hf=> ⟨fun hk=>absurd hk (by decide),fun hk=> ?_⟩⟩
   have h5:e' 81= .ptr b 0:=hw 5 (by decide+kernel) (by decide)
   simp -dsimp only[↓bp,bq,br,seval,cW,h5]
  ·refine⟨rfl,fun e' s hs hw hf=> ⟨fun hk=>absurd hk (by decide),fun hk=> ?_⟩⟩
   have h6:e' 82= .ptr b 0:=hw 6 (by decide+kernel) (by decide)
   simp -dsimp only[↓bp,bq,br,seval,cW,h6]
  ·refine⟨rfl,fun e' s hs hw hf=> ⟨fun hk=>absurd hk (by decide),fun hk=> ?_⟩⟩
   have h7:e' 83= .ptr b 1:=hw 7 (by decide+kernel) (by decide)
   have hb':=hs.box _ _ hb
   simp -dsimp only[↓bp,bq,br,seval,cW,h7,hb']
  ·refine⟨rfl,fun e' s hs hw hf=> ⟨fun hk=>absurd hk (by decide),fun hk=> ?_⟩⟩
   have h4:e' 80=tE g l cap:=hw 4 (by decide+kernel) (by decide)
   have h8:e' 84= .int .i64 0:=hw 8 (by decide+kernel) (by decide)
   simp -dsimp only[↓bp,bq,br,seval,cW,h4,h8]
   refine pE (ag:=false) (l:=0) (h:=l) (s:=1) A2i (by simp[cM]) rfl (by omega) (by omega) ?_
   rw[vN,Nat.sub_zero,Nat.sub_zero]
   exact⟨rfl,rfl⟩
  ·refine⟨rfl,fun e' s hs hw hf=> ⟨fun hk=>absurd hk (by decide),fun hk=> ?_⟩⟩
   have h0:=hf 0 (by decide)
   simp -dsimp only[↓bp,bq,br,seval,cW]at h0
   simp -dsimp only[↓bp,bq,br,seval,cW,h0]
  ·refine⟨rfl,fun e' s hs hw hf=> ⟨fun hk=>absurd hk (by decide),fun hk=> ?_⟩⟩
   have h10:e' 86= .ptr b 0:=hw 10 (by decide+kernel) (by decide)
   simp -dsimp only[↓bp,bq,br,seval,cW,h10]
  ·refine⟨rfl,fun e' s hs hw hf=> ⟨fun hk=>absurd hk (by decide),fun hk=> ?_⟩⟩
   have h11:e' 87= .ptr b 0:=hw 11 (by decide+kernel) (by decide)
   simp -dsimp only[↓bp,bq,br,seval,cW,h11]
  ·refine⟨rfl,fun e' s hs hw hf=> ⟨fun hk=>absurd hk (by decide),fun hk=> ?_⟩⟩
   have h12:e' 88= .ptr b 1:=hw 12 (by decide+kernel) (by decide)
   have hb':=hs.box _ _ hb
   simp -dsimp only[↓bp,bq,br,seval,cW,h12,hb']
  ·refine⟨rfl,fun e' s hs hw hf=> ⟨fun hk=>absurd hk (by decide),fun hk=> ?_⟩⟩
   have h0:=hf 1 (by decide)
   simp -dsimp only[↓bp,bq,br,seval,cW]at h0
   simp -dsimp only[↓bp,bq,br,seval,cW,h0]
  ·refine⟨rfl,fun e' s hs hw hf=> ⟨fun hk=>absurd hk (by decide),fun hk=> ?_⟩⟩
   have h13:e' 89= .int .i64 0:=hw 13 (by decide+kernel) (by decide)
   have h14:e' 90= .int .i64 (n:Int):=hw 14 (by decide+kernel) (by decide)
   simp -dsimp only[↓bp,bq,br,seval,cW,h13,h14,hq5]
  ·refine⟨rfl,fun e' s hs hw hf=> ⟨fun hk hse=> ?_,fun hk=>absurd rfl hk⟩⟩
   subst hse
   have h9:e' 85=tE g l cap:=hw 9 (by decide+kernel) (by decide)
   have h15:e' 91= .int .i64 (n:Int):=hw 15 (by decide+kernel) (by decide)
   simp -dsimp only[↓bp,bq,br,seval,cW,h9,h15]
   exact t3
 ·rintro e' s' hv ⟨g2,cap2,hf2,h16,hc2,hm2,rfl⟩ hf
  have h0:e' 76= .ptr b 0:=hv 0 (by decide) (by decide)
  replace h16:e' 92=tE g2 l cap2:=h16
  have hn1:=fresh_ne hb hf2
  have k0:=hf 0 (by intro k _;omega)
  have k1:=hf 1 (by intro k _;omega)
  have k5:=hf 5 (by intro k _;omega)
  simp -dsimp only[↓bp,bq,br,seval,cW]at k0 k1 k5
  clear hv hf t3
  repeat'(first|refine xs ?_ ?_ <;>intros|(refine wn ?_;intro bx hbx;try simp only[fb]at hbx)|((refine pE (ag:=false) (l:=0) (h:=l+n) (s:=1) A2i rfl (by simp[cM];omega) (by omega) hc2 ?_;rw[vN,Nat.sub_zero,Nat.sub_zero]))|refine aQ ?_|(refine aB ?_;intro bx hbx;(try simp only[fb]at hbx))|refine aD ?_|((with_reducible refine And.intro ?_ ?_);omega)|refine aA (d':=⟨⟩) ?_|refine aR (by kernel_rfl) ?_|refine aP ?_ (by repeat' first|exact lr _|assumption|refine ls ?_ ?_|refine lt ?_ ?_|simp only[*];done|simp only[fb, *,not_false_eq_true,and_self];done|exact lf ‹_› (by simp only[*]))|refine aC ?_ (by repeat' first|exact lr _|assumption|refine ls ?_ ?_|refine lt ?_ ?_|simp only[*];done|simp only[fb, *,not_false_eq_true,and_self];done|exact lf ‹_› (by simp only[*]))|simp -dsimp only[↓bp,bq,br,seval,cW,hq6, *]|refine wz ?_|fail)
  exact aE _ (AS.le.refl _) ⟨rfl,g2,cap2,hf2,hn1.2,hc2,hm2,rfl⟩
end
set_option maxRecDepth 20000
section
def C2m:=And.intro (And.intro (And.intro @nK @nL) (And.intro @lY (And.intro @kW @kI))) (And.intro (And.intro @D3j @A5y) (And.intro @D7c (And.intro @A6c @A5z)))
variable {G:Nat ->AV}
structure uR(σ0 σ:AS)(b g cap:Nat)(xs:List UInt8)(rest:List AV):Prop where
 le:σ0.le σ
 outb:σ0.box b=none
 outg:σ0.box g=none
 tyg:σ0.ty g=none
 ne: ¬ g=b
 box:σ.box b=some (eX (tE g xs.length cap))
 row:σ.box g=some (aI xs++rest)
 len:xs.length+rest.length=cap
 ty:σ.ty g=some (.t 5,cap)
 cm:cap <=maxLen
inductive dZ(σ0 σ:AS)(b:Nat)(xs:List UInt8):Prop
 |nil (hx:xs=[]) (le:σ0.le σ) (outb:σ0.box b=none) (box:σ.box b=some (eX .nil))
 |row (g cap:Nat) (rest:List AV) (h:uR σ0 σ b g cap xs rest)
theorem dZ.le{σ0 σ:AS}{b:Nat}{xs:List UInt8}(h:dZ σ0 σ b xs):σ0.le σ:=by
 cases h with
 |nil _ h _ _=>exact h
 |row g cap rest h=>exact h.le
theorem dZ.out{σ0 σ:AS}{b:Nat}{xs:List UInt8}(h:dZ σ0 σ b xs):σ0.box b=none:=by
 cases h with
 |nil _ _ h _=>exact h
 |row g cap rest h=>exact h.outb
theorem dF(xs:List UInt8):(aI xs).length=xs.length:=by simp[aI]
theorem yR(xs:List UInt8)(rest:List AV):∀ a,a ∈ (aI xs++rest).take xs.length ->∃ u:UInt8,a=fN u:=fun a ha=>by
 rw[List.take_append_of_le_length (by rw[dF];exact Nat.le_refl _)]at ha
 obtain⟨u,_,rfl⟩:=List.mem_map.1 (List.mem_of_mem_take ha)
 exact⟨u,rfl⟩
theorem pB{xs ys:List UInt8}{rest:List AV}(h:ys.length <=rest.length):(aI xs++rest).take xs.length++aI ys++(aI xs++rest).drop (xs.length+ys.length)=aI (xs++ys)++rest.drop ys.length:=by
 rw[List.take_append_of_le_length (by rw[dF];exact Nat.le_refl _),List.take_of_length_le (by rw[dF];exact Nat.le_refl _),List.drop_append,dF,List.drop_of_length_le (by rw[dF];omega),show xs.length+ys.length - xs.length=ys.length by omega]
 simp[aI]
theorem uR.put{σ0 σ:AS}{b g cap:Nat}{xs ys:List UInt8}{rest:List AV}(h:uR σ0 σ b g cap xs rest)(hy:ys.length <=rest.length):uR σ0 ((σ.setBox b (eX (tE g (xs.length+ys.length) cap))).setBox g (aI (xs++ys)++rest.drop ys.length)) b g cap (xs++ys) (rest.drop ys.length):=by
 have hne:=h.ne
 have hne2: ¬ b=g:=fun e=>hne e.symm
 refine⟨(h.le.setBox h.outb _).setBox h.outg _,h.outb,h.outg,h.tyg,hne,?_,?_,?_,h.ty,h.cm⟩
 ·simp[AS.setBox,hne2]
 ·simp[AS.setBox]
 ·have:=h.len;simp;omega
theorem C4d(g l:Nat):(⟨g,0,none⟩:Addr).add (l*1)=⟨g,l,none⟩:=by rw[Nat.mul_one,Addr.add_lit,Nat.zero_add]
theorem A9m{σ0 σ:AS}{b g cap:Nat}{xs:List UInt8}{rest:List AV}(h:uR σ0 σ b g cap xs rest)(hr:1 <=rest.length)(c:UInt8):aJ Tryd.prog G 43 [.ptr b 0,fN c] σ fun r σ'=>r= .raw .nilIface /\ dZ σ0 σ' b (xs++[c]):=by
 have hput:=h.put (ys:=[c]) hr
 have hcm:cap <=9223372036854775807:=by have:=h.cm;unfold maxLen at this;omega
 have t1:=rL (G:=G) (n:=1) h.box (by have:=h.len;omega) hcm
 have hb:=h.box
 have hg:=h.row
 have hcl:xs.length+1 <=(aI xs++rest).length:=by rw[List.length_append,dF];omega
 rw[<- pB (xs:=xs) (ys:=[c]) hr]at hput
 have hne:=h.ne
 have hlt:((xs.length:Int) < ((xs.length+1:Nat):Int))=True:=eq_true (by omega)
 have hid:=jQ hb
 generalize aI xs++rest=cs at*
 clear h hr
 refine aJ.of_awp mixed Tryd.func43 rfl (by kernel_rfl) (by kernel_rfl) (by simp[Tryd.ntmps43]) Tryd.results43 ?_
 repeat'(first|refine xs ?_ ?_ <;>intros|(refine wn ?_;intro bx hbx;try simp only[fb]at hbx)|((refine aJ.mono t1 ?_;rintro r s ⟨rfl,hse⟩;rw[hse];clear hse s t1))|refine aQ ?_|(refine aB ?_;intro bx hbx;(try simp only[fb]at hbx))|refine aD ?_|((with_reducible refine And.intro ?_ ?_);omega)|refine aA (d':=⟨⟩) ?_|refine aR (by kernel_rfl) ?_|refine aP ?_ (by repeat' first|exact lr _|assumption|refine ls ?_ ?_|refine lt ?_ ?_|simp only[*];done|simp only[fb, *,not_false_eq_true,and_self];done|exact lf ‹_› (by simp only[*]))|refine aC ?_ (by repeat' first|exact lr _|assumption|refine ls ?_ ?_|refine lt ?_ ?_|simp only[*];done|simp only[fb, *,not_false_eq_true,and_self];done|exact lf ‹_› (by simp only[*]))|simp -dsimp only[↓bp,bq,br,seval,C2m,hid,fN,Nat.mul_one, *]|refine wz ?_|fail)
 exact aE _ (AS.le.refl _) ⟨rfl, .row g cap _ hput⟩
theorem wW(xs:List UInt8)(rest:List AV):(aI xs++rest).take xs.length=aI xs:=by
 rw[List.take_append_of_le_length (by rw[dF];exact Nat.le_refl _),List.take_of_length_le (by rw[dF];exact Nat.le_refl _)]
theorem uR.putNew{σ0 σ:AS}{b g cap g2 cap2:Nat}{xs ys:List UInt8}{rest:List AV}(h:uR σ0 σ b g cap xs rest)(hf:σ.fresh g2)(hn2: ¬ g2=b)(hc:xs.length+ys.length <=cap2)(hm:cap2 <=maxLen):
  uR σ0 ((((σ.setBox g2 (aI xs++List.replicate (cap2 - xs.length) (.int .u8 0))).setTy g2 (.t 5,cap2)).setBox b (eX (tE g2 (xs.length+ys.length) cap2))).setBox g2 (aI (xs++ys)++(List.replicate (cap2 - xs.length) (AV.int .u8 0)).drop ys.length)) b g2 cap2 (xs++ys) ((List.replicate (cap2 - xs.length) (AV.int .u8 0)).drop ys.length):=by
 have f0:=h.le.fresh hf
 have hne2: ¬ b=g2:=fun e=>hn2 e.symm
 refine⟨(((h.le.setBox f0.1 _).setTy f0.2.2 _).setBox h.outb _).setBox f0.1 _,h.outb,f0.1,f0.2.2,hn2,?_,?_,?_,?_,hm⟩
 ·simp[AS.setBox,AS.setTy,hne2]
 ·simp[AS.setBox,AS.setTy]
 ·simp;omega
 ·simp[AS.setBox,AS.setTy]
theorem A9l{σ0 σ:AS}{b g cap:Nat}{xs:List UInt8}{rest:List AV}(h:uR σ0 σ b g cap xs rest)(hr:rest.length=0)(h0:0 < xs.length)(hl:xs.length <=1000000000)(c:UInt8):aJ Tryd.prog G 43 [.ptr b 0,fN c] σ fun r σ'=>r= .raw .nilIface /\ dZ σ0 σ' b (xs++[c]):=by
 have hlen:=h.len
 have hcm:cap <=9223372036854775807:=by have:=h.cm;unfold maxLen at this;omega
 have t1:=nC (G:=G) (n:=1) h.box (by omega) (by omega) hcm
 have t2:=A4h (G:=G) (n:=1) h.box h.row h.ty (by rw[List.length_append,dF];omega) (by rw[List.length_append,dF];omega) h0 (by omega) (by omega) (by omega) (yR xs rest)
 rw[wW]at t2
 have hb:=h.box
 have hlt:((xs.length:Int) < ((xs.length+1:Nat):Int))=True:=eq_true (by omega)
 have hid:=jQ hb
 have fin:∀ g2 cap2,σ.fresh g2 -> ¬ g2=b ->xs.length+1 <=cap2 ->cap2 <=maxLen ->dZ σ0 ((((σ.setBox g2 (aI xs++List.replicate (cap2 - xs.length) (.int .u8 0))).setTy g2 (.t 5,cap2)).setBox b (eX (tE g2 (xs.length+1) cap2))).setBox g2 ((aI xs++List.replicate (cap2 - xs.length) (AV.int .u8 0)).take xs.length++[.int .u8 c.toNat]++(aI xs++List.replicate (cap2 - xs.length) (AV.int .u8 0)).drop (xs.length+1))) b (xs++[c]):=fun g2 cap2 hf hn hc hm=>by
  have:=h.putNew (ys:=[c]) hf hn hc hm
  rw[<- pB (xs:=xs) (ys:=[c]) (by simp;omega)]at this
  exact .row g2 cap2 _ this
 have hcl:∀ cap2:Nat,xs.length+1 <=cap2 ->xs.length+1 <=(aI xs++List.replicate (cap2 - xs.length) (AV.int .u8 0)).length:=fun cap2 hc=>by rw[List.length_append,dF,List.length_replicate];omega
 generalize hF:(fun cap2=>aI xs++List.replicate (cap2 - xs.length) (AV.int .u8 0))=F at*
 have hF2:∀ cap2,aI xs++List.replicate (cap2 - xs.length) (AV.int .u8 0)=F cap2:=fun cap2=>by rw[<- hF]
 simp only[hF2]at t2 fin hcl
 clear h hr hF hF2
 refine aJ.of_awp mixed Tryd.func43 rfl (by kernel_rfl) (by kernel_rfl) (by simp[Tryd.ntmps43]) Tryd.results43 ?_
 repeat'(first|refine xs ?_ ?_ <;>intros|(refine wn ?_;intro bx hbx;try simp only[fb]at hbx)|((refine aJ.mono t1 ?_;rintro r s ⟨rfl,hse⟩;rw[hse];clear hse s t1))|((refine aJ.mono t2 ?_;rintro r s ⟨rfl,g2,cap2,hf2,hn2,hc2,hm2,hse⟩;rw[hse];clear hse s t2;have hcl2:=hcl cap2 hc2;have fin2:=fin g2 cap2 hf2 hn2 hc2 hm2;clear fin hcl))|refine aQ ?_|(refine aB ?_;intro bx hbx;(try simp only[fb]at hbx))|refine aD ?_|((with_reducible refine And.intro ?_ ?_);omega)|refine aA (d':=⟨⟩) ?_|refine aR (by kernel_rfl) ?_|refine aP ?_ (by repeat' first|exact lr _|assumption|refine ls ?_ ?_|refine lt ?_ ?_|simp only[*];done|simp only[fb, *,not_false_eq_true,and_self];done|exact lf ‹_› (by simp only[*]))|refine aC ?_ (by repeat' first|exact lr _|assumption|refine ls ?_ ?_|refine lt ?_ ?_|simp only[*];done|simp only[fb, *,not_false_eq_true,and_self];done|exact lf ‹_› (by simp only[*]))|simp -dsimp only[↓bp,bq,br,seval,C2m,hid,fN,Nat.mul_one, *]|refine wz ?_|fail)
 exact aE _ (AS.le.refl _) ⟨rfl,fin2⟩
end
end Go.Proofs.YthoenjlenkpnnaaDoor
