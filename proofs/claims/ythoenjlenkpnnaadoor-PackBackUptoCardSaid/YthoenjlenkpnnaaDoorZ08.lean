/- bytes.Buffer on abstract values: its row in memory of its own, its capacity known. -/
import Derived.Test.YthoenjlenkpnnaaDoorZ06
import Derived.Test.YthoenjlenkpnnaaDoorZ07
set_option linter.unusedVariables false
set_option linter.unusedSimpArgs false
set_option maxRecDepth 20000
set_option linter.defProp false
namespace Go.Proofs.YthoenjlenkpnnaaDoor
open Go Go.Av
section
variable (G:Nat ->AV)
abbrev uB(g n cap:Nat):AV:= .raw (.slice (some ⟨g,0,none⟩) n cap)
theorem wL(g c s:Nat):(if c=0 then(⟨g,0,none⟩:Addr)else(⟨g,0,none⟩:Addr).add (0*s))=⟨g,0,none⟩:=by
 split
 ·rfl
 ·rw[Nat.zero_mul];rfl
theorem aJ.unraw{P:Program}{f:FuncId}{args:List AV}{σ:AS}{Q:AS ->Nat ->Prop}{xs:List UInt8}(h:aJ P G f args σ fun r s=>∃ g cap rest,r=uB g xs.length cap /\ s.box g=some (aI xs++rest) /\ cap <=maxLen /\ xs.length <=cap /\ Q s g):
  aJ P G f args σ fun r s=>r= .sl .none (aI xs) [] /\ ∃ s0 g,Q s0 g /\ s=s0.delBox g:=
 ⟨h.1, fun K w vals hr hv=> (h.2 K w vals hr hv).mono (by
   rintro e w' ⟨v,r,s,K',he,⟨g,cap,rest,rfl,hb,hm,hc,hQ⟩,hvr,hrel,hle⟩
   rw[VR.raw_iff]at hvr;subst hvr
   obtain⟨g1,g2,g3,g4,g5,c,E,hcell,hl,hcv⟩:=hrel.box g _ hb
   have h0:=hrel.delBox g
   obtain⟨k1,k2⟩:=h0.keep g (fun o=>decide (o < xs.length)) (by simp[AS.delBox]) (fun m q hq=>by
    have hq':s.tip g=some (m,q):=hq
    rw[g2]at hq';cases hq')
   have hlen:(aI xs).length=xs.length:=by simp[aI]
   have hfl:=A5j xs
   refine⟨_,_,_,_,he,⟨rfl,s,g,hQ,rfl⟩,?_,k2,hle.trans k1⟩
   have:=VR.sl (K:= {K' with imm:=fun i o=>if i=g /\ decide (o < xs.length)=true then w'.cell? ⟨g,o,none⟩else K'.imm i o}) .none (aI xs) [] 1 g 0 cap (fun j=>c.getD j Go.undef)
    (fun a ha=>by
      rw[List.append_nil]at ha
      have hx:=mK xs a ha
      obtain⟨u,_,rfl⟩:=List.mem_map.1 ha
      exact⟨hx.1,hx.2,fun d hd=>by simp[flat,gB]at hd;subst hd;rfl⟩)
    (by rw[hlen];simpa using hc) hm
    (fun j hj=>by
      rw[List.append_nil,hfl,hlen]at hj
      show(if g=g /\ decide (0+j < xs.length)=true then w'.cell? ⟨g,0+j,none⟩else _)=_
      rw[if_pos ⟨rfl,by simp;omega⟩,Nat.zero_add,cell_of_row w' g j c E (0,0) hcell]
      have:j < c.size:=by rw[List.length_append,hlen]at hl;omega
      simp[this])
    (fun j hj=>by
      have hj':j < (aI xs).length:=by rw[List.append_nil,hfl]at hj;exact hj
      have h1:=hcv j (by rw[List.length_append];omega)
      rw[List.getElem_append_left hj']at h1
      have e1:((aI xs++[]).flatMap flat)[j]=(aI xs)[j]:=by congr 1;rw[List.append_nil,hfl]
      rw[e1];exact h1.mono k1) trivial
   rw[hlen]at this
   exact this)⟩
theorem tfU:gK Tryd.prog 27=some (5,1,1):=lJ.2.2.2.2.2.2
theorem A7o:el Tryd.prog 27=some 5:=lJ.2.2.2.1
theorem E0p:(el Tryd.prog 27).bind (zc Tryd.prog)=some [.int .u8 0]:=by rw[A7o];exact mA.2.2.2.2.1
theorem A3l:(el Tryd.prog 27).bind (tk Tryd.prog)=some (false,1):=by rw[A7o];exact mA.1
theorem B5q {K:aW} {σ:AS} {w:World} (h:bR G K σ w) {g:Nat} {c:Array Value} {E:TypeId} {cs:List AV} (ht:σ.tip g=none) (hb:K.base <=g) (hi:∀ o,K.imm g o=none) (hc:w.heap[g]? =some (.cells c E (0,0))) (hl:cs.length <=c.size) (h1:∀ a,a ∈ cs ->Av.one a=true)
  (hv:∀ j (hj:j < cs.length),VR K cs[j] (c.getD j Go.undef)):bR G K (σ.setBox g cs) w:=by
 refine⟨h.imm,h.row,fun b cs' hb'=> ?_,fun b n s hb'=>h.tip b n s hb',h.ty,h.glob,h.below,h.bs⟩
 by_cases hbe:b=g
 ·subst hbe
  simp only[AS.setBox,if_true,Option.some.injEq]at hb'
  subst hb'
  exact⟨hb,ht,trivial,hi,h1,c,E,hc,hl,hv⟩
 ·simp only[AS.setBox,if_neg hbe]at hb'
  exact h.box b cs' hb'
theorem B4m{σ:AS}{g l c n:Nat}{cs:List AV}(hb:σ.box g=some cs)(ht:σ.ty g=some (.t 5,c))(hl:l <=cs.length)(hcl:cs.length <=c)(hn:1 <=n)(hlim:l+n <=1000000000000)(hc:c <=140737488355328)(hint:∀ a,a ∈ cs.take l ->∃ u:UInt8,a=gB u):
  aJ Tryd.prog G 64 [uB g l c, .int .i64 n] σ fun r σ'=>∃ g2 cap,σ.fresh g2 /\ r=uB g2 l cap /\ l+n <=cap /\ cap <=maxLen /\ σ'=(σ.setBox g2 (cs.take l++List.replicate (cap - l) (.int .u8 0))).setTy g2 (.t 5,cap):=by
 refine⟨by kernel_rfl,fun K w vals hr hv=> ?_⟩
 match vals,hv with
 | [x, y],⟨hx,hy,_⟩=>
  rw[VR.raw_iff]at hx;subst hx
  rw[VR.int_iff]at hy;subst hy
  obtain⟨g1,g2,g3,g4,g5,cur,E,g6,g7,g8⟩:=hr.box g cs hb
  obtain⟨cur2,fz,q1,q2⟩:=hr.ty g _ _ ht
  rw[g6]at q1
  simp only[Option.some.injEq,Obj.cells.injEq]at q1
  obtain⟨rfl,rfl,rfl⟩:=q1
  have hat:∀ j (hj:j < l),cur.toList[j]? =some (match cs[j]'(by omega)with| .int k m=> .int k m|_=>undef) /\ VR K (cs[j]'(by omega)) (cur.getD j Go.undef):=fun j hj=>by
   have h1:=g8 j (by omega)
   refine⟨?_,h1⟩
   obtain⟨u,hu⟩:=hint (cs[j]'(by omega)) (by
    have:cs[j]'(by omega)=(cs.take l)[j]'(by rw[List.length_take];omega):=by rw[List.getElem_take]
    rw[this];exact List.getElem_mem _)
   rw[hu]at h1 ⊢
   have h2:=VR.int_iff.1 h1
   have hjs:j < cur.size:=by omega
   simp only[gB]
   rw[List.getElem?_eq_getElem (by simpa using hjs)]
   have:cur.getD j Go.undef=cur.toList[j]'(by simpa using hjs):=by simp[Array.getD,hjs]
   rw[<- this,h2]
  have hone:∀ v ∈ cur.toList.take l,v.oneCell'=true:=by
   intro v hv
   obtain⟨j,hj,rfl⟩:=List.mem_iff_getElem.1 hv
   rw[List.length_take]at hj
   obtain⟨h1,h2⟩:=hat j (by omega)
   rw[List.getElem_take]
   have:=(List.getElem?_eq_some_iff.1 h1).2
   have h3:=h2.oneCell (g5 _ (List.getElem_mem _))
   have h4:cur.getD j Go.undef=cur.toList[j]'(by omega):=by
    have hjs:j < cur.size:=by omega
    simp[Array.getD,hjs]
   rw[h4]at h3;exact h3
  refine(B4l Tryd.laysM290 g l c n cur w g6 q2 (by omega) hn (by omega) hc hone).mono ?_
  rintro e w' ⟨cap,cells,rfl,hw,hcells,hcap,hcm,hsz,hbel⟩
  have hcsz:cells.size=cap:=by rw[<- Array.length_toList,hcells,List.length_append,List.length_take,List.length_replicate,Array.length_toList];omega
  have hlt:(cs.take l).length=l:=by rw[List.length_take];omega
  have hlc:(cur.toList.take l).length=l:=by rw[List.length_take,Array.length_toList];omega
  have hf:=hr.fresh (Nat.le_refl w.heap.size)
  have h0:=B5q G (hr.grown hbel) (cs:=cs.take l++List.replicate (cap - l) (.int .u8 0)) hf.2.1 hr.bs (hr.imm_none (Nat.le_refl _)) hw (by rw[List.length_append,hlt,List.length_replicate];omega) (fun a ha=>by
    rcases List.mem_append.1 ha with ha|ha
    ·exact g5 a (List.mem_of_mem_take ha)
    ·rw[(List.mem_replicate.1 ha).2];rfl) (fun j hj=>by
    rw[List.length_append,hlt,List.length_replicate]at hj
    have hjc:j < cells.size:=by omega
    have e0:cells.getD j Go.undef=cells.toList[j]'(by simpa using hjc):=by simp[Array.getD,hjc]
    by_cases hjl:j < l
    ·rw[List.getElem_append_left (by omega),List.getElem_take]
     have e1:cells.getD j Go.undef=cur.getD j Go.undef:=by
      rw[e0]
      simp only[hcells]
      rw[List.getElem_append_left (by omega),List.getElem_take]
      have hjs:j < cur.size:=by omega
      simp[Array.getD,hjs]
     rw[e1];exact g8 j (by omega)
    ·rw[List.getElem_append_right (by omega),List.getElem_replicate]
     have e1:cells.getD j Go.undef= .int .u8 0:=by
      rw[e0]
      simp only[hcells]
      rw[List.getElem_append_right (by omega),List.getElem_replicate]
     rw[e1];exact .int _ _)
  have hr2:=h0.typed hw hcsz
  exact⟨_,_,_,K,rfl,⟨w.heap.size,cap,hr.fresh (Nat.le_refl _),rfl,hcap,hcm,rfl⟩, .raw _,hr2,aW.le.refl K⟩
end
section
inductive aF where
 |mk (kind:UInt8) (neg:Bool) (limbs:List UInt32) (text:List UInt8) (num:Int) (items tail:List aF)
instance:Inhabited aF:=⟨.mk 0 false [] [] 0 [] []⟩
def aF.kind:aF ->UInt8| .mk k _ _ _ _ _ _=>k
def aF.neg:aF ->Bool| .mk _ g _ _ _ _ _=>g
def aF.limbs:aF ->List UInt32| .mk _ _ l _ _ _ _=>l
def aF.text:aF ->List UInt8| .mk _ _ _ s _ _ _=>s
def aF.num:aF ->Int| .mk _ _ _ _ n _ _=>n
def aF.items:aF ->List aF| .mk _ _ _ _ _ ks _=>ks
def aF.tail:aF ->List aF| .mk _ _ _ _ _ _ ts=>ts
def aF.knd(t:aF):Int:=t.kind.toNat
theorem aF.knd_nn(t:aF):0 <=t.knd:=Int.natCast_nonneg _
theorem aF.knd_lt(t:aF):t.knd < 256:=by
 have:=t.kind.toNat_lt
 unfold aF.knd;omega
def lY(x:UInt32):AV:= .int .u32 x.toNat
def hU(l:List UInt32):AV:= .sl .none (l.map lY) []
instance {l:List UInt32} :NotBs (hU l):=⟨fun _ _ _ _ h=>by unfold hU at h;cases h⟩
def aF.enc:aF ->AV
 | .mk k g l s n ks ts=> .agg [.int .u8 k.toNat, .bool g,hU l, .str s, .int .i64 n, .sl .none (ks.map aF.enc) [], .sl .none (ts.map aF.enc) []]
def cZ(l:List aF):AV:= .sl .none (l.map aF.enc) []
instance {l:List aF} :NotBs (cZ l):=⟨fun _ _ _ _ h=>by unfold cZ at h;cases h⟩
theorem aF.flat_enc(t:aF):flat t.enc=[.int .u8 t.knd, .bool t.neg,hU t.limbs, .str t.text, .int .i64 t.num,cZ t.items,cZ t.tail]:=by
 cases t;simp[aF.enc,flat,aF.knd,aF.kind,aF.neg,aF.limbs,aF.text,aF.num,aF.items,aF.tail,cZ]
theorem aF.isv_enc(t:aF):isv t.enc=true:=by cases t;simp[aF.enc,isv]
theorem aF.fold_enc(t:aF):AV.agg [.int .u8 t.knd, .bool t.neg,hU t.limbs, .str t.text, .int .i64 t.num,cZ t.items,cZ t.tail]=t.enc:=by
 cases t;simp[aF.enc,aF.knd,aF.kind,aF.neg,aF.limbs,aF.text,aF.num,aF.items,aF.tail,cZ]
theorem bX(l:List aF):isv (cZ l)=true:=rfl
theorem bL(l:List aF):flat (cZ l)=[cZ l]:=rfl
theorem dO(l:List UInt32):isv (hU l)=true:=rfl
theorem cQ(l:List UInt32):flat (hU l)=[hU l]:=rfl
theorem dC{P:Program}{t:TypeId}(l:List aF):gH P .len #[t] [cZ l]=if(el P t).isSome then some (.int .i64 l.length)else none:=by
 simp[cZ,C1y]
theorem eX{P:Program}{t:TypeId}(l:List UInt32):gH P .len #[t] [hU l]=if(el P t).isSome then some (.int .i64 l.length)else none:=by
 simp[hU,C1y]
theorem fF{P:Program}{t:TypeId}{k:IntKind}(l:List aF)(i:Nat):eH P t (cZ l) (.int k (i:Int))=ixk ((el P t).bind (tk P)) ((l[i]?).map aF.enc):=by
 simp[cZ,jJ]
theorem gO{P:Program}{t:TypeId}{k:IntKind}(l:List aF)(i:Int)(h:0 <=i):eH P t (cZ l) (.int k i)=ixk ((el P t).bind (tk P)) ((l[i.toNat]?).map aF.enc):=by
 simp[cZ,jJ,h]
theorem gY{P:Program}{t:TypeId}{k:IntKind}(l:List UInt32)(i:Nat):eH P t (hU l) (.int k (i:Int))=ixk ((el P t).bind (tk P)) ((l[i]?).map lY):=by
 simp[hU,jJ]
theorem fW{P:Program}{t:TypeId}{k:IntKind}(l:List UInt32)(i:Int)(h:0 <=i):eH P t (hU l) (.int k i)=ixk ((el P t).bind (tk P)) ((l[i.toNat]?).map lY):=by
 simp[hU,jJ,h]
theorem eJ(x:UInt32):flat (lY x)=[lY x]:=rfl
theorem aF.ind{P:aF ->Prop}(h:∀ t,(∀ k,k ∈ t.items ->P k) -> (∀ k,k ∈ t.tail ->P k) ->P t):∀ t,P t:=by
 have key:∀ n,∀ t:aF,SizeOf.sizeOf t <=n ->P t:=by
  intro n
  induction n with
  |zero=>intro t ht;cases t;simp at ht
  | succ n ih=>
   intro t ht
   cases t with
   | mk a b c d e ks ts=>
    refine h _ (fun k hk=>ih k ?_) (fun k hk=>ih k ?_)
    ·have:=List.sizeOf_lt_of_mem (show k ∈ ks from hk)
     simp at ht
     omega
    ·have:=List.sizeOf_lt_of_mem (show k ∈ ts from hk)
     simp at ht
     omega
 exact fun t=>key _ t (Nat.le_refl _)
mutual
def aF.bulk:aF ->Nat
 | .mk _ _ l s _ ks ts=>l.length+s.length+bQ ks+bQ ts+1
def bQ:List aF ->Nat
 |[]=>0
 |k::ks=>k.bulk+bQ ks
end
theorem aF.bulk_eq(t:aF):t.bulk=t.limbs.length+t.text.length+bQ t.items+bQ t.tail+1:=by cases t;simp[aF.bulk,aF.limbs,aF.text,aF.items,aF.tail]
theorem gM{l:List aF}{k:aF}(h:k ∈ l):k.bulk <=bQ l:=by
 induction l with
 |nil=>cases h
 | cons x l ih=>
  simp only[bQ]
  rcases List.mem_cons.1 h with rfl|h
  ·omega
  ·have:=ih h;omega
theorem jB(l r:List aF):bQ (l++r)=bQ l+bQ r:=by
 induction l with
 |nil=>simp[bQ]
 |cons x l ih=>simp only[List.cons_append,bQ,ih];omega
theorem dE(l:List aF):l.length <=bQ l:=by
 induction l with
 |nil=>simp[bQ]
 |cons x l ih=>have:=x.bulk_eq;simp only[List.length_cons,bQ];omega
theorem sV{k t:aF}(h:k ∈ t.items):k.bulk < t.bulk:=by
 have:=gM h;have:=t.bulk_eq;omega
theorem sW{k t:aF}(h:k ∈ t.tail):k.bulk < t.bulk:=by
 have:=gM h;have:=t.bulk_eq;omega
theorem fI(t:aF):t.items.length < t.bulk:=by
 have:=dE t.items;have:=t.bulk_eq;omega
theorem gP(t:aF):t.tail.length < t.bulk:=by
 have:=dE t.tail;have:=t.bulk_eq;omega
theorem fJ(t:aF):t.limbs.length < t.bulk:=by
 have:=t.bulk_eq;omega
theorem aG{x:Int}(h0: -9223372036854775808 <=x)(h1:x <=9223372036854775807):IntKind.i64.wrap x=x:=by
 rw[IntKind.wrap_i64];omega
theorem aM{α:Type}(l:List α)(i:Nat)(x:α)(h:l[i]? =some x):l.take (i+1)=l.take i++[x]:=by
 rw[List.take_add_one,h];rfl
theorem eW{α:Type}(l:List α)(i:Nat)(x:α)(h:l[i]? =some x):l.drop i=x::l.drop (i+1):=by
 obtain⟨hi,rfl⟩:=List.getElem?_eq_some_iff.1 h
 exact List.drop_eq_getElem_cons hi
end
section
def tO:=And.intro (And.intro (And.intro @mD (And.intro @mE @mA)) (And.intro @mB (And.intro @lG @lF))) (And.intro (And.intro @dO (And.intro @cQ @eX)) (And.intro @gY (And.intro @fW @eJ)))
variable (G:Nat ->AV)
def D1c(k i:Int):Int:=IntKind.i64.wrap (IntKind.i64.wrap (1000003*IntKind.i64.wrap (k+7))+i)
theorem C8l{x y:UInt32} :((x.toNat:Int)=(y.toNat:Int)) ↔ x=y:=by
 constructor
 ·intro h;exact UInt32.toNat_inj.1 (by omega)
 ·rintro rfl;rfl
theorem kP{α:Type}{l r:List α}{i:Nat}{x:α}(h:l.take i=r.take i)(hl:l[i]? =some x)(hr:r[i]? =some x):l.take (i+1)=r.take (i+1):=by
 rw[aM _ _ _ hl,aM _ _ _ hr,h]
theorem mV{α:Type}{l r:List α}(hl:l.length=r.length)(h:l.take l.length=r.take l.length):l=r:=by
 rw[List.take_length]at h
 rw[h,hl,List.take_length]
theorem zI(l r:List UInt32)(hl:l.length <=1000000000)(hr:r.length <=1000000000):aN Tryd.prog G 72 [hU l,hU r] (.bool (decide (l=r))):=by
 intro σ
 refine aJ.of_awp mixed Tryd.func72 rfl (by kernel_rfl) (by kernel_rfl) (by simp[Tryd.ntmps72]) Tryd.results72 ?_
 repeat'(first|refine xs ?_ ?_ <;>intros|(refine wn ?_;intro bx hbx;try simp only[fb]at hbx)|refine aP ?_|(refine aB ?_;intro bx hbx;(try simp only[fb]at hbx))|refine aD ?_|((with_reducible refine And.intro ?_ ?_);omega)|refine aA (d':=⟨⟩) ?_|refine aR (by kernel_rfl) ?_|refine aO ?_ (by repeat' first|exact lr _|assumption|refine ls ?_ ?_|refine lt ?_ ?_|simp only[*];done|simp only[fb, *,not_false_eq_true,and_self];done|exact lf ‹_› (by simp only[*]))|refine aC ?_ (by repeat' first|exact lr _|assumption|refine ls ?_ ?_|refine lt ?_ ?_|simp only[*];done|simp only[fb, *,not_false_eq_true,and_self];done|exact lf ‹_› (by simp only[*]))|simp -dsimp only[↓bp,bq,br,seval,tO, *]|refine wz ?_|fail)
 rotate_right
 ·skip
  refine eC mixed (fun n e=>∃ i:Nat,i <=(l).length /\ n=(l).length - i /\ e 5= .int .i64 i /\ l.take i=r.take i) (l).length
    ⟨0,by omega,by omega,by simp -dsimp only[↓bp,bq,br,seval,tO];first|done|rfl,rfl⟩ ?_
  rintro n v ⟨i,hi,rfl,h5,htk⟩
  simp -dsimp only[↓bp,bq,br,seval,tO]at h5
  simp -dsimp only[↓bp,bq,br,seval,tO,h5]
  refine cX (fun hlt=> ?_) (fun hge=> ?_)
  ·obtain⟨x,hx⟩:∃ x,l[i]? =some x:=⟨_,List.getElem?_eq_getElem (by omega)⟩
   obtain⟨y,hy⟩:∃ y,r[i]? =some y:=⟨_,List.getElem?_eq_getElem (by omega)⟩
   clear hi hlt
   repeat'(first|refine xs ?_ ?_ <;>intros|(refine wn ?_;intro bx hbx;try simp only[fb]at hbx)|refine aP ?_|(refine aB ?_;intro bx hbx;(try simp only[fb]at hbx))|refine aD ?_|((with_reducible refine And.intro ?_ ?_);omega)|refine aA (d':=⟨⟩) ?_|refine aR (by kernel_rfl) ?_|refine aO ?_ (by repeat' first|exact lr _|assumption|refine ls ?_ ?_|refine lt ?_ ?_|simp only[*];done|simp only[fb, *,not_false_eq_true,and_self];done|exact lf ‹_› (by simp only[*]))|refine aC ?_ (by repeat' first|exact lr _|assumption|refine ls ?_ ?_|refine lt ?_ ?_|simp only[*];done|simp only[fb, *,not_false_eq_true,and_self];done|exact lf ‹_› (by simp only[*]))|simp -dsimp only[↓bp,bq,br,seval,tO,lY, *]|refine wz ?_|fail)
   ·have hxy:l ≠ r:=fun e=>by subst e;rw[hx]at hy;simp only[Option.some.injEq]at hy;subst hy;simp_all
    simp[hxy]
   ·have hxy:x=y:=C8l.1 (by simp_all)
    subst hxy
    have hlt:=(List.getElem?_eq_some_iff.1 hx).1
    exact⟨l.length - (i+1),by omega,i+1,by omega,rfl,by rw[aG (by omega) (by omega)];rfl,kP htk hx hy⟩
  ·have:i=l.length:=by omega
   subst this
   have hlr:l=r:=mV (by omega) htk
   clear hi hge
   repeat'(first|refine xs ?_ ?_ <;>intros|(refine wn ?_;intro bx hbx;try simp only[fb]at hbx)|refine aP ?_|(refine aB ?_;intro bx hbx;(try simp only[fb]at hbx))|refine aD ?_|((with_reducible refine And.intro ?_ ?_);omega)|refine aA (d':=⟨⟩) ?_|refine aR (by kernel_rfl) ?_|refine aO ?_ (by repeat' first|exact lr _|assumption|refine ls ?_ ?_|refine lt ?_ ?_|simp only[*];done|simp only[fb, *,not_false_eq_true,and_self];done|exact lf ‹_› (by simp only[*]))|refine aC ?_ (by repeat' first|exact lr _|assumption|refine ls ?_ ?_|refine lt ?_ ?_|simp only[*];done|simp only[fb, *,not_false_eq_true,and_self];done|exact lf ‹_› (by simp only[*]))|simp -dsimp only[↓bp,bq,br,seval,tO, *]|refine wz ?_|fail)
   all_goals simp[hlr]
 ·have:l ≠ r:=fun e=>by subst e;simp_all
  simp[this]
def lmk(i:Int):AV:= .int .u32 (IntKind.u32.wrap (D1c 1 i))
def C2f(i:Nat):List AV:=(List.range i).map fun(i:Nat)=>lmk (i:Int)
def D3t:List AV:=C2f 12
def xF(l:List UInt32):AV:= .sl .none (l.map lY) D3t
end
set_option maxRecDepth 20000
section
def jP:=And.intro (And.intro (And.intro (And.intro @mD @mE) (And.intro @mA (And.intro @mB @lG))) (And.intro (And.intro @lF (And.intro @oB @iB)) (And.intro @jF (And.intro @aF.flat_enc @aF.isv_enc)))) (And.intro (And.intro (And.intro @aF.fold_enc (And.intro @bX @bL)) (And.intro @dC (And.intro @fF @gO))) (And.intro (And.intro @dO (And.intro @cQ @eX)) (And.intro @gY (And.intro @fW @eJ))))
variable (G:Nat ->AV)
mutual
def same:aF ->aF ->Bool
 | .mk k g l s n ks ts,u=>decide ((k.toNat:Int)=u.knd) && (g==u.neg) && decide (l=u.limbs) && decide (s=u.text) && decide (n=u.num) && lU ks u.items && lU ts u.tail
def lU:List aF ->List aF ->Bool
 |[],[]=>true
 |a::l,b::r=>same a b && lU l r
 |_,_=>false
end
theorem vL(t u:aF):same t u=(decide (t.knd=u.knd) && (t.neg==u.neg) && decide (t.limbs=u.limbs) && decide (t.text=u.text) && decide (t.num=u.num) && lU t.items u.items && lU t.tail u.tail):=by
 cases t;rw[same];rfl
theorem nT{l:List aF}(h:∀ t,t ∈ l ->∀ u,same t u=true ↔ t=u):∀ r,lU l r=true ↔ l=r:=by
 induction l with
 |nil=>intro r;cases r <;>simp[lU]
 | cons a l ih=>
  intro r
  cases r with
  |nil=>simp[lU]
  |cons b r=>simp only[lU,Bool.and_eq_true,h a (by simp) b,ih (fun t ht=>h t (by simp[ht])) r,List.cons.injEq]
theorem pO(t:aF):∀ u,same t u=true ↔ t=u:=by
 refine aF.ind (P:=fun t=>∀ u,same t u=true ↔ t=u) (fun t h1 h2 u=> ?_) t
 rw[vL]
 simp only[Bool.and_eq_true,decide_eq_true_eq,beq_iff_eq,nT h1,nT h2]
 constructor
 ·rintro⟨⟨⟨⟨⟨⟨h,rfl2⟩,h3⟩,h4⟩,h5⟩,h6⟩,h7⟩
  cases t;cases u
  simp only[aF.knd,aF.kind,aF.neg,aF.limbs,aF.text,aF.num,aF.items,aF.tail]at*
  simp only[aF.mk.injEq]
  exact⟨UInt8.toNat_inj.1 (by omega),rfl2,h3,h4,h5,h6,h7⟩
 ·rintro rfl;simp
theorem tL(l r:List aF):lU l r=true ↔ l=r:=nT (fun t _=>pO t) r
theorem A0f(l r:List aF)(h:l ≠ r):lU l r=false:=by
 cases hs:lU l r with
 |false=>rfl
 |true=>exact absurd ((tL l r).1 hs) h
theorem pP(l r:List aF)(hl:l.length <=1000000000)(hr:r.length <=1000000000)(hf:∀ x,x ∈ l ->∀ y,y ∈ r ->aN Tryd.prog G 61 [x.enc,y.enc] (.bool (same x y))):aN Tryd.prog G 39 [cZ l,cZ r] (.bool (lU l r)):=by
 intro σ
 refine aJ.of_awp mixed Tryd.func39 rfl (by kernel_rfl) (by kernel_rfl) (by simp[Tryd.ntmps39]) Tryd.results39 ?_
 repeat'(first|refine xs ?_ ?_ <;>intros|(refine wn ?_;intro bx hbx;try simp only[fb]at hbx)|refine aP ?_|(refine aB ?_;intro bx hbx;(try simp only[fb]at hbx))|refine aD ?_|((with_reducible refine And.intro ?_ ?_);omega)|refine aA (d':=⟨⟩) ?_|refine aR (by kernel_rfl) ?_|refine aO ?_ (by repeat' first|exact lr _|assumption|refine ls ?_ ?_|refine lt ?_ ?_|simp only[*];done|simp only[fb, *,not_false_eq_true,and_self];done|exact lf ‹_› (by simp only[*]))|refine aC ?_ (by repeat' first|exact lr _|assumption|refine ls ?_ ?_|refine lt ?_ ?_|simp only[*];done|simp only[fb, *,not_false_eq_true,and_self];done|exact lf ‹_› (by simp only[*]))|simp -dsimp only[↓bp,bq,br,seval,jP, *]|refine wz ?_|fail)
 rotate_right
 ·skip
  refine eC mixed (fun n e=>∃ i:Nat,i <=(l).length /\ n=(l).length - i /\ e 5= .int .i64 i /\ l.take i=r.take i) (l).length
    ⟨0,by omega,by omega,by simp -dsimp only[↓bp,bq,br,seval,jP];first|done|rfl,rfl⟩ ?_
  rintro n v ⟨i,hi,rfl,h5,htk⟩
  simp -dsimp only[↓bp,bq,br,seval,jP]at h5
  simp -dsimp only[↓bp,bq,br,seval,jP,h5]
  refine cX (fun hlt=> ?_) (fun hge=> ?_)
  ·obtain⟨x,hx⟩:∃ x,l[i]? =some x:=⟨_,List.getElem?_eq_getElem (by omega)⟩
   obtain⟨y,hy⟩:∃ y,r[i]? =some y:=⟨_,List.getElem?_eq_getElem (by omega)⟩
   have hc:=hf x (List.mem_of_getElem? hx) y (List.mem_of_getElem? hy)
   clear hi hlt hf
   repeat'(first|refine xs ?_ ?_ <;>intros|(refine wn ?_;intro bx hbx;try simp only[fb]at hbx)|refine wp hc ?_|refine aP ?_|(refine aB ?_;intro bx hbx;(try simp only[fb]at hbx))|refine aD ?_|((with_reducible refine And.intro ?_ ?_);omega)|refine aA (d':=⟨⟩) ?_|refine aR (by kernel_rfl) ?_|refine aO ?_ (by repeat' first|exact lr _|assumption|refine ls ?_ ?_|refine lt ?_ ?_|simp only[*];done|simp only[fb, *,not_false_eq_true,and_self];done|exact lf ‹_› (by simp only[*]))|refine aC ?_ (by repeat' first|exact lr _|assumption|refine ls ?_ ?_|refine lt ?_ ?_|simp only[*];done|simp only[fb, *,not_false_eq_true,and_self];done|exact lf ‹_› (by simp only[*]))|simp -dsimp only[↓bp,bq,br,seval,jP, *]|refine wz ?_|fail)
   ·have hxy:same x y=true:=by assumption
    have hxy:x=y:=(pO x y).1 hxy
    subst hxy
    have hlt:=(List.getElem?_eq_some_iff.1 hx).1
    exact⟨l.length - (i+1),by omega,i+1,by omega,rfl,by rw[aG (by omega) (by omega)];rfl,kP htk hx hy⟩
   ·have hxy:same x y=false:=by assumption
    have:l ≠ r:=fun e=>by subst e;rw[hx]at hy;simp only[Option.some.injEq]at hy;subst hy;rw[(pO x x).2 rfl]at hxy;cases hxy
    rw[A0f _ _ this]
  ·have:i=l.length:=by omega
   subst this
   have hlr:l=r:=mV (by omega) htk
   clear hi hge hf
   repeat'(first|refine xs ?_ ?_ <;>intros|(refine wn ?_;intro bx hbx;try simp only[fb]at hbx)|refine aP ?_|(refine aB ?_;intro bx hbx;(try simp only[fb]at hbx))|refine aD ?_|((with_reducible refine And.intro ?_ ?_);omega)|refine aA (d':=⟨⟩) ?_|refine aR (by kernel_rfl) ?_|refine aO ?_ (by repeat' first|exact lr _|assumption|refine ls ?_ ?_|refine lt ?_ ?_|simp only[*];done|simp only[fb, *,not_false_eq_true,and_self];done|exact lf ‹_› (by simp only[*]))|refine aC ?_ (by repeat' first|exact lr _|assumption|refine ls ?_ ?_|refine lt ?_ ?_|simp only[*];done|simp only[fb, *,not_false_eq_true,and_self];done|exact lf ‹_› (by simp only[*]))|simp -dsimp only[↓bp,bq,br,seval,jP, *]|refine wz ?_|fail)
   all_goals(subst hlr;rw[(tL l l).2 rfl])
 ·have:l ≠ r:=fun e=>by subst e;simp_all
  rw[A0f _ _ this]
theorem B5r(t:aF):∀ u:aF,t.bulk <=1000000000 ->u.bulk <=1000000000 ->aN Tryd.prog G 61 [t.enc,u.enc] (.bool (same t u)):=by
 refine aF.ind (P:=fun t=>∀ u:aF,t.bulk <=1000000000 ->u.bulk <=1000000000 ->aN Tryd.prog G 61 [t.enc,u.enc] (.bool (same t u))) (fun t ih1 ih2 u ht hu=> ?_) t
 have h1:=pP G t.items u.items (by have:=fI t;omega) (by have:=fI u;omega) (fun x hx y hy=>ih1 x hx y (by have:=sV hx;omega) (by have:=sV hy;omega))
 have h2:=pP G t.tail u.tail (by have:=gP t;omega) (by have:=gP u;omega) (fun x hx y hy=>ih2 x hx y (by have:=sW hx;omega) (by have:=sW hy;omega))
 have h3:=zI G t.limbs u.limbs (by have:=fJ t;omega) (by have:=fJ u;omega)
 clear ih1 ih2 ht hu
 intro σ
 refine aJ.of_awp mixed Tryd.func61 rfl (by kernel_rfl) (by kernel_rfl) (by simp[Tryd.ntmps61]) Tryd.results61 ?_
 repeat'(first|refine xs ?_ ?_ <;>intros|(refine wn ?_;intro bx hbx;try simp only[fb]at hbx)|refine wp h1 ?_|refine wp h2 ?_|refine wp h3 ?_|refine aP ?_|(refine aB ?_;intro bx hbx;(try simp only[fb]at hbx))|refine aD ?_|((with_reducible refine And.intro ?_ ?_);omega)|refine aA (d':=⟨⟩) ?_|refine aR (by kernel_rfl) ?_|refine aO ?_ (by repeat' first|exact lr _|assumption|refine ls ?_ ?_|refine lt ?_ ?_|simp only[*];done|simp only[fb, *,not_false_eq_true,and_self];done|exact lf ‹_› (by simp only[*]))|refine aC ?_ (by repeat' first|exact lr _|assumption|refine ls ?_ ?_|refine lt ?_ ?_|simp only[*];done|simp only[fb, *,not_false_eq_true,and_self];done|exact lf ‹_› (by simp only[*]))|simp -dsimp only[↓bp,bq,br,seval,jP, *]|refine wz ?_|fail)
 all_goals(first|(simp only[vL, *,Bool.and_true,Bool.true_and,Bool.and_false,Bool.false_and,Bool.or_true,Bool.true_or,Bool.or_false,Bool.false_or,Bool.not_true,Bool.not_false,if_true,if_false,Bool.and_self,Bool.or_self];done)|(simp[vL, *];done)|(simp_all [vL];done))
end
section
section C3k
variable {α:Type}
def aV(enc:α ->AV)(l:List α):AV:= .sl .none (l.map enc) []
instance {enc:α ->AV} {l:List α} :NotBs (aV enc l):=⟨fun _ _ _ _ h=>by unfold aV at h;cases h⟩
theorem dJ(enc:α ->AV)(l:List α):isv (aV enc l)=true:=rfl
theorem cL(enc:α ->AV)(l:List α):flat (aV enc l)=[aV enc l]:=rfl
theorem dR{P:Program}{t:TypeId}(enc:α ->AV)(l:List α):gH P .len #[t] [aV enc l]=if(el P t).isSome then some (.int .i64 l.length)else none:=by
 simp[aV,C1y]
theorem eF{P:Program}{t:TypeId}{k:IntKind}(enc:α ->AV)(l:List α)(i:Nat):eH P t (aV enc l) (.int k (i:Int))=ixk ((el P t).bind (tk P)) ((l[i]?).map enc):=by
 simp[aV,jJ]
theorem B9m{enc:α ->AV}{n:Nat}(hn:∀ x,(flat (enc x)).length=n)(l:List α):∀ a,a ∈ l.map enc -> (flat a).length=n:=fun a ha=>by
 obtain⟨x,_,rfl⟩:=List.mem_map.1 ha;exact hn x
theorem sF{P:Program}{t:TypeId}{ag:Bool}{n:Nat}{enc:α ->AV}(hn:∀ x,(flat (enc x)).length=n)(l:List α)(lo hi:Option AV)(ht:((el P t).bind (tk P))=some (ag,n)):eR P t (aV enc l) lo hi=match cW lo 0,cW hi l.length with
  |some a,some b=>if a <=b /\ b <=l.length then some (aV enc ((l.take b).drop a))else none
  |_,_=>none:=by
 unfold aV
 rw[B2y,ht,List.length_map]
 cases cW lo 0 with
 |none=>cases cW hi l.length <;>rfl
 | some a=>
  cases cW hi l.length with
  |none=>rfl
  | some b=>
   rw[B5w (B9m hn l)]
   simp only[List.length_map,List.map_drop,List.map_take]
def cK(f:α ->Nat):List α ->Nat
 |[]=>0
 |x::l=>f x+cK f l
theorem iV{f:α ->Nat}{l:List α}{x:α}(h:x ∈ l):f x <=cK f l:=by
 induction l with
 |nil=>cases h
 | cons y l ih=>
  simp only[cK]
  rcases List.mem_cons.1 h with rfl|h
  ·omega
  ·have:=ih h;omega
theorem gZ{f:α ->Nat}(hf:∀ x,1 <=f x)(l:List α):l.length <=cK f l:=by
 induction l with
 |nil=>simp[cK]
 |cons y l ih=>have:=hf y;simp only[List.length_cons,cK];omega
theorem wN{f:α ->Nat}(l:List α)(k:Nat):cK f (l.take k) <=cK f l:=by
 induction l generalizing k with
 |nil=>simp
 | cons x l ih=>
  cases k with
  |zero=>simp[cK]
  |succ k=>have:=ih k;simp only[List.take_succ_cons,cK];omega
theorem B1m(l:List aF):bQ l=cK aF.bulk l:=by
 induction l with
 |nil=>rfl
 |cons x l ih=>simp only[bQ,cK,ih]
end C3k
def jW(n:Int):AV:= .int .i64 n
theorem jM(n:Int):flat (jW n)=[.int .i64 n]:=rfl
instance:DecidableEq aF:=fun a b=>decidable_of_iff _ (pO a b)
theorem C3o(a b:aF):same a b=decide (a=b):=by
 rw[Bool.eq_iff_iff,pO,decide_eq_true_eq]
theorem B5s(a b:List aF):lU a b=decide (a=b):=by
 rw[Bool.eq_iff_iff,tL,decide_eq_true_eq]
def rU(n:Int):Prop:= -9223372036854775808 <=n /\ n <=9223372036854775807
theorem D8x{x y:UInt8} :((x.toNat:Int)=(y.toNat:Int)) ↔ x=y:=by
 constructor
 ·intro h;exact UInt8.toNat_inj.1 (by omega)
 ·rintro rfl;rfl
end
section
structure cM where
 name:List UInt8
 arity:Int
 extra:Int
 slots:Int
 pos:Int
 deriving DecidableEq
def cM.enc(x:cM):AV:= .agg [.str x.name, .int .i64 x.arity, .int .i64 x.extra, .int .i64 x.slots, .int .i64 x.pos]
theorem cM.flat_enc(x:cM):flat x.enc=[.str x.name, .int .i64 x.arity, .int .i64 x.extra, .int .i64 x.slots, .int .i64 x.pos]:=by simp only[cM.enc,flat]
theorem cM.isv_enc(x:cM):isv x.enc=true:=by simp only[cM.enc,isv]
theorem cM.fold_enc(x:cM):AV.agg [.str x.name, .int .i64 x.arity, .int .i64 x.extra, .int .i64 x.slots, .int .i64 x.pos]=x.enc:=by simp only[cM.enc]
theorem cM.len_flat(x:cM):(flat x.enc).length=5:=by rw[x.flat_enc];rfl
def cM.bulk(x:cM):Nat:=x.name.length+1
theorem cM.bulk_pos(x:cM):1 <=x.bulk:=by unfold cM.bulk;omega
structure cM.Rng(x:cM):Prop where
 arity:rU x.arity
 extra:rU x.extra
 slots:rU x.slots
 pos:rU x.pos
theorem cM.eq_parts(x y:cM):decide (x=y)=(decide (x.name=y.name) && decide (x.arity=y.arity) && decide (x.extra=y.extra) && decide (x.slots=y.slots) && decide (x.pos=y.pos)):=by
 cases x;cases y
 rw[Bool.eq_iff_iff]
 simp only[decide_eq_true_eq,Bool.and_eq_true,beq_iff_eq,cM.mk.injEq,and_assoc]
structure aQ where
 op:UInt8
 a:Int
 b:Int
 c:Int
 n:Int
 l:Int
 text:List UInt8
 slots:List Int
 deriving DecidableEq
def aQ.opI(x:aQ):Int:=x.op.toNat
theorem aQ.opI_nn(x:aQ):0 <=x.opI:=Int.natCast_nonneg _
theorem aQ.opI_lt(x:aQ):x.opI < 256:=by have:=x.op.toNat_lt;unfold aQ.opI;omega
def aQ.enc(x:aQ):AV:= .agg [.int .u8 x.opI, .int .i64 x.a, .int .i64 x.b, .int .i64 x.c, .int .i64 x.n, .int .i64 x.l, .str x.text,aV jW x.slots]
theorem aQ.flat_enc(x:aQ):flat x.enc=[.int .u8 x.opI, .int .i64 x.a, .int .i64 x.b, .int .i64 x.c, .int .i64 x.n, .int .i64 x.l, .str x.text,aV jW x.slots]:=by simp only[aQ.enc,flat]
theorem aQ.isv_enc(x:aQ):isv x.enc=true:=by simp only[aQ.enc,isv]
theorem aQ.fold_enc(x:aQ):AV.agg [.int .u8 x.opI, .int .i64 x.a, .int .i64 x.b, .int .i64 x.c, .int .i64 x.n, .int .i64 x.l, .str x.text,aV jW x.slots]=x.enc:=by simp only[aQ.enc]
theorem aQ.len_flat(x:aQ):(flat x.enc).length=8:=by rw[x.flat_enc];rfl
def aQ.bulk(x:aQ):Nat:=x.text.length+x.slots.length+1
theorem aQ.bulk_pos(x:aQ):1 <=x.bulk:=by unfold aQ.bulk;omega
structure aQ.Rng(x:aQ):Prop where
 a:rU x.a
 b:rU x.b
 c:rU x.c
 n:rU x.n
 l:rU x.l
 slots:∀ n,n ∈ x.slots ->rU n
theorem aQ.eq_parts(x y:aQ):decide (x=y)=(decide (x.opI=y.opI) && decide (x.a=y.a) && decide (x.b=y.b) && decide (x.c=y.c) && decide (x.n=y.n) && decide (x.l=y.l) && decide (x.text=y.text) && decide (x.slots=y.slots)):=by
 cases x;cases y
 rw[Bool.eq_iff_iff]
 simp only[aQ.opI,D8x,decide_eq_true_eq,Bool.and_eq_true,beq_iff_eq,aQ.mk.injEq,and_assoc]
structure cH where
 entries:List cM
 instrs:List aQ
 consts:List aF
 deriving DecidableEq
def cH.enc(x:cH):AV:= .agg [aV cM.enc x.entries,aV aQ.enc x.instrs,cZ x.consts]
theorem cH.flat_enc(x:cH):flat x.enc=[aV cM.enc x.entries,aV aQ.enc x.instrs,cZ x.consts]:=by simp only[cH.enc,flat]
theorem cH.isv_enc(x:cH):isv x.enc=true:=by simp only[cH.enc,isv]
theorem cH.fold_enc(x:cH):AV.agg [aV cM.enc x.entries,aV aQ.enc x.instrs,cZ x.consts]=x.enc:=by simp only[cH.enc]
def cH.bulk(x:cH):Nat:=cK cM.bulk x.entries+cK aQ.bulk x.instrs+bQ x.consts+1
structure cH.Rng(x:cH):Prop where
 entries:∀ e,e ∈ x.entries ->e.Rng
 instrs:∀ e,e ∈ x.instrs ->e.Rng
theorem cH.eq_parts(x y:cH):decide (x=y)=(decide (x.entries=y.entries) && decide (x.instrs=y.instrs) && decide (x.consts=y.consts)):=by
 cases x;cases y
 rw[Bool.eq_iff_iff]
 simp only[decide_eq_true_eq,Bool.and_eq_true,beq_iff_eq,cH.mk.injEq,and_assoc]
end
set_option maxRecDepth 20000
section
variable {G:Nat ->AV}
abbrev bS(b:List UInt8):AV:= .sl .none (aI b) []
end
set_option maxRecDepth 20000
section
def A7f:=And.intro (And.intro (And.intro (And.intro @mD @mE) (And.intro @mA @lG)) (And.intro (And.intro @lJ @tS) (And.intro @sJ @oO))) (And.intro (And.intro (And.intro @oA @jF) (And.intro @iB @xY)) (And.intro (And.intro @B6d @cH.flat_enc) (And.intro @cH.isv_enc @cH.fold_enc)))
variable {G:Nat ->AV}
theorem A8t{c:cH}{more:List UInt8}{k:Int}(w:aN Tryd.prog G 5 [] (.bool true))(g:aN Tryd.prog G 6 [c.enc] (.bool true)):aN Tryd.prog G 3 [c.enc,bS more, .int .i64 k] (.bool true):=by
 intro σ
 refine aJ.of_awp mixed Tryd.func3 rfl (by kernel_rfl) (by kernel_rfl) (by simp[Tryd.ntmps3]) Tryd.results3 ?_
 repeat'(first|refine xs ?_ ?_ <;>intros|(refine wn ?_;intro bx hbx;try simp only[fb]at hbx)|refine wp w ?_|refine wp g ?_|refine aP ?_|(refine aB ?_;intro bx hbx;(try simp only[fb]at hbx))|refine aD ?_|((with_reducible refine And.intro ?_ ?_);omega)|refine aA (d':=⟨⟩) ?_|refine aR (by kernel_rfl) ?_|refine aO ?_ (by repeat' first|exact lr _|assumption|refine ls ?_ ?_|refine lt ?_ ?_|simp only[*];done|simp only[fb, *,not_false_eq_true,and_self];done|exact lf ‹_› (by simp only[*]))|refine aC ?_ (by repeat' first|exact lr _|assumption|refine ls ?_ ?_|refine lt ?_ ?_|simp only[*];done|simp only[fb, *,not_false_eq_true,and_self];done|exact lf ‹_› (by simp only[*]))|simp -dsimp only[↓bp,bq,br,seval,A7f, *]|refine wz ?_|fail)
theorem B3f{c:cH}{more:List UInt8}{k:Int}(w:aN Tryd.prog G 5 [] (.bool true))(g:aN Tryd.prog G 6 [c.enc] (.bool false))(hm:50000 < more.length):aN Tryd.prog G 3 [c.enc,bS more, .int .i64 k] (.bool true):=by
 intro σ
 have hl:(aI more).length=more.length:=by simp[aI]
 have h':((50000:Int) < more.length)=True:=eq_true (by omega)
 clear hm
 refine aJ.of_awp mixed Tryd.func3 rfl (by kernel_rfl) (by kernel_rfl) (by simp[Tryd.ntmps3]) Tryd.results3 ?_
 repeat'(first|refine xs ?_ ?_ <;>intros|(refine wn ?_;intro bx hbx;try simp only[fb]at hbx)|refine wp w ?_|refine wp g ?_|refine aP ?_|(refine aB ?_;intro bx hbx;(try simp only[fb]at hbx))|refine aD ?_|((with_reducible refine And.intro ?_ ?_);omega)|refine aA (d':=⟨⟩) ?_|refine aR (by kernel_rfl) ?_|refine aO ?_ (by repeat' first|exact lr _|assumption|refine ls ?_ ?_|refine lt ?_ ?_|simp only[*];done|simp only[fb, *,not_false_eq_true,and_self];done|exact lf ‹_› (by simp only[*]))|refine aC ?_ (by repeat' first|exact lr _|assumption|refine ls ?_ ?_|refine lt ?_ ?_|simp only[*];done|simp only[fb, *,not_false_eq_true,and_self];done|exact lf ‹_› (by simp only[*]))|simp -dsimp only[↓bp,bq,br,seval,A7f,hl, *]|refine wz ?_|fail)
theorem B7s{c:cH}{more:List UInt8}{k:Int}(w:aN Tryd.prog G 5 [] (.bool true))(g:aN Tryd.prog G 6 [c.enc] (.bool false))(hm:more.length <=50000)(p:aN Tryd.prog G 7 [c.enc] (.tup [.nil, .int .i64 4]))(r:aN Tryd.prog G 8 [c.enc] (.bool false)):aN Tryd.prog G 3 [c.enc,bS more, .int .i64 k] (.bool true):=by
 intro σ
 have hl:(aI more).length=more.length:=by simp[aI]
 have h':((50000:Int) < more.length)=False:=eq_false (by omega)
 clear hm
 refine aJ.of_awp mixed Tryd.func3 rfl (by kernel_rfl) (by kernel_rfl) (by simp[Tryd.ntmps3]) Tryd.results3 ?_
 repeat'(first|refine xs ?_ ?_ <;>intros|(refine wn ?_;intro bx hbx;try simp only[fb]at hbx)|refine wp w ?_|refine wp g ?_|refine wp p ?_|refine wp r ?_|refine aP ?_|(refine aB ?_;intro bx hbx;(try simp only[fb]at hbx))|refine aD ?_|((with_reducible refine And.intro ?_ ?_);omega)|refine aA (d':=⟨⟩) ?_|refine aR (by kernel_rfl) ?_|refine aO ?_ (by repeat' first|exact lr _|assumption|refine ls ?_ ?_|refine lt ?_ ?_|simp only[*];done|simp only[fb, *,not_false_eq_true,and_self];done|exact lf ‹_› (by simp only[*]))|refine aC ?_ (by repeat' first|exact lr _|assumption|refine ls ?_ ?_|refine lt ?_ ?_|simp only[*];done|simp only[fb, *,not_false_eq_true,and_self];done|exact lf ‹_› (by simp only[*]))|simp -dsimp only[↓bp,bq,br,seval,A7f,hl, *]|refine wz ?_|fail)
structure B6v(G:Nat ->AV)(c:cH)(x more:List UInt8)(k:Int)(q:Nat):Prop where
 w:aN Tryd.prog G 5 [] (.bool true)
 g:aN Tryd.prog G 6 [c.enc] (.bool false)
 p:aN Tryd.prog G 7 [c.enc] (.tup [bS x, .int .i64 0])
 r:aN Tryd.prog G 8 [c.enc] (.bool true)
 d:aN Tryd.prog G 9 [bS x] (.tup [c.enc, .int .i64 0])
 s:aN Tryd.prog G 10 [c.enc,c.enc] (.bool true)
 m:more ≠ [] ->aN Tryd.prog G 9 [bS (x++more)] (.tup [(⟨[],[],[]⟩:cH).enc, .int .i64 4])
 y:∀ σ,aJ Tryd.prog G 11 [bS x] σ fun r s=>fN 1 5 σ s r (aI x)
 i:aN Tryd.prog G 12 [.int .i64 k, .int .i64 x.length] (.int .i64 q)
 h:aN Tryd.prog G 9 [bS (x.take q)] (.tup [(⟨[],[],[]⟩:cH).enc, .int .i64 4])
 hq:q <=x.length
 hx:x.length <=900000000
theorem A1n(x:List UInt8)(q:Nat)(h:q <=x.length):eR Tryd.prog 27 (bS x) none (some (.int .i64 q))=some (bS (x.take q)):=by
 have:=sF (P:=Tryd.prog) (enc:=gB) (n:=1) (fun _=>rfl) x none (some (.int .i64 q)) A3l
 simpa [cW,h,aV,aI,bS] using this
theorem B3h{c:cH}{x:List UInt8}{k:Int}{q:Nat}(H:B6v G c x [] k q):aN Tryd.prog G 3 [c.enc,bS [], .int .i64 k] (.bool true):=by
 intro σ
 obtain⟨w,g,p,r,d,s,m,y,i,h,hq,hx⟩:=H
 have hl:(aI x).length=x.length:=by simp[aI]
 have hl0:aI []=[]:=rfl
 have ht:=A1n x q hq
 have hfl:(flat (⟨[],[],[]⟩:cH).enc).length=3:=rfl
 have hil:=cH.isv_enc ⟨[],[],[]⟩
 generalize hZ:(⟨[],[],[]⟩:cH)=Z at*
 clear hZ m y hq hx
 unfold bS at*
 rw[hl0]
 refine aJ.of_awp mixed Tryd.func3 rfl (by kernel_rfl) (by kernel_rfl) (by simp[Tryd.ntmps3]) Tryd.results3 ?_
 repeat'(first|refine xs ?_ ?_ <;>intros|(refine wn ?_;intro bx hbx;try simp only[fb]at hbx)|refine wp w ?_|refine wp g ?_|refine wp p ?_|refine wp r ?_|refine wp d ?_|refine wp s ?_|refine wp i ?_|refine wp h ?_|refine aP ?_|(refine aB ?_;intro bx hbx;(try simp only[fb]at hbx))|refine aD ?_|((with_reducible refine And.intro ?_ ?_);omega)|refine aA (d':=⟨⟩) ?_|refine aR (by kernel_rfl) ?_|refine aO ?_ (by repeat' first|exact lr _|assumption|refine ls ?_ ?_|refine lt ?_ ?_|simp only[*];done|simp only[fb, *,not_false_eq_true,and_self];done|exact lf ‹_› (by simp only[*]))|refine aC ?_ (by repeat' first|exact lr _|assumption|refine ls ?_ ?_|refine lt ?_ ?_|simp only[*];done|simp only[fb, *,not_false_eq_true,and_self];done|exact lf ‹_› (by simp only[*]))|simp -dsimp only[↓bp,bq,br,seval,A7f,hl, *]|refine wz ?_|fail)
 all_goals skip
theorem B3g{c:cH}{x more:List UInt8}{k:Int}{q:Nat}(H:B6v G c x more k q)(hm:more ≠ [])(hm2:more.length <=50000):aN Tryd.prog G 3 [c.enc,bS more, .int .i64 k] (.bool true):=by
 intro σ
 obtain⟨w,g,p,r,d,s,m,y,i,h,hq,hx⟩:=H
 replace m:=m hm
 have hmp:=List.length_pos_iff.2 hm
 have hl:(aI x).length=x.length:=by simp[aI]
 have hl2:(aI more).length=more.length:=by simp[aI]
 have h1':((50000:Int) < more.length)=False:=eq_false (by omega)
 have h2':((0:Int) < more.length)=True:=eq_true (by omega)
 have ht:=A1n x q hq
 have hok:=mK more
 generalize hZ:(⟨[],[],[]⟩:cH)=Z at*
 clear hZ hm
 refine aJ.of_awp mixed Tryd.func3 rfl (by kernel_rfl) (by kernel_rfl) (by simp[Tryd.ntmps3]) Tryd.results3 ?_
 have hap:∀ g:Gh,Le (.sl g (aI x++aI more) []) (bS (x++more)):=fun g=>by
  have:aI (x++more)=aI x++aI more:=by simp[aI]
  unfold bS;rw[this];exact Le.gh
 have hne:aI x++aI more ≠ []:=fun e=>by
  have:=congrArg List.length e
  rw[List.length_append,hl,hl2,List.length_nil]at this;omega
 have hokk:∀ a,a ∈ aI x++aI more -> (flat a).length=1 /\ isv a=true:=fun a ha=>by
  rcases List.mem_append.1 ha with ha|ha
  ·exact mK x a ha
  ·exact hok a ha
 have mz:∀ g:Gh,aN Tryd.prog G 9 [.sl g (aI x++aI more) []] (.tup [Z.enc, .int .i64 4]):=fun g=>m.lessArgs (.cons (hap g) .nil)
 clear m hap
 repeat'(first|refine xs ?_ ?_ <;>intros|(refine wn ?_;intro bx hbx;try simp only[fb]at hbx)|refine wp w ?_|refine wp g ?_|refine wp p ?_|refine wp r ?_|refine wp d ?_|refine wp s ?_|refine wp i ?_|refine wp h ?_|((refine aJ.mono (y _) ?_;intro r2 s2 hW;have hS:σ.le s2:=AS.le.trans (by repeat' first|exact AS.le.refl _|refine AS.le.setBox ?_ (by simp_all [AS.fresh]) _) hW.le))|((refine nF hW tfU (jQ A7o) hok (by rw[hl,hl2];omega) (fun v2 σ2 hA=> ?_);obtain⟨rr,hv2,hb2,h02,ht2⟩:=hA.buf.form hne;subst hv2;have hF:=AS.froze_le (n:=(aI x++aI more).length) (s:=1) hA.buf.le h02 ht2;replace hF:=AS.le.trans (show σ.le _ by repeat' first|exact AS.le.refl _|refine AS.le.setBox ?_ (by simp_all [AS.fresh]) _) hF;clear hA hS hW))|((refine A9p hb2 ⟨rfl,rfl,hokk⟩ (mz _) ?_))|refine aP ?_|(refine aB ?_;intro bx hbx;(try simp only[fb]at hbx))|refine aD ?_|((with_reducible refine And.intro ?_ ?_);omega)|refine aA (d':=⟨⟩) ?_|refine aR (by kernel_rfl) ?_|refine aO ?_ (by repeat' first|exact lr _|assumption|refine ls ?_ ?_|refine lt ?_ ?_|simp only[*];done|simp only[fb, *,not_false_eq_true,and_self];done|exact lf ‹_› (by simp only[*]))|refine aC ?_ (by repeat' first|exact lr _|assumption|refine ls ?_ ?_|refine lt ?_ ?_|simp only[*];done|simp only[fb, *,not_false_eq_true,and_self];done|exact lf ‹_› (by simp only[*]))|simp -dsimp only[↓bp,bq,br,seval,A7f,hl,hl2, *]|refine wz ?_|fail)
 all_goals skip
end
set_option maxRecDepth 20000
section
def D8q:=And.intro (And.intro (And.intro (And.intro @mD @mE) (And.intro @mA @lG)) (And.intro (And.intro @lJ @tS) (And.intro @sJ @oO))) (And.intro (And.intro (And.intro @oA @jF) (And.intro @iB @xY)) (And.intro (And.intro @B6d @cH.flat_enc) (And.intro @cH.isv_enc @cH.fold_enc)))
variable {G:Nat ->AV}
theorem A8r{c:cH}{x:List UInt8}(hx:20 <=x.length)(sm:aN Tryd.prog G 14 [] c.enc)(bt:aN Tryd.prog G 15 [] (bS x))(p:aN Tryd.prog G 7 [c.enc] (.tup [bS x, .int .i64 0]))(d:aN Tryd.prog G 9 [bS x] (.tup [c.enc, .int .i64 0]))(h:aN Tryd.prog G 9 [bS (x.take 20)] (.tup [(⟨[],[],[]⟩:cH).enc, .int .i64 4]))(sb:aN Tryd.prog G 13 [bS x,bS x] (.bool true))(sc:aN Tryd.prog G 10 [c.enc,c.enc] (.bool true)):aN Tryd.prog G 5 [] (.bool true):=by
 intro σ
 have ht:=A1n x 20 hx
 have ht':eR Tryd.prog 27 (bS x) none (some (.int .i64 20))=some (bS (x.take 20)):=ht
 generalize hZ:(⟨[],[],[]⟩:cH)=Z at*
 clear hZ hx ht
 generalize x.take 20=y at*
 refine aJ.of_awp mixed Tryd.func5 rfl (by kernel_rfl) (by kernel_rfl) (by simp[Tryd.ntmps5]) Tryd.results5 ?_
 repeat'(first|refine xs ?_ ?_ <;>intros|(refine wn ?_;intro bx hbx;try simp only[fb]at hbx)|refine wp sm ?_|refine wp bt ?_|refine wp p ?_|refine wp d ?_|refine wp h ?_|refine wp sb ?_|refine wp sc ?_|refine aP ?_|(refine aB ?_;intro bx hbx;(try simp only[fb]at hbx))|refine aD ?_|((with_reducible refine And.intro ?_ ?_);omega)|refine aA (d':=⟨⟩) ?_|refine aR (by kernel_rfl) ?_|refine aO ?_ (by repeat' first|exact lr _|assumption|refine ls ?_ ?_|refine lt ?_ ?_|simp only[*];done|simp only[fb, *,not_false_eq_true,and_self];done|exact lf ‹_› (by simp only[*]))|refine aC ?_ (by repeat' first|exact lr _|assumption|refine ls ?_ ?_|refine lt ?_ ?_|simp only[*];done|simp only[fb, *,not_false_eq_true,and_self];done|exact lf ‹_› (by simp only[*]))|simp -dsimp only[↓bp,bq,br,seval,D8q, *]|refine wz ?_|fail)
 all_goals skip
end
set_option maxRecDepth 20000
section
def D1j:=And.intro (And.intro @mD @mE) (And.intro @mA (And.intro @lG @lJ))
variable {G:Nat ->AV}
theorem C5x{P:Program}{σ:AS}{t e:TypeId}{n dL len:Nat}{g:Gh}{ps:List (Nat × AV)}{xs sp:List AV}{K:AV ->AS ->Prop}{d:Dum σ}{d':Dum K}(h1:dH P t len ps=some (.sl g xs sp))(he:gK P t=some (e,n,dL))(hK:∀ b,σ.fresh b ->K (.bs b len n e) (σ.setBox b (xs.flatMap flat))):bmW true P σ t len ps K d d':=by
 refine .inr ⟨rfl,?_⟩
 obtain⟨h2,ag,h3⟩:=B1i he
 unfold nA
 rw[h1,h3,h2]
 exact hK
def D6n:List (Nat × AV):=[(0, .int .u8 112),(1, .int .u8 105),(2, .int .u8 103),(3, .int .u8 115)]
def oJ:List AV:=[.int .u8 112, .int .u8 105, .int .u8 103, .int .u8 115]
theorem C6u:dH Tryd.prog 27 4 D6n=some (.sl .full oJ []):=by
 refine kR ?_
 unfold bsk
 rw[tfU]
 simp[D6n,oJ,flat,isv,List.range_succ,one]
def C3g:List UInt8:=[0,1,1,102,1,0,0,2,0,0,0,1,11,0,1,0,1,7,0,1,2,1,97,1,1,0,1,0,0,0,1]
def exB:List UInt8:=[112,105,103,115,0,1,1,102,1,0,0,2,0,0,0,1,11,0,1,0,1,7,0,1,2,1,97,1,1,0,1,0,0,0,1]
set_option maxHeartbeats 1000000 in
theorem A1z:aN Tryd.prog G 15 [] (.sl .none (aI exB) []):=by
 refine aN.of_le fun σ=> ?_
 have hone:∀ a,a ∈ oJ ->flat a=[a] /\ isv a=true:=fun a ha=>by
  simp only[oJ,List.mem_cons,List.not_mem_nil,or_false]at ha
  rcases ha with rfl|rfl|rfl|rfl <;>exact⟨rfl,rfl⟩
 have hres:aI exB=oJ++aI C3g:=rfl
 have hk8:sk Tryd.prog 5= .int .u8:=mA.2.1
 rw[hres]
 refine aJ.of_awp mixed Tryd.func15 rfl (by kernel_rfl) (by kernel_rfl) (by simp[Tryd.ntmps15]) Tryd.results15 ?_
 repeat'(first|(refine wn ?_;intro bx hbx;try simp only[fb]at hbx)|((refine C5x C6u tfU (fun b hb=> ?_);rw[show oJ.flatMap flat=oJ from rfl]))|((refine C6d (cs:=oJ) AS.set_get A7o hk8 hone ?_))|((refine C5j (σ0:=σ) (xs:=oJ) (ys:=aI C3g) (.own _ oJ (AS.froze_le (n:=4) (s:=1) ((AS.le.refl σ).setBox hb.1 oJ) hb.1 hb.2.1) hb.2.1 (by simp[AS.setTip,oJ]) (fun a ha=>by rw[(hone a ha).1];rfl)) tfU (jQ A7o) (fun a ha=> (mK C3g a ha).1) (by decide) (fun v2 σ2 hA _=> ?_)))|refine aP ?_|(refine aB ?_;intro bx hbx;(try simp only[fb]at hbx))|refine aD ?_|((with_reducible refine And.intro ?_ ?_);omega)|refine aA (d':=⟨⟩) ?_|refine aO ?_ (by repeat' first|exact lr _|assumption|refine ls ?_ ?_|refine lt ?_ ?_|simp only[*];done|simp only[fb, *,not_false_eq_true,and_self];done|exact lf ‹_› (by simp only[*]))|refine aC ?_ (by repeat' first|exact lr _|assumption|refine ls ?_ ?_|refine lt ?_ ?_|simp only[*];done|simp only[fb, *,not_false_eq_true,and_self];done|exact lf ‹_› (by simp only[*]))|simp -dsimp only[↓bp,bq,br,seval,D1j, *]|refine wz ?_|fail)
 all_goals first|exact aE σ hA.le ⟨hA.told,rfl⟩|skip
theorem A5d(b:List UInt8)(hb:b.length <=1000000000)(σ:AS):aJ Tryd.prog G 11 [.sl .none (aI b) []] σ fun r s=>fN 1 5 σ s r (aI b):=by
 have hok:=mK b
 have hl:(aI b).length=b.length:=by simp[aI]
 refine aJ.of_awp mixed Tryd.func11 rfl (by kernel_rfl) (by kernel_rfl) (by simp[Tryd.ntmps11]) Tryd.results11 ?_
 repeat'(first|refine xs ?_ ?_ <;>intros|(refine wn ?_;intro bx hbx;try simp only[fb]at hbx)|((refine nF (σ0:=σ) (xs:=[]) (ys:=aI b) (.nil (AS.le.refl σ)) tfU (jQ A7o) hok (by rw[hl];simp only[List.length_nil];omega) (fun v2 σ2 hA=> ?_);replace hA:=hA.buf;rw[List.nil_append]at hA))|refine aP ?_|(refine aB ?_;intro bx hbx;(try simp only[fb]at hbx))|refine aD ?_|((with_reducible refine And.intro ?_ ?_);omega)|refine aA (d':=⟨⟩) ?_|refine aR (by kernel_rfl) ?_|refine aO ?_ (by repeat' first|exact lr _|assumption|refine ls ?_ ?_|refine lt ?_ ?_|simp only[*];done|simp only[fb, *,not_false_eq_true,and_self];done|exact lf ‹_› (by simp only[*]))|refine aC ?_ (by repeat' first|exact lr _|assumption|refine ls ?_ ?_|refine lt ?_ ?_|simp only[*];done|simp only[fb, *,not_false_eq_true,and_self];done|exact lf ‹_› (by simp only[*]))|simp -dsimp only[↓bp,bq,br,seval,D1j, *]|refine wz ?_|fail)
 exact aE _ (AS.le.refl _) hA
end
set_option maxRecDepth 20000
section
def bP:=And.intro (And.intro (And.intro (And.intro @mD @mE) (And.intro @mA (And.intro @mB @lG))) (And.intro (And.intro @lF (And.intro @oB @iB)) (And.intro @jF (And.intro @aF.flat_enc @aF.isv_enc)))) (And.intro (And.intro (And.intro @aF.fold_enc (And.intro @bX @bL)) (And.intro @dC (And.intro @fF @gO))) (And.intro (And.intro @dO (And.intro @cQ @eX)) (And.intro @gY (And.intro @fW @eJ))))
mutual
def bW:aF ->Int ->Int
 | .mk _ _ l s _ ks ts,m=>bK ts (bK ks (1+l.length+(s.length / 8:Nat)) m) m
def bK:List aF ->Int ->Int ->Int
 |[],n,_=>n
 |k::ks,n,m=>if n <=m then bK ks (n+bW k (m - n)) m else n
end
theorem xX(t:aF)(m:Int):bW t m=bK t.tail (bK t.items (1+t.limbs.length+(t.text.length / 8:Nat)) m) m:=by cases t;rw[bW];rfl
theorem jE(l:List aF)(ih:∀ k,k ∈ l ->∀ m,0 < bW k m /\ bW k m <=k.bulk):∀ n m,n <=bK l n m /\ bK l n m <=n+bQ l:=by
 induction l with
 |nil=>intro n m;simp[bK,bQ]
 | cons x l ih2=>
  intro n m
  have h1:=ih x (by simp) (m - n)
  have h2:=ih2 (fun k hk=>ih k (by simp[hk])) (n+bW x (m - n)) m
  simp only[bK,bQ]
  split <;>omega
theorem fB(t:aF):∀ m,0 < bW t m /\ bW t m <=t.bulk:=by
 refine aF.ind (P:=fun t=>∀ m,0 < bW t m /\ bW t m <=t.bulk) (fun t ih1 ih2 m=> ?_) t
 have h1:=jE t.items ih1 (1+t.limbs.length+(t.text.length / 8:Nat)) m
 have h2:=jE t.tail ih2 (bK t.items (1+t.limbs.length+(t.text.length / 8:Nat)) m) m
 rw[xX,aF.bulk_eq]
 omega
theorem nG(l:List aF)(i:Nat):bQ (l.take i) <=bQ l:=by
 have:=jB (l.take i) (l.drop i)
 rw[List.take_append_drop]at this
 omega
variable (G:Nat ->AV)
theorem kM(t:aF):∀ m:Int,0 <=m ->m <=1000000 ->t.bulk <=1000000000 ->aN Tryd.prog G 16 [t.enc, .int .i64 m] (.int .i64 (bW t m)):=by
 refine aF.ind (P:=fun t=>∀ m:Int,0 <=m ->m <=1000000 ->t.bulk <=1000000000 ->aN Tryd.prog G 16 [t.enc, .int .i64 m] (.int .i64 (bW t m))) (fun t ih1 ih2 m hm0 hm1 hbulk=> ?_) t
 intro σ
 have hbe:=t.bulk_eq
 have hl1:=dE t.items
 have hl2:=dE t.tail
 have hde:=xX t m
 obtain⟨n0,hn0⟩:∃ n0:Int,n0=1+t.limbs.length+(t.text.length / 8:Nat):=⟨_,rfl⟩
 rw[<- hn0]at hde
 have hq:IntKind.i64.wrap (IntKind.i64.wrap (1+(t.limbs.length:Int))+IntKind.i64.wrap ((t.text.length:Int).tdiv 8))=n0:=by
  have:((t.text.length:Int).tdiv 8)=((t.text.length / 8:Nat):Int):=by
   rw[Int.tdiv_eq_ediv_of_nonneg (by omega)];omega
  have hi:IntKind.i64.wrap ((t.text.length / 8:Nat):Int)=(t.text.length / 8:Nat):=aG (by omega) (by omega)
  rw[this,hi,aG (x:=1+(t.limbs.length:Int)) (by omega) (by omega),aG (by omega) (by omega),hn0]
 have hn1:n0 <=1+t.limbs.length+t.text.length:=by omega
 have hn2:0 < n0:=by omega
 clear hn0
 have e1:=jE t.items (fun k _=>fB k) n0 m
 refine aJ.of_awp mixed Tryd.func16 rfl (by kernel_rfl) (by kernel_rfl) (by simp[Tryd.ntmps16]) Tryd.results16 ?_
 simp -dsimp only[↓bp,bq,br,seval,bP]
 intro b hb
 simp -dsimp only[↓bp,bq,br,seval,bP,hq]
 refine aU (fun n e σ'=>∃ (i:Nat) (z:Int),i <=t.items.length /\ n=t.items.length - i /\ e 6= .int .i64 i /\ e 5= .int .i64 z /\ 0 < z /\ z <=n0+bQ (t.items.take i) /\ bK (t.items.drop i) z m=bK t.items n0 m /\
   σ'=σ.setBox b [.int .u8 t.knd, .bool t.neg,hU t.limbs, .str t.text, .int .i64 t.num,cZ t.items,cZ t.tail]) t.items.length
  ⟨0,n0,by omega,by omega,by simp -dsimp only[↓bp,bq,br,seval,bP];try rfl,by simp -dsimp only[↓bp,bq,br,seval,bP,hq],by omega,by simp[bQ],by rw[List.drop_zero],rfl⟩ ?_
 rintro n v σ' ⟨i,z,hi,rfl,h6,h5,hz0,hz1,hz,rfl⟩
 have hbt:=nG t.items i
 simp -dsimp only[↓bp,bq,br,seval,bP]at h6 h5
 simp -dsimp only[↓bp,bq,br,seval,bP,h6,h5]
 refine wX (fun hlt=> ?_) (fun hge=> ?_)
 ·obtain⟨k,hk⟩:∃ k,t.items[i]? =some k:=⟨_,List.getElem?_eq_getElem (by omega)⟩
  have hkm:k ∈ t.items:=List.mem_of_getElem? hk
  have hkb:=gM hkm
  have hko:=fB k (m - z)
  have hdr:=eW _ _ _ hk
  simp -dsimp only[↓bp,bq,br,seval,bP,h6,h5,hk,hlt]
  refine cX (fun hle=> ?_) (fun hnle=> ?_)
  ·have hw:IntKind.i64.wrap (m - z)=m - z:=aG (by omega) (by omega)
   simp -dsimp only[↓bp,bq,br,seval,bP,h6,h5,hk,hlt,hle,hw]
   refine aN.use (ih1 k hkm (m - z) (by omega) (by omega) (by omega)) ?_
   simp -dsimp only[↓bp,bq,br,seval,bP,h6,h5,hk,hlt,hle,hw]
   refine⟨t.items.length - (i+1),by omega,i+1,z+bW k (m - z),by omega,rfl,?_,?_,by omega,?_,?_⟩
   ·rw[aG (by omega) (by omega)];rfl
   ·rw[aG (by omega) (by omega)]
   ·rw[aM _ _ _ hk,jB]
    simp only[bQ]
    omega
   ·rw[<- hz,hdr,bK,if_pos hle]
  ·have hz':bK t.items n0 m=z:=by rw[<- hz,hdr,bK,if_neg hnle]
   simp -dsimp only[↓bp,bq,br,seval,bP,h6,h5,hk,hlt,hnle]
   have hz3:z <=n0+bQ t.items:=by omega
   have hz4:=jE t.tail (fun k _=>fB k) z m
   rw[hz']at hde
   refine aU (fun n e σ'=>∃ (i:Nat) (y:Int),i <=t.tail.length /\ n=t.tail.length - i /\ e 7= .int .i64 i /\ e 5= .int .i64 y /\ 0 < y /\ y <=z+bQ (t.tail.take i) /\ bK (t.tail.drop i) y m=bK t.tail z m /\
     σ'=σ.setBox b [.int .u8 t.knd, .bool t.neg,hU t.limbs, .str t.text, .int .i64 t.num,cZ t.items,cZ t.tail]) t.tail.length
    ⟨0,z,by omega,by omega,by simp -dsimp only[↓bp,bq,br,seval,bP];try rfl,by simp -dsimp only[↓bp,bq,br,seval,bP,h5],by omega,by simp[bQ],by rw[List.drop_zero],rfl⟩ ?_
   rintro n2 v2 σ' ⟨j,y,hj,rfl,h7,h5',hy0,hy1,hy,rfl⟩
   have hbt2:=nG t.tail j
   simp -dsimp only[↓bp,bq,br,seval,bP]at h7 h5'
   simp -dsimp only[↓bp,bq,br,seval,bP,h7,h5']
   refine wX (fun hlt2=> ?_) (fun hge2=> ?_)
   ·obtain⟨k,hk⟩:∃ k,t.tail[j]? =some k:=⟨_,List.getElem?_eq_getElem (by omega)⟩
    have hkm:k ∈ t.tail:=List.mem_of_getElem? hk
    have hkb:=gM hkm
    have hko:=fB k (m - y)
    have hdr:=eW _ _ _ hk
    simp -dsimp only[↓bp,bq,br,seval,bP,h7,h5',hk,hlt2]
    refine cX (fun hle=> ?_) (fun hnle=> ?_)
    ·have hw:IntKind.i64.wrap (m - y)=m - y:=aG (by omega) (by omega)
     simp -dsimp only[↓bp,bq,br,seval,bP,h7,h5',hk,hlt2,hle,hw]
     refine aN.use (ih2 k hkm (m - y) (by omega) (by omega) (by omega)) ?_
     simp -dsimp only[↓bp,bq,br,seval,bP,h7,h5',hk,hlt2,hle,hw]
     refine⟨t.tail.length - (j+1),by omega,j+1,y+bW k (m - y),by omega,rfl,?_,?_,by omega,?_,?_⟩
     ·rw[aG (by omega) (by omega)];rfl
     ·rw[aG (by omega) (by omega)]
     ·rw[aM _ _ _ hk,jB]
      simp only[bQ]
      omega
     ·rw[<- hy,hdr,bK,if_pos hle]
    ·simp -dsimp only[↓bp,bq,br,seval,bP,h7,h5',hk,hlt2,hnle]
     refine aL ?_ (bO hb (AS.le.refl σ))
     rw[hde,<- hy,hdr,bK,if_neg hnle]
   ·have:j=t.tail.length:=by omega
    subst this
    simp -dsimp only[↓bp,bq,br,seval,bP,h7,h5',hge2]
    refine aL ?_ (bO hb (AS.le.refl σ))
    rw[hde,<- hy,List.drop_length,bK]
 ·have:i=t.items.length:=by omega
  subst this
  have hz':bK t.items n0 m=z:=by rw[<- hz,List.drop_length,bK]
  simp -dsimp only[↓bp,bq,br,seval,bP,h6,h5,hge]
  have hz3:z <=n0+bQ t.items:=by omega
  have hz4:=jE t.tail (fun k _=>fB k) z m
  rw[hz']at hde
  refine aU (fun n e σ'=>∃ (i:Nat) (y:Int),i <=t.tail.length /\ n=t.tail.length - i /\ e 7= .int .i64 i /\ e 5= .int .i64 y /\ 0 < y /\ y <=z+bQ (t.tail.take i) /\ bK (t.tail.drop i) y m=bK t.tail z m /\
    σ'=σ.setBox b [.int .u8 t.knd, .bool t.neg,hU t.limbs, .str t.text, .int .i64 t.num,cZ t.items,cZ t.tail]) t.tail.length
   ⟨0,z,by omega,by omega,by simp -dsimp only[↓bp,bq,br,seval,bP];try rfl,by simp -dsimp only[↓bp,bq,br,seval,bP,h5],by omega,by simp[bQ],by rw[List.drop_zero],rfl⟩ ?_
  rintro n2 v2 σ' ⟨j,y,hj,rfl,h7,h5',hy0,hy1,hy,rfl⟩
  have hbt2:=nG t.tail j
  simp -dsimp only[↓bp,bq,br,seval,bP]at h7 h5'
  simp -dsimp only[↓bp,bq,br,seval,bP,h7,h5']
  refine wX (fun hlt2=> ?_) (fun hge2=> ?_)
  ·obtain⟨k,hk⟩:∃ k,t.tail[j]? =some k:=⟨_,List.getElem?_eq_getElem (by omega)⟩
   have hkm:k ∈ t.tail:=List.mem_of_getElem? hk
   have hkb:=gM hkm
   have hko:=fB k (m - y)
   have hdr:=eW _ _ _ hk
   simp -dsimp only[↓bp,bq,br,seval,bP,h7,h5',hk,hlt2]
   refine cX (fun hle=> ?_) (fun hnle=> ?_)
   ·have hw:IntKind.i64.wrap (m - y)=m - y:=aG (by omega) (by omega)
    simp -dsimp only[↓bp,bq,br,seval,bP,h7,h5',hk,hlt2,hle,hw]
    refine aN.use (ih2 k hkm (m - y) (by omega) (by omega) (by omega)) ?_
    simp -dsimp only[↓bp,bq,br,seval,bP,h7,h5',hk,hlt2,hle,hw]
    refine⟨t.tail.length - (j+1),by omega,j+1,y+bW k (m - y),by omega,rfl,?_,?_,by omega,?_,?_⟩
    ·rw[aG (by omega) (by omega)];rfl
    ·rw[aG (by omega) (by omega)]
    ·rw[aM _ _ _ hk,jB]
     simp only[bQ]
     omega
    ·rw[<- hy,hdr,bK,if_pos hle]
   ·simp -dsimp only[↓bp,bq,br,seval,bP,h7,h5',hk,hlt2,hnle]
    refine aL ?_ (bO hb (AS.le.refl σ))
    rw[hde,<- hy,hdr,bK,if_neg hnle]
  ·have:j=t.tail.length:=by omega
   subst this
   simp -dsimp only[↓bp,bq,br,seval,bP,h7,h5',hge2]
   refine aL ?_ (bO hb (AS.le.refl σ))
   rw[hde,<- hy,List.drop_length,bK]
end
set_option maxRecDepth 20000
section
def qZ:=And.intro (And.intro (And.intro (And.intro @mD @mE) (And.intro @mA (And.intro @mB @lG))) (And.intro (And.intro @lF (And.intro @oB @iB)) (And.intro @jF (And.intro @aF.flat_enc @aF.isv_enc)))) (And.intro (And.intro (And.intro @aF.fold_enc (And.intro @bX @bL)) (And.intro @dC (And.intro @fF @gO))) (And.intro (And.intro @dO (And.intro @cQ @eX)) (And.intro @gY (And.intro @fW @eJ))))
variable (G:Nat ->AV)
def A2u(l:List UInt32):Bool:=match l[l.length - 1]? with|some x=>decide ((x.toNat:Int) ≠ 0)|none=>false
def wr(t:aF):Bool:=
 decide (t.knd=1) && decide (t.text=[]) && decide (t.num=0) && decide ((t.items.length:Int)+t.tail.length=0) && decide ((t.limbs.length:Int) <=32) && (decide ((t.limbs.length:Int)=0) && !t.neg||decide (0 < (t.limbs.length:Int)) && A2u t.limbs)
set_option maxHeartbeats 2000000 in
theorem oG(t:aF)(hb:t.bulk <=1000000000):aN Tryd.prog G 66 [t.enc] (.bool (wr t)):=by
 have h1:=fJ t
 have h2:=fI t
 have h3:=gP t
 have hw1:IntKind.i64.wrap ((t.items.length:Int)+t.tail.length)=t.items.length+t.tail.length:=aG (by omega) (by omega)
 intro σ
 by_cases hl:0 < (t.limbs.length:Int)
 ·have hw2:IntKind.i64.wrap ((t.limbs.length:Int) - 1)=((t.limbs.length - 1:Nat):Int):=by rw[aG (by omega) (by omega)];omega
  obtain⟨x,hx⟩:∃ x,t.limbs[t.limbs.length - 1]? =some x:=⟨_,List.getElem?_eq_getElem (by omega)⟩
  have hlo:A2u t.limbs=decide ((x.toNat:Int) ≠ 0):=by simp[A2u,hx]
  have hl0: ¬ (t.limbs.length:Int)=0:=by omega
  clear h1 h2 h3 hb
  refine aJ.of_awp mixed Tryd.func66 rfl (by kernel_rfl) (by kernel_rfl) (by simp[Tryd.ntmps66]) Tryd.results66 ?_
  repeat'(first|refine xs ?_ ?_ <;>intros|(refine wn ?_;intro bx hbx;try simp only[fb]at hbx)|refine aP ?_|(refine aB ?_;intro bx hbx;(try simp only[fb]at hbx))|refine aD ?_|((with_reducible refine And.intro ?_ ?_);omega)|refine aA (d':=⟨⟩) ?_|refine aR (by kernel_rfl) ?_|refine aO ?_ (by repeat' first|exact lr _|assumption|refine ls ?_ ?_|refine lt ?_ ?_|simp only[*];done|simp only[fb, *,not_false_eq_true,and_self];done|exact lf ‹_› (by simp only[*]))|refine aC ?_ (by repeat' first|exact lr _|assumption|refine ls ?_ ?_|refine lt ?_ ?_|simp only[*];done|simp only[fb, *,not_false_eq_true,and_self];done|exact lf ‹_› (by simp only[*]))|simp -dsimp only[↓bp,bq,br,seval,qZ,lY, *]|refine wz ?_|fail)
  all_goals(first|(simp only[wr, *,Bool.and_true,Bool.true_and,Bool.and_false,Bool.false_and,Bool.or_true,Bool.true_or,Bool.or_false,Bool.false_or,Bool.not_true,Bool.not_false,if_true,if_false,Bool.and_self,Bool.or_self];done)|(simp[wr, *];done)|(simp_all [wr];done))
 ·have hl0:(t.limbs.length:Int)=0:=by omega
  clear h1 h2 h3 hb
  refine aJ.of_awp mixed Tryd.func66 rfl (by kernel_rfl) (by kernel_rfl) (by simp[Tryd.ntmps66]) Tryd.results66 ?_
  repeat'(first|refine xs ?_ ?_ <;>intros|(refine wn ?_;intro bx hbx;try simp only[fb]at hbx)|refine aP ?_|(refine aB ?_;intro bx hbx;(try simp only[fb]at hbx))|refine aD ?_|((with_reducible refine And.intro ?_ ?_);omega)|refine aA (d':=⟨⟩) ?_|refine aR (by kernel_rfl) ?_|refine aO ?_ (by repeat' first|exact lr _|assumption|refine ls ?_ ?_|refine lt ?_ ?_|simp only[*];done|simp only[fb, *,not_false_eq_true,and_self];done|exact lf ‹_› (by simp only[*]))|refine aC ?_ (by repeat' first|exact lr _|assumption|refine ls ?_ ?_|refine lt ?_ ?_|simp only[*];done|simp only[fb, *,not_false_eq_true,and_self];done|exact lf ‹_› (by simp only[*]))|simp -dsimp only[↓bp,bq,br,seval,qZ,lY, *]|refine wz ?_|fail)
  all_goals(first|(simp only[wr, *,Bool.and_true,Bool.true_and,Bool.and_false,Bool.false_and,Bool.or_true,Bool.true_or,Bool.or_false,Bool.false_or,Bool.not_true,Bool.not_false,if_true,if_false,Bool.and_self,Bool.or_self];done)|(simp[wr, *];done)|(simp_all [wr];done))
def bare(t:aF)(text num items tail:Bool):Bool:=
 !t.neg && decide ((t.limbs.length:Int)=0) && (text||decide (t.text=[])) && (num||decide (t.num=0)) && (items||decide ((t.items.length:Int)=0)) && (tail||decide ((t.tail.length:Int)=0))
set_option maxHeartbeats 2000000 in
theorem iH(t:aF):aN Tryd.prog G 67 [t.enc, .bool true, .bool false, .bool false, .bool false] (.bool (bare t true false false false)):=by
 intro σ
 refine aJ.of_awp mixed Tryd.func67 rfl (by kernel_rfl) (by kernel_rfl) (by simp[Tryd.ntmps67]) Tryd.results67 ?_
 repeat'(first|refine xs ?_ ?_ <;>intros|(refine wn ?_;intro bx hbx;try simp only[fb]at hbx)|refine aP ?_|(refine aB ?_;intro bx hbx;(try simp only[fb]at hbx))|refine aD ?_|((with_reducible refine And.intro ?_ ?_);omega)|refine aA (d':=⟨⟩) ?_|refine aR (by kernel_rfl) ?_|refine aO ?_ (by repeat' first|exact lr _|assumption|refine ls ?_ ?_|refine lt ?_ ?_|simp only[*];done|simp only[fb, *,not_false_eq_true,and_self];done|exact lf ‹_› (by simp only[*]))|refine aC ?_ (by repeat' first|exact lr _|assumption|refine ls ?_ ?_|refine lt ?_ ?_|simp only[*];done|simp only[fb, *,not_false_eq_true,and_self];done|exact lf ‹_› (by simp only[*]))|simp -dsimp only[↓bp,bq,br,seval,qZ, *]|refine wz ?_|fail)
 all_goals(first|(simp only[bare, *,Bool.and_true,Bool.true_and,Bool.and_false,Bool.false_and,Bool.or_true,Bool.true_or,Bool.or_false,Bool.false_or,Bool.not_true,Bool.not_false,if_true,if_false,Bool.and_self,Bool.or_self];done)|(simp[bare, *];done)|(simp_all [bare];done))
set_option maxHeartbeats 2000000 in
theorem iI(t:aF):aN Tryd.prog G 67 [t.enc, .bool false, .bool true, .bool false, .bool false] (.bool (bare t false true false false)):=by
 intro σ
 refine aJ.of_awp mixed Tryd.func67 rfl (by kernel_rfl) (by kernel_rfl) (by simp[Tryd.ntmps67]) Tryd.results67 ?_
 repeat'(first|refine xs ?_ ?_ <;>intros|(refine wn ?_;intro bx hbx;try simp only[fb]at hbx)|refine aP ?_|(refine aB ?_;intro bx hbx;(try simp only[fb]at hbx))|refine aD ?_|((with_reducible refine And.intro ?_ ?_);omega)|refine aA (d':=⟨⟩) ?_|refine aR (by kernel_rfl) ?_|refine aO ?_ (by repeat' first|exact lr _|assumption|refine ls ?_ ?_|refine lt ?_ ?_|simp only[*];done|simp only[fb, *,not_false_eq_true,and_self];done|exact lf ‹_› (by simp only[*]))|refine aC ?_ (by repeat' first|exact lr _|assumption|refine ls ?_ ?_|refine lt ?_ ?_|simp only[*];done|simp only[fb, *,not_false_eq_true,and_self];done|exact lf ‹_› (by simp only[*]))|simp -dsimp only[↓bp,bq,br,seval,qZ, *]|refine wz ?_|fail)
 all_goals(first|(simp only[bare, *,Bool.and_true,Bool.true_and,Bool.and_false,Bool.false_and,Bool.or_true,Bool.true_or,Bool.or_false,Bool.false_or,Bool.not_true,Bool.not_false,if_true,if_false,Bool.and_self,Bool.or_self];done)|(simp[bare, *];done)|(simp_all [bare];done))
set_option maxHeartbeats 2000000 in
theorem iJ(t:aF):aN Tryd.prog G 67 [t.enc, .bool false, .bool true, .bool true, .bool false] (.bool (bare t false true true false)):=by
 intro σ
 refine aJ.of_awp mixed Tryd.func67 rfl (by kernel_rfl) (by kernel_rfl) (by simp[Tryd.ntmps67]) Tryd.results67 ?_
 repeat'(first|refine xs ?_ ?_ <;>intros|(refine wn ?_;intro bx hbx;try simp only[fb]at hbx)|refine aP ?_|(refine aB ?_;intro bx hbx;(try simp only[fb]at hbx))|refine aD ?_|((with_reducible refine And.intro ?_ ?_);omega)|refine aA (d':=⟨⟩) ?_|refine aR (by kernel_rfl) ?_|refine aO ?_ (by repeat' first|exact lr _|assumption|refine ls ?_ ?_|refine lt ?_ ?_|simp only[*];done|simp only[fb, *,not_false_eq_true,and_self];done|exact lf ‹_› (by simp only[*]))|refine aC ?_ (by repeat' first|exact lr _|assumption|refine ls ?_ ?_|refine lt ?_ ?_|simp only[*];done|simp only[fb, *,not_false_eq_true,and_self];done|exact lf ‹_› (by simp only[*]))|simp -dsimp only[↓bp,bq,br,seval,qZ, *]|refine wz ?_|fail)
 all_goals(first|(simp only[bare, *,Bool.and_true,Bool.true_and,Bool.and_false,Bool.false_and,Bool.or_true,Bool.true_or,Bool.or_false,Bool.false_or,Bool.not_true,Bool.not_false,if_true,if_false,Bool.and_self,Bool.or_self];done)|(simp[bare, *];done)|(simp_all [bare];done))
set_option maxHeartbeats 2000000 in
theorem iK(t:aF):aN Tryd.prog G 67 [t.enc, .bool false, .bool false, .bool true, .bool false] (.bool (bare t false false true false)):=by
 intro σ
 refine aJ.of_awp mixed Tryd.func67 rfl (by kernel_rfl) (by kernel_rfl) (by simp[Tryd.ntmps67]) Tryd.results67 ?_
 repeat'(first|refine xs ?_ ?_ <;>intros|(refine wn ?_;intro bx hbx;try simp only[fb]at hbx)|refine aP ?_|(refine aB ?_;intro bx hbx;(try simp only[fb]at hbx))|refine aD ?_|((with_reducible refine And.intro ?_ ?_);omega)|refine aA (d':=⟨⟩) ?_|refine aR (by kernel_rfl) ?_|refine aO ?_ (by repeat' first|exact lr _|assumption|refine ls ?_ ?_|refine lt ?_ ?_|simp only[*];done|simp only[fb, *,not_false_eq_true,and_self];done|exact lf ‹_› (by simp only[*]))|refine aC ?_ (by repeat' first|exact lr _|assumption|refine ls ?_ ?_|refine lt ?_ ?_|simp only[*];done|simp only[fb, *,not_false_eq_true,and_self];done|exact lf ‹_› (by simp only[*]))|simp -dsimp only[↓bp,bq,br,seval,qZ, *]|refine wz ?_|fail)
 all_goals(first|(simp only[bare, *,Bool.and_true,Bool.true_and,Bool.and_false,Bool.false_and,Bool.or_true,Bool.true_or,Bool.or_false,Bool.false_or,Bool.not_true,Bool.not_false,if_true,if_false,Bool.and_self,Bool.or_self];done)|(simp[bare, *];done)|(simp_all [bare];done))
set_option maxHeartbeats 2000000 in
theorem gL(t:aF):aN Tryd.prog G 67 [t.enc, .bool false, .bool false, .bool true, .bool true] (.bool (bare t false false true true)):=by
 intro σ
 refine aJ.of_awp mixed Tryd.func67 rfl (by kernel_rfl) (by kernel_rfl) (by simp[Tryd.ntmps67]) Tryd.results67 ?_
 repeat'(first|refine xs ?_ ?_ <;>intros|(refine wn ?_;intro bx hbx;try simp only[fb]at hbx)|refine aP ?_|(refine aB ?_;intro bx hbx;(try simp only[fb]at hbx))|refine aD ?_|((with_reducible refine And.intro ?_ ?_);omega)|refine aA (d':=⟨⟩) ?_|refine aR (by kernel_rfl) ?_|refine aO ?_ (by repeat' first|exact lr _|assumption|refine ls ?_ ?_|refine lt ?_ ?_|simp only[*];done|simp only[fb, *,not_false_eq_true,and_self];done|exact lf ‹_› (by simp only[*]))|refine aC ?_ (by repeat' first|exact lr _|assumption|refine ls ?_ ?_|refine lt ?_ ?_|simp only[*];done|simp only[fb, *,not_false_eq_true,and_self];done|exact lf ‹_› (by simp only[*]))|simp -dsimp only[↓bp,bq,br,seval,qZ, *]|refine wz ?_|fail)
 all_goals(first|(simp only[bare, *,Bool.and_true,Bool.true_and,Bool.and_false,Bool.false_and,Bool.or_true,Bool.true_or,Bool.or_false,Bool.false_or,Bool.not_true,Bool.not_false,if_true,if_false,Bool.and_self,Bool.or_self];done)|(simp[bare, *];done)|(simp_all [bare];done))
end
set_option maxRecDepth 20000
section
def jU:=And.intro (And.intro (And.intro (And.intro @mD @mE) (And.intro @mA (And.intro @mB @lG))) (And.intro (And.intro @lF (And.intro @oB @iB)) (And.intro @jF (And.intro @aF.flat_enc @aF.isv_enc)))) (And.intro (And.intro (And.intro @aF.fold_enc (And.intro @bX @bL)) (And.intro @dC (And.intro @fF @gO))) (And.intro (And.intro @dO (And.intro @cQ @eX)) (And.intro @gY (And.intro @fW @eJ))))
variable (G:Nat ->AV)
def head(t:aF):Int × Int × Bool:=
 if t.knd=2 then(1,0,bare t true false false false && decide ((t.text.length:Int) <=40))
 else if t.knd=3 \/ t.knd=5 then(1,0,bare t false true false false && decide (0 <=t.num) && decide (t.num <=1099511627776))
 else if t.knd=4 then(2,0,bare t false true true false && decide (0 <=t.num) && decide (t.num <=16384))
 else if t.knd=6 then(1,0,bare t false false true false)
 else if t.knd=7 then(1,1,bare t false false true true && decide ((t.tail.length:Int) <=if(t.items.length:Int) < 1 then(t.items.length:Int)else 1) && t.tail.all fun x=>decide (x.knd ≠ 7))
 else(1,0,false)
mutual
def size:aF ->Int
 | .mk k g l s n ks ts=>
  if(k.toNat:Int)=1 then(if wr (.mk k g l s n ks ts)=true then 1+l.length else 0)else
   let h:=head (.mk k g l s n ks ts)
   let a:=aX ks h.2.1 (h.1,h.2.2)
   let b:=aX ts 0 a
   if b.2=true then b.1 else 0
def aX:List aF ->Int ->Int × Bool ->Int × Bool
 |[],_,a=>a
 |k::ks,each,a=>if a.2=true then aX ks each (a.1+size k+each,decide (0 < size k) && decide (a.1+size k+each <=4096))else a
end
theorem iE(t:aF):size t=if t.knd=1 then(if wr t=true then(1+t.limbs.length:Int)else 0)else
  if(aX t.tail 0 (aX t.items (head t).2.1 ((head t).1,(head t).2.2))).2=true then(aX t.tail 0 (aX t.items (head t).2.1 ((head t).1,(head t).2.2))).1 else 0:=by
 cases t;rw[size];rfl
theorem eP(l:List aF)(h:∀ x,x ∈ l ->0 <=size x /\ size x <=4096)(each:Int)(he0:0 <=each)(he1:each <=1):∀ a:Int × Bool,0 < a.1 -> (a.2=true ->a.1 <=4096) ->a.1 <=10000 ->
  0 < (aX l each a).1 /\ ((aX l each a).2=true -> (aX l each a).1 <=4096) /\ (aX l each a).1 <=10000:=by
 induction l with
 |nil=>intro a h1 h2 h3;exact⟨h1,h2,h3⟩
 | cons x l ih=>
  intro a h1 h2 h3
  have hx:=h x (by simp)
  simp only[aX]
  split
  ·rename_i hf
   have:=h2 hf
   refine ih (fun y hy=>h y (by simp[hy])) _ (by simp only;omega) (fun hh=> ?_) (by simp only;omega)
   simp only[Bool.and_eq_true,decide_eq_true_eq]at hh
   exact hh.2
  ·exact⟨h1,h2,h3⟩
theorem C7i(t:aF):0 < (head t).1 /\ (head t).1 <=2 /\ 0 <=(head t).2.1 /\ (head t).2.1 <=1:=by
 unfold head;split <;> (try split) <;> (try split) <;> (try split) <;> (try split) <;>simp
theorem kL(t:aF):0 <=size t /\ size t <=4096:=by
 refine aF.ind (P:=fun t=>0 <=size t /\ size t <=4096) (fun t ih1 ih2=> ?_) t
 obtain⟨h1,h2,h3,h4⟩:=C7i t
 have a:=eP t.items ih1 _ h3 h4 ((head t).1,(head t).2.2) h1 (fun _=>by simp only;omega) (by simp only;omega)
 have b:=eP t.tail ih2 0 (by omega) (by omega) _ a.1 a.2.1 a.2.2
 rw[iE]
 split
 ·split
  ·rename_i hw
   simp only[wr,Bool.and_eq_true,decide_eq_true_eq]at hw
   omega
  ·omega
 ·split
  ·rename_i hf
   have:=b.2.1 hf
   omega
  ·omega
theorem A8d(l:List aF)(each n:Int):aX l each (n,false)=(n,false):=by cases l <;>simp[aX]
theorem bJ (l:List aF) (each:Int) (he0:0 <=each) (he1:each <=1) (hl:l.length <=1000000000) (hf:∀ x,x ∈ l ->aN Tryd.prog G 46 [x.enc] (.int .i64 (size x))) (σ:AS) (bf bn:Nat) (hne:bf ≠ bn) (n:Int) (f:Bool)
  (hbf:σ.box bf=some [.bool f]) (hbn:σ.box bn=some [.int .i64 n]) (hn0:0 < n) (hn1:f=true ->n <=4096) (hn2:n <=10000):
  aJ Tryd.prog G 68 [cZ l, .int .i64 each, .ptr bf 0, .ptr bn 0] σ fun r σ'=>σ'=(σ.setBox bn [.int .i64 (aX l each (n,f)).1]).setBox bf [.bool (aX l each (n,f)).2]:=by
 have hnb:bn ≠ bf:=Ne.symm hne
 have hid:σ=(σ.setBox bn [.int .i64 n]).setBox bf [.bool f]:=by
  unfold AS.setBox;cases σ with
  | mk box tip ty=>
   simp only[AS.mk.injEq,and_true]
   funext i
   split
   ·rename_i h;subst h;exact hbf
   ·split
    ·rename_i h;subst h;exact hbn
    ·rfl
 have sw:∀ (m m':Int) (g g':Bool),(((σ.setBox bn [.int .i64 m]).setBox bf [.bool g]).setBox bn [.int .i64 m']).setBox bf [.bool g']=(σ.setBox bn [.int .i64 m']).setBox bf [.bool g']:=fun m m' g g'=>by
  unfold AS.setBox
  congr 1
  funext i
  simp only
  by_cases h1:i=bf
  ·simp[h1]
  ·by_cases h2:i=bn
   ·simp[h1,h2]
   ·simp[h1,h2]
 refine aJ.of_awp mixed Tryd.func68 rfl (by kernel_rfl) (by kernel_rfl) (by simp[Tryd.ntmps68]) Tryd.results68 ?_
 simp -dsimp only[↓bp,bq,br,seval,jU]
 refine aU (fun k e σ'=>∃ (i:Nat) (a:Int × Bool),i <=l.length /\ k=l.length - i /\ e 6= .int .i64 i /\ 0 < a.1 /\ (a.2=true ->a.1 <=4096) /\ a.1 <=10000 /\ aX (l.drop i) each a=aX l each (n,f) /\ σ'=(σ.setBox bn [.int .i64 a.1]).setBox bf [.bool a.2]) l.length
  ⟨0,(n,f),by omega,by omega,by simp -dsimp only[↓bp,bq,br,seval,jU];try rfl,hn0,hn1,hn2,by rw[List.drop_zero],hid⟩ ?_
 rintro k v σ' ⟨i,⟨m,g⟩,hi,rfl,h6,hm0,hm1,hm2,ha,rfl⟩
 simp only at hm0 hm1 hm2 ⊢
 simp -dsimp only[↓bp,bq,br,seval,jU]at h6
 simp -dsimp only[↓bp,bq,br,seval,jU,h6]
 refine wX (fun hlt=> ?_) (fun hge=> ?_)
 ·obtain⟨x,hx⟩:∃ x,l[i]? =some x:=⟨_,List.getElem?_eq_getElem (by omega)⟩
  have hxm:x ∈ l:=List.mem_of_getElem? hx
  have hs:=kL x
  have hdr:=eW _ _ _ hx
  have hp:=hf x hxm
  cases g with
  | false=>
   simp -dsimp only[↓bp,bq,br,seval,jU,h6,hx,hlt,hne,hnb]
   refine⟨_,_,rfl,AS.le.refl _,?_⟩
   rw[<- ha,A8d]
  | true=>
   have hm1:=hm1 rfl
   have hw1:IntKind.i64.wrap (size x+each)=size x+each:=aG (by omega) (by omega)
   have hw2:IntKind.i64.wrap (m+(size x+each))=m+size x+each:=by rw[aG (by omega) (by omega)];omega
   simp -dsimp only[↓bp,bq,br,seval,jU,h6,hx,hlt,hne,hnb]
   refine aN.use hp ?_
   simp -dsimp only[↓bp,bq,br,seval,jU,h6,hx,hlt,hne,hnb,hw1,hw2]
   have hnx:aX (l.drop (i+1)) each (m+size x+each,decide (0 < size x) && decide (m+size x+each <=4096))=aX l each (n,f):=by rw[<- ha,hdr];simp[aX]
   refine wX (fun h0=> ?_) (fun h0=> ?_)
   ·simp -dsimp only[↓bp,bq,br,seval,jU,h6,hx,hlt,hne,hnb,hw1,hw2,h0]
    refine⟨l.length - (i+1),by omega,i+1,(m+size x+each,decide (0 < size x) && decide (m+size x+each <=4096)),by omega,rfl,by rw[aG (by omega) (by omega)];rfl,by simp only;omega,?_,by simp only;omega,hnx,?_⟩
    ·intro hh
     simp only[Bool.and_eq_true,decide_eq_true_eq]at hh
     exact hh.2
    ·simp only[h0,decide_true,Bool.true_and]
     exact sw _ _ _ _
   ·simp -dsimp only[↓bp,bq,br,seval,jU,h6,hx,hlt,hne,hnb,hw1,hw2,h0]
    refine⟨l.length - (i+1),by omega,i+1,(m+size x+each,decide (0 < size x) && decide (m+size x+each <=4096)),by omega,rfl,by rw[aG (by omega) (by omega)];rfl,by simp only;omega,?_,by simp only;omega,hnx,?_⟩
    ·intro hh
     simp only[Bool.and_eq_true,decide_eq_true_eq]at hh
     exact hh.2
    ·simp only[h0,decide_false,Bool.false_and]
     exact sw _ _ _ _
 ·have:i=l.length:=by omega
  subst this
  rw[List.drop_length]at ha
  simp -dsimp only[↓bp,bq,br,seval,jU,h6,hge]
  refine⟨_,_,rfl,AS.le.refl _,?_⟩
  rw[<- ha];rfl
end
end Go.Proofs.YthoenjlenkpnnaaDoor
