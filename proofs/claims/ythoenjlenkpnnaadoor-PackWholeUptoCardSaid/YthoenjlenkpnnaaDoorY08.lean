/- bytes.Buffer on abstract values: its row in memory of its own, its capacity known. -/
import Derived.Test.YthoenjlenkpnnaaDoorY06
import Derived.Test.YthoenjlenkpnnaaDoorY07
set_option linter.unusedVariables false
set_option linter.unusedSimpArgs false
set_option maxRecDepth 20000
set_option linter.defProp false
namespace Go.Proofs.YthoenjlenkpnnaaDoor
open Go Go.Av
section
variable (G:Nat ->AV)
abbrev tE(g n cap:Nat):AV:= .raw (.slice (some ⟨g,0,none⟩) n cap)
theorem vN(g c s:Nat):(if c=0 then(⟨g,0,none⟩:Addr)else(⟨g,0,none⟩:Addr).add (0*s))=⟨g,0,none⟩:=by
 split
 ·rfl
 ·rw[Nat.zero_mul];rfl
theorem aJ.unraw{P:Program}{f:FuncId}{args:List AV}{σ:AS}{Q:AS ->Nat ->Prop}{xs:List UInt8}(h:aJ P G f args σ fun r s=>∃ g cap rest,r=tE g xs.length cap /\ s.box g=some (aI xs++rest) /\ cap <=maxLen /\ xs.length <=cap /\ Q s g):
  aJ P G f args σ fun r s=>r= .sl .none (aI xs) [] /\ ∃ s0 g,Q s0 g /\ s=s0.delBox g:=
 ⟨h.1, fun K w vals hr hv=> (h.2 K w vals hr hv).mono (by
   rintro e w' ⟨v,r,s,K',he,⟨g,cap,rest,rfl,hb,hm,hc,hQ⟩,hvr,hrel,hle⟩
   rw[VR.raw_iff]at hvr;subst hvr
   obtain⟨g1,g2,g3,g4,g5,c,E,hcell,hl,hcv⟩:=hrel.box g _ hb
   have h0:=hrel.delBox g
   obtain⟨k1,k2⟩:=h0.keep g (fun o=>decide (o < xs.length)) (by simp[AS.delBox]) (fun m q hq=>by
    have hq':s.tip g=some (m,q):=hq
    rw[g2]at hq';cases hq')
   have hlen:(aI xs).length=xs.length:=by simp[aI]
   have hfl:=A4b xs
   refine⟨_,_,_,_,he,⟨rfl,s,g,hQ,rfl⟩,?_,k2,hle.trans k1⟩
   have:=VR.sl (K:= {K' with imm:=fun i o=>if i=g /\ decide (o < xs.length)=true then w'.cell? ⟨g,o,none⟩else K'.imm i o}) .none (aI xs) [] 1 g 0 cap (fun j=>c.getD j Go.undef)
    (fun a ha=>by
      rw[List.append_nil]at ha
      have hx:=vR xs a ha
      obtain⟨u,_,rfl⟩:=List.mem_map.1 ha
      exact⟨hx.1,hx.2,fun d hd=>by simp[flat,fN]at hd;subst hd;rfl⟩)
    (by rw[hlen];simpa using hc) hm
    (fun j hj=>by
      rw[List.append_nil,hfl,hlen]at hj
      show(if g=g /\ decide (0+j < xs.length)=true then w'.cell? ⟨g,0+j,none⟩else _)=_
      rw[if_pos ⟨rfl,by simp;omega⟩,Nat.zero_add,cell_of_row w' g j c E (0,0) hcell]
      have:j < c.size:=by rw[List.length_append,hlen]at hl;omega
      simp[this])
    (fun j hj=>by
      have hj':j < (aI xs).length:=by rw[List.append_nil,hfl]at hj;exact hj
      have h1:=hcv j (by rw[List.length_append];omega)
      rw[List.getElem_append_left hj']at h1
      have e1:((aI xs++[]).flatMap flat)[j]=(aI xs)[j]:=by congr 1;rw[List.append_nil,hfl]
      rw[e1];exact h1.mono k1) trivial
   rw[hlen]at this
   exact this)⟩
theorem tfU:fV Tryd.prog 27=some (5,1,1):=kI.2.2.2.2.2.2
theorem B4n:el Tryd.prog 27=some 5:=kI.2.2.2.1
theorem D8x:(el Tryd.prog 27).bind (zc Tryd.prog)=some [.int .u8 0]:=by rw[B4n];exact lY.2.2.2.2.1
theorem A2i:(el Tryd.prog 27).bind (tk Tryd.prog)=some (false,1):=by rw[B4n];exact lY.1
theorem B3z {K:aT} {σ:AS} {w:World} (h:bM G K σ w) {g:Nat} {c:Array Value} {E:TypeId} {cs:List AV} (ht:σ.tip g=none) (hb:K.base <=g) (hi:∀ o,K.imm g o=none) (hc:w.heap[g]? =some (.cells c E (0,0))) (hl:cs.length <=c.size) (h1:∀ a,a ∈ cs ->Av.one a=true)
  (hv:∀ j (hj:j < cs.length),VR K cs[j] (c.getD j Go.undef)):bM G K (σ.setBox g cs) w:=by
 refine⟨h.imm,h.row,fun b cs' hb'=> ?_,fun b n s hb'=>h.tip b n s hb',h.ty,h.glob,h.below,h.bs⟩
 by_cases hbe:b=g
 ·subst hbe
  simp only[AS.setBox,if_true,Option.some.injEq]at hb'
  subst hb'
  exact⟨hb,ht,trivial,hi,h1,c,E,hc,hl,hv⟩
 ·simp only[AS.setBox,if_neg hbe]at hb'
  exact h.box b cs' hb'
theorem B2w{σ:AS}{g l c n:Nat}{cs:List AV}(hb:σ.box g=some cs)(ht:σ.ty g=some (.t 5,c))(hl:l <=cs.length)(hcl:cs.length <=c)(hn:1 <=n)(hlim:l+n <=1000000000000)(hc:c <=140737488355328)(hint:∀ a,a ∈ cs.take l ->∃ u:UInt8,a=fN u):
  aJ Tryd.prog G 64 [tE g l c, .int .i64 n] σ fun r σ'=>∃ g2 cap,σ.fresh g2 /\ r=tE g2 l cap /\ l+n <=cap /\ cap <=maxLen /\ σ'=(σ.setBox g2 (cs.take l++List.replicate (cap - l) (.int .u8 0))).setTy g2 (.t 5,cap):=by
 refine⟨by kernel_rfl,fun K w vals hr hv=> ?_⟩
 match vals,hv with
 | [x, y],⟨hx,hy,_⟩=>
  rw[VR.raw_iff]at hx;subst hx
  rw[VR.int_iff]at hy;subst hy
  obtain⟨g1,g2,g3,g4,g5,cur,E,g6,g7,g8⟩:=hr.box g cs hb
  obtain⟨cur2,fz,q1,q2⟩:=hr.ty g _ _ ht
  rw[g6]at q1
  simp only[Option.some.injEq,Obj.cells.injEq]at q1
  obtain⟨rfl,rfl,rfl⟩:=q1
  have hat:∀ j (hj:j < l),cur.toList[j]? =some (match cs[j]'(by omega)with| .int k m=> .int k m|_=>undef) /\ VR K (cs[j]'(by omega)) (cur.getD j Go.undef):=fun j hj=>by
   have h1:=g8 j (by omega)
   refine⟨?_,h1⟩
   obtain⟨u,hu⟩:=hint (cs[j]'(by omega)) (by
    have:cs[j]'(by omega)=(cs.take l)[j]'(by rw[List.length_take];omega):=by rw[List.getElem_take]
    rw[this];exact List.getElem_mem _)
   rw[hu]at h1 ⊢
   have h2:=VR.int_iff.1 h1
   have hjs:j < cur.size:=by omega
   simp only[fN]
   rw[List.getElem?_eq_getElem (by simpa using hjs)]
   have:cur.getD j Go.undef=cur.toList[j]'(by simpa using hjs):=by simp[Array.getD,hjs]
   rw[<- this,h2]
  have hone:∀ v ∈ cur.toList.take l,v.oneCell'=true:=by
   intro v hv
   obtain⟨j,hj,rfl⟩:=List.mem_iff_getElem.1 hv
   rw[List.length_take]at hj
   obtain⟨h1,h2⟩:=hat j (by omega)
   rw[List.getElem_take]
   have:=(List.getElem?_eq_some_iff.1 h1).2
   have h3:=h2.oneCell (g5 _ (List.getElem_mem _))
   have h4:cur.getD j Go.undef=cur.toList[j]'(by omega):=by
    have hjs:j < cur.size:=by omega
    simp[Array.getD,hjs]
   rw[h4]at h3;exact h3
  refine(B2v Tryd.laysM290 g l c n cur w g6 q2 (by omega) hn (by omega) hc hone).mono ?_
  rintro e w' ⟨cap,cells,rfl,hw,hcells,hcap,hcm,hsz,hbel⟩
  have hcsz:cells.size=cap:=by rw[<- Array.length_toList,hcells,List.length_append,List.length_take,List.length_replicate,Array.length_toList];omega
  have hlt:(cs.take l).length=l:=by rw[List.length_take];omega
  have hlc:(cur.toList.take l).length=l:=by rw[List.length_take,Array.length_toList];omega
  have hf:=hr.fresh (Nat.le_refl w.heap.size)
  have h0:=B3z G (hr.grown hbel) (cs:=cs.take l++List.replicate (cap - l) (.int .u8 0)) hf.2.1 hr.bs (hr.imm_none (Nat.le_refl _)) hw (by rw[List.length_append,hlt,List.length_replicate];omega) (fun a ha=>by
    rcases List.mem_append.1 ha with ha|ha
    ·exact g5 a (List.mem_of_mem_take ha)
    ·rw[(List.mem_replicate.1 ha).2];rfl) (fun j hj=>by
    rw[List.length_append,hlt,List.length_replicate]at hj
    have hjc:j < cells.size:=by omega
    have e0:cells.getD j Go.undef=cells.toList[j]'(by simpa using hjc):=by simp[Array.getD,hjc]
    by_cases hjl:j < l
    ·rw[List.getElem_append_left (by omega),List.getElem_take]
     have e1:cells.getD j Go.undef=cur.getD j Go.undef:=by
      rw[e0]
      simp only[hcells]
      rw[List.getElem_append_left (by omega),List.getElem_take]
      have hjs:j < cur.size:=by omega
      simp[Array.getD,hjs]
     rw[e1];exact g8 j (by omega)
    ·rw[List.getElem_append_right (by omega),List.getElem_replicate]
     have e1:cells.getD j Go.undef= .int .u8 0:=by
      rw[e0]
      simp only[hcells]
      rw[List.getElem_append_right (by omega),List.getElem_replicate]
     rw[e1];exact .int _ _)
  have hr2:=h0.typed hw hcsz
  exact⟨_,_,_,K,rfl,⟨w.heap.size,cap,hr.fresh (Nat.le_refl _),rfl,hcap,hcm,rfl⟩, .raw _,hr2,aT.le.refl K⟩
end
section
inductive aF where
 |mk (kind:UInt8) (neg:Bool) (limbs:List UInt32) (text:List UInt8) (num:Int) (items tail:List aF)
instance:Inhabited aF:=⟨.mk 0 false [] [] 0 [] []⟩
def aF.kind:aF ->UInt8| .mk k _ _ _ _ _ _=>k
def aF.neg:aF ->Bool| .mk _ g _ _ _ _ _=>g
def aF.limbs:aF ->List UInt32| .mk _ _ l _ _ _ _=>l
def aF.text:aF ->List UInt8| .mk _ _ _ s _ _ _=>s
def aF.num:aF ->Int| .mk _ _ _ _ n _ _=>n
def aF.items:aF ->List aF| .mk _ _ _ _ _ ks _=>ks
def aF.tail:aF ->List aF| .mk _ _ _ _ _ _ ts=>ts
def aF.knd(t:aF):Int:=t.kind.toNat
theorem aF.knd_nn(t:aF):0 <=t.knd:=Int.natCast_nonneg _
theorem aF.knd_lt(t:aF):t.knd < 256:=by
 have:=t.kind.toNat_lt
 unfold aF.knd;omega
def mM(x:UInt32):AV:= .int .u32 x.toNat
def jF(l:List UInt32):AV:= .sl .none (l.map mM) []
instance {l:List UInt32} :NotBs (jF l):=⟨fun _ _ _ _ h=>by unfold jF at h;cases h⟩
def aF.enc:aF ->AV
 | .mk k g l s n ks ts=> .agg [.int .u8 k.toNat, .bool g,jF l, .str s, .int .i64 n, .sl .none (ks.map aF.enc) [], .sl .none (ts.map aF.enc) []]
def dK(l:List aF):AV:= .sl .none (l.map aF.enc) []
instance {l:List aF} :NotBs (dK l):=⟨fun _ _ _ _ h=>by unfold dK at h;cases h⟩
theorem aF.flat_enc(t:aF):flat t.enc=[.int .u8 t.knd, .bool t.neg,jF t.limbs, .str t.text, .int .i64 t.num,dK t.items,dK t.tail]:=by
 cases t;simp[aF.enc,flat,aF.knd,aF.kind,aF.neg,aF.limbs,aF.text,aF.num,aF.items,aF.tail,dK]
theorem aF.isv_enc(t:aF):isv t.enc=true:=by cases t;simp[aF.enc,isv]
theorem aF.fold_enc(t:aF):AV.agg [.int .u8 t.knd, .bool t.neg,jF t.limbs, .str t.text, .int .i64 t.num,dK t.items,dK t.tail]=t.enc:=by
 cases t;simp[aF.enc,aF.knd,aF.kind,aF.neg,aF.limbs,aF.text,aF.num,aF.items,aF.tail,dK]
theorem cA(l:List aF):isv (dK l)=true:=rfl
theorem bL(l:List aF):flat (dK l)=[dK l]:=rfl
theorem dL(l:List UInt32):isv (jF l)=true:=rfl
theorem cN(l:List UInt32):flat (jF l)=[jF l]:=rfl
theorem dE{P:Program}{t:TypeId}(l:List aF):fS P .len #[t] [dK l]=if(el P t).isSome then some (.int .i64 l.length)else none:=by
 simp[dK,C0k]
theorem fA{P:Program}{t:TypeId}(l:List UInt32):fS P .len #[t] [jF l]=if(el P t).isSome then some (.int .i64 l.length)else none:=by
 simp[jF,C0k]
theorem fR{P:Program}{t:TypeId}{k:IntKind}(l:List aF)(i:Nat):eA P t (dK l) (.int k (i:Int))=ixk ((el P t).bind (tk P)) ((l[i]?).map aF.enc):=by
 simp[dK,iM]
theorem gJ{P:Program}{t:TypeId}{k:IntKind}(l:List aF)(i:Int)(h:0 <=i):eA P t (dK l) (.int k i)=ixk ((el P t).bind (tk P)) ((l[i.toNat]?).map aF.enc):=by
 simp[dK,iM,h]
theorem gN{P:Program}{t:TypeId}{k:IntKind}(l:List UInt32)(i:Nat):eA P t (jF l) (.int k (i:Int))=ixk ((el P t).bind (tk P)) ((l[i]?).map mM):=by
 simp[jF,iM]
theorem fZ{P:Program}{t:TypeId}{k:IntKind}(l:List UInt32)(i:Int)(h:0 <=i):eA P t (jF l) (.int k i)=ixk ((el P t).bind (tk P)) ((l[i.toNat]?).map mM):=by
 simp[jF,iM,h]
theorem eO(x:UInt32):flat (mM x)=[mM x]:=rfl
theorem aF.ind{P:aF ->Prop}(h:∀ t,(∀ k,k ∈ t.items ->P k) -> (∀ k,k ∈ t.tail ->P k) ->P t):∀ t,P t:=by
 have key:∀ n,∀ t:aF,SizeOf.sizeOf t <=n ->P t:=by
  intro n
  induction n with
  |zero=>intro t ht;cases t;simp at ht
  | succ n ih=>
   intro t ht
   cases t with
   | mk a b c d e ks ts=>
    refine h _ (fun k hk=>ih k ?_) (fun k hk=>ih k ?_)
    ·have:=List.sizeOf_lt_of_mem (show k ∈ ks from hk)
     simp at ht
     omega
    ·have:=List.sizeOf_lt_of_mem (show k ∈ ts from hk)
     simp at ht
     omega
 exact fun t=>key _ t (Nat.le_refl _)
mutual
def aF.bulk:aF ->Nat
 | .mk _ _ l s _ ks ts=>l.length+s.length+dI ks+dI ts+1
def dI:List aF ->Nat
 |[]=>0
 |k::ks=>k.bulk+dI ks
end
theorem aF.bulk_eq(t:aF):t.bulk=t.limbs.length+t.text.length+dI t.items+dI t.tail+1:=by cases t;simp[aF.bulk,aF.limbs,aF.text,aF.items,aF.tail]
theorem qM{l:List aF}{k:aF}(h:k ∈ l):k.bulk <=dI l:=by
 induction l with
 |nil=>cases h
 | cons x l ih=>
  simp only[dI]
  rcases List.mem_cons.1 h with rfl|h
  ·omega
  ·have:=ih h;omega
theorem qN(l r:List aF):dI (l++r)=dI l+dI r:=by
 induction l with
 |nil=>simp[dI]
 |cons x l ih=>simp only[List.cons_append,dI,ih];omega
theorem eB(l:List aF):l.length <=dI l:=by
 induction l with
 |nil=>simp[dI]
 |cons x l ih=>have:=x.bulk_eq;simp only[List.length_cons,dI];omega
theorem rV{k t:aF}(h:k ∈ t.items):k.bulk < t.bulk:=by
 have:=qM h;have:=t.bulk_eq;omega
theorem rX{k t:aF}(h:k ∈ t.tail):k.bulk < t.bulk:=by
 have:=qM h;have:=t.bulk_eq;omega
theorem eY(t:aF):t.items.length < t.bulk:=by
 have:=eB t.items;have:=t.bulk_eq;omega
theorem gA(t:aF):t.tail.length < t.bulk:=by
 have:=eB t.tail;have:=t.bulk_eq;omega
theorem eZ(t:aF):t.limbs.length < t.bulk:=by
 have:=t.bulk_eq;omega
theorem aH{x:Int}(h0: -9223372036854775808 <=x)(h1:x <=9223372036854775807):IntKind.i64.wrap x=x:=by
 rw[IntKind.wrap_i64];omega
theorem aK{α:Type}(l:List α)(i:Nat)(x:α)(h:l[i]? =some x):l.take (i+1)=l.take i++[x]:=by
 rw[List.take_add_one,h];rfl
theorem qQ{α:Type}(l:List α)(i:Nat)(x:α)(h:l[i]? =some x):l.drop i=x::l.drop (i+1):=by
 obtain⟨hi,rfl⟩:=List.getElem?_eq_some_iff.1 h
 exact List.drop_eq_getElem_cons hi
end
section
def sS:=And.intro (And.intro (And.intro @nK (And.intro @nL @lY)) (And.intro @nA (And.intro @kW @lC))) (And.intro (And.intro @dL (And.intro @cN @fA)) (And.intro @gN (And.intro @fZ @eO)))
variable (G:Nat ->AV)
def C9k(k i:Int):Int:=IntKind.i64.wrap (IntKind.i64.wrap (1000003*IntKind.i64.wrap (k+7))+i)
theorem C6r{x y:UInt32} :((x.toNat:Int)=(y.toNat:Int)) ↔ x=y:=by
 constructor
 ·intro h;exact UInt32.toNat_inj.1 (by omega)
 ·rintro rfl;rfl
theorem jR{α:Type}{l r:List α}{i:Nat}{x:α}(h:l.take i=r.take i)(hl:l[i]? =some x)(hr:r[i]? =some x):l.take (i+1)=r.take (i+1):=by
 rw[aK _ _ _ hl,aK _ _ _ hr,h]
theorem lU{α:Type}{l r:List α}(hl:l.length=r.length)(h:l.take l.length=r.take l.length):l=r:=by
 rw[List.take_length]at h
 rw[h,hl,List.take_length]
theorem yI(l r:List UInt32)(hl:l.length <=1000000000)(hr:r.length <=1000000000):aN Tryd.prog G 72 [jF l,jF r] (.bool (decide (l=r))):=by
 intro σ
 refine aJ.of_awp mixed Tryd.func72 rfl (by kernel_rfl) (by kernel_rfl) (by simp[Tryd.ntmps72]) Tryd.results72 ?_
 repeat'(first|refine xs ?_ ?_ <;>intros|(refine wn ?_;intro bx hbx;try simp only[fb]at hbx)|refine aQ ?_|(refine aB ?_;intro bx hbx;(try simp only[fb]at hbx))|refine aD ?_|((with_reducible refine And.intro ?_ ?_);omega)|refine aA (d':=⟨⟩) ?_|refine aR (by kernel_rfl) ?_|refine aP ?_ (by repeat' first|exact lr _|assumption|refine ls ?_ ?_|refine lt ?_ ?_|simp only[*];done|simp only[fb, *,not_false_eq_true,and_self];done|exact lf ‹_› (by simp only[*]))|refine aC ?_ (by repeat' first|exact lr _|assumption|refine ls ?_ ?_|refine lt ?_ ?_|simp only[*];done|simp only[fb, *,not_false_eq_true,and_self];done|exact lf ‹_› (by simp only[*]))|simp -dsimp only[↓bp,bq,br,seval,sS, *]|refine wz ?_|fail)
 rotate_right
 ·skip
  refine iT mixed (fun n e=>∃ i:Nat,i <=(l).length /\ n=(l).length - i /\ e 5= .int .i64 i /\ l.take i=r.take i) (l).length
    ⟨0,by omega,by omega,by simp -dsimp only[↓bp,bq,br,seval,sS];first|done|rfl,rfl⟩ ?_
  rintro n v ⟨i,hi,rfl,h5,htk⟩
  simp -dsimp only[↓bp,bq,br,seval,sS]at h5
  simp -dsimp only[↓bp,bq,br,seval,sS,h5]
  refine dQ (fun hlt=> ?_) (fun hge=> ?_)
  ·obtain⟨x,hx⟩:∃ x,l[i]? =some x:=⟨_,List.getElem?_eq_getElem (by omega)⟩
   obtain⟨y,hy⟩:∃ y,r[i]? =some y:=⟨_,List.getElem?_eq_getElem (by omega)⟩
   clear hi hlt
   repeat'(first|refine xs ?_ ?_ <;>intros|(refine wn ?_;intro bx hbx;try simp only[fb]at hbx)|refine aQ ?_|(refine aB ?_;intro bx hbx;(try simp only[fb]at hbx))|refine aD ?_|((with_reducible refine And.intro ?_ ?_);omega)|refine aA (d':=⟨⟩) ?_|refine aR (by kernel_rfl) ?_|refine aP ?_ (by repeat' first|exact lr _|assumption|refine ls ?_ ?_|refine lt ?_ ?_|simp only[*];done|simp only[fb, *,not_false_eq_true,and_self];done|exact lf ‹_› (by simp only[*]))|refine aC ?_ (by repeat' first|exact lr _|assumption|refine ls ?_ ?_|refine lt ?_ ?_|simp only[*];done|simp only[fb, *,not_false_eq_true,and_self];done|exact lf ‹_› (by simp only[*]))|simp -dsimp only[↓bp,bq,br,seval,sS,mM, *]|refine wz ?_|fail)
   ·have hxy:l ≠ r:=fun e=>by subst e;rw[hx]at hy;simp only[Option.some.injEq]at hy;subst hy;simp_all
    simp[hxy]
   ·have hxy:x=y:=C6r.1 (by simp_all)
    subst hxy
    have hlt:=(List.getElem?_eq_some_iff.1 hx).1
    exact⟨l.length - (i+1),by omega,i+1,by omega,rfl,by rw[aH (by omega) (by omega)];rfl,jR htk hx hy⟩
  ·have:i=l.length:=by omega
   subst this
   have hlr:l=r:=lU (by omega) htk
   clear hi hge
   repeat'(first|refine xs ?_ ?_ <;>intros|(refine wn ?_;intro bx hbx;try simp only[fb]at hbx)|refine aQ ?_|(refine aB ?_;intro bx hbx;(try simp only[fb]at hbx))|refine aD ?_|((with_reducible refine And.intro ?_ ?_);omega)|refine aA (d':=⟨⟩) ?_|refine aR (by kernel_rfl) ?_|refine aP ?_ (by repeat' first|exact lr _|assumption|refine ls ?_ ?_|refine lt ?_ ?_|simp only[*];done|simp only[fb, *,not_false_eq_true,and_self];done|exact lf ‹_› (by simp only[*]))|refine aC ?_ (by repeat' first|exact lr _|assumption|refine ls ?_ ?_|refine lt ?_ ?_|simp only[*];done|simp only[fb, *,not_false_eq_true,and_self];done|exact lf ‹_› (by simp only[*]))|simp -dsimp only[↓bp,bq,br,seval,sS, *]|refine wz ?_|fail)
   all_goals simp[hlr]
 ·have:l ≠ r:=fun e=>by subst e;simp_all
  simp[this]
def lmk(i:Int):AV:= .int .u32 (IntKind.u32.wrap (C9k 1 i))
def C0r(i:Nat):List AV:=(List.range i).map fun(i:Nat)=>lmk (i:Int)
def D2c:List AV:=C0r 12
def wH(l:List UInt32):AV:= .sl .none (l.map mM) D2c
end
set_option maxRecDepth 20000
section
def iW:=And.intro (And.intro (And.intro (And.intro @nK @nL) (And.intro @lY (And.intro @nA @kW))) (And.intro (And.intro @lC (And.intro @oU @iF)) (And.intro @jD (And.intro @aF.flat_enc @aF.isv_enc)))) (And.intro (And.intro (And.intro @aF.fold_enc (And.intro @cA @bL)) (And.intro @dE (And.intro @fR @gJ))) (And.intro (And.intro @dL (And.intro @cN @fA)) (And.intro @gN (And.intro @fZ @eO))))
variable (G:Nat ->AV)
mutual
def same:aF ->aF ->Bool
 | .mk k g l s n ks ts,u=>decide ((k.toNat:Int)=u.knd) && (g==u.neg) && decide (l=u.limbs) && decide (s=u.text) && decide (n=u.num) && kU ks u.items && kU ts u.tail
def kU:List aF ->List aF ->Bool
 |[],[]=>true
 |a::l,b::r=>same a b && kU l r
 |_,_=>false
end
theorem uO(t u:aF):same t u=(decide (t.knd=u.knd) && (t.neg==u.neg) && decide (t.limbs=u.limbs) && decide (t.text=u.text) && decide (t.num=u.num) && kU t.items u.items && kU t.tail u.tail):=by
 cases t;rw[same];rfl
theorem mT{l:List aF}(h:∀ t,t ∈ l ->∀ u,same t u=true ↔ t=u):∀ r,kU l r=true ↔ l=r:=by
 induction l with
 |nil=>intro r;cases r <;>simp[kU]
 | cons a l ih=>
  intro r
  cases r with
  |nil=>simp[kU]
  |cons b r=>simp only[kU,Bool.and_eq_true,h a (by simp) b,ih (fun t ht=>h t (by simp[ht])) r,List.cons.injEq]
theorem oN(t:aF):∀ u,same t u=true ↔ t=u:=by
 refine aF.ind (P:=fun t=>∀ u,same t u=true ↔ t=u) (fun t h1 h2 u=> ?_) t
 rw[uO]
 simp only[Bool.and_eq_true,decide_eq_true_eq,beq_iff_eq,mT h1,mT h2]
 constructor
 ·rintro⟨⟨⟨⟨⟨⟨h,rfl2⟩,h3⟩,h4⟩,h5⟩,h6⟩,h7⟩
  cases t;cases u
  simp only[aF.knd,aF.kind,aF.neg,aF.limbs,aF.text,aF.num,aF.items,aF.tail]at*
  simp only[aF.mk.injEq]
  exact⟨UInt8.toNat_inj.1 (by omega),rfl2,h3,h4,h5,h6,h7⟩
 ·rintro rfl;simp
theorem sP(l r:List aF):kU l r=true ↔ l=r:=mT (fun t _=>oN t) r
theorem zE(l r:List aF)(h:l ≠ r):kU l r=false:=by
 cases hs:kU l r with
 |false=>rfl
 |true=>exact absurd ((sP l r).1 hs) h
theorem oO(l r:List aF)(hl:l.length <=1000000000)(hr:r.length <=1000000000)(hf:∀ x,x ∈ l ->∀ y,y ∈ r ->aN Tryd.prog G 61 [x.enc,y.enc] (.bool (same x y))):aN Tryd.prog G 39 [dK l,dK r] (.bool (kU l r)):=by
 intro σ
 refine aJ.of_awp mixed Tryd.func39 rfl (by kernel_rfl) (by kernel_rfl) (by simp[Tryd.ntmps39]) Tryd.results39 ?_
 repeat'(first|refine xs ?_ ?_ <;>intros|(refine wn ?_;intro bx hbx;try simp only[fb]at hbx)|refine aQ ?_|(refine aB ?_;intro bx hbx;(try simp only[fb]at hbx))|refine aD ?_|((with_reducible refine And.intro ?_ ?_);omega)|refine aA (d':=⟨⟩) ?_|refine aR (by kernel_rfl) ?_|refine aP ?_ (by repeat' first|exact lr _|assumption|refine ls ?_ ?_|refine lt ?_ ?_|simp only[*];done|simp only[fb, *,not_false_eq_true,and_self];done|exact lf ‹_› (by simp only[*]))|refine aC ?_ (by repeat' first|exact lr _|assumption|refine ls ?_ ?_|refine lt ?_ ?_|simp only[*];done|simp only[fb, *,not_false_eq_true,and_self];done|exact lf ‹_› (by simp only[*]))|simp -dsimp only[↓bp,bq,br,seval,iW, *]|refine wz ?_|fail)
 rotate_right
 ·skip
  refine iT mixed (fun n e=>∃ i:Nat,i <=(l).length /\ n=(l).length - i /\ e 5= .int .i64 i /\ l.take i=r.take i) (l).length
    ⟨0,by omega,by omega,by simp -dsimp only[↓bp,bq,br,seval,iW];first|done|rfl,rfl⟩ ?_
  rintro n v ⟨i,hi,rfl,h5,htk⟩
  simp -dsimp only[↓bp,bq,br,seval,iW]at h5
  simp -dsimp only[↓bp,bq,br,seval,iW,h5]
  refine dQ (fun hlt=> ?_) (fun hge=> ?_)
  ·obtain⟨x,hx⟩:∃ x,l[i]? =some x:=⟨_,List.getElem?_eq_getElem (by omega)⟩
   obtain⟨y,hy⟩:∃ y,r[i]? =some y:=⟨_,List.getElem?_eq_getElem (by omega)⟩
   have hc:=hf x (List.mem_of_getElem? hx) y (List.mem_of_getElem? hy)
   clear hi hlt hf
   repeat'(first|refine xs ?_ ?_ <;>intros|(refine wn ?_;intro bx hbx;try simp only[fb]at hbx)|refine wp hc ?_|refine aQ ?_|(refine aB ?_;intro bx hbx;(try simp only[fb]at hbx))|refine aD ?_|((with_reducible refine And.intro ?_ ?_);omega)|refine aA (d':=⟨⟩) ?_|refine aR (by kernel_rfl) ?_|refine aP ?_ (by repeat' first|exact lr _|assumption|refine ls ?_ ?_|refine lt ?_ ?_|simp only[*];done|simp only[fb, *,not_false_eq_true,and_self];done|exact lf ‹_› (by simp only[*]))|refine aC ?_ (by repeat' first|exact lr _|assumption|refine ls ?_ ?_|refine lt ?_ ?_|simp only[*];done|simp only[fb, *,not_false_eq_true,and_self];done|exact lf ‹_› (by simp only[*]))|simp -dsimp only[↓bp,bq,br,seval,iW, *]|refine wz ?_|fail)
   ·have hxy:same x y=true:=by assumption
    have hxy:x=y:=(oN x y).1 hxy
    subst hxy
    have hlt:=(List.getElem?_eq_some_iff.1 hx).1
    exact⟨l.length - (i+1),by omega,i+1,by omega,rfl,by rw[aH (by omega) (by omega)];rfl,jR htk hx hy⟩
   ·have hxy:same x y=false:=by assumption
    have:l ≠ r:=fun e=>by subst e;rw[hx]at hy;simp only[Option.some.injEq]at hy;subst hy;rw[(oN x x).2 rfl]at hxy;cases hxy
    rw[zE _ _ this]
  ·have:i=l.length:=by omega
   subst this
   have hlr:l=r:=lU (by omega) htk
   clear hi hge hf
   repeat'(first|refine xs ?_ ?_ <;>intros|(refine wn ?_;intro bx hbx;try simp only[fb]at hbx)|refine aQ ?_|(refine aB ?_;intro bx hbx;(try simp only[fb]at hbx))|refine aD ?_|((with_reducible refine And.intro ?_ ?_);omega)|refine aA (d':=⟨⟩) ?_|refine aR (by kernel_rfl) ?_|refine aP ?_ (by repeat' first|exact lr _|assumption|refine ls ?_ ?_|refine lt ?_ ?_|simp only[*];done|simp only[fb, *,not_false_eq_true,and_self];done|exact lf ‹_› (by simp only[*]))|refine aC ?_ (by repeat' first|exact lr _|assumption|refine ls ?_ ?_|refine lt ?_ ?_|simp only[*];done|simp only[fb, *,not_false_eq_true,and_self];done|exact lf ‹_› (by simp only[*]))|simp -dsimp only[↓bp,bq,br,seval,iW, *]|refine wz ?_|fail)
   all_goals(subst hlr;rw[(sP l l).2 rfl])
 ·have:l ≠ r:=fun e=>by subst e;simp_all
  rw[zE _ _ this]
theorem B4a(t:aF):∀ u:aF,t.bulk <=1000000000 ->u.bulk <=1000000000 ->aN Tryd.prog G 61 [t.enc,u.enc] (.bool (same t u)):=by
 refine aF.ind (P:=fun t=>∀ u:aF,t.bulk <=1000000000 ->u.bulk <=1000000000 ->aN Tryd.prog G 61 [t.enc,u.enc] (.bool (same t u))) (fun t ih1 ih2 u ht hu=> ?_) t
 have h1:=oO G t.items u.items (by have:=eY t;omega) (by have:=eY u;omega) (fun x hx y hy=>ih1 x hx y (by have:=rV hx;omega) (by have:=rV hy;omega))
 have h2:=oO G t.tail u.tail (by have:=gA t;omega) (by have:=gA u;omega) (fun x hx y hy=>ih2 x hx y (by have:=rX hx;omega) (by have:=rX hy;omega))
 have h3:=yI G t.limbs u.limbs (by have:=eZ t;omega) (by have:=eZ u;omega)
 clear ih1 ih2 ht hu
 intro σ
 refine aJ.of_awp mixed Tryd.func61 rfl (by kernel_rfl) (by kernel_rfl) (by simp[Tryd.ntmps61]) Tryd.results61 ?_
 repeat'(first|refine xs ?_ ?_ <;>intros|(refine wn ?_;intro bx hbx;try simp only[fb]at hbx)|refine wp h1 ?_|refine wp h2 ?_|refine wp h3 ?_|refine aQ ?_|(refine aB ?_;intro bx hbx;(try simp only[fb]at hbx))|refine aD ?_|((with_reducible refine And.intro ?_ ?_);omega)|refine aA (d':=⟨⟩) ?_|refine aR (by kernel_rfl) ?_|refine aP ?_ (by repeat' first|exact lr _|assumption|refine ls ?_ ?_|refine lt ?_ ?_|simp only[*];done|simp only[fb, *,not_false_eq_true,and_self];done|exact lf ‹_› (by simp only[*]))|refine aC ?_ (by repeat' first|exact lr _|assumption|refine ls ?_ ?_|refine lt ?_ ?_|simp only[*];done|simp only[fb, *,not_false_eq_true,and_self];done|exact lf ‹_› (by simp only[*]))|simp -dsimp only[↓bp,bq,br,seval,iW, *]|refine wz ?_|fail)
 all_goals(first|(simp only[uO, *,Bool.and_true,Bool.true_and,Bool.and_false,Bool.false_and,Bool.or_true,Bool.true_or,Bool.or_false,Bool.false_or,Bool.not_true,Bool.not_false,if_true,if_false,Bool.and_self,Bool.or_self];done)|(simp[uO, *];done)|(simp_all [uO];done))
end
section
section C1t
variable {α:Type}
def aW(enc:α ->AV)(l:List α):AV:= .sl .none (l.map enc) []
instance {enc:α ->AV} {l:List α} :NotBs (aW enc l):=⟨fun _ _ _ _ h=>by unfold aW at h;cases h⟩
theorem dH(enc:α ->AV)(l:List α):isv (aW enc l)=true:=rfl
theorem cK(enc:α ->AV)(l:List α):flat (aW enc l)=[aW enc l]:=rfl
theorem dR{P:Program}{t:TypeId}(enc:α ->AV)(l:List α):fS P .len #[t] [aW enc l]=if(el P t).isSome then some (.int .i64 l.length)else none:=by
 simp[aW,C0k]
theorem eF{P:Program}{t:TypeId}{k:IntKind}(enc:α ->AV)(l:List α)(i:Nat):eA P t (aW enc l) (.int k (i:Int))=ixk ((el P t).bind (tk P)) ((l[i]?).map enc):=by
 simp[aW,iM]
theorem B7w{enc:α ->AV}{n:Nat}(hn:∀ x,(flat (enc x)).length=n)(l:List α):∀ a,a ∈ l.map enc -> (flat a).length=n:=fun a ha=>by
 obtain⟨x,_,rfl⟩:=List.mem_map.1 ha;exact hn x
theorem rG{P:Program}{t:TypeId}{ag:Bool}{n:Nat}{enc:α ->AV}(hn:∀ x,(flat (enc x)).length=n)(l:List α)(lo hi:Option AV)(ht:((el P t).bind (tk P))=some (ag,n)):eL P t (aW enc l) lo hi=match cM lo 0,cM hi l.length with
  |some a,some b=>if a <=b /\ b <=l.length then some (aW enc ((l.take b).drop a))else none
  |_,_=>none:=by
 unfold aW
 rw[B1k,ht,List.length_map]
 cases cM lo 0 with
 |none=>cases cM hi l.length <;>rfl
 | some a=>
  cases cM hi l.length with
  |none=>rfl
  | some b=>
   rw[B4f (B7w hn l)]
   simp only[List.length_map,List.map_drop,List.map_take]
def cP(f:α ->Nat):List α ->Nat
 |[]=>0
 |x::l=>f x+cP f l
theorem lK{f:α ->Nat}{l:List α}{x:α}(h:x ∈ l):f x <=cP f l:=by
 induction l with
 |nil=>cases h
 | cons y l ih=>
  simp only[cP]
  rcases List.mem_cons.1 h with rfl|h
  ·omega
  ·have:=ih h;omega
theorem iS{f:α ->Nat}(hf:∀ x,1 <=f x)(l:List α):l.length <=cP f l:=by
 induction l with
 |nil=>simp[cP]
 |cons y l ih=>have:=hf y;simp only[List.length_cons,cP];omega
theorem vP{f:α ->Nat}(l:List α)(k:Nat):cP f (l.take k) <=cP f l:=by
 induction l generalizing k with
 |nil=>simp
 | cons x l ih=>
  cases k with
  |zero=>simp[cP]
  |succ k=>have:=ih k;simp only[List.take_succ_cons,cP];omega
theorem C4f(l:List aF):dI l=cP aF.bulk l:=by
 induction l with
 |nil=>rfl
 |cons x l ih=>simp only[dI,cP,ih]
end C1t
def kH(n:Int):AV:= .int .i64 n
theorem iQ(n:Int):flat (kH n)=[.int .i64 n]:=rfl
instance:DecidableEq aF:=fun a b=>decidable_of_iff _ (oN a b)
theorem C1x(a b:aF):same a b=decide (a=b):=by
 rw[Bool.eq_iff_iff,oN,decide_eq_true_eq]
theorem B4b(a b:List aF):kU a b=decide (a=b):=by
 rw[Bool.eq_iff_iff,sP,decide_eq_true_eq]
def xX(n:Int):Prop:= -9223372036854775808 <=n /\ n <=9223372036854775807
theorem D7e{x y:UInt8} :((x.toNat:Int)=(y.toNat:Int)) ↔ x=y:=by
 constructor
 ·intro h;exact UInt8.toNat_inj.1 (by omega)
 ·rintro rfl;rfl
end
section
structure dA where
 name:List UInt8
 arity:Int
 extra:Int
 slots:Int
 pos:Int
 deriving DecidableEq
def dA.enc(x:dA):AV:= .agg [.str x.name, .int .i64 x.arity, .int .i64 x.extra, .int .i64 x.slots, .int .i64 x.pos]
theorem dA.flat_enc(x:dA):flat x.enc=[.str x.name, .int .i64 x.arity, .int .i64 x.extra, .int .i64 x.slots, .int .i64 x.pos]:=by simp only[dA.enc,flat]
theorem dA.isv_enc(x:dA):isv x.enc=true:=by simp only[dA.enc,isv]
theorem dA.fold_enc(x:dA):AV.agg [.str x.name, .int .i64 x.arity, .int .i64 x.extra, .int .i64 x.slots, .int .i64 x.pos]=x.enc:=by simp only[dA.enc]
theorem dA.len_flat(x:dA):(flat x.enc).length=5:=by rw[x.flat_enc];rfl
def dA.bulk(x:dA):Nat:=x.name.length+1
theorem dA.bulk_pos(x:dA):1 <=x.bulk:=by unfold dA.bulk;omega
structure dA.Rng(x:dA):Prop where
 arity:xX x.arity
 extra:xX x.extra
 slots:xX x.slots
 pos:xX x.pos
theorem dA.eq_parts(x y:dA):decide (x=y)=(decide (x.name=y.name) && decide (x.arity=y.arity) && decide (x.extra=y.extra) && decide (x.slots=y.slots) && decide (x.pos=y.pos)):=by
 cases x;cases y
 rw[Bool.eq_iff_iff]
 simp only[decide_eq_true_eq,Bool.and_eq_true,beq_iff_eq,dA.mk.injEq,and_assoc]
structure aO where
 op:UInt8
 a:Int
 b:Int
 c:Int
 n:Int
 l:Int
 text:List UInt8
 slots:List Int
 deriving DecidableEq
def aO.opI(x:aO):Int:=x.op.toNat
theorem aO.opI_nn(x:aO):0 <=x.opI:=Int.natCast_nonneg _
theorem aO.opI_lt(x:aO):x.opI < 256:=by have:=x.op.toNat_lt;unfold aO.opI;omega
def aO.enc(x:aO):AV:= .agg [.int .u8 x.opI, .int .i64 x.a, .int .i64 x.b, .int .i64 x.c, .int .i64 x.n, .int .i64 x.l, .str x.text,aW kH x.slots]
theorem aO.flat_enc(x:aO):flat x.enc=[.int .u8 x.opI, .int .i64 x.a, .int .i64 x.b, .int .i64 x.c, .int .i64 x.n, .int .i64 x.l, .str x.text,aW kH x.slots]:=by simp only[aO.enc,flat]
theorem aO.isv_enc(x:aO):isv x.enc=true:=by simp only[aO.enc,isv]
theorem aO.fold_enc(x:aO):AV.agg [.int .u8 x.opI, .int .i64 x.a, .int .i64 x.b, .int .i64 x.c, .int .i64 x.n, .int .i64 x.l, .str x.text,aW kH x.slots]=x.enc:=by simp only[aO.enc]
theorem aO.len_flat(x:aO):(flat x.enc).length=8:=by rw[x.flat_enc];rfl
def aO.bulk(x:aO):Nat:=x.text.length+x.slots.length+1
theorem aO.bulk_pos(x:aO):1 <=x.bulk:=by unfold aO.bulk;omega
structure aO.Rng(x:aO):Prop where
 a:xX x.a
 b:xX x.b
 c:xX x.c
 n:xX x.n
 l:xX x.l
 slots:∀ n,n ∈ x.slots ->xX n
theorem aO.eq_parts(x y:aO):decide (x=y)=(decide (x.opI=y.opI) && decide (x.a=y.a) && decide (x.b=y.b) && decide (x.c=y.c) && decide (x.n=y.n) && decide (x.l=y.l) && decide (x.text=y.text) && decide (x.slots=y.slots)):=by
 cases x;cases y
 rw[Bool.eq_iff_iff]
 simp only[aO.opI,D7e,decide_eq_true_eq,Bool.and_eq_true,beq_iff_eq,aO.mk.injEq,and_assoc]
structure cU where
 entries:List dA
 instrs:List aO
 consts:List aF
 deriving DecidableEq
def cU.enc(x:cU):AV:= .agg [aW dA.enc x.entries,aW aO.enc x.instrs,dK x.consts]
theorem cU.flat_enc(x:cU):flat x.enc=[aW dA.enc x.entries,aW aO.enc x.instrs,dK x.consts]:=by simp only[cU.enc,flat]
theorem cU.isv_enc(x:cU):isv x.enc=true:=by simp only[cU.enc,isv]
theorem cU.fold_enc(x:cU):AV.agg [aW dA.enc x.entries,aW aO.enc x.instrs,dK x.consts]=x.enc:=by simp only[cU.enc]
def cU.bulk(x:cU):Nat:=cP dA.bulk x.entries+cP aO.bulk x.instrs+dI x.consts+1
structure cU.Rng(x:cU):Prop where
 entries:∀ e,e ∈ x.entries ->e.Rng
 instrs:∀ e,e ∈ x.instrs ->e.Rng
theorem cU.eq_parts(x y:cU):decide (x=y)=(decide (x.entries=y.entries) && decide (x.instrs=y.instrs) && decide (x.consts=y.consts)):=by
 cases x;cases y
 rw[Bool.eq_iff_iff]
 simp only[decide_eq_true_eq,Bool.and_eq_true,beq_iff_eq,cU.mk.injEq,and_assoc]
end
set_option maxRecDepth 20000
section
def C2n:=And.intro (And.intro (And.intro (And.intro @nK @nL) (And.intro @lY @kW)) (And.intro (And.intro @kI @uI) (And.intro @sV @oT))) (And.intro (And.intro (And.intro @nP @jD) (And.intro @iF @yJ)) (And.intro (And.intro @B4m @cU.flat_enc) (And.intro @cU.isv_enc @cU.fold_enc)))
variable {G:Nat ->AV}
abbrev bS(b:List UInt8):AV:= .sl .none (aI b) []
theorem A9n{b:List UInt8}(w:aN Tryd.prog G 5 [] (.bool true))(hb:50000 < b.length):aN Tryd.prog G 4 [bS b] (.bool true):=by
 intro σ
 have hl:(aI b).length=b.length:=by simp[aI]
 have h':((50000:Int) < b.length)=True:=eq_true (by omega)
 clear hb
 refine aJ.of_awp mixed Tryd.func4 rfl (by kernel_rfl) (by kernel_rfl) (by simp[Tryd.ntmps4]) Tryd.results4 ?_
 repeat'(first|refine xs ?_ ?_ <;>intros|(refine wn ?_;intro bx hbx;try simp only[fb]at hbx)|refine wp w ?_|refine aQ ?_|(refine aB ?_;intro bx hbx;(try simp only[fb]at hbx))|refine aD ?_|((with_reducible refine And.intro ?_ ?_);omega)|refine aA (d':=⟨⟩) ?_|refine aR (by kernel_rfl) ?_|refine aP ?_ (by repeat' first|exact lr _|assumption|refine ls ?_ ?_|refine lt ?_ ?_|simp only[*];done|simp only[fb, *,not_false_eq_true,and_self];done|exact lf ‹_› (by simp only[*]))|refine aC ?_ (by repeat' first|exact lr _|assumption|refine ls ?_ ?_|refine lt ?_ ?_|simp only[*];done|simp only[fb, *,not_false_eq_true,and_self];done|exact lf ‹_› (by simp only[*]))|simp -dsimp only[↓bp,bq,br,seval,C2n,hl, *]|refine wz ?_|fail)
theorem B4u{b x:List UInt8}{c:cU}(w:aN Tryd.prog G 5 [] (.bool true))(hb:b.length <=50000)(g:aN Tryd.prog G 9 [bS b] (.tup [c.enc, .int .i64 0]))(p:aN Tryd.prog G 7 [c.enc] (.tup [bS x, .int .i64 0]))(r:aN Tryd.prog G 8 [c.enc] (.bool true))(s:aN Tryd.prog G 13 [bS b,bS x] (.bool true)):aN Tryd.prog G 4 [bS b] (.bool true):=by
 intro σ
 have hl:(aI b).length=b.length:=by simp[aI]
 have h':((50000:Int) < b.length)=False:=eq_false (by omega)
 clear hb
 refine aJ.of_awp mixed Tryd.func4 rfl (by kernel_rfl) (by kernel_rfl) (by simp[Tryd.ntmps4]) Tryd.results4 ?_
 repeat'(first|refine xs ?_ ?_ <;>intros|(refine wn ?_;intro bx hbx;try simp only[fb]at hbx)|refine wp w ?_|refine wp g ?_|refine wp p ?_|refine wp r ?_|refine wp s ?_|refine aQ ?_|(refine aB ?_;intro bx hbx;(try simp only[fb]at hbx))|refine aD ?_|((with_reducible refine And.intro ?_ ?_);omega)|refine aA (d':=⟨⟩) ?_|refine aR (by kernel_rfl) ?_|refine aP ?_ (by repeat' first|exact lr _|assumption|refine ls ?_ ?_|refine lt ?_ ?_|simp only[*];done|simp only[fb, *,not_false_eq_true,and_self];done|exact lf ‹_› (by simp only[*]))|refine aC ?_ (by repeat' first|exact lr _|assumption|refine ls ?_ ?_|refine lt ?_ ?_|simp only[*];done|simp only[fb, *,not_false_eq_true,and_self];done|exact lf ‹_› (by simp only[*]))|simp -dsimp only[↓bp,bq,br,seval,C2n,hl, *]|refine wz ?_|fail)
theorem A9o{b:List UInt8}(w:aN Tryd.prog G 5 [] (.bool true))(hb:b.length <=50000)(g:aN Tryd.prog G 9 [bS b] (.tup [(⟨[],[],[]⟩:cU).enc, .int .i64 4]))(s:aN Tryd.prog G 10 [(⟨[],[],[]⟩:cU).enc, .agg [.nil, .nil, .nil]] (.bool true)):aN Tryd.prog G 4 [bS b] (.bool true):=by
 intro σ
 have hl:(aI b).length=b.length:=by simp[aI]
 have h':((50000:Int) < b.length)=False:=eq_false (by omega)
 clear hb
 generalize hZ:(⟨[],[],[]⟩:cU)=Z at*
 clear hZ
 refine aJ.of_awp mixed Tryd.func4 rfl (by kernel_rfl) (by kernel_rfl) (by simp[Tryd.ntmps4]) Tryd.results4 ?_
 repeat'(first|refine xs ?_ ?_ <;>intros|(refine wn ?_;intro bx hbx;try simp only[fb]at hbx)|refine wp w ?_|refine wp g ?_|refine wp s ?_|refine aQ ?_|(refine aB ?_;intro bx hbx;(try simp only[fb]at hbx))|refine aD ?_|((with_reducible refine And.intro ?_ ?_);omega)|refine aA (d':=⟨⟩) ?_|refine aR (by kernel_rfl) ?_|refine aP ?_ (by repeat' first|exact lr _|assumption|refine ls ?_ ?_|refine lt ?_ ?_|simp only[*];done|simp only[fb, *,not_false_eq_true,and_self];done|exact lf ‹_› (by simp only[*]))|refine aC ?_ (by repeat' first|exact lr _|assumption|refine ls ?_ ?_|refine lt ?_ ?_|simp only[*];done|simp only[fb, *,not_false_eq_true,and_self];done|exact lf ‹_› (by simp only[*]))|simp -dsimp only[↓bp,bq,br,seval,C2n,hl, *]|refine wz ?_|fail)
end
set_option maxRecDepth 20000
section
variable {G:Nat ->AV}
structure D8z(G:Nat ->AV)(c:cU)(x more:List UInt8)(k:Int)(q:Nat):Prop where
 w:aN Tryd.prog G 5 [] (.bool true)
 g:aN Tryd.prog G 6 [c.enc] (.bool false)
 p:aN Tryd.prog G 7 [c.enc] (.tup [bS x, .int .i64 0])
 r:aN Tryd.prog G 8 [c.enc] (.bool true)
 d:aN Tryd.prog G 9 [bS x] (.tup [c.enc, .int .i64 0])
 s:aN Tryd.prog G 10 [c.enc,c.enc] (.bool true)
 m:more ≠ [] ->aN Tryd.prog G 9 [bS (x++more)] (.tup [(⟨[],[],[]⟩:cU).enc, .int .i64 4])
 y:∀ σ,aJ Tryd.prog G 11 [bS x] σ fun r s=>fU 1 5 σ s r (aI x)
 i:aN Tryd.prog G 12 [.int .i64 k, .int .i64 x.length] (.int .i64 q)
 h:aN Tryd.prog G 9 [bS (x.take q)] (.tup [(⟨[],[],[]⟩:cU).enc, .int .i64 4])
 hq:q <=x.length
 hx:x.length <=900000000
theorem C3u(x:List UInt8)(q:Nat)(h:q <=x.length):eL Tryd.prog 27 (bS x) none (some (.int .i64 q))=some (bS (x.take q)):=by
 have:=rG (P:=Tryd.prog) (enc:=fN) (n:=1) (fun _=>rfl) x none (some (.int .i64 q)) A2i
 simpa [cM,h,aW,aI,bS] using this
end
set_option maxRecDepth 20000
section
def D6x:=And.intro (And.intro (And.intro (And.intro @nK @nL) (And.intro @lY @kW)) (And.intro (And.intro @kI @uI) (And.intro @sV @oT))) (And.intro (And.intro (And.intro @nP @jD) (And.intro @iF @yJ)) (And.intro (And.intro @B4m @cU.flat_enc) (And.intro @cU.isv_enc @cU.fold_enc)))
variable {G:Nat ->AV}
theorem A7h{c:cU}{x:List UInt8}(hx:20 <=x.length)(sm:aN Tryd.prog G 14 [] c.enc)(bt:aN Tryd.prog G 15 [] (bS x))(p:aN Tryd.prog G 7 [c.enc] (.tup [bS x, .int .i64 0]))(d:aN Tryd.prog G 9 [bS x] (.tup [c.enc, .int .i64 0]))(h:aN Tryd.prog G 9 [bS (x.take 20)] (.tup [(⟨[],[],[]⟩:cU).enc, .int .i64 4]))(sb:aN Tryd.prog G 13 [bS x,bS x] (.bool true))(sc:aN Tryd.prog G 10 [c.enc,c.enc] (.bool true)):aN Tryd.prog G 5 [] (.bool true):=by
 intro σ
 have ht:=C3u x 20 hx
 have ht':eL Tryd.prog 27 (bS x) none (some (.int .i64 20))=some (bS (x.take 20)):=ht
 generalize hZ:(⟨[],[],[]⟩:cU)=Z at*
 clear hZ hx ht
 generalize x.take 20=y at*
 refine aJ.of_awp mixed Tryd.func5 rfl (by kernel_rfl) (by kernel_rfl) (by simp[Tryd.ntmps5]) Tryd.results5 ?_
 repeat'(first|refine xs ?_ ?_ <;>intros|(refine wn ?_;intro bx hbx;try simp only[fb]at hbx)|refine wp sm ?_|refine wp bt ?_|refine wp p ?_|refine wp d ?_|refine wp h ?_|refine wp sb ?_|refine wp sc ?_|refine aQ ?_|(refine aB ?_;intro bx hbx;(try simp only[fb]at hbx))|refine aD ?_|((with_reducible refine And.intro ?_ ?_);omega)|refine aA (d':=⟨⟩) ?_|refine aR (by kernel_rfl) ?_|refine aP ?_ (by repeat' first|exact lr _|assumption|refine ls ?_ ?_|refine lt ?_ ?_|simp only[*];done|simp only[fb, *,not_false_eq_true,and_self];done|exact lf ‹_› (by simp only[*]))|refine aC ?_ (by repeat' first|exact lr _|assumption|refine ls ?_ ?_|refine lt ?_ ?_|simp only[*];done|simp only[fb, *,not_false_eq_true,and_self];done|exact lf ‹_› (by simp only[*]))|simp -dsimp only[↓bp,bq,br,seval,D6x, *]|refine wz ?_|fail)
 all_goals skip
end
set_option maxRecDepth 20000
section
def D6w:=And.intro (And.intro @nK @nL) (And.intro @lY (And.intro @kW @kI))
variable {G:Nat ->AV}
theorem C4e{P:Program}{σ:AS}{t e:TypeId}{n dB len:Nat}{g:Gh}{ps:List (Nat × AV)}{xs sp:List AV}{K:AV ->AS ->Prop}{d:Dum σ}{d':Dum K}(h1:cX P t len ps=some (.sl g xs sp))(he:fV P t=some (e,n,dB))(hK:∀ b,σ.fresh b ->K (.bs b len n e) (σ.setBox b (xs.flatMap flat))):bmW true P σ t len ps K d d':=by
 refine .inr ⟨rfl,?_⟩
 obtain⟨h2,ag,h3⟩:=A9w he
 unfold mA
 rw[h1,h3,h2]
 exact hK
def D4u:List (Nat × AV):=[(0, .int .u8 112),(1, .int .u8 105),(2, .int .u8 103),(3, .int .u8 115)]
def nH:List AV:=[.int .u8 112, .int .u8 105, .int .u8 103, .int .u8 115]
theorem C5c:cX Tryd.prog 27 4 D4u=some (.sl .full nH []):=by
 refine jS ?_
 unfold bsk
 rw[tfU]
 simp[D4u,nH,flat,isv,List.range_succ,one]
def C1p:List UInt8:=[0,1,1,102,1,0,0,2,0,0,0,1,11,0,1,0,1,7,0,1,2,1,97,1,1,0,1,0,0,0,1]
def exB:List UInt8:=[112,105,103,115,0,1,1,102,1,0,0,2,0,0,0,1,11,0,1,0,1,7,0,1,2,1,97,1,1,0,1,0,0,0,1]
set_option maxHeartbeats 1000000 in
theorem A0z:aN Tryd.prog G 15 [] (.sl .none (aI exB) []):=by
 refine aN.of_le fun σ=> ?_
 have hone:∀ a,a ∈ nH ->flat a=[a] /\ isv a=true:=fun a ha=>by
  simp only[nH,List.mem_cons,List.not_mem_nil,or_false]at ha
  rcases ha with rfl|rfl|rfl|rfl <;>exact⟨rfl,rfl⟩
 have hres:aI exB=nH++aI C1p:=rfl
 have hk8:sk Tryd.prog 5= .int .u8:=lY.2.1
 rw[hres]
 refine aJ.of_awp mixed Tryd.func15 rfl (by kernel_rfl) (by kernel_rfl) (by simp[Tryd.ntmps15]) Tryd.results15 ?_
 repeat'(first|(refine wn ?_;intro bx hbx;try simp only[fb]at hbx)|((refine C4e C5c tfU (fun b hb=> ?_);rw[show nH.flatMap flat=nH from rfl]))|((refine C4l (cs:=nH) AS.set_get B4n hk8 hone ?_))|((refine C3p (σ0:=σ) (xs:=nH) (ys:=aI C1p) (.own _ nH (AS.froze_le (n:=4) (s:=1) ((AS.le.refl σ).setBox hb.1 nH) hb.1 hb.2.1) hb.2.1 (by simp[AS.setTip,nH]) (fun a ha=>by rw[(hone a ha).1];rfl)) tfU (kO B4n) (fun a ha=> (vR C1p a ha).1) (by decide) (fun v2 σ2 hA _=> ?_)))|refine aQ ?_|(refine aB ?_;intro bx hbx;(try simp only[fb]at hbx))|refine aD ?_|((with_reducible refine And.intro ?_ ?_);omega)|refine aA (d':=⟨⟩) ?_|refine aP ?_ (by repeat' first|exact lr _|assumption|refine ls ?_ ?_|refine lt ?_ ?_|simp only[*];done|simp only[fb, *,not_false_eq_true,and_self];done|exact lf ‹_› (by simp only[*]))|refine aC ?_ (by repeat' first|exact lr _|assumption|refine ls ?_ ?_|refine lt ?_ ?_|simp only[*];done|simp only[fb, *,not_false_eq_true,and_self];done|exact lf ‹_› (by simp only[*]))|simp -dsimp only[↓bp,bq,br,seval,D6w, *]|refine wz ?_|fail)
 all_goals first|exact aE σ hA.le ⟨hA.told,rfl⟩|skip
end
set_option maxRecDepth 20000
section
theorem A7n(l:List aF)(i:Nat):dI (l.take i) <=dI l:=by
 have:=qN (l.take i) (l.drop i)
 rw[List.take_append_drop]at this
 omega
variable (G:Nat ->AV)
end
set_option maxRecDepth 20000
section
def qC:=And.intro (And.intro (And.intro (And.intro @nK @nL) (And.intro @lY (And.intro @nA @kW))) (And.intro (And.intro @lC (And.intro @oU @iF)) (And.intro @jD (And.intro @aF.flat_enc @aF.isv_enc)))) (And.intro (And.intro (And.intro @aF.fold_enc (And.intro @cA @bL)) (And.intro @dE (And.intro @fR @gJ))) (And.intro (And.intro @dL (And.intro @cN @fA)) (And.intro @gN (And.intro @fZ @eO))))
variable (G:Nat ->AV)
def A1u(l:List UInt32):Bool:=match l[l.length - 1]? with|some x=>decide ((x.toNat:Int) ≠ 0)|none=>false
def wr(t:aF):Bool:=
 decide (t.knd=1) && decide (t.text=[]) && decide (t.num=0) && decide ((t.items.length:Int)+t.tail.length=0) && decide ((t.limbs.length:Int) <=32) && (decide ((t.limbs.length:Int)=0) && !t.neg||decide (0 < (t.limbs.length:Int)) && A1u t.limbs)
set_option maxHeartbeats 2000000 in
theorem nE(t:aF)(hb:t.bulk <=1000000000):aN Tryd.prog G 66 [t.enc] (.bool (wr t)):=by
 have h1:=eZ t
 have h2:=eY t
 have h3:=gA t
 have hw1:IntKind.i64.wrap ((t.items.length:Int)+t.tail.length)=t.items.length+t.tail.length:=aH (by omega) (by omega)
 intro σ
 by_cases hl:0 < (t.limbs.length:Int)
 ·have hw2:IntKind.i64.wrap ((t.limbs.length:Int) - 1)=((t.limbs.length - 1:Nat):Int):=by rw[aH (by omega) (by omega)];omega
  obtain⟨x,hx⟩:∃ x,t.limbs[t.limbs.length - 1]? =some x:=⟨_,List.getElem?_eq_getElem (by omega)⟩
  have hlo:A1u t.limbs=decide ((x.toNat:Int) ≠ 0):=by simp[A1u,hx]
  have hl0: ¬ (t.limbs.length:Int)=0:=by omega
  clear h1 h2 h3 hb
  refine aJ.of_awp mixed Tryd.func66 rfl (by kernel_rfl) (by kernel_rfl) (by simp[Tryd.ntmps66]) Tryd.results66 ?_
  repeat'(first|refine xs ?_ ?_ <;>intros|(refine wn ?_;intro bx hbx;try simp only[fb]at hbx)|refine aQ ?_|(refine aB ?_;intro bx hbx;(try simp only[fb]at hbx))|refine aD ?_|((with_reducible refine And.intro ?_ ?_);omega)|refine aA (d':=⟨⟩) ?_|refine aR (by kernel_rfl) ?_|refine aP ?_ (by repeat' first|exact lr _|assumption|refine ls ?_ ?_|refine lt ?_ ?_|simp only[*];done|simp only[fb, *,not_false_eq_true,and_self];done|exact lf ‹_› (by simp only[*]))|refine aC ?_ (by repeat' first|exact lr _|assumption|refine ls ?_ ?_|refine lt ?_ ?_|simp only[*];done|simp only[fb, *,not_false_eq_true,and_self];done|exact lf ‹_› (by simp only[*]))|simp -dsimp only[↓bp,bq,br,seval,qC,mM, *]|refine wz ?_|fail)
  all_goals(first|(simp only[wr, *,Bool.and_true,Bool.true_and,Bool.and_false,Bool.false_and,Bool.or_true,Bool.true_or,Bool.or_false,Bool.false_or,Bool.not_true,Bool.not_false,if_true,if_false,Bool.and_self,Bool.or_self];done)|(simp[wr, *];done)|(simp_all [wr];done))
 ·have hl0:(t.limbs.length:Int)=0:=by omega
  clear h1 h2 h3 hb
  refine aJ.of_awp mixed Tryd.func66 rfl (by kernel_rfl) (by kernel_rfl) (by simp[Tryd.ntmps66]) Tryd.results66 ?_
  repeat'(first|refine xs ?_ ?_ <;>intros|(refine wn ?_;intro bx hbx;try simp only[fb]at hbx)|refine aQ ?_|(refine aB ?_;intro bx hbx;(try simp only[fb]at hbx))|refine aD ?_|((with_reducible refine And.intro ?_ ?_);omega)|refine aA (d':=⟨⟩) ?_|refine aR (by kernel_rfl) ?_|refine aP ?_ (by repeat' first|exact lr _|assumption|refine ls ?_ ?_|refine lt ?_ ?_|simp only[*];done|simp only[fb, *,not_false_eq_true,and_self];done|exact lf ‹_› (by simp only[*]))|refine aC ?_ (by repeat' first|exact lr _|assumption|refine ls ?_ ?_|refine lt ?_ ?_|simp only[*];done|simp only[fb, *,not_false_eq_true,and_self];done|exact lf ‹_› (by simp only[*]))|simp -dsimp only[↓bp,bq,br,seval,qC,mM, *]|refine wz ?_|fail)
  all_goals(first|(simp only[wr, *,Bool.and_true,Bool.true_and,Bool.and_false,Bool.false_and,Bool.or_true,Bool.true_or,Bool.or_false,Bool.false_or,Bool.not_true,Bool.not_false,if_true,if_false,Bool.and_self,Bool.or_self];done)|(simp[wr, *];done)|(simp_all [wr];done))
def bare(t:aF)(text num items tail:Bool):Bool:=
 !t.neg && decide ((t.limbs.length:Int)=0) && (text||decide (t.text=[])) && (num||decide (t.num=0)) && (items||decide ((t.items.length:Int)=0)) && (tail||decide ((t.tail.length:Int)=0))
set_option maxHeartbeats 2000000 in
theorem gR(t:aF):aN Tryd.prog G 67 [t.enc, .bool true, .bool false, .bool false, .bool false] (.bool (bare t true false false false)):=by
 intro σ
 refine aJ.of_awp mixed Tryd.func67 rfl (by kernel_rfl) (by kernel_rfl) (by simp[Tryd.ntmps67]) Tryd.results67 ?_
 repeat'(first|refine xs ?_ ?_ <;>intros|(refine wn ?_;intro bx hbx;try simp only[fb]at hbx)|refine aQ ?_|(refine aB ?_;intro bx hbx;(try simp only[fb]at hbx))|refine aD ?_|((with_reducible refine And.intro ?_ ?_);omega)|refine aA (d':=⟨⟩) ?_|refine aR (by kernel_rfl) ?_|refine aP ?_ (by repeat' first|exact lr _|assumption|refine ls ?_ ?_|refine lt ?_ ?_|simp only[*];done|simp only[fb, *,not_false_eq_true,and_self];done|exact lf ‹_› (by simp only[*]))|refine aC ?_ (by repeat' first|exact lr _|assumption|refine ls ?_ ?_|refine lt ?_ ?_|simp only[*];done|simp only[fb, *,not_false_eq_true,and_self];done|exact lf ‹_› (by simp only[*]))|simp -dsimp only[↓bp,bq,br,seval,qC, *]|refine wz ?_|fail)
 all_goals(first|(simp only[bare, *,Bool.and_true,Bool.true_and,Bool.and_false,Bool.false_and,Bool.or_true,Bool.true_or,Bool.or_false,Bool.false_or,Bool.not_true,Bool.not_false,if_true,if_false,Bool.and_self,Bool.or_self];done)|(simp[bare, *];done)|(simp_all [bare];done))
set_option maxHeartbeats 2000000 in
theorem gS(t:aF):aN Tryd.prog G 67 [t.enc, .bool false, .bool true, .bool false, .bool false] (.bool (bare t false true false false)):=by
 intro σ
 refine aJ.of_awp mixed Tryd.func67 rfl (by kernel_rfl) (by kernel_rfl) (by simp[Tryd.ntmps67]) Tryd.results67 ?_
 repeat'(first|refine xs ?_ ?_ <;>intros|(refine wn ?_;intro bx hbx;try simp only[fb]at hbx)|refine aQ ?_|(refine aB ?_;intro bx hbx;(try simp only[fb]at hbx))|refine aD ?_|((with_reducible refine And.intro ?_ ?_);omega)|refine aA (d':=⟨⟩) ?_|refine aR (by kernel_rfl) ?_|refine aP ?_ (by repeat' first|exact lr _|assumption|refine ls ?_ ?_|refine lt ?_ ?_|simp only[*];done|simp only[fb, *,not_false_eq_true,and_self];done|exact lf ‹_› (by simp only[*]))|refine aC ?_ (by repeat' first|exact lr _|assumption|refine ls ?_ ?_|refine lt ?_ ?_|simp only[*];done|simp only[fb, *,not_false_eq_true,and_self];done|exact lf ‹_› (by simp only[*]))|simp -dsimp only[↓bp,bq,br,seval,qC, *]|refine wz ?_|fail)
 all_goals(first|(simp only[bare, *,Bool.and_true,Bool.true_and,Bool.and_false,Bool.false_and,Bool.or_true,Bool.true_or,Bool.or_false,Bool.false_or,Bool.not_true,Bool.not_false,if_true,if_false,Bool.and_self,Bool.or_self];done)|(simp[bare, *];done)|(simp_all [bare];done))
set_option maxHeartbeats 2000000 in
theorem gT(t:aF):aN Tryd.prog G 67 [t.enc, .bool false, .bool true, .bool true, .bool false] (.bool (bare t false true true false)):=by
 intro σ
 refine aJ.of_awp mixed Tryd.func67 rfl (by kernel_rfl) (by kernel_rfl) (by simp[Tryd.ntmps67]) Tryd.results67 ?_
 repeat'(first|refine xs ?_ ?_ <;>intros|(refine wn ?_;intro bx hbx;try simp only[fb]at hbx)|refine aQ ?_|(refine aB ?_;intro bx hbx;(try simp only[fb]at hbx))|refine aD ?_|((with_reducible refine And.intro ?_ ?_);omega)|refine aA (d':=⟨⟩) ?_|refine aR (by kernel_rfl) ?_|refine aP ?_ (by repeat' first|exact lr _|assumption|refine ls ?_ ?_|refine lt ?_ ?_|simp only[*];done|simp only[fb, *,not_false_eq_true,and_self];done|exact lf ‹_› (by simp only[*]))|refine aC ?_ (by repeat' first|exact lr _|assumption|refine ls ?_ ?_|refine lt ?_ ?_|simp only[*];done|simp only[fb, *,not_false_eq_true,and_self];done|exact lf ‹_› (by simp only[*]))|simp -dsimp only[↓bp,bq,br,seval,qC, *]|refine wz ?_|fail)
 all_goals(first|(simp only[bare, *,Bool.and_true,Bool.true_and,Bool.and_false,Bool.false_and,Bool.or_true,Bool.true_or,Bool.or_false,Bool.false_or,Bool.not_true,Bool.not_false,if_true,if_false,Bool.and_self,Bool.or_self];done)|(simp[bare, *];done)|(simp_all [bare];done))
set_option maxHeartbeats 2000000 in
theorem gU(t:aF):aN Tryd.prog G 67 [t.enc, .bool false, .bool false, .bool true, .bool false] (.bool (bare t false false true false)):=by
 intro σ
 refine aJ.of_awp mixed Tryd.func67 rfl (by kernel_rfl) (by kernel_rfl) (by simp[Tryd.ntmps67]) Tryd.results67 ?_
 repeat'(first|refine xs ?_ ?_ <;>intros|(refine wn ?_;intro bx hbx;try simp only[fb]at hbx)|refine aQ ?_|(refine aB ?_;intro bx hbx;(try simp only[fb]at hbx))|refine aD ?_|((with_reducible refine And.intro ?_ ?_);omega)|refine aA (d':=⟨⟩) ?_|refine aR (by kernel_rfl) ?_|refine aP ?_ (by repeat' first|exact lr _|assumption|refine ls ?_ ?_|refine lt ?_ ?_|simp only[*];done|simp only[fb, *,not_false_eq_true,and_self];done|exact lf ‹_› (by simp only[*]))|refine aC ?_ (by repeat' first|exact lr _|assumption|refine ls ?_ ?_|refine lt ?_ ?_|simp only[*];done|simp only[fb, *,not_false_eq_true,and_self];done|exact lf ‹_› (by simp only[*]))|simp -dsimp only[↓bp,bq,br,seval,qC, *]|refine wz ?_|fail)
 all_goals(first|(simp only[bare, *,Bool.and_true,Bool.true_and,Bool.and_false,Bool.false_and,Bool.or_true,Bool.true_or,Bool.or_false,Bool.false_or,Bool.not_true,Bool.not_false,if_true,if_false,Bool.and_self,Bool.or_self];done)|(simp[bare, *];done)|(simp_all [bare];done))
set_option maxHeartbeats 2000000 in
theorem fX(t:aF):aN Tryd.prog G 67 [t.enc, .bool false, .bool false, .bool true, .bool true] (.bool (bare t false false true true)):=by
 intro σ
 refine aJ.of_awp mixed Tryd.func67 rfl (by kernel_rfl) (by kernel_rfl) (by simp[Tryd.ntmps67]) Tryd.results67 ?_
 repeat'(first|refine xs ?_ ?_ <;>intros|(refine wn ?_;intro bx hbx;try simp only[fb]at hbx)|refine aQ ?_|(refine aB ?_;intro bx hbx;(try simp only[fb]at hbx))|refine aD ?_|((with_reducible refine And.intro ?_ ?_);omega)|refine aA (d':=⟨⟩) ?_|refine aR (by kernel_rfl) ?_|refine aP ?_ (by repeat' first|exact lr _|assumption|refine ls ?_ ?_|refine lt ?_ ?_|simp only[*];done|simp only[fb, *,not_false_eq_true,and_self];done|exact lf ‹_› (by simp only[*]))|refine aC ?_ (by repeat' first|exact lr _|assumption|refine ls ?_ ?_|refine lt ?_ ?_|simp only[*];done|simp only[fb, *,not_false_eq_true,and_self];done|exact lf ‹_› (by simp only[*]))|simp -dsimp only[↓bp,bq,br,seval,qC, *]|refine wz ?_|fail)
 all_goals(first|(simp only[bare, *,Bool.and_true,Bool.true_and,Bool.and_false,Bool.false_and,Bool.or_true,Bool.true_or,Bool.or_false,Bool.false_or,Bool.not_true,Bool.not_false,if_true,if_false,Bool.and_self,Bool.or_self];done)|(simp[bare, *];done)|(simp_all [bare];done))
end
set_option maxRecDepth 20000
section
def iY:=And.intro (And.intro (And.intro (And.intro @nK @nL) (And.intro @lY (And.intro @nA @kW))) (And.intro (And.intro @lC (And.intro @oU @iF)) (And.intro @jD (And.intro @aF.flat_enc @aF.isv_enc)))) (And.intro (And.intro (And.intro @aF.fold_enc (And.intro @cA @bL)) (And.intro @dE (And.intro @fR @gJ))) (And.intro (And.intro @dL (And.intro @cN @fA)) (And.intro @gN (And.intro @fZ @eO))))
variable (G:Nat ->AV)
def head(t:aF):Int × Int × Bool:=
 if t.knd=2 then(1,0,bare t true false false false && decide ((t.text.length:Int) <=40))
 else if t.knd=3 \/ t.knd=5 then(1,0,bare t false true false false && decide (0 <=t.num) && decide (t.num <=1099511627776))
 else if t.knd=4 then(2,0,bare t false true true false && decide (0 <=t.num) && decide (t.num <=16384))
 else if t.knd=6 then(1,0,bare t false false true false)
 else if t.knd=7 then(1,1,bare t false false true true && decide ((t.tail.length:Int) <=if(t.items.length:Int) < 1 then(t.items.length:Int)else 1) && t.tail.all fun x=>decide (x.knd ≠ 7))
 else(1,0,false)
mutual
def size:aF ->Int
 | .mk k g l s n ks ts=>
  if(k.toNat:Int)=1 then(if wr (.mk k g l s n ks ts)=true then 1+l.length else 0)else
   let h:=head (.mk k g l s n ks ts)
   let a:=aU ks h.2.1 (h.1,h.2.2)
   let b:=aU ts 0 a
   if b.2=true then b.1 else 0
def aU:List aF ->Int ->Int × Bool ->Int × Bool
 |[],_,a=>a
 |k::ks,each,a=>if a.2=true then aU ks each (a.1+size k+each,decide (0 < size k) && decide (a.1+size k+each <=4096))else a
end
theorem gO(t:aF):size t=if t.knd=1 then(if wr t=true then(1+t.limbs.length:Int)else 0)else
  if(aU t.tail 0 (aU t.items (head t).2.1 ((head t).1,(head t).2.2))).2=true then(aU t.tail 0 (aU t.items (head t).2.1 ((head t).1,(head t).2.2))).1 else 0:=by
 cases t;rw[size];rfl
theorem eJ(l:List aF)(h:∀ x,x ∈ l ->0 <=size x /\ size x <=4096)(each:Int)(he0:0 <=each)(he1:each <=1):∀ a:Int × Bool,0 < a.1 -> (a.2=true ->a.1 <=4096) ->a.1 <=10000 ->
  0 < (aU l each a).1 /\ ((aU l each a).2=true -> (aU l each a).1 <=4096) /\ (aU l each a).1 <=10000:=by
 induction l with
 |nil=>intro a h1 h2 h3;exact⟨h1,h2,h3⟩
 | cons x l ih=>
  intro a h1 h2 h3
  have hx:=h x (by simp)
  simp only[aU]
  split
  ·rename_i hf
   have:=h2 hf
   refine ih (fun y hy=>h y (by simp[hy])) _ (by simp only;omega) (fun hh=> ?_) (by simp only;omega)
   simp only[Bool.and_eq_true,decide_eq_true_eq]at hh
   exact hh.2
  ·exact⟨h1,h2,h3⟩
theorem C5o(t:aF):0 < (head t).1 /\ (head t).1 <=2 /\ 0 <=(head t).2.1 /\ (head t).2.1 <=1:=by
 unfold head;split <;> (try split) <;> (try split) <;> (try split) <;> (try split) <;>simp
theorem jP(t:aF):0 <=size t /\ size t <=4096:=by
 refine aF.ind (P:=fun t=>0 <=size t /\ size t <=4096) (fun t ih1 ih2=> ?_) t
 obtain⟨h1,h2,h3,h4⟩:=C5o t
 have a:=eJ t.items ih1 _ h3 h4 ((head t).1,(head t).2.2) h1 (fun _=>by simp only;omega) (by simp only;omega)
 have b:=eJ t.tail ih2 0 (by omega) (by omega) _ a.1 a.2.1 a.2.2
 rw[gO]
 split
 ·split
  ·rename_i hw
   simp only[wr,Bool.and_eq_true,decide_eq_true_eq]at hw
   omega
  ·omega
 ·split
  ·rename_i hf
   have:=b.2.1 hf
   omega
  ·omega
theorem A6t(l:List aF)(each n:Int):aU l each (n,false)=(n,false):=by cases l <;>simp[aU]
theorem bI (l:List aF) (each:Int) (he0:0 <=each) (he1:each <=1) (hl:l.length <=1000000000) (hf:∀ x,x ∈ l ->aN Tryd.prog G 46 [x.enc] (.int .i64 (size x))) (σ:AS) (bf bn:Nat) (hne:bf ≠ bn) (n:Int) (f:Bool)
  (hbf:σ.box bf=some [.bool f]) (hbn:σ.box bn=some [.int .i64 n]) (hn0:0 < n) (hn1:f=true ->n <=4096) (hn2:n <=10000):
  aJ Tryd.prog G 68 [dK l, .int .i64 each, .ptr bf 0, .ptr bn 0] σ fun r σ'=>σ'=(σ.setBox bn [.int .i64 (aU l each (n,f)).1]).setBox bf [.bool (aU l each (n,f)).2]:=by
 have hnb:bn ≠ bf:=Ne.symm hne
 have hid:σ=(σ.setBox bn [.int .i64 n]).setBox bf [.bool f]:=by
  unfold AS.setBox;cases σ with
  | mk box tip ty=>
   simp only[AS.mk.injEq,and_true]
   funext i
   split
   ·rename_i h;subst h;exact hbf
   ·split
    ·rename_i h;subst h;exact hbn
    ·rfl
 have sw:∀ (m m':Int) (g g':Bool),(((σ.setBox bn [.int .i64 m]).setBox bf [.bool g]).setBox bn [.int .i64 m']).setBox bf [.bool g']=(σ.setBox bn [.int .i64 m']).setBox bf [.bool g']:=fun m m' g g'=>by
  unfold AS.setBox
  congr 1
  funext i
  simp only
  by_cases h1:i=bf
  ·simp[h1]
  ·by_cases h2:i=bn
   ·simp[h1,h2]
   ·simp[h1,h2]
 refine aJ.of_awp mixed Tryd.func68 rfl (by kernel_rfl) (by kernel_rfl) (by simp[Tryd.ntmps68]) Tryd.results68 ?_
 simp -dsimp only[↓bp,bq,br,seval,iY]
 refine aY (fun k e σ'=>∃ (i:Nat) (a:Int × Bool),i <=l.length /\ k=l.length - i /\ e 6= .int .i64 i /\ 0 < a.1 /\ (a.2=true ->a.1 <=4096) /\ a.1 <=10000 /\ aU (l.drop i) each a=aU l each (n,f) /\ σ'=(σ.setBox bn [.int .i64 a.1]).setBox bf [.bool a.2]) l.length
  ⟨0,(n,f),by omega,by omega,by simp -dsimp only[↓bp,bq,br,seval,iY];try rfl,hn0,hn1,hn2,by rw[List.drop_zero],hid⟩ ?_
 rintro k v σ' ⟨i,⟨m,g⟩,hi,rfl,h6,hm0,hm1,hm2,ha,rfl⟩
 simp only at hm0 hm1 hm2 ⊢
 simp -dsimp only[↓bp,bq,br,seval,iY]at h6
 simp -dsimp only[↓bp,bq,br,seval,iY,h6]
 refine B8o (fun hlt=> ?_) (fun hge=> ?_)
 ·obtain⟨x,hx⟩:∃ x,l[i]? =some x:=⟨_,List.getElem?_eq_getElem (by omega)⟩
  have hxm:x ∈ l:=List.mem_of_getElem? hx
  have hs:=jP x
  have hdr:=qQ _ _ _ hx
  have hp:=hf x hxm
  cases g with
  | false=>
   simp -dsimp only[↓bp,bq,br,seval,iY,h6,hx,hlt,hne,hnb]
   refine⟨_,_,rfl,AS.le.refl _,?_⟩
   rw[<- ha,A6t]
  | true=>
   have hm1:=hm1 rfl
   have hw1:IntKind.i64.wrap (size x+each)=size x+each:=aH (by omega) (by omega)
   have hw2:IntKind.i64.wrap (m+(size x+each))=m+size x+each:=by rw[aH (by omega) (by omega)];omega
   simp -dsimp only[↓bp,bq,br,seval,iY,h6,hx,hlt,hne,hnb]
   refine aN.use hp ?_
   simp -dsimp only[↓bp,bq,br,seval,iY,h6,hx,hlt,hne,hnb,hw1,hw2]
   have hnx:aU (l.drop (i+1)) each (m+size x+each,decide (0 < size x) && decide (m+size x+each <=4096))=aU l each (n,f):=by rw[<- ha,hdr];simp[aU]
   refine B8o (fun h0=> ?_) (fun h0=> ?_)
   ·simp -dsimp only[↓bp,bq,br,seval,iY,h6,hx,hlt,hne,hnb,hw1,hw2,h0]
    refine⟨l.length - (i+1),by omega,i+1,(m+size x+each,decide (0 < size x) && decide (m+size x+each <=4096)),by omega,rfl,by rw[aH (by omega) (by omega)];rfl,by simp only;omega,?_,by simp only;omega,hnx,?_⟩
    ·intro hh
     simp only[Bool.and_eq_true,decide_eq_true_eq]at hh
     exact hh.2
    ·simp only[h0,decide_true,Bool.true_and]
     exact sw _ _ _ _
   ·simp -dsimp only[↓bp,bq,br,seval,iY,h6,hx,hlt,hne,hnb,hw1,hw2,h0]
    refine⟨l.length - (i+1),by omega,i+1,(m+size x+each,decide (0 < size x) && decide (m+size x+each <=4096)),by omega,rfl,by rw[aH (by omega) (by omega)];rfl,by simp only;omega,?_,by simp only;omega,hnx,?_⟩
    ·intro hh
     simp only[Bool.and_eq_true,decide_eq_true_eq]at hh
     exact hh.2
    ·simp only[h0,decide_false,Bool.false_and]
     exact sw _ _ _ _
 ·have:i=l.length:=by omega
  subst this
  rw[List.drop_length]at ha
  simp -dsimp only[↓bp,bq,br,seval,iY,h6,hge]
  refine⟨_,_,rfl,AS.le.refl _,?_⟩
  rw[<- ha];rfl
end
end Go.Proofs.YthoenjlenkpnnaaDoor
