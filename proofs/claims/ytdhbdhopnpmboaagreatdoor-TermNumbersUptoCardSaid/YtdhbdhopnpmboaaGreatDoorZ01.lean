/- Slices written out, made, appended to; bytes and strings: on abstract values. -/
import Derived.Test.YtdhbdhopnpmboaaGreatDoorZ00
import Derived.Lib.UnsafeStr
set_option linter.unusedVariables false
set_option linter.unusedSimpArgs false
namespace Go.Av
open Go Go.RowKit
theorem A2l{α β:Type} :∀ (l:List (α × β)),(l.map (·.1)).zip (l.map (·.2))=l
 |[]=>rfl
 |x::l=>by simp[A2l l]
theorem D5a{K:bO}{z:List AV}{zv:Array Value}(h:CR K z zv)(m:Nat)(h0:0 < zv.size):
  CR K ((List.range m).map fun i=>z.getD (i % zv.size) .undef) ((Array.range m).map (zv[· % zv.size]!)):=by
 have hs:=h.size
 refine⟨by simp,fun c hc=> ?_,fun j hj=> ?_⟩
 ·obtain⟨i,_,rfl⟩:=List.mem_map.1 hc
  have hlt:i % zv.size < z.length:=by rw[<- hs];exact Nat.mod_lt _ h0
  rw[List.getD_eq_getElem?_getD,List.getElem?_eq_getElem hlt]
  exact h.one _ (List.getElem_mem hlt)
 ·have hjm:j < m:=by simpa using hj
  have hlt:j % zv.size < z.length:=by rw[<- hs];exact Nat.mod_lt _ h0
  have hlt':j % zv.size < zv.size:=Nat.mod_lt _ h0
  have:=h.at_ _ hlt
  simp only[Array.getD_eq_getD_getElem?]at this ⊢
  simp only[List.getElem_map,List.getElem_range,List.getD_eq_getElem?_getD,List.getElem?_eq_getElem hlt,Option.getD_some]
  simpa [hjm,hlt'] using this
theorem VR.sl_row {K:bO} {g:Gh} {xs:List AV} {n b cap:Nat} {c:Array Value} (hx:∀ a,a ∈ xs -> (flat a).length=n /\ isv a=true /\ ∀ c,c ∈ flat a ->one c=true)
  (hcap:xs.length <=cap) (hml:cap <=maxLen) (himm:∀ o,o < xs.length*n ->K.imm b o=some (c.getD o Go.undef))
  (hv:∀ j (h:j < (xs.flatMap flat).length),VR K (xs.flatMap flat)[j] (c.getD j Go.undef)) (hg:g.ok K b 0 xs.length cap):
  VR K (.sl g xs []) (.slice (some ⟨b,0,none⟩) xs.length cap):=by
 have hl:=bV (sz:=n) xs (fun e he=> (hx e he).1)
 refine .sl g xs [] n b 0 cap (fun j=>c.getD j Go.undef) (fun e he=>hx e (by simpa using he)) (by simpa using hcap) hml (fun j hj=> ?_) (fun j hj=> ?_) hg
 ·simp only[List.append_nil]at hj
  rw[Nat.zero_add];exact himm j (by omega)
 ·have hj':j < (xs.flatMap flat).length:=by simpa using hj
  have:=hv j hj'
  simpa using this
theorem tO {P:Program} {K:bO} {w:World} {t:TypeId} {len:Nat} {ps:List (Nat × AV)} {r:AV} (h:dQ P t len ps=some r)
  {qs:List (Nat × Value)} (hv:VRp K ps qs):
  ∃ e ag n us,el P t=some e /\ tk P e=some (ag,n) /\ (Instr.buildSlice t len qs.toArray).run P w= .ok (.slice (some ⟨w.heap.size,0,none⟩) len len) (w.alloc (.cells us e)) /\ r= .sl .full (ps.map (·.2)) [] /\ us.size=len*n /\ len <=maxLen /\ (ps.map (·.2)).length=len /\
   (∀ a,a ∈ ps.map (·.2) ->isv a=true /\ (flat a).length=n) /\ CR K ((ps.map (·.2)).flatMap flat) us:=by
 unfold dQ at h
 split at h
 case h_2=>cases h
 rename_i e he
 split at h
 case h_2=>cases h
 rename_i ag n hn
 split at h
 case h_2=>cases h
 split at h
 case isFalse=>cases h
 rename_i hc
 obtain⟨hc1,hc2,hc3,hc4,hc5⟩:=hc
 simp only[Option.some.injEq]at h;subst h
 obtain⟨z,hz,hzl⟩:=Option.map_eq_some_iff.1 hc5
 obtain⟨i,zv,hi,hzv,hcr⟩:=zN (K:=K) hz
 obtain⟨_,hsz,hsz2⟩:=nQ hn w
 have hzn:zv.cells.size=n:=by rw[hcr.size,hzl]
 have hlen:(ps.map (·.2)).length=len:=by
  have:=congrArg List.length hc1;simpa using this
 have hall:∀ a,a ∈ ps.map (·.2) ->isv a=true /\ (flat a).length=n:=by
  intro a ha
  have:=List.all_eq_true.1 hc2 a ha
  simpa using this
 have hps:ps=(List.range' 0 (ps.map (·.2)).length).zip (ps.map (·.2)):=by
  conv=>lhs;rw[<- A2l ps]
  rw[hc1,hlen,List.range_eq_range']
 have hz0:=D5a hcr (len*n) (by omega)
 have hfill:=A8l (n:=n) (ps.map (·.2)) 0 ((List.range (len*n)).map fun i=>z.getD (i % zv.cells.size) .undef) hall (by rw[hlen];simp)
 rw[<- hps]at hfill
 obtain⟨us,hus,hcu⟩:=uH ps qs _ _ _ hv hz0 hfill
 have hflen:=bV (sz:=n) (ps.map (·.2)) (fun a ha=> (hall a ha).2)
 have hcells:(((List.range (len*n)).map fun i=>z.getD (i % zv.cells.size) .undef).take (0*n)++(ps.map (·.2)).flatMap flat++((List.range (len*n)).map fun i=>z.getD (i % zv.cells.size) .undef).drop ((0+(ps.map (·.2)).length)*n))=(ps.map (·.2)).flatMap flat:=by
  have hpl:ps.length=len:=by simpa using hlen
  rw[Nat.zero_mul,List.take_zero,List.nil_append,List.drop_eq_nil_of_le (by simp[hpl]),List.append_nil]
 rw[hcells]at hcu
 have hsize:us.size=len*n:=by rw[hcu.size,hflen,hlen]
 have hlml:len <=maxLen:=by
  unfold maxLen
  have:len*1 <=len*n:=Nat.mul_le_mul_left _ hc4
  omega
 refine⟨e,ag,n,us,he,hn,?_,rfl,hsize,hlml,hlen,hall,hcu⟩
 ·unfold Instr.buildSlice
  have hz1: ¬ (len*n >2 ^ 24):=by omega
  simp only[Sem.run_bind,run_underlying (fA he),hsz,Result.andThen_ok,if_neg hz1]
  by_cases h0:len*n=0
  ·have hl0:len=0:=by
    rcases Nat.mul_eq_zero.1 h0 with h|h
    ·exact h
    ·omega
   subst hl0
   have hp0:ps=[]:=by
    have:ps.length=0:=by simpa using hlen
    exact List.eq_nil_of_length_eq_zero this
   subst hp0
   cases qs with
   |cons=>exact hv.elim
   | nil=>
    simp only[Instr.fill,Option.some.injEq]at hus
    subst hus
    have ez:∀ (f g:Nat ->Value),(Array.range 0).map f=(Array.range 0).map g:=fun f g=>by apply Array.ext';simp
    simp[Instr.fill,newRow]
    exact congrArg (fun c=>w.alloc (Obj.cells c e)) (ez _ _)
  ·simp only[if_neg h0,Sem.run_bind,B2p hi hzv,Result.andThen_ok,Sem.run_pure,hus,newRow]
   simp
theorem yC {P:Program} {G:Nat ->AV} {K:bO} {σ:AS} {w:World} (hr:cV G K σ w) {t:TypeId} {len:Nat} {ps:List (Nat × AV)} {r:AV} (h:dQ P t len ps=some r)
  {qs:List (Nat × Value)} (hv:VRp K ps qs):
  ∃ z w' K',(Instr.buildSlice t len qs.toArray).run P w= .ok z w' /\ K.le K' /\ cV G K' σ w' /\ VR K' r z:=by
 obtain⟨e,ag,n,us,he,hn,hrun,rfl,hsize,hlml,hlen,hall,hcu⟩:=tO (w:=w) h hv
 obtain⟨K',hK,hrel,himm,_⟩:=hr.addImm us e
 refine⟨_,_,K',hrun,hK,hrel,?_⟩
 have:=VR.sl_row (K:=K') (g:= .full) (xs:=ps.map (·.2)) (n:=n) (b:=w.heap.size) (cap:=(ps.map (·.2)).length) (c:=us)
  (fun a ha=> ⟨(hall a ha).2,(hall a ha).1,fun c hcm=>hcu.one c (List.mem_flatMap.2 ⟨a,ha,hcm⟩)⟩) (Nat.le_refl _)
  (by rw[hlen];exact hlml)
  (fun o ho=>himm o (by rw[hsize,<- hlen];exact ho)) (fun j hj=> (hcu.at_ j hj).mono hK) (by simp[Gh.ok])
 rw[hlen]at this
 exact this
def lJ(P:Program)(t:TypeId):AV ->Option (List AV)
 | .sl _ ys _=>if(el P t).isSome then some ys else none
 | .nil=>if(el P t).isSome then some []else none
 | .str s=>if sk P t= .str then some (s.map fun c=> .int .u8 c.toNat)else none
 | .raw (.slice (some _) 0 _)=>if(el P t).isSome then some []else none
 |_=>none
def eC(f:Nat ->Value)(n:Nat):List Value:=(List.range n).map f
theorem lI(f:Nat ->Value)(n j:Nat)(h:j < n)(d:Value):(eC f n).getD j d=f j:=by
 simp[eC,h]
theorem pP(s:List UInt8):(s.map fun c=>AV.int .u8 c.toNat).flatMap flat=s.map fun c=>AV.int .u8 c.toNat:=by
 induction s with
 |nil=>rfl
 |cons c s ih=>rw[List.map_cons,List.flatMap_cons,ih];rfl
theorem wY {P:Program} {G:Nat ->AV} {K:bO} {σ:AS} {w:World} (hr:cV G K σ w) {t:TypeId} {x:AV} {ys:List AV} (h:lJ P t x=some ys) {n:Nat}
  (hn:∀ a,a ∈ ys -> (flat a).length=n) {v:Value} (hv:VR K x v):
  ∃ news:List Value,Src P n t v ys.length news w /\ news.length=(ys.flatMap flat).length /\ (∀ a,a ∈ ys ->isv a=true /\ ∀ c,c ∈ flat a ->one c=true) /\
   ∀ j (hj:j < (ys.flatMap flat).length),VR K (ys.flatMap flat)[j] (news.getD j Go.undef):=by
 unfold lJ at h
 have hfl:=bV (sz:=n) ys hn
 split at h
 ·rename_i g ys' sp
  split at h
  ·rename_i hs
   obtain⟨e,he⟩:=Option.isSome_iff_exists.1 hs
   simp only[Option.some.injEq]at h;subst h
   cases hv with
   | sl0 a=>
    refine⟨[],?_,rfl,(fun _ h=>by cases h),(fun j hj=>by cases hj)⟩
    cases a with
    |none=>exact Src.ofNil w (fA he) 0
    |some a=>exact Src.ofSlice w (fA he) a 0 0 [] (by simp) (fun j u h=>by simp at h) (fun u h=>by cases h)
   | sl _ _ _ sz b off cap f hsz hcap hml himm hvv hg=>
    have hle:(ys'.flatMap flat).length <=((ys'++sp).flatMap flat).length:=by simp
    have hgetf:∀ j (hj:j < (ys'.flatMap flat).length),((ys'++sp).flatMap flat)[j]'(by omega)=(ys'.flatMap flat)[j]:=by
     intro j hj
     simp only[List.flatMap_append]
     rw[List.getElem_append_left hj]
    have hone:∀ u,u ∈ eC f (ys'.flatMap flat).length ->u.oneCell'=true:=by
     intro u hu
     obtain⟨j,hj,rfl⟩:=List.mem_map.1 hu
     have hj':j < (ys'.flatMap flat).length:=by simpa using hj
     have h1:=hvv j (by omega)
     rw[hgetf j hj']at h1
     refine h1.oneCell ?_
     obtain⟨a,ha,hca⟩:=List.mem_flatMap.1 (List.getElem_mem hj')
     exact(hsz a (List.mem_append_left _ ha)).2.2 _ hca
    refine⟨eC f (ys'.flatMap flat).length,Src.ofSlice w (fA he) ⟨b,off,none⟩ ys'.length cap _ (by simp[eC,hfl]) (fun j u hu=> ?_) hone,by simp[eC],fun a ha=> (hsz a (List.mem_append_left _ ha)).2,fun j hj=> ?_⟩
    ·obtain⟨hj,rfl⟩:=List.getElem?_eq_some_iff.1 hu
     have hj':j < (ys'.flatMap flat).length:=by simpa [eC] using hj
     rw[Addr.add_lit]
     simp only[eC,List.getElem_map,List.getElem_range]
     exact hr.imm _ _ _ (himm j (by omega))
    ·have h1:=hvv j (by omega)
     rw[hgetf j hj]at h1
     rw[lI f _ j hj];exact h1
  ·cases h
 ·split at h
  ·rename_i hs
   obtain⟨e,he⟩:=Option.isSome_iff_exists.1 hs
   simp only[Option.some.injEq]at h;subst h
   rw[VR.nil_iff]at hv;subst hv
   exact⟨[],Src.ofNil w (fA he) 0,rfl,(fun _ h=>by cases h),(fun j hj=>by cases hj)⟩
  ·cases h
 ·rename_i s
  split at h
  ·rename_i hs
   simp only[Option.some.injEq]at h
   rw[VR.str_iff]at hv;subst hv
   have hb:byteCells ⟨⟨s⟩⟩=s.map (fun c=>Value.int .u8 c.toNat):=rfl
   have hf1:ys.flatMap flat=ys:=by
    subst h
    exact pP s
   subst h
   have hn1:n=1 \/ s=[]:=by
    cases s with
    |nil=>exact .inr rfl
    |cons c s=>left;have:=hn (.int .u8 c.toNat) (by simp);simpa [flat] using this.symm
   rw[hf1]
   refine⟨byteCells ⟨⟨s⟩⟩,?_,by simp[hb],fun a ha=>by obtain⟨c,_,rfl⟩:=List.mem_map.1 ha;exact⟨rfl,fun y hy=>by simp[flat]at hy;subst hy;rfl⟩,fun j hj=> ?_⟩
   ·have hsz:(ByteArray.mk (Array.mk s)).size=(s.map fun c=>AV.int .u8 c.toNat).length:=by simp;rfl
    rcases hn1 with rfl|rfl
    ·rw[<- hsz];exact Src.ofString w (tL hs) ⟨⟨s⟩⟩
    ·exact⟨.inr (tL hs),fun _=>rfl,by simp[Builtin.firstCells,byteCells],by simp[Builtin.firstCells,byteCells],by simp[byteCells],fun u hu=>by simp[byteCells]at hu⟩
   ·have hjs:j < s.length:=by simpa using hj
    rw[hb]
    simpa [hjs] using VR.int (K:=K) .u8 s[j].toNat
  ·cases h
 ·rename_i a0 c0
  split at h
  ·rename_i hs
   obtain⟨e,he⟩:=Option.isSome_iff_exists.1 hs
   simp only[Option.some.injEq]at h;subst h
   rw[VR.raw_iff]at hv;subst hv
   exact⟨[],Src.ofSlice w (fA he) a0 0 c0 [] (by simp) (fun j u h=>by simp at h) (fun u h=>by cases h),rfl,(fun _ h=>by cases h),(fun j hj=>by cases hj)⟩
  ·cases h
 ·cases h
end Go.Av
namespace Go.Av
open Go Go.RowKit
theorem qY(b:Nat):∀ (vs:List Value) (o:Nat) (w:World) (cur:Array Value) (E:TypeId) (fz:Nat × Nat),w.heap[b]? =some (.cells cur E fz) ->
  ∃ cur',(w.setCells b o vs).heap[b]? =some (.cells cur' E fz) /\ cur'.size=cur.size
 |[],o,w,cur,E,fz,h=> ⟨cur,h,rfl⟩
 | v::r,o,w,cur,E,fz,h=>by
  rw[World.setCells]
  have h1:(w.setCell ⟨b,o,none⟩ v).heap[b]? =some (.cells (cur.setIfInBounds o v) E fz):=by
   simp[World.setCell,Array.getElem?_modify,h]
  obtain⟨c',h2,h3⟩:=qY b r (o+1) _ _ E fz h1
  exact⟨c',h2,by rw[h3];simp⟩
theorem fC(b:Nat):∀ (vs:List Value) (o:Nat) (w:World) (k:Nat),k ≠ b -> (w.setCells b o vs).heap[k]? =w.heap[k]?
 |[],_,_,_,_=>rfl
 | v::r,o,w,k,h=>by
  rw[World.setCells,fC b r _ _ k h,Below.heap_setCell w _ v k h]
theorem rC(b:Nat):∀ (vs:List Value) (o:Nat) (w:World),(w.setCells b o vs).os=w.os /\ (w.setCells b o vs).tape=w.tape /\ (w.setCells b o vs).output=w.output /\ (w.setCells b o vs).heap.size=w.heap.size
 |[],_,_=> ⟨rfl,rfl,rfl,rfl⟩
 | v::r,o,w=>by
  rw[World.setCells]
  obtain⟨h1,h2,h3,h4⟩:=rC b r (o+1) (w.setCell ⟨b,o,none⟩ v)
  exact⟨h1,h2,h3,h4.trans (by simp)⟩
section
variable {G:Nat ->AV} {K:bO} {σ:AS} {w:World}
theorem cV.addRow(h:cV G K σ w)(c:Array Value)(E:TypeId)(cap s m:Nat)(hc:c.size=cap*s)(hm:m <=cap)(hml:cap <=maxLen):
  ∃ K',K.le K' /\ cV G K' (σ.setTip w.heap.size (m,s)) (w.alloc (.cells c E)) /\ K'.row w.heap.size=some (cap,s,E) /\ ∀ o,o < m*s ->K'.imm w.heap.size o=some (c.getD o Go.undef):=by
 have hf:=h.fresh (Nat.le_refl w.heap.size)
 have hms:m*s <=cap*s:=Nat.mul_le_mul_right _ hm
 let K':bO:= {K with imm:=fun i o=>if i=w.heap.size /\ o < m*s then some (c.getD o Go.undef)else K.imm i o,row:=fun i=>if i=w.heap.size then some (cap,s,E)else K.row i}
 have himm0:∀ o,K.imm w.heap.size o=none:=h.imm_none (Nat.le_refl _)
 have hle:K.le K':=by
  refine⟨fun i o v hv=> ?_,fun i x hx=> ?_,rfl,rfl⟩
  ·show(if i=w.heap.size /\ o < m*s then some (c.getD o Go.undef)else K.imm i o)=some v
   rw[if_neg]
   ·exact hv
   ·rintro⟨rfl,_⟩;rw[himm0]at hv;cases hv
  ·show(if i=w.heap.size then some (cap,s,E)else K.row i)=some x
   rw[if_neg]
   ·exact hx
   ·rintro rfl;rw[h.row_none (Nat.le_refl _)]at hx;cases hx
 have h':=h.alloc (.cells c E)
 have hnew:(w.alloc (.cells c E)).heap[w.heap.size]? =some (.cells c E (0,0)):=heap_alloc_new w _
 refine⟨K',hle,⟨fun i o v hv=> ?_,fun i cp s' F hr=> ?_,fun i cs hi=> ?_,fun i n s' hi=> ?_,fun i E n hi=> (h'.ty i E n hi).mono hle,fun g=> (h'.glob g).mono hle,h'.below,h'.bs⟩,?_,fun o ho=> ?_⟩
 ·have hv':(if i=w.heap.size /\ o < m*s then some (c.getD o Go.undef)else K.imm i o)=some v:=hv
  split at hv'
  ·rename_i hx
   obtain⟨rfl,ho⟩:=hx
   rw[World.cell?_alloc_new,<- hv']
   have:o < c.size:=by omega
   simp[this]
  ·exact h'.imm _ _ _ hv'
 ·have hr':(if i=w.heap.size then some (cap,s,E)else K.row i)=some (cp,s',F):=hr
  split at hr'
  ·rename_i hx
   subst hx
   simp only[Option.some.injEq,Prod.mk.injEq]at hr'
   obtain⟨rfl,rfl,rfl⟩:=hr'
   exact⟨c,(0,0),hnew,hc,hml,fun _=> .inl rfl⟩
  ·rename_i hx
   obtain⟨cur,fz,h1,h2,h3,h4⟩:=h'.row _ _ _ _ hr'
   exact⟨cur,fz,h1,h2,h3,fun⟨x,hxx⟩=>h4 ⟨x,by simpa [AS.setTip,hx] using hxx⟩⟩
 ·obtain⟨h1,h2,h3,h4,h5,d,F,hd,hs,hvv⟩:=h'.box i cs hi
  have hne:i ≠ w.heap.size:=by rintro rfl;have hi':σ.box w.heap.size=some cs:=hi;rw[hf.1]at hi';cases hi'
  refine⟨h1,?_,?_,fun o=> ?_,h5,d,F,hd,hs,fun j hj=> (hvv j hj).mono hle⟩
  ·simp only[AS.setTip,if_neg hne];exact h2
  ·trivial
  ·show(if i=w.heap.size /\ o < m*s then some (c.getD o Go.undef)else K.imm i o)=none
   rw[if_neg (fun x=>hne x.1)];exact h4 o
 ·by_cases hne:i=w.heap.size
  ·subst hne
   simp only[AS.setTip,if_true,Option.some.injEq,Prod.mk.injEq]at hi
   obtain⟨rfl,rfl⟩:=hi
   refine⟨h.bs,cap,E,?_,hm,fun o ho=> ?_⟩
   ·show(if w.heap.size=w.heap.size then some (cap,s,E)else K.row _)=_
    rw[if_pos rfl]
   ·show(if w.heap.size=w.heap.size /\ o < m*s then some (c.getD o Go.undef)else K.imm _ o)=none
    rw[if_neg (by omega)];exact himm0 o
  ·simp only[AS.setTip,if_neg hne]at hi
   obtain⟨h1,cp,F,hr,hn,ho⟩:=h'.tip i n s' hi
   refine⟨h1,cp,F,hle.row _ _ hr,hn,fun o hlo=> ?_⟩
   show(if i=w.heap.size /\ o < m*s then some (c.getD o Go.undef)else K.imm i o)=none
   rw[if_neg (fun x=>hne x.1)];exact ho o hlo
 ·show(if w.heap.size=w.heap.size then some (cap,s,E)else K.row _)=_
  rw[if_pos rfl]
 ·show(if w.heap.size=w.heap.size /\ o < m*s then some (c.getD o Go.undef)else K.imm _ o)=_
  rw[if_pos ⟨rfl,ho⟩]
theorem cV.growRow (h:cV G K σ w) {b n s cap:Nat} {E:TypeId} (ht:σ.tip b=some (n,s)) (hrow:K.row b=some (cap,s,E)) (news:List Value) (m:Nat) (hm:news.length=m*s) (hcap:n+m <=cap)
  (h1:∀ u,u ∈ news ->u.oneCell'=true):
  ∃ K',K.le K' /\ cV G K' (σ.setTip b (n+m,s)) (w.setCells b (n*s) news) /\ ∀ j,j < news.length ->K'.imm b (n*s+j)=some (news.getD j Go.undef):=by
 obtain⟨hb,cap',E',hrow',hn,himm⟩:=h.tip b n s ht
 rw[hrow]at hrow'
 simp only[Option.some.injEq,Prod.mk.injEq,true_and]at hrow'
 obtain⟨rfl,rfl⟩:=hrow'
 obtain⟨cur,fz,hcur,hcs,hml,hfz⟩:=h.row b cap s E hrow
 have hfz2:=hfz ⟨_,ht⟩
 have hnb:σ.box b=none:=by
  cases e:σ.box b with
  |none=>rfl
  |some cs=>have:=(h.box b cs e).2.1;rw[ht]at this;cases this
 have hms:(n+m)*s=n*s+m*s:=Nat.add_mul n m s
 have hle2:(n+m)*s <=cap*s:=Nat.mul_le_mul_right _ hcap
 obtain⟨cur',hc1,hc2⟩:=qY b news (n*s) w cur E fz hcur
 obtain⟨m1,m2,m3,m4⟩:=rC b news (n*s) w
 have hcellin:∀ j,j < news.length -> (w.setCells b (n*s) news).cell? ⟨b,n*s+j,none⟩=some (news.getD j Go.undef):=by
  intro j hj
  have:=World.cell?_setCells_in b news (n*s) w (fun j hj=>by
   rw[cell_of_row w b _ cur E fz hcur]
   have:n*s+j < cur.size:=by omega
   simp[this]) j hj
  rw[this]
  simp[hj]
 let K':bO:= {K with imm:=fun i o=>if i=b /\ n*s <=o /\ o < n*s+news.length then some (news.getD (o - n*s) Go.undef)else K.imm i o}
 have hle:K.le K':=by
  refine⟨fun i o v hv=> ?_,fun _ _ h=>h,rfl,rfl⟩
  show(if i=b /\ n*s <=o /\ o < n*s+news.length then some (news.getD (o - n*s) Go.undef)else K.imm i o)=some v
  rw[if_neg]
  ·exact hv
  ·rintro⟨rfl,hx,_⟩;rw[himm o hx]at hv;cases hv
 refine⟨K',hle,⟨fun i o v hv=> ?_,fun i cp s' F hr=> ?_,fun i cs hi=> ?_,fun i n' s' hi=> ?_,fun i F n' hi=> ?_,fun g=> (h.glob g).mono hle,?_,by rw[m4];exact h.bs⟩,fun j hj=> ?_⟩
 ·have hv':(if i=b /\ n*s <=o /\ o < n*s+news.length then some (news.getD (o - n*s) Go.undef)else K.imm i o)=some v:=hv
  split at hv'
  ·rename_i hx
   obtain⟨rfl,hx1,hx2⟩:=hx
   have:=hcellin (o - n*s) (by omega)
   rw[show n*s+(o - n*s)=o by omega]at this
   rw[this,<- hv']
  ·rename_i hx
   have hcell:(w.setCells b (n*s) news).cell? ⟨i,o,none⟩=w.cell? ⟨i,o,none⟩:=
    World.cell?_setCells_out b news (n*s) w ⟨i,o,none⟩ (fun e1 _=>by
     have e1':i=b:=e1
     show o < n*s \/ n*s+news.length <=o
     rcases Nat.lt_or_ge o (n*s)with hlt|hge
     ·exact .inl hlt
     ·rcases Nat.lt_or_ge o (n*s+news.length)with hlt2|hge2
      ·exact absurd ⟨e1',hge,hlt2⟩ hx
      ·exact .inr hge2)
   rw[hcell];exact h.imm _ _ _ hv'
 ·obtain⟨cu,fz,hcu,hx⟩:=h.row i cp s' F hr
  by_cases hib:i=b
  ·subst hib
   rw[hcur]at hcu
   simp only[Option.some.injEq,Obj.cells.injEq]at hcu
   obtain⟨rfl,rfl,rfl⟩:=hcu
   rw[hrow]at hr
   simp only[Option.some.injEq,Prod.mk.injEq]at hr
   obtain⟨rfl,rfl,_⟩:=hr
   exact⟨cur',_,hc1,by rw[hc2];exact hx.1,hx.2.1,fun _=>hfz2⟩
  ·exact⟨cu,fz,by rw[fC b news _ _ i hib];exact hcu,hx.1,hx.2.1,fun⟨x,hxx⟩=>hx.2.2 ⟨x,by simpa [AS.setTip,hib] using hxx⟩⟩
 ·obtain⟨k1,k2,k3,k4,k5,d,F,hd,hs,hvv⟩:=h.box i cs hi
  have hne:i ≠ b:=by rintro rfl;have hi':σ.box i=some cs:=hi;rw[hnb]at hi';cases hi'
  refine⟨k1,by simp only[AS.setTip,if_neg hne];exact k2,k3,fun o=> ?_,k5,d,F,by rw[fC b news _ _ i hne];exact hd,hs,fun j hj=> (hvv j hj).mono hle⟩
  show(if i=b /\ n*s <=o /\ o < n*s+news.length then some (news.getD (o - n*s) Go.undef)else K.imm i o)=none
  rw[if_neg (fun x=>hne x.1)];exact k4 o
 ·by_cases hne:i=b
  ·subst hne
   simp only[AS.setTip,if_true,Option.some.injEq,Prod.mk.injEq]at hi
   obtain⟨rfl,rfl⟩:=hi
   refine⟨hb,cap,E,hrow,hcap,fun o ho=> ?_⟩
   show(if i=i /\ n*s <=o /\ o < n*s+news.length then some (news.getD (o - n*s) Go.undef)else K.imm i o)=none
   rw[if_neg (by omega)];exact himm o (by omega)
  ·simp only[AS.setTip,if_neg hne]at hi
   obtain⟨k1,cp,F,hr,hn',ho⟩:=h.tip i n' s' hi
   refine⟨k1,cp,F,hr,hn',fun o hlo=> ?_⟩
   show(if i=b /\ n*s <=o /\ o < n*s+news.length then some (news.getD (o - n*s) Go.undef)else K.imm i o)=none
   rw[if_neg (fun x=>hne x.1)];exact ho o hlo
 ·have h1:=(h.ty i F n' hi).mono hle
  by_cases hib:i=b
  ·subst hib
   exact h1.wrote hcur hc1 hc2
  ·exact h1.old (fC b news _ _ i hib)
 ·exact h.below.trans ⟨m1,m2,m3,by rw[m4];exact Nat.le_refl _,fun k hk=>fC b news _ _ k (by omega)⟩
 ·show(if b=b /\ n*s <=n*s+j /\ n*s+j < n*s+news.length then some (news.getD (n*s+j - n*s) Go.undef)else K.imm b (n*s+j))=_
  rw[if_pos ⟨rfl,by omega,by omega⟩,Nat.add_sub_cancel_left]
end
def dU(P:Program)(t:TypeId):Option (TypeId × Nat × Nat):=
 match el P t with
 | some e=>match tk P e,bZ P e,zc P e with
  |some (_,n),some b,some z=>if 0 < n /\ 0 < b /\ z.length=n then some (e,n,b)else none
  |_,_,_=>none
 |none=>none
theorem oS{P:Program}{K:bO}{t e:TypeId}{n b:Nat}(h:dU P t=some (e,n,b)):
  P.underlying t=some (.slice e) /\ ∃ i z,P.info? e=some i /\ i.zero=some z /\ i.size=n /\ i.bytes=b /\ z.cells.size=n /\ 0 < n /\ 0 < b /\ ∀ zz,zc P e=some zz ->CR K zz z.cells:=by
 unfold dU at h
 split at h
 case h_2=>cases h
 rename_i e' he
 split at h
 case h_2=>cases h
 rename_i ag n' b' z hn hb hz
 split at h
 case isFalse=>cases h
 rename_i hc
 simp only[Option.some.injEq,Prod.mk.injEq]at h
 obtain⟨rfl,rfl,rfl⟩:=h
 obtain⟨i,zv,hi,hzv,hcr⟩:=zN (K:=K) hz
 refine⟨fA he,i,zv,hi,hzv,?_,?_,by rw[hcr.size];exact hc.2.2,hc.1,hc.2.1,fun zz hzz=> ?_⟩
 ·unfold tk at hn
  rw[hi]at hn
  split at hn
  ·rename_i hii
   simp only[Option.some.injEq,Prod.mk.injEq]at hn hii
   rw[hii];exact hn.2
  ·cases hn
 ·unfold bZ at hb
  rw[hi]at hb
  simpa using hb
 ·rw[hz]at hzz
  simp only[Option.some.injEq]at hzz
  subst hzz
  exact hcr
end Go.Av
namespace Go.Av
open Go Go.RowKit
def mS(P:Program)(σ:AS)(t tx:TypeId)(s x:AV)(K:AV ->AS ->Prop):Prop:=
 match dU P t,lJ P tx x with
 | some (_,n,bZ),some ys=>
  (∀ a,a ∈ ys -> (flat a).length=n) /\
  match s with
  | .nil=>ys.length*bZ <=140737488355328 /\ (ys=[] ->K .nil σ) /\ (ys ≠ [] ->∀ b,σ.fresh b ->K (.sl (.own b) ys []) (σ.setTip b (ys.length,n)))
  | .sl .full xs []=> (∀ a,a ∈ xs -> (flat a).length=n) /\ (xs.length+ys.length)*bZ <=140737488355328 /\ (ys=[] ->K (.sl .full xs []) σ) /\
    (ys ≠ [] ->∀ b,σ.fresh b ->K (.sl (.own b) (xs++ys) []) (σ.setTip b (xs.length+ys.length,n)))
  | .sl (.own b) xs []=>σ.tip b=some (xs.length,n) /\ (∀ a,a ∈ xs -> (flat a).length=n) /\ (xs.length+ys.length)*bZ <=140737488355328 /\
    ∀ b',(b'=b \/ σ.fresh b') ->K (.sl (.own b') (xs++ys) []) ((σ.delTip b).setTip b' (xs.length+ys.length,n))
  |_=>False
 |_,_=>False
theorem AS.setTip_del(σ:AS)(b:Nat)(x:Nat × Nat):(σ.delTip b).setTip b x=σ.setTip b x:=by
 unfold AS.setTip AS.delTip
 congr 1
 funext i
 show(if i=b then some x else if i=b then none else σ.tip i)=_
 split <;>rfl
theorem cV.delTip{G:Nat ->AV}{K:bO}{σ:AS}{w:World}(h:cV G K σ w)(b:Nat):cV G K (σ.delTip b) w:=by
 refine⟨h.imm,fun i cap s E hr=> ?_,fun i cs hi=> ?_,fun i n s hi=> ?_,h.ty,h.glob,h.below,h.bs⟩
 ·obtain⟨cur,fz,h1,h2,h3,h4⟩:=h.row i cap s E hr
  exact⟨cur,fz,h1,h2,h3,fun⟨x,hx⟩=>h4 ⟨x,by
   have hx':(if i=b then none else σ.tip i)=some x:=hx
   split at hx'
   ·cases hx'
   ·exact hx'⟩⟩
 ·obtain⟨h1,h2,h3⟩:=h.box i cs hi
  refine⟨h1,?_,h3⟩
  show(if i=b then none else σ.tip i)=none
  split <;>first|rfl|exact h2
 ·have hi':(if i=b then none else σ.tip i)=some (n,s):=hi
  split at hi'
  ·cases hi'
  ·exact h.tip i n s hi'
theorem wW {P:Program} {G:Nat ->AV} {K:bO} {σ:AS} {w:World} (hr:cV G K σ w) {xs ys:List AV} {n bZ:Nat} {t tx ty e:TypeId} {i:TypeInfo} {z:Value}
  (ht:P.underlying t=some (.slice e)) (hi:P.info? e=some i) (hz:i.zero=some z) (hsz:i.size=n) (hby:i.bytes=bZ) (hzs:z.cells.size=n) (hn0:0 < n) (hb0:0 < bZ)
  (hxs:∀ a,a ∈ xs -> (flat a).length=n /\ isv a=true /\ ∀ c,c ∈ flat a ->one c=true) (hys:∀ a,a ∈ ys -> (flat a).length=n /\ isv a=true /\ ∀ c,c ∈ flat a ->one c=true)
  (base:Option Addr) (sCap:Nat) (olds:List Value) (hol:olds.length=(xs.flatMap flat).length) (hov:∀ j (hj:j < (xs.flatMap flat).length),VR K (xs.flatMap flat)[j] (olds.getD j Go.undef))
  (hold:(Builtin.firstCells i.size xs.length (.slice base xs.length sCap)).run P w.drew= .ok olds.toArray w.drew)
  (v:Value) (news:List Value) (hsrc:Src P i.size tx v ys.length news w) (hnl:news.length=(ys.flatMap flat).length) (hnv:∀ j (hj:j < (ys.flatMap flat).length),VR K (ys.flatMap flat)[j] (news.getD j Go.undef))
  (hg:sCap < xs.length+ys.length) (hbytes:(xs.length+ys.length)*bZ <=140737488355328):
  ∃ u w' K',(Builtin.append_ #[t,tx] ty #[.slice base xs.length sCap,v]).run P w= .ok u w' /\ K.le K' /\ cV G K' (σ.setTip w.heap.size (xs.length+ys.length,n)) w' /\
   VR K' (.sl (.own w.heap.size) (xs++ys) []) u:=by
 have hmax:xs.length+ys.length <=140737488355328:=by
  have:(xs.length+ys.length)*1 <=(xs.length+ys.length)*bZ:=Nat.mul_le_mul_left _ hb0
  omega
 have hrun:=run_append_grow_src (P:=P) w t tx ty e i z ht hi hz base xs.length sCap olds hold v ys.length news hsrc hg (by omega) (by rw[hby];exact growslice_fits hg hbytes)
 have hge:=grownCap_ge w (xs.length+ys.length) sCap e
 have hcm:grownCap w (xs.length+ys.length) sCap e <=maxLen:=grownCap_le_maxLen w _ sCap e (by unfold maxLen;omega)
 generalize grownCap w (xs.length+ys.length) sCap e=cap at hrun hge hcm
 have hxl:=bV (sz:=n) xs (fun a ha=> (hxs a ha).1)
 have hyl:=bV (sz:=n) ys (fun a ha=> (hys a ha).1)
 have hsize:((olds++news).toArray++Builtin.zeroCells z.cells (cap - (xs.length+ys.length))).size=cap*n:=by
  simp only[Array.size_append,List.size_toArray,List.length_append,size_zeroCells,hzs,hol,hnl,hxl,hyl,<- Nat.add_mul]
  congr 1;omega
 obtain⟨K',hle,hrel,hrow,himm⟩:=hr.drew.addRow ((olds++news).toArray++Builtin.zeroCells z.cells (cap - (xs.length+ys.length))) e cap n (xs.length+ys.length) hsize hge hcm
 refine⟨_,_,K',hrun,hle,hrel,?_⟩
 have key:∀ j (hj:j < ((xs++ys).flatMap flat).length),VR K' ((xs++ys).flatMap flat)[j] (((olds++news).toArray++Builtin.zeroCells z.cells (cap - (xs.length+ys.length))).getD j Go.undef):=by
  intro j hj
  have hjl:j < (olds++news).length:=by simp only[List.flatMap_append,List.length_append]at hj ⊢;omega
  have e1:((olds++news).toArray++Builtin.zeroCells z.cells (cap - (xs.length+ys.length))).getD j Go.undef=(olds++news).getD j Go.undef:=by
   simp only[Array.getD_eq_getD_getElem?,List.getD_eq_getElem?_getD]
   rw[Array.getElem?_append_left (by simpa using hjl)]
   simp
  rw[e1]
  by_cases hjx:j < (xs.flatMap flat).length
  ·have e2:(olds++news).getD j Go.undef=olds.getD j Go.undef:=by
    simp only[List.getD_eq_getElem?_getD];rw[List.getElem?_append_left (by omega)]
   have e3:((xs++ys).flatMap flat)[j]=(xs.flatMap flat)[j]:=by
    simp only[List.flatMap_append];rw[List.getElem_append_left hjx]
   rw[e2,e3];exact(hov j hjx).mono hle
  ·have e2:(olds++news).getD j Go.undef=news.getD (j - (xs.flatMap flat).length) Go.undef:=by
    simp only[List.getD_eq_getElem?_getD];rw[List.getElem?_append_right (by omega),hol]
   have hj2:j - (xs.flatMap flat).length < (ys.flatMap flat).length:=by simp only[List.flatMap_append,List.length_append]at hj;omega
   have e3:((xs++ys).flatMap flat)[j]=(ys.flatMap flat)[j - (xs.flatMap flat).length]:=by
    simp only[List.flatMap_append];rw[List.getElem_append_right (by omega)]
   rw[e2,e3];exact(hnv _ hj2).mono hle
 have:=VR.sl_row (K:=K') (g:= .own w.heap.size) (xs:=xs++ys) (n:=n) (b:=w.heap.size) (cap:=cap) (c:=(olds++news).toArray++Builtin.zeroCells z.cells (cap - (xs.length+ys.length)))
  (fun a ha=>by rcases List.mem_append.1 ha with h|h;exact hxs a h;exact hys a h) (by simp;exact hge) hcm (fun o ho=>himm o (by simpa using ho)) key ⟨rfl,rfl,e,n,hrow⟩
 simpa using this
theorem A6w {P:Program} {G:Nat ->AV} {K:bO} {σ:AS} {w:World} (hr:cV G K σ w) {t tx ty:TypeId} {s x:AV} {Kc:AV ->AS ->Prop} (h:mS P σ t tx s x Kc)
  {v u:Value} (hv:VR K s v) (hu:VR K x u):
  ∃ z w' K' r σ',(Builtin.append_ #[t,tx] ty #[v,u]).run P w= .ok z w' /\ K.le K' /\ cV G K' σ' w' /\ VR K' r z /\ Kc r σ':=by
 unfold mS at h
 split at h
 case h_2=>exact h.elim
 rename_i e n bZ ys hel hsrc
 obtain⟨hys,h⟩:=h
 obtain⟨ht,i,z,hi,hz,hsz,hby,hzs,hn0,hb0,_⟩:=oS (K:=K) hel
 obtain⟨news,hS,hnl,hyv,hnv⟩:=wY hr hsrc hys hu
 have hysf:∀ a,a ∈ ys -> (flat a).length=n /\ isv a=true /\ ∀ c,c ∈ flat a ->one c=true:=fun a ha=> ⟨hys a ha,hyv a ha⟩
 subst hsz
 split at h
 ·-- onto nil
  obtain⟨hbytes,h0,h1⟩:=h
  rw[VR.nil_iff]at hv;subst hv
  by_cases hy:ys=[]
  ·subst hy
   have hrun:(Builtin.append_ #[t,tx] ty #[.slice none 0 0,u]).run P w= .ok (.slice none 0 0) w:=by
    have hc1:(Builtin.firstCells i.size 0 u).run P w= .ok news.toArray w:=hS.cells
    have hl1:∀ w':World,(Builtin.lenOf u).run P w'= .ok 0 w':=hS.len
    rcases hS.kind with⟨e',hk⟩|hk <;>simp[Builtin.append_,run_underlying ht,run_underlying hk,sizeOf,typeInfo,hi,hl1,hc1]
   exact⟨_,w,K, .nil,σ,hrun,bO.le.refl K,hr, .nil,h0 rfl⟩
  ·obtain⟨z',w',K',h2,h3,h4,h5⟩:=wW (xs:=[]) (P:=P) (ty:=ty) hr ht hi hz rfl hby hzs hn0 hb0 (fun a ha=>by cases ha) hysf none 0 [] rfl (fun j hj=>by cases hj)
    (by simp[Builtin.firstCells]) u news hS hnl hnv (by have:=List.length_pos_iff.2 hy;simp;omega) (by simpa using hbytes)
   refine⟨z',w',K',_,_,h2,h3,h4,h5,?_⟩
   have:=h1 hy w.heap.size (hr.fresh (Nat.le_refl _))
   simpa using this
 ·-- onto a slice without spare room
  rename_i xs
  obtain⟨hxn,hbytes,h0,h1⟩:=h
  have hv0:=hv
  cases hv with
  | sl _ _ _ sz b off cap f hsz hcap hml himm hvv hg=>
   have hgc:cap=xs.length:=hg
   simp only[List.append_nil]at hsz himm hvv
   by_cases hy:ys=[]
   ·subst hy
    have hnews:news=[]:=List.eq_nil_of_length_eq_zero (by simpa using hnl)
    subst hnews
    have hrun:(Builtin.append_ #[t,tx] ty #[.slice (some ⟨b,off,none⟩) xs.length cap,u]).run P w= .ok (.slice (some ⟨b,off,none⟩) xs.length cap) w:=by
     have hc0:xs.length <=cap:=by omega
     have hc1:(Builtin.firstCells i.size 0 u).run P w= .ok (#[]:Array Value) w:=hS.cells
     have hl1:∀ w':World,(Builtin.lenOf u).run P w'= .ok 0 w':=hS.len
     rcases hS.kind with⟨e',hk⟩|hk <;>simp[Builtin.append_,run_underlying ht,run_underlying hk,sizeOf,typeInfo,hi,hl1,hc1,hc0,storeCells]
    exact⟨_,w,K,_,σ,hrun,bO.le.refl K,hr,hv0,h0 rfl⟩
   ·have hxl:=bV (sz:=i.size) xs hxn
    obtain⟨z',w',K',h2,h3,h4,h5⟩:=wW (xs:=xs) (P:=P) (ty:=ty) hr ht hi hz rfl hby hzs hn0 hb0 (fun a ha=> ⟨hxn a ha,(hsz a ha).2⟩) hysf (some ⟨b,off,none⟩) cap (eC f (xs.flatMap flat).length) (by simp[eC])
     (fun j hj=>by rw[lI f _ j hj];exact hvv j hj)
     (by
       refine run_firstCells_some w.drew i.size xs.length ⟨b,off,none⟩ xs.length cap _ (by simp[eC,hxl]) (fun j y hy=> ?_)
       obtain⟨hj,rfl⟩:=List.getElem?_eq_some_iff.1 hy
       have hj':j < (xs.flatMap flat).length:=by simpa [eC] using hj
       rw[Addr.add_lit]
       simp only[eC,List.getElem_map,List.getElem_range]
       exact hr.imm _ _ _ (himm j hj')) u news hS hnl hnv (by have:=List.length_pos_iff.2 hy;omega) hbytes
    exact⟨z',w',K',_,_,h2,h3,h4,h5,h1 hy w.heap.size (hr.fresh (Nat.le_refl _))⟩
 ·-- onto one's own
  rename_i b0 xs
  obtain⟨htip,hxn,hbytes,h1⟩:=h
  have hv0:=hv
  cases hv with
  | sl _ _ _ sz b off cap f hsz hcap hml himm hvv hg=>
   obtain⟨rfl,rfl,E,s,hrow⟩:=hg
   simp only[List.append_nil]at hsz himm hvv
   have hxl:=bV (sz:=i.size) xs hxn
   obtain⟨_,cap',E',hrow',hn',hti⟩:=hr.tip b0 _ _ htip
   rw[hrow]at hrow'
   simp only[Option.some.injEq,Prod.mk.injEq]at hrow'
   obtain⟨rfl,rfl,rfl⟩:=hrow'
   obtain⟨cur,fz,hcur,hcs,hml',hfz⟩:=hr.row b0 cap i.size E hrow
   have hfz2:=hfz ⟨_,htip⟩
   by_cases hroom:xs.length+ys.length <=cap
   ·have hyl:=bV (sz:=i.size) ys hys
    have hle2:(xs.length+ys.length)*i.size <=cap*i.size:=Nat.mul_le_mul_right _ hroom
    have hadd:(xs.length+ys.length)*i.size=xs.length*i.size+ys.length*i.size:=Nat.add_mul _ _ _
    have hrun:=run_append_room_src (P:=P) w t tx ty e i ht hi b0 0 xs.length cap u ys.length news hS hroom
     (fun j hj=>by
       rw[cell_of_row w b0 _ cur E fz hcur]
       have:xs.length*i.size+j < cur.size:=by omega
       simp[this])
     (fun j hj=>by
       obtain⟨lo,hi⟩:=fz
       have hj':xs.length*i.size+j < cap*i.size:=by omega
       simp only[World.frozen?,hcur]
       rcases hfz2 with h|h
       ·simp only[Prod.mk.injEq]at h
        obtain⟨rfl,rfl⟩:=h
        simp
       ·simp only at h
        have: ¬ lo <=xs.length*i.size+j:=by omega
        simp[this])
    rw[Nat.zero_add]at hrun
    obtain⟨K',hle,hrel,himm'⟩:=hr.growRow htip hrow news ys.length (by rw[hnl,hyl]) hroom hS.one
    have h2:=h1 b0 (.inl rfl)
    rw[AS.setTip_del]at h2
    refine⟨_,_,K',_,_,hrun,hle,hrel,?_,h2⟩
    have key:=VR.sl (K:=K') (.own b0) (xs++ys) [] i.size b0 0 cap (fun j=>if j < (xs.flatMap flat).length then f j else news.getD (j - (xs.flatMap flat).length) Go.undef)
     (fun a ha=>by
       rw[List.append_nil]at ha
       rcases List.mem_append.1 ha with h|h
       ·exact⟨hxn a h,(hsz a h).2⟩
       ·exact hysf a h) (by simp;exact hroom) hml
     (fun j hj=>by
       simp only[List.append_nil,List.flatMap_append,List.length_append]at hj
       by_cases hjx:j < (xs.flatMap flat).length
       ·rw[if_pos hjx];exact hle.imm _ _ _ (himm j hjx)
       ·rw[if_neg hjx,Nat.zero_add]
        have:=himm' (j - (xs.flatMap flat).length) (by omega)
        rw[<- this];congr 1;omega)
     (fun j hj=>by
       simp only[List.append_nil,List.flatMap_append]at hj ⊢
       by_cases hjx:j < (xs.flatMap flat).length
       ·simp only[if_pos hjx];rw[List.getElem_append_left hjx];exact(hvv j hjx).mono hle
       ·simp only[if_neg hjx]
        have hj2:j - (xs.flatMap flat).length < (ys.flatMap flat).length:=by simp only[List.length_append]at hj;omega
        rw[List.getElem_append_right (by omega)];exact(hnv _ hj2).mono hle)
     ⟨rfl,rfl,E,i.size,hle.row _ _ hrow⟩
    simpa using key
   ·obtain⟨z',w',K',h2,h3,h4,h5⟩:=wW (xs:=xs) (P:=P) (ty:=ty) hr ht hi hz rfl hby hzs hn0 hb0 (fun a ha=> ⟨hxn a ha,(hsz a ha).2⟩) hysf (some ⟨b0,0,none⟩) cap (eC f (xs.flatMap flat).length) (by simp[eC])
     (fun j hj=>by rw[lI f _ j hj];exact hvv j hj)
     (by
       refine run_firstCells_some w.drew i.size xs.length ⟨b0,0,none⟩ xs.length cap _ (by simp[eC,hxl]) (fun j y hy=> ?_)
       obtain⟨hj,rfl⟩:=List.getElem?_eq_some_iff.1 hy
       have hj':j < (xs.flatMap flat).length:=by simpa [eC] using hj
       rw[Addr.add_lit]
       simp only[eC,List.getElem_map,List.getElem_range]
       exact hr.imm _ _ _ (himm j hj')) u news hS hnl hnv (by omega) hbytes
    have hf:=hr.fresh (Nat.le_refl w.heap.size)
    have h6:=h1 w.heap.size (.inr hf)
    refine⟨z',w',K',_,_,h2,h3,?_,h5,h6⟩
    have hne:w.heap.size ≠ b0:=fun e=>by rw[e]at hf;rw[hf.2.1]at htip;cases htip
    have:=h4.delTip b0
    have e2:((σ.setTip w.heap.size (xs.length+ys.length,i.size)).delTip b0)=((σ.delTip b0).setTip w.heap.size (xs.length+ys.length,i.size)):=by
     unfold AS.setTip AS.delTip
     congr 1
     funext j
     show(if j=b0 then none else if j=w.heap.size then some _ else σ.tip j)=(if j=w.heap.size then some _ else if j=b0 then none else σ.tip j)
     by_cases hj:j=b0
     ·subst hj;rw[if_pos rfl,if_neg (Ne.symm hne),if_pos rfl]
     ·rw[if_neg hj,if_neg hj]
    rw[e2]at this
    exact this
 ·exact h.elim
end Go.Av
namespace Go.Av
open Go Go.RowKit
def A8m(P:Program)(σ:AS)(t:TypeId)(l c:AV)(K:AV ->AS ->Prop):Prop:=
 match dU P t,l,c with
 |some (_,n,bZ), .int _ l, .int _ c=>l=0 /\ 0 <=c /\ c*bZ <=140737488355328 /\ ∀ b,σ.fresh b ->K (.sl (.own b) [] []) (σ.setTip b (0,n))
 |_,_,_=>False
set_option maxRecDepth 8000 in
theorem B3l{P:Program}{G:Nat ->AV}{K:bO}{σ:AS}{w:World}(hr:cV G K σ w){t:TypeId}{l c:AV}{Kc:AV ->AS ->Prop}(h:A8m P σ t l c Kc){v u:Value}(hv:VR K l v)(hu:VR K c u):
  ∃ z w' K' r σ',(Instr.makeSlice t v u).run P w= .ok z w' /\ K.le K' /\ cV G K' σ' w' /\ VR K' r z /\ Kc r σ':=by
 unfold A8m at h
 split at h
 case h_2=>exact h.elim
 rename_i e n bZ k l k' c hel
 obtain⟨rfl,h0,hby,hK⟩:=h
 rw[VR.int_iff]at hv hu;subst hv hu
 obtain⟨ht,i,z,hi,hz,hsz,hbb,hzs,hn0,hb0,_⟩:=oS (K:=K) hel
 obtain⟨m,rfl⟩:=Int.eq_ofNat_of_zero_le h0
 have hmb:m*bZ <=140737488355328:=by
  have h:=hby
  rw[<- Int.natCast_mul]at h
  omega
 have hm1:m <=140737488355328:=by
  have:m*1 <=m*bZ:=Nat.mul_le_mul_left _ hb0
  omega
 have hw1:IntKind.i64.wrap (m:Int)=m:=by rw[IntKind.wrap_i64];omega
 have hw0:IntKind.i64.wrap 0=0:=by rw[IntKind.wrap_i64];omega
 have hbm: ¬ ((bZ:Int)*(m:Int) >2 ^ 48):=by
  have:(bZ*m:Nat) <=140737488355328:=by rw[Nat.mul_comm];exact hmb
  have h2:((bZ*m:Nat):Int) <=140737488355328:=by omega
  rw[Int.natCast_mul]at h2
  have:(2:Int) ^ 48=281474976710656:=by decide
  omega
 have hsize:((Array.range (m*n)).map (z.cells[· % z.cells.size]!)).size=m*n:=by simp
 obtain⟨K',hle,hrel,hrow,himm⟩:=hr.addRow ((Array.range (m*n)).map (z.cells[· % z.cells.size]!)) e m n 0 hsize (Nat.zero_le _) (by unfold maxLen;omega)
 have hvr:=VR.sl_row (K:=K') (g:= .own w.heap.size) (xs:=[]) (n:=n) (b:=w.heap.size) (cap:=m) (c:= #[]) (fun a ha=>by cases ha) (Nat.zero_le _) (by unfold maxLen;omega) (fun o ho=>by simp at ho) (fun j hj=>by cases hj) ⟨rfl,rfl,e,n,hrow⟩
 refine⟨_,_,K',_,_,?_,hle,hrel,hvr,hK _ (hr.fresh (Nat.le_refl _))⟩
 unfold Instr.makeSlice
 have h48: ¬ ((281474976710656:Int) < (bZ:Int)*(m:Int)):=by
  have:(2:Int) ^ 48=281474976710656:=by decide
  omega
 by_cases hm0:m*n=0
 ·have hm00:m=0:=by rcases Nat.mul_eq_zero.1 hm0 with h|h <;>omega
  subst hm00
  have ez:∀ (f g:Nat ->Value),(Array.range 0).map f=(Array.range 0).map g:=fun f g=>by apply Array.ext';simp
  simp[run_underlying ht,asInt,asIntOf,typeInfo,hi,hw0,hbb,newRow,sizeOf,hsz]
  exact congrArg (fun c=>w.alloc (Obj.cells c e)) (ez _ _)
 ·simp only[Sem.run_bind,run_underlying ht,asInt,asIntOf,Sem.run_pure,Result.andThen_ok,typeInfo,hi,run_program,hw1,hw0,hbb]
  have hlt: ¬ ((m:Int) < 0):=by omega
  simp[hlt,h48,sizeOf,typeInfo,hi,hsz,hm0,B2p hi hz,newRow]
theorem cV.marked{G:Nat ->AV}{K:bO}{σ:AS}{w:World}(h:cV G K σ w){b k n:Nat}(hbase:K.base <=b)(hbox:σ.box b=none)(htip:σ.tip b=none):cV G K σ (w.freeze ⟨b,k,none⟩ n):=by
 have hold:∀ i,i ≠ b -> (w.freeze ⟨b,k,none⟩ n).heap[i]? =w.heap[i]? :=fun i hi=>by
  unfold World.freeze
  split
  ·rfl
  ·simp[Array.getElem?_modify,Ne.symm hi]
 have hsame:∀ c E fz,w.heap[b]? =some (.cells c E fz) ->∃ fz',(w.freeze ⟨b,k,none⟩ n).heap[b]? =some (.cells c E fz'):=fun c E fz hc=>by
  unfold World.freeze
  split
  ·exact⟨fz,hc⟩
  ·simp[Array.getElem?_modify,hc]
 have hcell:∀ a:Addr,(w.freeze ⟨b,k,none⟩ n).cell? a=w.cell? a:=by
  intro a
  by_cases hab:a.block=b
  ·unfold World.freeze
   split
   ·rfl
   ·simp only[World.cell?,Array.getElem?_modify,hab,if_true]
    cases w.heap[b]? with
    |none=>rfl
    |some o=>cases o <;>rfl
  ·exact World.cell?_of_block (hold _ hab)
 have hsize:(w.freeze ⟨b,k,none⟩ n).heap.size=w.heap.size:=by
  unfold World.freeze
  split <;>simp
 have hmeta:(w.freeze ⟨b,k,none⟩ n).os=w.os /\ (w.freeze ⟨b,k,none⟩ n).tape=w.tape /\ (w.freeze ⟨b,k,none⟩ n).output=w.output:=by
  unfold World.freeze
  split <;>exact⟨rfl,rfl,rfl⟩
 refine⟨fun i o v hv=>by rw[hcell];exact h.imm _ _ _ hv,fun i cp s' E hi=> ?_,fun i cs hi=> ?_,h.tip,fun i E m hi=> ?_,h.glob,?_,by rw[hsize];exact h.bs⟩
 ·obtain⟨cu,fz,h1,h2,h3,h4⟩:=h.row i cp s' E hi
  by_cases hib:i=b
  ·subst hib
   obtain⟨fz',h5⟩:=hsame cu E fz h1
   exact⟨cu,fz',h5,h2,h3,fun⟨x,hx⟩=>by rw[htip]at hx;cases hx⟩
  ·exact⟨cu,fz,by rw[hold i hib];exact h1,h2,h3,h4⟩
 ·have hne:i ≠ b:=by rintro rfl;rw[hbox]at hi;cases hi
  obtain⟨k1,k2,k3,k4,k5,d,F,hd,hx⟩:=h.box i cs hi
  exact⟨k1,k2,k3,k4,k5,d,F,by rw[hold i hne];exact hd,hx⟩
 ·have h1:=h.ty i E m hi
  by_cases hib:i=b
  ·subst hib
   cases E with
   | t E=>
    obtain⟨d,fz,hd,hn⟩:=h1
    obtain⟨fz',h5⟩:=hsame d E fz hd
    exact⟨d,fz',h5,hn⟩
   | ob o=>
    obtain⟨hb,x,hx,ho⟩:=h1
    refine⟨hb,x,?_,ho⟩
    unfold World.freeze
    split
    ·exact hx
    ·cases ho;simp[Array.getElem?_modify,hx]
  ·exact h1.old (hold i hib)
 ·exact h.below.trans ⟨hmeta.1,hmeta.2.1,hmeta.2.2,by rw[hsize];exact Nat.le_refl _,fun i hi=>hold i (by omega)⟩
theorem cV.markedEnd{G:Nat ->AV}{K:bO}{σ:AS}{w:World}(h:cV G K σ w){b k n s cap:Nat}{E:TypeId}{c:Array Value}(hbase:K.base <=b)(hbox:σ.box b=none)(hrow:K.row b=some (cap,s,E))(hc:w.heap[b]? =some (.cells c E (0,0)))(hk:cap*s <=k):cV G K σ (w.freeze ⟨b,k,none⟩ n):=by
 by_cases hn:n=0
 ·subst hn;exact h
 have hold:∀ i,i ≠ b -> (w.freeze ⟨b,k,none⟩ n).heap[i]? =w.heap[i]? :=fun i hi=>by
  unfold World.freeze
  split
  ·rfl
  ·simp[Array.getElem?_modify,Ne.symm hi]
 have hnew:(w.freeze ⟨b,k,none⟩ n).heap[b]? =some (.cells c E (k,k+n)):=by
  unfold World.freeze
  rw[if_neg hn]
  simp[Array.getElem?_modify,hc]
 have hcell:∀ a:Addr,(w.freeze ⟨b,k,none⟩ n).cell? a=w.cell? a:=by
  intro a
  by_cases hab:a.block=b
  ·unfold World.freeze
   split
   ·rfl
   ·simp only[World.cell?,Array.getElem?_modify,hab,if_true]
    cases w.heap[b]? with
    |none=>rfl
    |some o=>cases o <;>rfl
  ·exact World.cell?_of_block (hold _ hab)
 have hsize:(w.freeze ⟨b,k,none⟩ n).heap.size=w.heap.size:=by
  unfold World.freeze
  split <;>simp
 have hmeta:(w.freeze ⟨b,k,none⟩ n).os=w.os /\ (w.freeze ⟨b,k,none⟩ n).tape=w.tape /\ (w.freeze ⟨b,k,none⟩ n).output=w.output:=by
  unfold World.freeze
  split <;>exact⟨rfl,rfl,rfl⟩
 refine⟨fun i o v hv=>by rw[hcell];exact h.imm _ _ _ hv,fun i cp s' F hi=> ?_,fun i cs hi=> ?_,h.tip,fun i F m hi=> ?_,h.glob,?_,by rw[hsize];exact h.bs⟩
 ·obtain⟨cu,fz,h1,h2,h3,h4⟩:=h.row i cp s' F hi
  by_cases hib:i=b
  ·subst hib
   rw[hrow]at hi
   simp only[Option.some.injEq,Prod.mk.injEq]at hi
   obtain⟨rfl,rfl,rfl⟩:=hi
   rw[hc]at h1
   simp only[Option.some.injEq,Obj.cells.injEq]at h1
   obtain⟨rfl,_,_⟩:=h1
   exact⟨c,(k,k+n),hnew,h2,h3,fun _=> .inr hk⟩
  ·exact⟨cu,fz,by rw[hold i hib];exact h1,h2,h3,h4⟩
 ·have hne:i ≠ b:=by rintro rfl;rw[hbox]at hi;cases hi
  obtain⟨k1,k2,k3,k4,k5,d,F,hd,hx⟩:=h.box i cs hi
  exact⟨k1,k2,k3,k4,k5,d,F,by rw[hold i hne];exact hd,hx⟩
 ·have h1:=h.ty i F m hi
  by_cases hib:i=b
  ·subst hib
   cases F with
   | t F=>
    obtain⟨d,fz,hd,hm⟩:=h1
    rw[hc]at hd
    simp only[Option.some.injEq,Obj.cells.injEq]at hd
    obtain⟨rfl,rfl,rfl⟩:=hd
    exact⟨c,(k,k+n),hnew,hm⟩
   | ob o=>
    obtain⟨hb,x,hx,ho⟩:=h1
    rw[hc]at hx
    simp only[Option.some.injEq]at hx
    subst hx
    cases ho
  ·exact h1.old (hold i hib)
 ·exact h.below.trans ⟨hmeta.1,hmeta.2.1,hmeta.2.2,by rw[hsize];exact Nat.le_refl _,fun i hi=>hold i (by omega)⟩
theorem B8u{P:Program}{G:Nat ->AV}{K:bO}{σ:AS}{w:World}(hr:cV G K σ w){s d e:TypeId}(hs:(P.underlying s).isSome=true)(hd:el P d=some e)(he:sk P e= .int .u8)(l:List UInt8)(hl:l.length <=maxLen):
  ∃ z w' K',(convert s d (.string ⟨⟨l⟩⟩)).run P w= .ok z w' /\ K.le K' /\ cV G K' σ w' /\ VR K' (.sl .none (l.map fun c=> .int .u8 c.toNat) []) z:=by
 obtain⟨u,hu⟩:=Option.isSome_iff_exists.1 hs
 have hsz:(ByteArray.mk (Array.mk l)).size=l.length:=rfl
 have hge:l.length <=grownCap w l.length 0 e:=grownCap_ge w l.length 0 e
 have hcm:grownCap w l.length 0 e <=maxLen:=grownCap_le_maxLen w _ 0 e hl
 obtain⟨cap,hcap⟩:∃ cap,cap=grownCap w l.length 0 e:=⟨_,rfl⟩
 rw[<- hcap]at hge hcm
 let c:Array Value:=((ByteArray.mk (Array.mk l)).data.map fun b=>Value.int .u8 b.toNat)++Array.replicate (cap - l.length) (.int .u8 0)
 obtain⟨K',hle,hrel,himm,hrw⟩:=hr.drew.addImm c e
 have hcs:c.size=cap:=by simp[c];omega
 have hget:∀ j (h:j < l.length),c.getD j Go.undef= .int .u8 l[j].toNat:=by
  intro j h
  have h1:j < ((ByteArray.mk (Array.mk l)).data.map fun b=>Value.int .u8 b.toNat).size:=by simpa using h
  simp only[c,Array.getD_eq_getD_getElem?]
  rw[Array.getElem?_append_left h1]
  simp[h]
 have hvr:VR K' (.sl .none (l.map fun c=> .int .u8 c.toNat) []) (.slice (some ⟨w.drew.heap.size,0,none⟩) (l.map fun c=>AV.int .u8 c.toNat).length cap):=by
  refine VR.sl_row (n:=1) (c:=c) (fun a ha=> ?_) (by simpa using hge) hcm (fun o ho=>himm o (by rw[hcs];simp at ho;omega)) (fun j hj=> ?_) trivial
  ·obtain⟨x,_,rfl⟩:=List.mem_map.1 ha
   exact⟨rfl,rfl,fun y hy=>by simp[flat]at hy;subst hy;rfl⟩
  ·have hj':j < l.length:=by rw[pP]at hj;simpa using hj
   rw[hget j hj']
   have:((l.map fun c=>AV.int .u8 c.toNat).flatMap flat)[j]=AV.int .u8 l[j].toNat:=by
    have h2:((l.map fun c=>AV.int .u8 c.toNat).flatMap flat)[j]? =(l.map fun c=>AV.int .u8 c.toNat)[j]? :=by rw[pP]
    rw[List.getElem?_eq_getElem hj]at h2
    simpa [hj'] using h2
   rw[this];exact .int _ _
 simp only[List.length_map]at hvr
 have hb1:K'.base <=w.drew.heap.size:=by rw[hle.base];exact hr.bs
 have hfr:=hr.fresh (Nat.le_refl w.heap.size)
 have hfin:=hrel.marked (b:=w.drew.heap.size) (k:=c.size) (n:=1) hb1 hfr.1 hfr.2.1
 refine⟨_,_,K',?_,hle,hfin,hvr⟩
 unfold convert
 have key:(Conv.stringToBytes e ⟨⟨l⟩⟩).run P w= .ok (.slice (some ⟨w.drew.heap.size,0,none⟩) l.length cap) ((w.drew.alloc (.cells c e)).freeze ⟨w.drew.heap.size,c.size,none⟩ 1):=by
  unfold Conv.stringToBytes
  have h1:(choose (.appendCap l.length 0 e)).run P w= .ok cap w.drew:=by
   rw[hcap]
   simp[grownCap,Question.forced]
  simp only[hsz,Sem.run_bind,h1,Result.andThen_ok,newRow,run_newObj,World.alloc_eq,Sem.run_pure]
  have h2:((w.drew.alloc (.cells c e)).shape? w.drew.heap.size)=some (e,c.size):=by
   have hx:=heap_alloc_new w.drew (Obj.cells c e)
   simp only[World.shape?]
   rw[hx]
  have h3:(markStringish ⟨w.drew.heap.size,0,none⟩).run P (w.drew.alloc (.cells c e))= .ok () ((w.drew.alloc (.cells c e)).freeze ⟨w.drew.heap.size,c.size,none⟩ 1):=by
   unfold markStringish
   simp only[Sem.run_bind,run_shape,h2,Result.andThen_ok]
   rfl
  simp only[c]at h3 ⊢
  rw[h3]
  rfl
 cases u <;>simp only[Sem.run_bind,run_underlying hu,run_underlying (fA hd),run_underlying (A0z he),Result.andThen_ok] <;>exact key
theorem C9g{P:Program}{G:Nat ->AV}{K:bO}{σ:AS}{w:World}(hr:cV G K σ w){s d e:TypeId}(hs:(P.underlying s).isSome=true)(hd:el P d=some e)(he:sk P e= .int .u8)(l:List UInt8)(hl:l.length <=maxLen):
  ∃ z w' K',(convert s d (.string ⟨⟨l⟩⟩)).run P w= .ok z w' /\ K.le K' /\ cV G K' (σ.setTip w.heap.size (l.length,1)) w' /\ VR K' (.sl (.own w.heap.size) (l.map fun c=> .int .u8 c.toNat) []) z:=by
 obtain⟨u,hu⟩:=Option.isSome_iff_exists.1 hs
 have hsz:(ByteArray.mk (Array.mk l)).size=l.length:=rfl
 have hge:l.length <=grownCap w l.length 0 e:=grownCap_ge w l.length 0 e
 have hcm:grownCap w l.length 0 e <=maxLen:=grownCap_le_maxLen w _ 0 e hl
 obtain⟨cap,hcap⟩:∃ cap,cap=grownCap w l.length 0 e:=⟨_,rfl⟩
 rw[<- hcap]at hge hcm
 let c:Array Value:=((ByteArray.mk (Array.mk l)).data.map fun b=>Value.int .u8 b.toNat)++Array.replicate (cap - l.length) (.int .u8 0)
 have hcs:c.size=cap:=by simp[c];omega
 obtain⟨K',hle,hrel,hrow,himm⟩:=hr.drew.addRow c e cap 1 l.length (by rw[hcs];omega) hge hcm
 have hget:∀ j (h:j < l.length),c.getD j Go.undef= .int .u8 l[j].toNat:=by
  intro j h
  have h1:j < ((ByteArray.mk (Array.mk l)).data.map fun b=>Value.int .u8 b.toNat).size:=by simpa using h
  simp only[c,Array.getD_eq_getD_getElem?]
  rw[Array.getElem?_append_left h1]
  simp[h]
 have hvr:VR K' (.sl (.own w.drew.heap.size) (l.map fun c=> .int .u8 c.toNat) []) (.slice (some ⟨w.drew.heap.size,0,none⟩) (l.map fun c=>AV.int .u8 c.toNat).length cap):=by
  refine VR.sl_row (n:=1) (c:=c) (fun a ha=> ?_) (by simpa using hge) hcm (fun o ho=>himm o (by simpa using ho)) (fun j hj=> ?_) ⟨rfl,rfl,e,1,hrow⟩
  ·obtain⟨x,_,rfl⟩:=List.mem_map.1 ha
   exact⟨rfl,rfl,fun y hy=>by simp[flat]at hy;subst hy;rfl⟩
  ·have hj':j < l.length:=by rw[pP]at hj;simpa using hj
   rw[hget j hj']
   have:((l.map fun c=>AV.int .u8 c.toNat).flatMap flat)[j]=AV.int .u8 l[j].toNat:=by
    have h2:((l.map fun c=>AV.int .u8 c.toNat).flatMap flat)[j]? =(l.map fun c=>AV.int .u8 c.toNat)[j]? :=by rw[pP]
    rw[List.getElem?_eq_getElem hj]at h2
    simpa [hj'] using h2
   rw[this];exact .int _ _
 simp only[List.length_map]at hvr
 have hb1:K'.base <=w.drew.heap.size:=by rw[hle.base];exact hr.bs
 have hfr:=hr.fresh (Nat.le_refl w.heap.size)
 have hfin:=hrel.markedEnd (b:=w.drew.heap.size) (k:=c.size) (n:=1) hb1 hfr.1 hrow (heap_alloc_new w.drew _) (by rw[hcs];omega)
 refine⟨_,_,K',?_,hle,hfin,hvr⟩
 unfold convert
 have key:(Conv.stringToBytes e ⟨⟨l⟩⟩).run P w= .ok (.slice (some ⟨w.drew.heap.size,0,none⟩) l.length cap) ((w.drew.alloc (.cells c e)).freeze ⟨w.drew.heap.size,c.size,none⟩ 1):=by
  unfold Conv.stringToBytes
  have h1:(choose (.appendCap l.length 0 e)).run P w= .ok cap w.drew:=by
   rw[hcap]
   simp[grownCap,Question.forced]
  simp only[hsz,Sem.run_bind,h1,Result.andThen_ok,newRow,run_newObj,World.alloc_eq,Sem.run_pure]
  have h2:((w.drew.alloc (.cells c e)).shape? w.drew.heap.size)=some (e,c.size):=by
   have hx:=heap_alloc_new w.drew (Obj.cells c e)
   simp only[World.shape?]
   rw[hx]
  have h3:(markStringish ⟨w.drew.heap.size,0,none⟩).run P (w.drew.alloc (.cells c e))= .ok () ((w.drew.alloc (.cells c e)).freeze ⟨w.drew.heap.size,c.size,none⟩ 1):=by
   unfold markStringish
   simp only[Sem.run_bind,run_shape,h2,Result.andThen_ok]
   rfl
  simp only[c]at h3 ⊢
  rw[h3]
  rfl
 cases u <;>simp only[Sem.run_bind,run_underlying hu,run_underlying (fA hd),run_underlying (A0z he),Result.andThen_ok] <;>exact key
def uF(P:Program)(s d:TypeId)(x:AV):Option AV:=
 match x with
 | .str l=>if sk P d= .str then yD P s d x
   else if(P.underlying s).isSome && ((el P d).any fun e=>decide (sk P e= .int .u8)) && decide (l.length <=maxLen)then some (.sl .none (l.map fun c=> .int .u8 c.toNat) [])else none
 |_=>yD P s d x
theorem B0r{P:Program}{G:Nat ->AV}{K:bO}{σ:AS}{w:World}(hr:cV G K σ w){s d:TypeId}{x r:AV}(h:uF P s d x=some r){v:Value}(hv:VR K x v):
  ∃ z w' K',(convert s d v).run P w= .ok z w' /\ K.le K' /\ cV G K' σ w' /\ VR K' r z:=by
 have old:yD P s d x=some r ->∃ z w' K',(convert s d v).run P w= .ok z w' /\ K.le K' /\ cV G K' σ w' /\ VR K' r z:=fun h=>by
  obtain⟨z,h1,h2⟩:=B3g (w:=w) h hv
  exact⟨z,w,K,h1,bO.le.refl K,hr,h2⟩
 unfold uF at h
 split at h
 ·rename_i l
  split at h
  ·exact old h
  ·split at h
   ·rename_i hc
    simp only[Bool.and_eq_true,decide_eq_true_eq,Option.any_eq_true]at hc
    obtain⟨⟨h1,e,h2,h3⟩,h4⟩:=hc
    simp only[Option.some.injEq]at h;subst h
    rw[VR.str_iff]at hv;subst hv
    exact B8u hr h1 h2 h3 l h4
   ·cases h
 ·exact old h
def B0p(P:Program)(σ:AS)(s d:TypeId)(x:AV)(K:AV ->AS ->Prop):Prop:=
 ∃ l e,x= .str l /\ (P.underlying s).isSome=true /\ el P d=some e /\ sk P e= .int .u8 /\ l.length <=maxLen /\ ∀ b,σ.fresh b ->K (.sl (.own b) (l.map fun c=> .int .u8 c.toNat) []) (σ.setTip b (l.length,1))
theorem B0q{P:Program}{G:Nat ->AV}{K:bO}{σ:AS}{w:World}(hr:cV G K σ w){s d:TypeId}{x:AV}{Kc:AV ->AS ->Prop}(h:B0p P σ s d x Kc){v:Value}(hv:VR K x v):
  ∃ z w' K' r σ',(convert s d v).run P w= .ok z w' /\ K.le K' /\ cV G K' σ' w' /\ VR K' r z /\ Kc r σ':=by
 obtain⟨l,e,rfl,h1,h2,h3,h4,hK⟩:=h
 rw[VR.str_iff]at hv
 subst hv
 obtain⟨z,w',K',g1,g2,g3,g4⟩:=C9g hr h1 h2 h3 l h4
 exact⟨z,w',K',_,_,g1,g2,g3,g4,hK _ (hr.fresh (Nat.le_refl _))⟩
end Go.Av
namespace Go.Av
open Go Go.RowKit
def AS.delBox(σ:AS)(b:Nat):AS:= {σ with box:=fun i=>if i=b then none else σ.box i}
section
variable {G:Nat ->AV} {K:bO} {σ:AS} {w:World}
theorem cV.delBox(h:cV G K σ w)(b:Nat):cV G K (σ.delBox b) w:=by
 refine⟨h.imm,h.row,fun i cs hi=> ?_,h.tip,h.ty,h.glob,h.below,h.bs⟩
 have hi':(if i=b then none else σ.box i)=some cs:=hi
 split at hi'
 ·cases hi'
 ·exact h.box i cs hi'
theorem cV.tipBox (h:cV G K σ w) {b s cap:Nat} {E:TypeId} (ht:σ.tip b=some (0,s)) (hrow:K.row b=some (cap,s,E)) (cs:List AV) {c:Array Value} (hc:w.heap[b]? =some (.cells c E (0,0))) (hl:cs.length <=c.size)
  (h1:∀ a,a ∈ cs ->one a=true) (hv:∀ j (hj:j < cs.length),VR K cs[j] (c.getD j Go.undef)):cV G K ((σ.delTip b).setBox b cs) w:=by
 obtain⟨hb,cap',E',hr',_,himm⟩:=h.tip b 0 s ht
 refine⟨h.imm,fun i cp q F hr=> ?_,fun i ds hi=> ?_,fun i n q hi=> ?_,h.ty,h.glob,h.below,h.bs⟩
 ·obtain⟨cur,fz,k1,k2,k3,k4⟩:=h.row i cp q F hr
  exact⟨cur,fz,k1,k2,k3,fun⟨x,hx⟩=>k4 ⟨x,by
   have hx':(if i=b then none else σ.tip i)=some x:=hx
   split at hx'
   ·cases hx'
   ·exact hx'⟩⟩
 ·by_cases hib:i=b
  ·subst hib
   simp only[AS.setBox,if_true,Option.some.injEq]at hi
   subst hi
   exact⟨hb,by simp[AS.setBox,AS.delTip],trivial,fun o=>himm o (by omega),h1,c,E,hc,hl,hv⟩
  ·simp only[AS.setBox,AS.delTip,if_neg hib]at hi
   obtain⟨k1,k2,k3⟩:=h.box i ds hi
   exact⟨k1,by simp[AS.setBox,AS.delTip,hib,k2],k3⟩
 ·have hi':(if i=b then none else σ.tip i)=some (n,q):=hi
  split at hi'
  ·cases hi'
  ·exact h.tip i n q hi'
theorem cV.addMut (h:cV G K σ w) (c:Array Value) (E:TypeId) (cap s:Nat) (hc:c.size=cap*s) (hml:cap <=maxLen) (cs:List AV) (hl:cs.length <=c.size)
  (h1:∀ a,a ∈ cs ->one a=true) (hv:∀ j (hj:j < cs.length),VR K cs[j] (c.getD j Go.undef)):
  ∃ K',K.le K' /\ cV G K' (σ.setBox w.heap.size cs) (w.alloc (.cells c E)) /\ K'.row w.heap.size=some (cap,s,E):=by
 obtain⟨K',hle,hrel,hrow,_⟩:=h.addRow c E cap s 0 hc (Nat.zero_le _) hml
 have h2:=hrel.tipBox (b:=w.heap.size) (s:=s) (by simp[AS.setTip]) hrow cs (heap_alloc_new w _) hl h1 (fun j hj=> (hv j hj).mono hle)
 have hf:=h.fresh (Nat.le_refl w.heap.size)
 have e:((σ.setTip w.heap.size (0,s)).delTip w.heap.size).setBox w.heap.size cs=σ.setBox w.heap.size cs:=by
  unfold AS.setBox AS.delTip AS.setTip
  congr 1
  funext i
  show(if i=w.heap.size then none else if i=w.heap.size then some (0,s)else σ.tip i)=σ.tip i
  split
  ·rename_i hi;subst hi;exact hf.2.1.symm
  ·rfl
 rw[e]at h2
 exact⟨K',hle,h2,hrow⟩
theorem cV.growMut (h:cV G K σ w) {b n s cap:Nat} {E:TypeId} {cs:List AV} (hb:σ.box b=some cs) (hrow:K.row b=some (cap,s,E)) (hcs:cs.length=n*s) (news:List Value) (nas:List AV) (m:Nat) (hm:news.length=m*s) (hnl:nas.length=news.length) (hcap:n+m <=cap)
  (h1:∀ a,a ∈ nas ->one a=true) (hv:∀ j (hj:j < nas.length),VR K nas[j] (news.getD j Go.undef)):
  cV G K (σ.setBox b (cs++nas)) (w.setCells b (n*s) news):=by
 obtain⟨g1,g2,g3,g4,g5,c,F,hc,hs,hvv⟩:=h.box b cs hb
 obtain⟨cur,fz,hcur,hcsz,hml,_⟩:=h.row b cap s E hrow
 rw[hc]at hcur
 simp only[Option.some.injEq,Obj.cells.injEq]at hcur
 obtain⟨rfl,rfl,_⟩:=hcur
 have hms:(n+m)*s=n*s+m*s:=Nat.add_mul n m s
 have hle2:(n+m)*s <=cap*s:=Nat.mul_le_mul_right _ hcap
 obtain⟨c',hc1,hc2⟩:=qY b news (n*s) w c F (0,0) hc
 obtain⟨m1,m2,m3,m4⟩:=rC b news (n*s) w
 have old:∀ i,i ≠ b -> (w.setCells b (n*s) news).heap[i]? =w.heap[i]? :=fun i hi=>fC b news _ _ i hi
 have hcellin:∀ j,j < news.length ->c'[n*s+j]? =some (news.getD j Go.undef):=by
  intro j hj
  have h3:=World.cell?_setCells_in b news (n*s) w (fun j hj=>by
   rw[cell_of_row w b _ c F (0,0) hc]
   have:n*s+j < c.size:=by omega
   simp[this]) j hj
  rw[cell_of_row _ b _ c' F (0,0) hc1]at h3
  rw[h3];simp[hj]
 have hcellout:∀ o,o < n*s ->c'[o]? =c[o]? :=by
  intro o ho
  have h3:=World.cell?_setCells_out b news (n*s) w ⟨b,o,none⟩ (fun _ _=> .inl ho)
  rw[cell_of_row _ b _ c' F (0,0) hc1,cell_of_row w b _ c F (0,0) hc]at h3
  exact h3
 refine⟨fun i o v hi=> ?_,fun i cp q F' hr=> ?_,fun i ds hi=> ?_,h.tip,fun i F' n' hi=> ?_,h.glob,?_,by rw[m4];exact h.bs⟩
 ·have hne:i ≠ b:=fun e=>by subst e;rw[g4 o]at hi;cases hi
  rw[World.cell?_of_block (w:=w) (old i hne)];exact h.imm i o v hi
 ·obtain⟨cu,fz,hcu,hx⟩:=h.row i cp q F' hr
  by_cases hib:i=b
  ·subst hib
   rw[hc]at hcu
   simp only[Option.some.injEq,Obj.cells.injEq]at hcu
   obtain⟨rfl,rfl,rfl⟩:=hcu
   exact⟨c',_,hc1,by rw[hc2];exact hx.1,hx.2⟩
  ·exact⟨cu,fz,by rw[old i hib];exact hcu,hx⟩
 ·by_cases hib:i=b
  ·subst hib
   simp only[AS.setBox,if_true,Option.some.injEq]at hi
   subst hi
   refine⟨g1,g2,g3,g4,fun a ha=> ?_,c',F,hc1,by rw[List.length_append,hc2];omega,fun j hj=> ?_⟩
   ·rcases List.mem_append.1 ha with ha|ha
    ·exact g5 a ha
    ·exact h1 a ha
   ·simp only[Array.getD_eq_getD_getElem?]
    by_cases hjc:j < cs.length
    ·rw[List.getElem_append_left hjc,hcellout j (by omega)]
     have:=hvv j hjc
     simpa [Array.getD_eq_getD_getElem?] using this
    ·have hj2:j - cs.length < nas.length:=by simp only[List.length_append]at hj;omega
     rw[List.getElem_append_right (by omega)]
     have h3:=hcellin (j - n*s) (by omega)
     rw[show n*s+(j - n*s)=j by omega]at h3
     rw[h3]
     have:=hv (j - cs.length) hj2
     simpa [<- hcs] using this
  ·simp only[AS.setBox,if_neg hib]at hi
   obtain⟨k1,k2,k3,k4,k5,d,F',hd,hds,hdv⟩:=h.box i ds hi
   exact⟨k1,k2,k3,k4,k5,d,F',by rw[old i hib];exact hd,hds,hdv⟩
 ·have h1:=h.ty i F' n' hi
  by_cases hib:i=b
  ·subst hib
   exact h1.wrote hc hc1 hc2
  ·exact h1.old (old i hib)
 ·exact h.below.trans ⟨m1,m2,m3,by rw[m4];exact Nat.le_refl _,fun k hk=>old k (by omega)⟩
theorem cV.frozen(h:cV G K σ w){b n s cap:Nat}{E:TypeId}{cs:List AV}(hb:σ.box b=some cs)(hrow:K.row b=some (cap,s,E))(hcs:cs.length=n*s)(hn:n <=cap):
  ∃ K',K.le K' /\ cV G K' ((σ.delBox b).setTip b (n,s)) w /\ K'.row b=some (cap,s,E) /\ ∃ f:Nat ->Value,(∀ j,j < cs.length ->K'.imm b j=some (f j)) /\ (∀ j (hj:j < cs.length),VR K' cs[j] (f j)) /\ ∀ c,c ∈ cs ->one c=true:=by
 obtain⟨g1,g2,g3,g4,g5,c,F,hc,hs,hvv⟩:=h.box b cs hb
 have h0:=h.delBox b
 have h2:cV G K (σ.delBox b) w:=h0
 obtain⟨k1,k2⟩:=h2.keep b (fun o=>decide (o < n*s)) (by simp[AS.delBox]) (fun m q hm=>by
  have hm':σ.tip b=some (m,q):=hm
  rw[g2]at hm';cases hm')
 refine⟨_,k1,?_,hrow,fun j=>c.getD j Go.undef,fun j hj=> ?_,fun j hj=> (hvv j hj).mono k1,g5⟩
 ·refine⟨k2.imm,fun i cp q F' hr=> ?_,fun i ds hi=> ?_,fun i m q hi=> ?_,k2.ty,k2.glob,k2.below,k2.bs⟩
  ·obtain⟨cur,fz,q1,q2,q3,q4⟩:=k2.row i cp q F' hr
   refine⟨cur,fz,q1,q2,q3,fun⟨x,hx⟩=> ?_⟩
   by_cases hib:i=b
   ·subst hib
    rw[hc]at q1
    simp only[Option.some.injEq,Obj.cells.injEq]at q1
    exact .inl q1.2.2.symm
   ·exact q4 ⟨x,by simpa [AS.setTip,hib] using hx⟩
  ·obtain⟨q1,q2,q3⟩:=k2.box i ds hi
   have hne:i ≠ b:=fun e=>by subst e;have hi':(if i=i then none else σ.box i)=some ds:=hi;rw[if_pos rfl]at hi';cases hi'
   exact⟨q1,by simp only[AS.setTip,if_neg hne];exact q2,q3⟩
  ·by_cases hib:i=b
   ·subst hib
    simp only[AS.setTip,if_true,Option.some.injEq,Prod.mk.injEq]at hi
    obtain⟨rfl,rfl⟩:=hi
    refine⟨g1,cap,E,hrow,hn,fun o ho=> ?_⟩
    show(if i=i /\ decide (o < n*s)=true then w.cell? ⟨i,o,none⟩else K.imm i o)=none
    rw[if_neg (by simp;omega)]
    exact g4 o
   ·simp only[AS.setTip,if_neg hib]at hi
    exact k2.tip i m q hi
 ·show(if b=b /\ decide (j < n*s)=true then w.cell? ⟨b,j,none⟩else K.imm b j)=_
  rw[if_pos ⟨rfl,by simp;omega⟩,cell_of_row w b j c F (0,0) hc]
  have:j < c.size:=by omega
  simp[this]
end
set_option maxRecDepth 8000 in
theorem D3r {P:Program} (w:World) {t e:TypeId} {n bZ:Nat} {i:TypeInfo} {z:Value} {k k':IntKind} (ht:P.underlying t=some (.slice e)) (hi:P.info? e=some i) (hz:i.zero=some z) (hsz:i.size=n) (hbb:i.bytes=bZ) (hn0:0 < n) (hb0:0 < bZ)
  (l m:Nat) (hl:l <=m) (hmb:m*bZ <=140737488355328):
  (Instr.makeSlice t (.int k l) (.int k' m)).run P w= .ok (.slice (some ⟨w.heap.size,0,none⟩) l m) (w.alloc (.cells ((Array.range (m*n)).map (z.cells[· % z.cells.size]!)) e)):=by
 have hm1:m <=140737488355328:=by
  have:m*1 <=m*bZ:=Nat.mul_le_mul_left _ hb0
  omega
 have hw1:IntKind.i64.wrap (m:Int)=m:=by rw[IntKind.wrap_i64];omega
 have hw0:IntKind.i64.wrap (l:Int)=l:=by rw[IntKind.wrap_i64];omega
 have h48: ¬ ((281474976710656:Int) < (bZ:Int)*(m:Int)):=by
  have:(bZ*m:Nat) <=140737488355328:=by rw[Nat.mul_comm];exact hmb
  have h2:((bZ*m:Nat):Int) <=140737488355328:=by omega
  rw[Int.natCast_mul]at h2
  omega
 unfold Instr.makeSlice
 by_cases hm0:m*n=0
 ·have hm00:m=0:=by rcases Nat.mul_eq_zero.1 hm0 with h|h <;>omega
  subst hm00
  have hl0:l=0:=by omega
  subst hl0
  have ez:∀ (f g:Nat ->Value),(Array.range 0).map f=(Array.range 0).map g:=fun f g=>by apply Array.ext';simp
  have hw00:IntKind.i64.wrap 0=0:=by rw[IntKind.wrap_i64];omega
  simp[run_underlying ht,asInt,asIntOf,typeInfo,hi,hw00,hbb,newRow,sizeOf,hsz]
  exact congrArg (fun c=>w.alloc (Obj.cells c e)) (ez _ _)
 ·simp only[Sem.run_bind,run_underlying ht,asInt,asIntOf,Sem.run_pure,Result.andThen_ok,typeInfo,hi,run_program,hw1,hw0,hbb]
  have hlt: ¬ ((m:Int) < 0):=by omega
  have hlt2: ¬ ((l:Int) < 0):=by omega
  have hlt3: ¬ ((m:Int) < (l:Int)):=by omega
  have hlt4: ¬ (m < l):=by omega
  simp[hlt,hlt2,hlt3,hlt4,h48,sizeOf,typeInfo,hi,hsz,hm0,B2p hi hz,newRow]
def uJ(P:Program)(σ:AS)(t:TypeId)(l c:AV)(K:AV ->AS ->Prop):Prop:=
 match dU P t,(el P t).bind (zc P),l,c with
 |some (e,n,bZ),some zz, .int _ l, .int _ c=>0 <=l /\ l <=c /\ c*bZ <=140737488355328 /\ ∀ b,σ.fresh b ->K (.bs b l.toNat n e) (σ.setBox b (List.replicate l.toNat zz).flatten)
 |_,_,_,_=>False
theorem D3b{zz:List AV}{n:Nat}(hn:zz.length=n):∀ (l j:Nat),(hj:j < (List.replicate l zz).flatten.length) ->∃ h:j % n < zz.length,(List.replicate l zz).flatten[j]=zz[j % n]
 |0,j,hj=>by simp at hj
 | l +1,j,hj=>by
  have hlen:(List.replicate (l+1) zz).flatten=zz++(List.replicate l zz).flatten:=by simp[List.replicate_succ]
  simp only[hlen]at hj ⊢
  by_cases hjz:j < zz.length
  ·have:j % n=j:=Nat.mod_eq_of_lt (by omega)
   refine⟨by omega,?_⟩
   rw[List.getElem_append_left hjz]
   simp only[this]
  ·have hj2:j - zz.length < (List.replicate l zz).flatten.length:=by simp only[List.length_append]at hj;omega
   obtain⟨h1,h2⟩:=D3b hn l (j - zz.length) hj2
   have e:(j - zz.length) % n=j % n:=by
    rw[hn]at hjz ⊢
    rw[<- Nat.mod_eq_sub_mod (by omega)]
   simp only[e]at h1 h2
   refine⟨h1,?_⟩
   rw[List.getElem_append_right (by omega)]
   exact h2
theorem B0w{P:Program}{G:Nat ->AV}{K:bO}{σ:AS}{w:World}(hr:cV G K σ w){t:TypeId}{l c:AV}{Kc:AV ->AS ->Prop}(h:uJ P σ t l c Kc){v u:Value}(hv:VR K l v)(hu:VR K c u):
  ∃ z w' K' r σ',(Instr.makeSlice t v u).run P w= .ok z w' /\ K.le K' /\ cV G K' σ' w' /\ VR K' r z /\ Kc r σ':=by
 unfold uJ at h
 split at h
 case h_2=>exact h.elim
 rename_i e n bZ zz k l k' c hel hzz
 obtain⟨h0,hlc,hby,hK⟩:=h
 rw[VR.int_iff]at hv hu;subst hv hu
 obtain⟨ht,i,z,hi,hz,hsz,hbb,hzs,hn0,hb0,hcr⟩:=oS (K:=K) hel
 have hel2:el P t=some e:=by unfold el;rw[ht]
 rw[hel2,Option.bind_some]at hzz
 have hcrz:=hcr zz hzz
 obtain⟨l,rfl⟩:=Int.eq_ofNat_of_zero_le h0
 obtain⟨m,rfl⟩:=Int.eq_ofNat_of_zero_le (Int.le_trans h0 hlc)
 have hmb:m*bZ <=140737488355328:=by
  have h:=hby
  rw[<- Int.natCast_mul]at h
  omega
 have hm1:m <=140737488355328:=by
  have:m*1 <=m*bZ:=Nat.mul_le_mul_left _ hb0
  omega
 have hrun:=D3r (P:=P) w (k:=k) (k':=k') ht hi hz hsz hbb hn0 hb0 l m (by omega) hmb
 have hzl:zz.length=n:=by rw[<- hcrz.size];exact hzs
 have hsize:((Array.range (m*n)).map (z.cells[· % z.cells.size]!)).size=m*n:=by simp
 have hflen:(List.replicate l zz).flatten.length=l*n:=by simp[hzl]
 have hlm:l*n <=m*n:=Nat.mul_le_mul_right _ (by omega)
 obtain⟨K',hle,hrel,hrow⟩:=hr.addMut ((Array.range (m*n)).map (z.cells[· % z.cells.size]!)) e m n hsize (by unfold maxLen;omega) (List.replicate l zz).flatten (by rw[hsize,hflen];exact hlm)
  (fun a ha=>by
    obtain⟨x,hx,hax⟩:=List.mem_flatten.1 ha
    rw[List.mem_replicate]at hx
    rw[hx.2]at hax
    exact hcrz.one a hax)
  (fun j hj=>by
    obtain⟨h1,h2⟩:=D3b hzl l j hj
    rw[h2]
    have h3:=hcrz.at_ (j % n) h1
    have hjm:j < m*n:=by omega
    have:((Array.range (m*n)).map (z.cells[· % z.cells.size]!)).getD j Go.undef=z.cells.getD (j % n) Go.undef:=by
     have hlt:j % n < z.cells.size:=by rw[hzs];exact Nat.mod_lt _ hn0
     simp[hjm,hzs,Nat.mod_lt _ hn0]
    rw[this];exact h3)
 refine⟨_,_,K',_,_,hrun,hle,hrel,?_,hK _ (hr.fresh (Nat.le_refl _))⟩
 exact .bs _ _ n m e hrow (by omega) (by unfold maxLen;omega)
def sI(P:Program)(σ:AS)(t:TypeId)(len:Nat)(ps:List (Nat × AV))(K:AV ->AS ->Prop):Prop:=
 match el P t,(el P t).bind (tk P),dQ P t len ps with
 |some e,some (_,n),some (.sl _ xs _)=>∀ b,σ.fresh b ->K (.bs b len n e) (σ.setBox b (xs.flatMap flat))
 |_,_,_=>False
theorem A6x {P:Program} {G:Nat ->AV} {K:bO} {σ:AS} {w:World} (hr:cV G K σ w) {t:TypeId} {len:Nat} {ps:List (Nat × AV)} {Kc:AV ->AS ->Prop} (h:sI P σ t len ps Kc)
  {qs:List (Nat × Value)} (hv:VRp K ps qs):
  ∃ z w' K' r σ',(Instr.buildSlice t len qs.toArray).run P w= .ok z w' /\ K.le K' /\ cV G K' σ' w' /\ VR K' r z /\ Kc r σ':=by
 unfold sI at h
 split at h
 case h_2=>exact h.elim
 rename_i e ag n g xs sp hel htk hb
 obtain⟨e',ag',n',us,he,hn,hrun,hxs,hsize,hlml,hlen,hall,hcu⟩:=tO (w:=w) hb hv
 rw[hel]at he
 simp only[Option.some.injEq]at he
 subst he
 rw[hel,Option.bind_some,hn]at htk
 simp only[Option.some.injEq,Prod.mk.injEq]at htk
 obtain⟨rfl,rfl⟩:=htk
 simp only[AV.sl.injEq]at hxs
 obtain⟨rfl,rfl,rfl⟩:=hxs
 obtain⟨K',hle,hrel,hrow⟩:=hr.addMut us e len n' hsize hlml ((ps.map (·.2)).flatMap flat) (Nat.le_of_eq hcu.size.symm) hcu.one (fun j hj=>hcu.at_ j hj)
 exact⟨_,_,K',_,_,hrun,hle,hrel, .bs _ _ n' len e hrow (Nat.le_refl _) hlml,h _ (hr.fresh (Nat.le_refl _))⟩
def yB(P:Program)(σ:AS)(t tx:TypeId)(s x:AV)(K:AV ->AS ->Prop):Prop:=
 match dU P t,lJ P tx x with
 | some (e,n,bZ),some ys=>
  (∀ a,a ∈ ys -> (flat a).length=n) /\
  match s with
  | .nil=>ys ≠ [] /\ ys.length*bZ <=140737488355328 /\ ∀ b,σ.fresh b ->K (.bs b ys.length n e) (σ.setBox b (ys.flatMap flat))
  | .bs b m q F=> (q=n /\ F=e) /\ ∃ cs,σ.box b=some cs /\ cs.length=m*n /\ (m+ys.length)*bZ <=140737488355328 /\
    ∀ b',(b'=b \/ σ.fresh b') ->K (.bs b' (m+ys.length) n e) ((σ.delBox b).setBox b' (cs++ys.flatMap flat))
  |_=>False
 |_,_=>False
theorem qQ {P:Program} {G:Nat ->AV} {K:bO} {σ:AS} {w:World} (hr:cV G K σ w) {cs nas:List AV} {n bZ xl yl:Nat} {t tx ty e:TypeId} {i:TypeInfo} {z:Value}
  (ht:P.underlying t=some (.slice e)) (hi:P.info? e=some i) (hz:i.zero=some z) (hsz:i.size=n) (hby:i.bytes=bZ) (hzs:z.cells.size=n) (hn0:0 < n) (hb0:0 < bZ)
  (hcl:cs.length=xl*n) (hnn:nas.length=yl*n) (hc1:∀ c,c ∈ cs ->one c=true) (hn1:∀ c,c ∈ nas ->one c=true)
  (base:Option Addr) (sCap:Nat) (olds:List Value) (hol:olds.length=cs.length) (hov:∀ j (hj:j < cs.length),VR K cs[j] (olds.getD j Go.undef))
  (hold:(Builtin.firstCells i.size xl (.slice base xl sCap)).run P w.drew= .ok olds.toArray w.drew)
  (v:Value) (news:List Value) (hsrc:Src P i.size tx v yl news w) (hnl:news.length=nas.length) (hnv:∀ j (hj:j < nas.length),VR K nas[j] (news.getD j Go.undef))
  (hg:sCap < xl+yl) (hbytes:(xl+yl)*bZ <=140737488355328):
  ∃ u w' K',(Builtin.append_ #[t,tx] ty #[.slice base xl sCap,v]).run P w= .ok u w' /\ K.le K' /\ cV G K' (σ.setBox w.heap.size (cs++nas)) w' /\ VR K' (.bs w.heap.size (xl+yl) n e) u:=by
 have hmax:xl+yl <=140737488355328:=by
  have:(xl+yl)*1 <=(xl+yl)*bZ:=Nat.mul_le_mul_left _ hb0
  omega
 have hrun:=run_append_grow_src (P:=P) w t tx ty e i z ht hi hz base xl sCap olds hold v yl news hsrc hg (by omega) (by rw[hby];exact growslice_fits hg hbytes)
 have hge:=grownCap_ge w (xl+yl) sCap e
 have hcm:grownCap w (xl+yl) sCap e <=maxLen:=grownCap_le_maxLen w _ sCap e (by unfold maxLen;omega)
 generalize grownCap w (xl+yl) sCap e=cap at hrun hge hcm
 have hsize:((olds++news).toArray++Builtin.zeroCells z.cells (cap - (xl+yl))).size=cap*n:=by
  simp only[Array.size_append,List.size_toArray,List.length_append,size_zeroCells,hzs,hol,hnl,hcl,hnn,<- Nat.add_mul]
  congr 1;omega
 have hge2:(xl+yl)*n <=cap*n:=Nat.mul_le_mul_right _ hge
 obtain⟨K',hle,hrel,hrow⟩:=hr.drew.addMut ((olds++news).toArray++Builtin.zeroCells z.cells (cap - (xl+yl))) e cap n hsize hcm (cs++nas) (by rw[hsize,List.length_append,hcl,hnn,<- Nat.add_mul];exact hge2)
  (fun a ha=>by rcases List.mem_append.1 ha with ha|ha;exact hc1 a ha;exact hn1 a ha)
  (fun j hj=>by
    have hjl:j < (olds++news).length:=by simp only[List.length_append]at hj ⊢;omega
    have e1:((olds++news).toArray++Builtin.zeroCells z.cells (cap - (xl+yl))).getD j Go.undef=(olds++news).getD j Go.undef:=by
     simp only[Array.getD_eq_getD_getElem?,List.getD_eq_getElem?_getD]
     rw[Array.getElem?_append_left (by simpa using hjl)]
     simp
    rw[e1]
    by_cases hjx:j < cs.length
    ·have e2:(olds++news).getD j Go.undef=olds.getD j Go.undef:=by
      simp only[List.getD_eq_getElem?_getD];rw[List.getElem?_append_left (by omega)]
     rw[e2,List.getElem_append_left hjx];exact hov j hjx
    ·have e2:(olds++news).getD j Go.undef=news.getD (j - cs.length) Go.undef:=by
      simp only[List.getD_eq_getElem?_getD];rw[List.getElem?_append_right (by omega),hol]
     have hj2:j - cs.length < nas.length:=by simp only[List.length_append]at hj;omega
     rw[e2,List.getElem_append_right (by omega)];exact hnv _ hj2)
 exact⟨_,_,K',hrun,hle,hrel, .bs _ _ n cap e hrow hge hcm⟩
theorem lC{ys:List AV}(h:∀ a,a ∈ ys ->isv a=true /\ ∀ c,c ∈ flat a ->one c=true):∀ c,c ∈ ys.flatMap flat ->one c=true:=fun c hc=>by
 obtain⟨a,ha,hca⟩:=List.mem_flatMap.1 hc
 exact(h a ha).2 c hca
theorem uC {P:Program} {G:Nat ->AV} {K:bO} {σ:AS} {w:World} (hr:cV G K σ w) {t tx ty:TypeId} {s x:AV} {Kc:AV ->AS ->Prop} (h:yB P σ t tx s x Kc)
  {v u:Value} (hv:VR K s v) (hu:VR K x u):
  ∃ z w' K' r σ',(Builtin.append_ #[t,tx] ty #[v,u]).run P w= .ok z w' /\ K.le K' /\ cV G K' σ' w' /\ VR K' r z /\ Kc r σ':=by
 unfold yB at h
 split at h
 case h_2=>exact h.elim
 rename_i e n bZ ys hel hsrc
 obtain⟨hys,h⟩:=h
 obtain⟨ht,i,z,hi,hz,hsz,hby,hzs,hn0,hb0,_⟩:=oS (K:=K) hel
 obtain⟨news,hS,hnl,hyv,hnv⟩:=wY hr hsrc hys hu
 subst hsz
 have hyl:=bV (sz:=i.size) ys hys
 split at h
 ·obtain⟨hne,hbytes,hK⟩:=h
  rw[VR.nil_iff]at hv;subst hv
  obtain⟨z',w',K',h2,h3,h4,h5⟩:=qQ (cs:=[]) (nas:=ys.flatMap flat) (xl:=0) (yl:=ys.length) (P:=P) (ty:=ty) hr ht hi hz rfl hby hzs hn0 hb0 (by simp) hyl (fun a ha=>by cases ha) (lC hyv) none 0 [] rfl (fun j hj=>by cases hj)
   (by simp[Builtin.firstCells]) u news hS hnl hnv (by have:=List.length_pos_iff.2 hne;omega) (by simpa using hbytes)
  refine⟨z',w',K',_,_,h2,h3,h4,h5,?_⟩
  have:=hK w.heap.size (hr.fresh (Nat.le_refl _))
  simpa using this
 ·rename_i b m q F0
  obtain⟨⟨hq,hF0⟩,cs,hb,hcl,hbytes,hK⟩:=h
  subst hq
  obtain⟨g1,g2,g3,g4,g5,c,F,hc,hs,hvv⟩:=hr.box b cs hb
  cases hv with
  | bs _ _ _ cap _ hrow hn hm=>
   rw[hF0]at hrow
   obtain⟨cur,fz,hcur,hcsz,hml,_⟩:=hr.row b cap i.size e hrow
   rw[hc]at hcur
   simp only[Option.some.injEq,Obj.cells.injEq]at hcur
   obtain⟨rfl,hFe,_⟩:=hcur
   rw[hFe]at hc
   by_cases hroom:m+ys.length <=cap
   ·have hle2:(m+ys.length)*i.size <=cap*i.size:=Nat.mul_le_mul_right _ hroom
    have hadd:(m+ys.length)*i.size=m*i.size+ys.length*i.size:=Nat.add_mul _ _ _
    have hrun:=run_append_room_src (P:=P) w t tx ty e i ht hi b 0 m cap u ys.length news hS hroom
     (fun j hj=>by
       rw[cell_of_row w b _ c e (0,0) hc]
       have:m*i.size+j < c.size:=by omega
       simp[this])
     (fun j hj=>by simp[World.frozen?,hc])
    rw[Nat.zero_add]at hrun
    have hrel:=hr.growMut hb hrow hcl news (ys.flatMap flat) ys.length (by rw[hnl,hyl]) hnl.symm hroom (lC hyv) hnv
    have h2:=hK b (.inl rfl)
    have e1:(σ.delBox b).setBox b (cs++ys.flatMap flat)=σ.setBox b (cs++ys.flatMap flat):=by
     unfold AS.setBox AS.delBox
     congr 1
     funext j
     show(if j=b then some (cs++ys.flatMap flat)else if j=b then none else σ.box j)=(if j=b then some (cs++ys.flatMap flat)else σ.box j)
     split <;>rfl
    rw[e1]at h2
    exact⟨_,_,K,_,_,hrun,bO.le.refl K,hrel, .bs b _ i.size cap e hrow hroom hm,h2⟩
   ·obtain⟨z',w',K',h2,h3,h4,h5⟩:=qQ (cs:=cs) (nas:=ys.flatMap flat) (xl:=m) (yl:=ys.length) (P:=P) (ty:=ty) hr ht hi hz rfl hby hzs hn0 hb0 hcl hyl g5 (lC hyv) (some ⟨b,0,none⟩) cap (eC (fun j=>c.getD j Go.undef) cs.length) (by simp[eC])
     (fun j hj=>by rw[lI _ _ j hj];exact hvv j hj)
     (by
       refine run_firstCells_some w.drew i.size m ⟨b,0,none⟩ m cap _ (by simp[eC,hcl]) (fun j y hy=> ?_)
       obtain⟨hj,rfl⟩:=List.getElem?_eq_some_iff.1 hy
       have hj':j < cs.length:=by simpa [eC] using hj
       rw[Addr.add_lit]
       simp only[eC,List.getElem_map,List.getElem_range]
       have:w.drew.cell? ⟨b,0+j,none⟩=w.cell? ⟨b,j,none⟩:=by rw[Nat.zero_add];rfl
       rw[this,cell_of_row w b j c e (0,0) hc]
       have:j < c.size:=by omega
       simp[this]) u news hS hnl hnv (by omega) hbytes
    have hf:=hr.fresh (Nat.le_refl w.heap.size)
    have hne:w.heap.size ≠ b:=fun e=>by rw[e]at hf;rw[hf.1]at hb;cases hb
    have h6:=hK w.heap.size (.inr hf)
    refine⟨z',w',K',_,_,h2,h3,?_,h5,h6⟩
    have h7:=h4.delBox b
    have e2:(σ.setBox w.heap.size (cs++ys.flatMap flat)).delBox b=(σ.delBox b).setBox w.heap.size (cs++ys.flatMap flat):=by
     unfold AS.setBox AS.delBox
     congr 1
     funext j
     show(if j=b then none else if j=w.heap.size then some (cs++ys.flatMap flat)else σ.box j)=(if j=w.heap.size then some (cs++ys.flatMap flat)else if j=b then none else σ.box j)
     by_cases h1:j=b
     ·rw[if_pos h1,if_neg (by rw[h1];exact Ne.symm hne),if_pos h1]
     ·rw[if_neg h1,if_neg h1]
    rw[e2]at h7
    exact h7
 ·exact h.elim
theorem cV.shrink{G:Nat ->AV}{K:bO}{σ:AS}{w:World}(h:cV G K σ w){b:Nat}{cs:List AV}(hb:σ.box b=some cs)(k:Nat):cV G K (σ.setBox b (cs.take k)) w:=by
 refine⟨h.imm,h.row,fun i ds hi=> ?_,h.tip,h.ty,h.glob,h.below,h.bs⟩
 have hi':(if i=b then some (cs.take k)else σ.box i)=some ds:=hi
 split at hi'
 ·rename_i hib
  subst hib
  simp only[Option.some.injEq]at hi'
  subst hi'
  obtain⟨g1,g2,g3,g4,g5,c,F,hc,hs,hvv⟩:=h.box i cs hb
  refine⟨g1,g2,g3,g4,fun a ha=>g5 a (List.mem_of_mem_take ha),c,F,hc,by simp only[List.length_take];omega,fun j hj=> ?_⟩
  rw[List.getElem_take]
  exact hvv j (by simp only[List.length_take]at hj;omega)
 ·exact h.box i ds hi'
def pD(P:Program)(σ:AS)(t tx:TypeId)(s x:AV)(K:AV ->AS ->Prop):Prop:=
 match dU P t,lJ P tx x with
 | some (e,n,bZ),some ys=>
  (∀ a,a ∈ ys -> (flat a).length=n) /\
  match s with
  | .nil=>ys ≠ [] /\ ys.length*bZ <=140737488355328 /\ ∀ b,σ.fresh b ->K (.bs b ys.length n e) (σ.setBox b (ys.flatMap flat))
  | .bs b m q F=> (q=n /\ F=e) /\ ∃ cs,σ.box b=some cs /\ m*n <=cs.length /\ (m+ys.length)*bZ <=140737488355328 /\
    ∀ b',(b'=b \/ σ.fresh b') ->K (.bs b' (m+ys.length) n e) ((σ.delBox b).setBox b' (cs.take (m*n)++ys.flatMap flat))
  |_=>False
 |_,_=>False
theorem A3l {P:Program} {G:Nat ->AV} {K:bO} {σ:AS} {w:World} (hr:cV G K σ w) {t tx ty:TypeId} {s x:AV} {Kc:AV ->AS ->Prop} (h:pD P σ t tx s x Kc)
  {v u:Value} (hv:VR K s v) (hu:VR K x u):
  ∃ z w' K' r σ',(Builtin.append_ #[t,tx] ty #[v,u]).run P w= .ok z w' /\ K.le K' /\ cV G K' σ' w' /\ VR K' r z /\ Kc r σ':=by
 unfold pD at h
 split at h
 case h_2=>exact h.elim
 rename_i e n bZ ys hel hsrc
 obtain⟨hys,h⟩:=h
 split at h
 ·exact uC (ty:=ty) hr (by unfold yB;rw[hel,hsrc];exact⟨hys,h⟩) hv hu
 ·rename_i b m q F0
  obtain⟨hq,cs,hb,hcl,hbytes,hK⟩:=h
  refine uC (ty:=ty) (σ:=σ.setBox b (cs.take (m*n))) (hr.shrink hb _) ?_ hv hu
  unfold yB
  rw[hel,hsrc]
  refine⟨hys,hq,cs.take (m*n),by simp[AS.setBox],by simp only[List.length_take];omega,hbytes,fun b' hb'=> ?_⟩
  have e1:((σ.setBox b (cs.take (m*n))).delBox b).setBox b' (cs.take (m*n)++ys.flatMap flat)=(σ.delBox b).setBox b' (cs.take (m*n)++ys.flatMap flat):=by
   unfold AS.setBox AS.delBox
   congr 1
   funext j
   show(if j=b' then _ else if j=b then none else if j=b then _ else σ.box j)=(if j=b' then _ else if j=b then none else σ.box j)
   split
   ·rfl
   ·split <;>rfl
  rw[e1]
  refine hK b' (hb'.imp id fun hf=> ?_)
  have hbb:b' ≠ b:=fun e=>by
   subst e
   have:=hf.1
   simp[AS.setBox]at this
  refine⟨?_,hf.2.1,hf.2.2⟩
  have h1:(if b'=b then some (cs.take (m*n))else σ.box b')=none:=hf.1
  rw[if_neg hbb]at h1;exact h1
 ·exact h.elim
def uE(P:Program)(σ:AS)(t tx:TypeId)(s x:AV)(K:AV ->AS ->Prop):Prop:=
 match dU P t,sk P tx,s,x with
 |some (e,n,bZ), .int _, .nil, .int _ k=>0 < k /\ k*bZ <=140737488355328 /\ ∀ b,σ.fresh b ->K (.bs b k.toNat n e) (σ.setBox b [])
 |_,_,_,_=>False
theorem A3n {P:Program} {G:Nat ->AV} {K:bO} {σ:AS} {w:World} (hr:cV G K σ w) {t tx ty:TypeId} {s x:AV} {Kc:AV ->AS ->Prop} (h:uE P σ t tx s x Kc)
  {v u:Value} (hv:VR K s v) (hu:VR K x u):
  ∃ z w' K' r σ',(Builtin.append_ #[t,tx] ty #[v,u]).run P w= .ok z w' /\ K.le K' /\ cV G K' σ' w' /\ VR K' r z /\ Kc r σ':=by
 unfold uE at h
 split at h
 case h_2=>exact h.elim
 rename_i e n bZ kk k' k hel hsk
 obtain⟨h0,hby,hK⟩:=h
 rw[VR.nil_iff]at hv;subst hv
 rw[VR.int_iff]at hu;subst hu
 obtain⟨ht,i,z,hi,hz,hsz,hbb,hzs,hn0,hb0,_⟩:=oS (K:=K) hel
 obtain⟨m,rfl⟩:=Int.eq_ofNat_of_zero_le (Int.le_of_lt h0)
 have hmb:m*bZ <=140737488355328:=by
  have h:=hby
  rw[<- Int.natCast_mul]at h
  omega
 have hm1:m <=140737488355328:=by
  have:m*1 <=m*bZ:=Nat.mul_le_mul_left _ hb0
  omega
 have hw1:IntKind.i64.wrap (m:Int)=m:=by rw[IntKind.wrap_i64];omega
 have hge:=grownCap_ge w m 0 e
 have hcm:grownCap w m 0 e <=maxLen:=grownCap_le_maxLen w _ 0 e (by unfold maxLen;omega)
 have hlt: ¬ ((m:Int) < 0):=by omega
 have h48: ¬ ((281474976710656:Int) < (m:Int)*(bZ:Int)):=by rw[<- Int.natCast_mul];omega
 have hmn: ¬ (m <=0):=by omega
 have h63: ¬ ((9223372036854775807:Int) < (m:Int)):=by omega
 have hfit:=growslice_fits (need:=m) (old:=0) (bytes:=bZ) (by omega) hmb
 have hfit': ¬ (281474976710656 < Builtin.nextslicecap m 0*bZ):=by omega
 have hmn0:m*n ≠ 0:=Nat.mul_ne_zero (by omega) (by omega)
 have hrun:(Builtin.append_ #[t,tx] ty #[.slice none 0 0, .int k' (m:Int)]).run P w= .ok (.slice (some ⟨w.heap.size,0,none⟩) m (grownCap w m 0 e))
   (w.drew.alloc (.cells (Builtin.zeroCells z.cells m++Builtin.zeroCells z.cells (grownCap w m 0 e - m)) e)):=by
  simp[Builtin.append_,run_underlying ht,run_underlying (A0z hsk),sizeOf,typeInfo,zeroValue,hi,hz,hsz,hbb,asInt,asIntOf,hw1,hlt,h48,hmn,h63,hfit',hmn0,Question.forced,newRow,grownCap,Builtin.firstCells]
  omega
 have hsize:(Builtin.zeroCells z.cells m++Builtin.zeroCells z.cells (grownCap w m 0 e - m)).size=grownCap w m 0 e*n:=by
  simp only[Array.size_append,size_zeroCells,hzs,<- Nat.add_mul]
  congr 1;omega
 obtain⟨K',hle,hrel,hrow⟩:=hr.drew.addMut (Builtin.zeroCells z.cells m++Builtin.zeroCells z.cells (grownCap w m 0 e - m)) e (grownCap w m 0 e) n hsize hcm [] (Nat.zero_le _) (fun a ha=>by cases ha) (fun j hj=>by cases hj)
 refine⟨_,_,K',_,_,hrun,hle,hrel, .bs _ _ n _ e hrow hge hcm,?_⟩
 have:=hK w.heap.size (hr.fresh (Nat.le_refl _))
 simpa using this
def E5k(P:Program)(σ:AS)(tx:TypeId)(x:AV)(ys:List AV):Prop:=
 lJ P tx x=some ys \/ ∃ b m q F cs,x= .bs b m q F /\ (el P tx).isSome=true /\ σ.box b=some cs /\ ys.length=m /\ m*q <=cs.length /\ ys.flatMap flat=cs.take (m*q) /\ ∀ a,a ∈ ys -> (flat a).length=q /\ isv a=true
theorem C1b {P:Program} {G:Nat ->AV} {K:bO} {σ:AS} {w:World} (hr:cV G K σ w) {t:TypeId} {x:AV} {ys:List AV} (h:E5k P σ t x ys) {n:Nat}
  (hn:∀ a,a ∈ ys -> (flat a).length=n) {v:Value} (hv:VR K x v):
  ∃ news:List Value,Src P n t v ys.length news w /\ news.length=(ys.flatMap flat).length /\ (∀ a,a ∈ ys ->isv a=true /\ ∀ c,c ∈ flat a ->one c=true) /\
   ∀ j (hj:j < (ys.flatMap flat).length),VR K (ys.flatMap flat)[j] (news.getD j Go.undef):=by
 rcases h with h|⟨b,m,q,F,cs,rfl,hs,hb,hm,hl,hf,ha⟩
 ·exact wY hr h hn hv
 ·obtain⟨e,he⟩:=Option.isSome_iff_exists.1 hs
  have hfl:=bV (sz:=n) ys hn
  obtain⟨g1,g2,g3,g4,g5,c,E,hc,hcs,hvv⟩:=hr.box b cs hb
  have hlen:(ys.flatMap flat).length=m*q:=by rw[hf,List.length_take];omega
  have hone:∀ a,a ∈ ys ->isv a=true /\ ∀ c,c ∈ flat a ->one c=true:=fun a haa=> ⟨(ha a haa).2,fun d hd=>by
   have:d ∈ ys.flatMap flat:=List.mem_flatMap.2 ⟨a,haa,hd⟩
   rw[hf]at this
   exact g5 d (List.mem_of_mem_take this)⟩
  have hat:∀ j (hj:j < (ys.flatMap flat).length),VR K (ys.flatMap flat)[j] (c.getD j Go.undef):=fun j hj=>by
   have hj':j < cs.length:=by omega
   have e1:(ys.flatMap flat)[j]=cs[j]:=by
    have:(ys.flatMap flat)[j]? =cs[j]? :=by rw[hf,List.getElem?_take,if_pos (by omega)]
    rw[List.getElem?_eq_getElem hj,List.getElem?_eq_getElem hj']at this
    exact Option.some.inj this
   rw[e1];exact hvv j hj'
  cases hv with
  | bs _ _ _ cap _ hrow hn' hm'=>
   subst hm
   suffices hsrc:Src P n t (.slice (some ⟨b,0,none⟩) ys.length cap) ys.length (eC (fun j=>c.getD j Go.undef) (ys.flatMap flat).length) w from
    ⟨eC (fun j=>c.getD j Go.undef) (ys.flatMap flat).length,hsrc,by simp[eC],hone,fun j hj=>by rw[lI _ _ j hj];exact hat j hj⟩
   refine Src.ofSlice w (fA he) ⟨b,0,none⟩ ys.length cap _ (by simp[eC,hfl]) (fun j u hu=> ?_) (fun u hu=> ?_)
   ·obtain⟨hj,rfl⟩:=List.getElem?_eq_some_iff.1 hu
    have hj':j < (ys.flatMap flat).length:=by simpa [eC] using hj
    rw[Addr.add_lit,Nat.zero_add]
    simp only[eC,List.getElem_map,List.getElem_range]
    rw[cell_of_row w b j c E (0,0) hc]
    have:j < c.size:=by omega
    simp[this]
   ·obtain⟨j,hj,rfl⟩:=List.mem_map.1 hu
    have hj':j < (ys.flatMap flat).length:=by simpa using hj
    refine(hat j hj').oneCell ?_
    obtain⟨a,haa,hca⟩:=List.mem_flatMap.1 (List.getElem_mem hj')
    exact(hone a haa).2 _ hca
def yA(P:Program)(σ:AS)(t tx:TypeId)(s x:AV)(K:AV ->AS ->Prop):Prop:=
 ∃ e n bZ ys,dU P t=some (e,n,bZ) /\ E5k P σ tx x ys /\ (∀ a,a ∈ ys -> (flat a).length=n) /\
  ((s= .nil /\ ys ≠ [] /\ ys.length*bZ <=140737488355328 /\ ∀ b,σ.fresh b ->K (.bs b ys.length n e) (σ.setBox b (ys.flatMap flat))) \/
   ∃ b m cs,s= .bs b m n e /\ σ.box b=some cs /\ m*n <=cs.length /\ (m+ys.length)*bZ <=140737488355328 /\ K (.bs b (m+ys.length) n e) (σ.setBox b (cs.take (m*n)++ys.flatMap flat)) /\
    ∀ b',σ.fresh b' ->K (.bs b' (m+ys.length) n e) (σ.setBox b' (cs.take (m*n)++ys.flatMap flat)))
theorem A6u{P:Program}{σ:AS}{t tx:TypeId}{s x:AV}{K K':AV ->AS ->Prop}(hk:∀ r s,K r s ->K' r s)(h:yA P σ t tx s x K):yA P σ t tx s x K':=by
 obtain⟨e,n,bZ,ys,h1,h2,h3,h4⟩:=h
 refine⟨e,n,bZ,ys,h1,h2,h3,?_⟩
 rcases h4 with⟨g1,g2,g3,g4⟩|⟨b,m,cs,g1,g2,g3,g4,g5,g6⟩
 ·exact .inl ⟨g1,g2,g3,fun b hb=>hk _ _ (g4 b hb)⟩
 ·exact .inr ⟨b,m,cs,g1,g2,g3,g4,hk _ _ g5,fun b hb=>hk _ _ (g6 b hb)⟩
theorem A3k {P:Program} {G:Nat ->AV} {K:bO} {σ:AS} {w:World} (hr:cV G K σ w) {t tx ty:TypeId} {s x:AV} {Kc:AV ->AS ->Prop} (h:yA P σ t tx s x Kc)
  {v u:Value} (hv:VR K s v) (hu:VR K x u):
  ∃ z w' K' r σ',(Builtin.append_ #[t,tx] ty #[v,u]).run P w= .ok z w' /\ K.le K' /\ cV G K' σ' w' /\ VR K' r z /\ Kc r σ':=by
 obtain⟨e,n,bZ,ys,hel,hsrc,hys,h⟩:=h
 obtain⟨ht,i,z,hi,hz,hsz,hby,hzs,hn0,hb0,_⟩:=oS (K:=K) hel
 obtain⟨news,hS,hnl,hyv,hnv⟩:=C1b hr hsrc hys hu
 subst hsz
 have hyl:=bV (sz:=i.size) ys hys
 rcases h with⟨rfl,hne,hbytes,hK⟩|⟨b,m,cs0,rfl,hb0',hcl0,hbytes,hK1,hK2⟩
 ·rw[VR.nil_iff]at hv;subst hv
  obtain⟨z',w',K',h2,h3,h4,h5⟩:=qQ (cs:=[]) (nas:=ys.flatMap flat) (xl:=0) (yl:=ys.length) (P:=P) (ty:=ty) hr ht hi hz rfl hby hzs hn0 hb0 (by simp) hyl (fun a ha=>by cases ha) (lC hyv) none 0 [] rfl (fun j hj=>by cases hj)
   (by simp[Builtin.firstCells]) u news hS hnl hnv (by have:=List.length_pos_iff.2 hne;omega) (by simpa using hbytes)
  refine⟨z',w',K',_,_,h2,h3,h4,h5,?_⟩
  have:=hK w.heap.size (hr.fresh (Nat.le_refl _))
  simpa using this
 ·obtain⟨g1,g2,g3,g4,g5,c,F,hc,hs,hvv⟩:=hr.box b cs0 hb0'
  obtain⟨cs,hcs⟩:∃ cs,cs=cs0.take (m*i.size):=⟨_,rfl⟩
  have hcl:cs.length=m*i.size:=by rw[hcs,List.length_take];omega
  have g5':∀ a,a ∈ cs ->one a=true:=fun a ha=>g5 a (by rw[hcs]at ha;exact List.mem_of_mem_take ha)
  have hvv':∀ j (hj:j < cs.length),VR K cs[j] (c.getD j Go.undef):=fun j hj=>by
   have e1:cs[j]=cs0[j]'(by omega):=by
    have:cs[j]? =cs0[j]? :=by rw[hcs,List.getElem?_take,if_pos (by omega)]
    rw[List.getElem?_eq_getElem hj,List.getElem?_eq_getElem (by omega)]at this
    exact Option.some.inj this
   rw[e1];exact hvv j (by omega)
  rw[<- hcs]at hK1 hK2
  cases hv with
  | bs _ _ _ cap _ hrow hn hm=>
   obtain⟨cur,fz,hcur,hcsz,hml,_⟩:=hr.row b cap i.size e hrow
   rw[hc]at hcur
   simp only[Option.some.injEq,Obj.cells.injEq]at hcur
   obtain⟨rfl,hFe,_⟩:=hcur
   rw[hFe]at hc
   by_cases hroom:m+ys.length <=cap
   ·have hle2:(m+ys.length)*i.size <=cap*i.size:=Nat.mul_le_mul_right _ hroom
    have hadd:(m+ys.length)*i.size=m*i.size+ys.length*i.size:=Nat.add_mul _ _ _
    have hrun:=run_append_room_src (P:=P) w t tx ty e i ht hi b 0 m cap u ys.length news hS hroom
     (fun j hj=>by
       rw[cell_of_row w b _ c e (0,0) hc]
       have:m*i.size+j < c.size:=by omega
       simp[this])
     (fun j hj=>by simp[World.frozen?,hc])
    rw[Nat.zero_add]at hrun
    have hsh:=hr.shrink hb0' (m*i.size)
    rw[<- hcs]at hsh
    have hrel:=hsh.growMut (cs:=cs) (by simp[AS.setBox]) hrow hcl news (ys.flatMap flat) ys.length (by rw[hnl,hyl]) hnl.symm hroom (lC hyv) hnv
    have e1:(σ.setBox b cs).setBox b (cs++ys.flatMap flat)=σ.setBox b (cs++ys.flatMap flat):=by
     unfold AS.setBox
     congr 1
     funext j
     show(if j=b then some (cs++ys.flatMap flat)else if j=b then some cs else σ.box j)=(if j=b then some (cs++ys.flatMap flat)else σ.box j)
     split <;>rfl
    rw[e1]at hrel
    exact⟨_,_,K,_,_,hrun,bO.le.refl K,hrel, .bs b _ i.size cap e hrow hroom hm,hK1⟩
   ·obtain⟨z',w',K',h2,h3,h4,h5⟩:=qQ (cs:=cs) (nas:=ys.flatMap flat) (xl:=m) (yl:=ys.length) (P:=P) (ty:=ty) hr ht hi hz rfl hby hzs hn0 hb0 hcl hyl g5' (lC hyv) (some ⟨b,0,none⟩) cap (eC (fun j=>c.getD j Go.undef) cs.length) (by simp[eC])
     (fun j hj=>by rw[lI _ _ j hj];exact hvv' j hj)
     (by
       refine run_firstCells_some w.drew i.size m ⟨b,0,none⟩ m cap _ (by simp[eC,hcl]) (fun j y hy=> ?_)
       obtain⟨hj,rfl⟩:=List.getElem?_eq_some_iff.1 hy
       have hj':j < cs.length:=by simpa [eC] using hj
       rw[Addr.add_lit]
       simp only[eC,List.getElem_map,List.getElem_range]
       have:w.drew.cell? ⟨b,0+j,none⟩=w.cell? ⟨b,j,none⟩:=by rw[Nat.zero_add];rfl
       rw[this,cell_of_row w b j c e (0,0) hc]
       have:j < c.size:=by omega
       simp[this]) u news hS hnl hnv (by omega) hbytes
    exact⟨z',w',K',_,_,h2,h3,h4,h5,hK2 w.heap.size (hr.fresh (Nat.le_refl w.heap.size))⟩
def uD(P:Program)(σ:AS)(t tx:TypeId)(s x:AV)(K:AV ->AS ->Prop):Prop:=pD P σ t tx s x K \/ uE P σ t tx s x K \/ yA P σ t tx s x K
theorem A3m {P:Program} {G:Nat ->AV} {K:bO} {σ:AS} {w:World} (hr:cV G K σ w) {t tx ty:TypeId} {s x:AV} {Kc:AV ->AS ->Prop} (h:uD P σ t tx s x Kc)
  {v u:Value} (hv:VR K s v) (hu:VR K x u):
  ∃ z w' K' r σ',(Builtin.append_ #[t,tx] ty #[v,u]).run P w= .ok z w' /\ K.le K' /\ cV G K' σ' w' /\ VR K' r z /\ Kc r σ':=by
 rcases h with h|h|h
 ·exact A3l hr h hv hu
 ·exact A3n hr h hv hu
 ·exact A3k hr h hv hu
theorem A6v{P:Program}{σ:AS}{t tx:TypeId}{s x:AV}{K K':AV ->AS ->Prop}(hk:∀ r s,K r s ->K' r s)(h:uD P σ t tx s x K):uD P σ t tx s x K':=by
 rcases h with h|h|h
 ·refine .inl ?_
  unfold pD at h ⊢
  split at h
  ·refine⟨h.1,?_⟩
   have h2:=h.2
   split at h2
   ·exact⟨h2.1,h2.2.1,fun b hb=>hk _ _ (h2.2.2 b hb)⟩
   ·obtain⟨g0,cs,g1,g2,g3,g4⟩:=h2
    exact⟨g0,cs,g1,g2,g3,fun b hb=>hk _ _ (g4 b hb)⟩
   ·exact h2.elim
  ·exact h.elim
 ·refine .inr (.inl ?_)
  unfold uE at h ⊢
  split at h
  ·exact⟨h.1,h.2.1,fun b hb=>hk _ _ (h.2.2 b hb)⟩
  ·exact h.elim
 ·exact .inr (.inr (A6u hk h))
def A1n(P:Program)(σ:AS)(pt:TypeId)(x n:AV)(K:AV ->AS ->Prop):Prop:=
 match x,n with
 | .nilptr, .int k n=> (k= .i64 /\ n=0) /\ K (.str []) σ
 | .bp b s E, .int k n=>k= .i64 /\ s=1 /\ sk P pt= .ptr E /\ P.cellsOf E=1 /\ ∃ l:List UInt8,σ.box b=some (l.map fun c=> .int .u8 c.toNat) /\ l ≠ [] /\ n=l.length /\ K (.str l) (σ.delBox b)
 |_,_=>False
theorem B8j{P:Program}{σ:AS}{pt:TypeId}{x n:AV}{K K':AV ->AS ->Prop}(hk:∀ r s,K r s ->K' r s)(h:A1n P σ pt x n K):A1n P σ pt x n K':=by
 unfold A1n at h ⊢
 split at h
 ·exact⟨h.1,hk _ _ h.2⟩
 ·obtain⟨g0,g1,g2,g3,l,g4,g5,g6,g7⟩:=h
  exact⟨g0,g1,g2,g3,l,g4,g5,g6,hk _ _ g7⟩
 ·exact h.elim
theorem B3q {P:Program} {G:Nat ->AV} {K:bO} {σ:AS} {w:World} (hr:cV G K σ w) {pt it ty:TypeId} {x n:AV} {Kc:AV ->AS ->Prop} (h:A1n P σ pt x n Kc)
  {v u:Value} (hv:VR K x v) (hu:VR K n u):
  ∃ z w' r σ',(Builtin.unsafeString_ #[pt,it] ty #[v,u]).run P w= .ok z w' /\ cV G K σ' w' /\ VR K r z /\ Kc r σ':=by
 unfold A1n at h
 split at h
 ·rename_i k n
  obtain⟨⟨rfl,rfl⟩,hK⟩:=h
  rw[VR.nilptr_iff]at hv;subst hv
  rw[VR.int_iff]at hu;subst hu
  exact⟨_,w,_,σ,Lib.run_unsafeString_none w _ _ _ none,hr, .str [],hK⟩
 ·rename_i b s E k n
  obtain⟨rfl,rfl,hp,hc1,l,hb,hl0,rfl,hK⟩:=h
  rw[VR.int_iff]at hu;subst hu
  cases hv with
  | bp _ _ cap _ hrow=>
   obtain⟨g1,g2,g3,g4,g5,c,F,hc,hs,hvv⟩:=hr.box b _ hb
   obtain⟨cur,fz,hcur,hcsz,hml,_⟩:=hr.row b cap 1 E hrow
   rw[hc]at hcur
   simp only[Option.some.injEq,Obj.cells.injEq]at hcur
   obtain⟨rfl,rfl,_⟩:=hcur
   simp only[List.length_map]at hs
   have hrun:=Lib.run_unsafeString_row (P:=P) w pt it ty F (A1a hp) hc1 b c.size (by simp[World.shape?,hc]) l hl0 hs (by unfold maxLen at hml;omega) (fun j y hy=>by
    obtain⟨hj,rfl⟩:=List.getElem?_eq_some_iff.1 hy
    have h1:=hvv j (by simpa using hj)
    simp only[List.getElem_map,VR.int_iff]at h1
    rw[Addr.add_lit,Nat.zero_add,cell_of_row w b j c F (0,0) hc]
    have hjc:j < c.size:=by omega
    simp only[Array.getD_eq_getD_getElem?,Array.getElem?_eq_getElem hjc,Option.getD_some]at h1
    rw[Array.getElem?_eq_getElem hjc,h1])
   refine⟨_,_,_,σ.delBox b,hrun,(hr.delBox b).marked g1 (by simp[AS.delBox]) g2, .str _,hK⟩
 ·exact h.elim
def byteOf:AV ->Option UInt8
 | .int .u8 n=>some (UInt8.ofNat n.toNat)
 |_=>none
def iI:List AV ->Option (List UInt8)
 |[]=>some []
 | a::l=>match byteOf a,iI l with
  |some b,some r=>some (b::r)
  |_,_=>none
def sY(P:Program)(s d:TypeId):Bool:=decide (sk P d= .str) && (el P s).any fun e=>decide (sk P e= .int .u8)
def gA(P:Program)(σ:AS)(s d:TypeId)(x:AV):Option AV:=
 match x with
 | .nil=>if sY P s d=true then some (.str [])else none
 | .sl _ xs _=>if sY P s d=true then(iI xs).map .str else none
 | .bs b n q _=>if sY P s d=true /\ q=1 then(match σ.box b with|some cs=>if cs.length=n then(iI cs).map .str else none|none=>none)else none
 |_=>uF P s d x
theorem sR:∀ (as:List AV) (r:List UInt8),iI as=some r ->∃ ns:List Int,as=ns.map (AV.int .u8) /\ r=ns.map fun n=>UInt8.ofNat n.toNat
 |[],r,h=>by simp only[iI,Option.some.injEq]at h;exact⟨[],rfl,h.symm⟩
 | a::as,r,h=>by
  unfold iI at h
  split at h
  case h_2=>cases h
  rename_i b r' hb hr
  simp only[Option.some.injEq]at h
  subst h
  obtain⟨ns,rfl,rfl⟩:=sR as r' hr
  unfold byteOf at hb
  split at hb
  ·rename_i n
   simp only[Option.some.injEq]at hb
   subst hb
   exact⟨n::ns,rfl,rfl⟩
  ·cases hb
theorem A4x:∀ (ns:List Int) (s:ByteArray),ns.foldl (fun r n=>r.push (UInt8.ofNat n.toNat)) s=⟨⟨s.data.toList++ns.map fun n=>UInt8.ofNat n.toNat⟩⟩
 |[],s=>by simp
 | n::ns,s=>by
  rw[List.foldl_cons,A4x ns]
  simp[ByteArray.push]
theorem A0c {P:Program} {w:World} {s d:TypeId} (hb:sY P s d=true) {a:Addr} {n c:Nat} {f:Nat ->Value} {as:List AV} {r:List UInt8} {K:bO} (hl:as.length=n) (hcell:∀ j,j < n ->w.cell? (a.add j)=some (f j))
  (hv:∀ j (h:j < as.length),VR K as[j] (f j)) (hr:iI as=some r):(convert s d (.slice (some a) n c)).run P w= .ok (.string ⟨⟨r⟩⟩) w:=by
 simp only[sY,Bool.and_eq_true,decide_eq_true_eq,Option.any_eq_true]at hb
 obtain⟨h1,e,h2,h3⟩:=hb
 obtain⟨ns,rfl,rfl⟩:=sR as r hr
 rw[run_convert_bytes_string w s d e (some a) n c (fA h2) (A0z h3) (tL h1)]
 have hnl:ns.length=n:=by simpa using hl
 have hlist:(List.range n).map f=ns.map (Value.int .u8):=by
  apply List.ext_getElem
  ·simp[hnl]
  ·intro j hj1 hj2
   have hj:j < ns.length:=by simpa using hj2
   have:=hv j (by simpa using hj)
   simp only[List.getElem_map,VR.int_iff]at this
   simp[this]
 have hload:=run_loadCells (P:=P) w a n f hcell
 rw[hlist]at hload
 rw[run_bytesToString w a n c ns hload,A4x]
 simp[ByteArray.empty,ByteArray.emptyWithCapacity];rfl
theorem B1s(ns:List Int):(ns.map (AV.int .u8)).flatMap flat=ns.map (AV.int .u8):=by
 induction ns with
 |nil=>rfl
 |cons n ns ih=>simp only[List.map_cons,List.flatMap_cons,ih];rfl
theorem B0s{P:Program}{G:Nat ->AV}{K:bO}{σ:AS}{w:World}(hr:cV G K σ w){s d:TypeId}{x r:AV}(h:gA P σ s d x=some r){v:Value}(hv:VR K x v):
  ∃ z w' K',(convert s d v).run P w= .ok z w' /\ K.le K' /\ cV G K' σ w' /\ VR K' r z:=by
 have none_:∀ (hb:sY P s d=true) (l c:Nat),(convert s d (.slice none l c)).run P w= .ok (.string ⟨⟨[]⟩⟩) w:=fun hb l c=>by
  simp only[sY,Bool.and_eq_true,decide_eq_true_eq,Option.any_eq_true]at hb
  obtain⟨h1,e,h2,h3⟩:=hb
  rw[run_convert_bytes_string w s d e none l c (fA h2) (A0z h3) (tL h1)]
  rfl
 unfold gA at h
 split at h
 ·split at h
  case isFalse=>cases h
  rename_i hb
  simp only[Option.some.injEq]at h;subst h
  rw[VR.nil_iff]at hv;subst hv
  exact⟨_,w,K,none_ hb 0 0,bO.le.refl K,hr, .str _⟩
 ·rename_i g xs sp
  split at h
  case isFalse=>cases h
  rename_i hb
  simp only[Option.map_eq_some_iff]at h
  obtain⟨l,h1,rfl⟩:=h
  cases hv with
  | sl0 a=>
   simp only[iI,Option.some.injEq]at h1;subst h1
   cases a with
   |none=>exact⟨_,w,K,none_ hb 0 0,bO.le.refl K,hr, .str _⟩
   |some a=>exact⟨_,w,K,A0c (K:=K) (f:=fun _=>Go.undef) (as:=[]) hb rfl (fun j hj=>by omega) (fun j hj=>by cases hj) rfl,bO.le.refl K,hr, .str _⟩
  | sl _ _ _ sz b off cap f hsz hcap hml himm hvv hg=>
   obtain⟨ns,rfl,e⟩:=sR xs l h1
   have hfl:((ns.map (AV.int .u8))++sp).flatMap flat=ns.map (AV.int .u8)++sp.flatMap flat:=by rw[List.flatMap_append,B1s]
   refine⟨_,w,K,A0c (K:=K) (f:=f) hb rfl (fun j hj=> ?_) (fun j hj=> ?_) h1,bO.le.refl K,hr, .str _⟩
   ·rw[Addr.add_lit]
    exact hr.imm _ _ _ (himm j (by rw[hfl,List.length_append];omega))
   ·have hj2:j < (((ns.map (AV.int .u8))++sp).flatMap flat).length:=by rw[hfl,List.length_append];omega
    have h2:=hvv j hj2
    have e3:(((ns.map (AV.int .u8))++sp).flatMap flat)[j]=(ns.map (AV.int .u8))[j]:=by
     simp only[hfl];rw[List.getElem_append_left hj]
    rw[e3]at h2;exact h2
 ·rename_i b n q F0
  split at h
  case isFalse=>cases h
  rename_i hb
  split at h
  case h_2=>cases h
  rename_i cs hcs
  split at h
  case isFalse=>cases h
  rename_i hn
  simp only[Option.map_eq_some_iff]at h
  obtain⟨l,h1,rfl⟩:=h
  obtain⟨g1,g2,g3,g4,g5,c,F,hc,hs,hvv⟩:=hr.box b cs hcs
  cases hv with
  | bs _ _ _ cap E hrow hnc hm=>
   refine⟨_,w,K,A0c (K:=K) (f:=fun j=>c.getD j Go.undef) hb.1 hn (fun j hj=> ?_) hvv h1,bO.le.refl K,hr, .str _⟩
   rw[Addr.add_lit,Nat.zero_add,cell_of_row w b j c F (0,0) hc]
   have:j < c.size:=by omega
   simp[this]
 ·exact B0r hr h hv
end Go.Av
namespace Go.Av
open Go Go.RowKit
section
variable {P:Program} {G:Nat ->AV} {K:bO} {σ:AS} {w:World}
theorem OR.noCell{a:AO}{x:Obj}(k:OR K a x){b o:Nat}(hx:w.heap[b]? =some x):w.cell? ⟨b,o,none⟩=none:=by
 cases k;simp[World.cell?,hx]
theorem cV.addOb(h:cV G K σ w){a:AO}{x:Obj}(ho:OR K a x):cV G K (σ.setTy w.heap.size (.ob a,0)) (w.alloc x):=by
 have h':=h.alloc x
 refine⟨h'.imm,h'.row,h'.box,h'.tip,fun i E n hi=> ?_,h'.glob,h'.below,h'.bs⟩
 have hi':(if i=w.heap.size then some ((TyE.ob a),0)else σ.ty i)=some (E,n):=hi
 split at hi'
 ·rename_i e
  subst e
  cases hi'
  exact⟨h.bs,x,heap_alloc_new w x,ho⟩
 ·exact h'.ty i E n hi'
theorem cV.setOb(h:cV G K σ w){b n:Nat}{a a':AO}{x':Obj}(hb:σ.ty b=some (.ob a,n))(ho:OR K a' x'):cV G K (σ.setTy b (.ob a',n)) {w with heap:=w.heap.setIfInBounds b x'} :=by
 obtain⟨hbb,x,hx,hax⟩:=h.ty b _ _ hb
 have hlt:=(Array.getElem?_eq_some_iff.1 hx).1
 have old:∀ i,i ≠ b -> (w.heap.setIfInBounds b x')[i]? =w.heap[i]? :=fun i hi=>Array.getElem?_setIfInBounds_ne (Ne.symm hi)
 have new:(w.heap.setIfInBounds b x')[b]? =some x':=by simp[hlt]
 have nc:∀ {c E fz},¬ w.heap[b]? =some (.cells c E fz):=fun e=>by rw[hx]at e;cases e;exact hax.cells
 refine⟨fun i o v hv=> ?_,fun i cap s E hr=> ?_,fun i cs hi=> ?_,h.tip,fun i E m hi=> ?_,h.glob,?_,?_⟩
 ·have hne:i ≠ b:=by
   rintro rfl
   have:=h.imm _ _ _ hv
   rw[hax.noCell hx]at this;cases this
  rw[World.cell?_of_block (w:=w) (old i hne)];exact h.imm i o v hv
 ·obtain⟨cur,fz,h1,h2⟩:=h.row i cap s E hr
  have hne:i ≠ b:=by rintro rfl;exact nc h1
  exact⟨cur,fz,by rw[old i hne];exact h1,h2⟩
 ·obtain⟨h1,h2,h3,h4,h5,c,E,h6,h7⟩:=h.box i cs hi
  have hne:i ≠ b:=by rintro rfl;exact nc h6
  exact⟨h1,h2,h3,h4,h5,c,E,by rw[old i hne];exact h6,h7⟩
 ·have hi':(if i=b then some (TyE.ob a',n)else σ.ty i)=some (E,m):=hi
  split at hi'
  ·rename_i e
   subst e
   cases hi'
   exact⟨hbb,x',new,ho⟩
  ·rename_i hne
   exact(h.ty i E m hi').old (old i hne)
 ·exact h.below.trans ⟨rfl,rfl,rfl,by simp,fun k hk=>old k (by omega)⟩
 ·have:=h.bs;simp;exact this
end
def A3v(P:Program)(σ:AS)(t:TypeId)(x:AV)(Kc:AV ->AS ->Prop):Prop:=
 match x with
 | .str s=>sk P t= .str /\ ∀ b,σ.fresh b ->Kc (.ptr b 0) (σ.setTy b (.ob (.iter s 0),0))
 |_=>False
def B4j(s:List UInt8)(p:Nat):Nat × Nat:=Utf8.decode ⟨⟨s⟩⟩ p
def B3m(σ:AS)(x:AV)(Kc:AV ->AS ->Prop):Prop:=
 match x with
 | .ptr b 0=> (match σ.ty b with
  |some (.ob (.iter s p),n)=> (p < s.length ->Kc (.tup [.bool true, .int .i64 p, .int .i32 (B4j s p).1]) (σ.setTy b (.ob (.iter s (p+(B4j s p).2)),n))) /\ (¬ p < s.length ->Kc (.tup [.bool false]) σ)
  |_=>False)
 |_=>False
theorem B0z{P:Program}{G:Nat ->AV}{K:bO}{σ:AS}{w:World}{t:TypeId}{x:AV}{v:Value}{Kc:AV ->AS ->Prop}(hr:cV G K σ w)(h:A3v P σ t x Kc)(hv:VR K x v):
  ∃ z w' r σ',(Instr.range t v).run P w= .ok z w' /\ cV G K σ' w' /\ VR K r z /\ Kc r σ':=by
 unfold A3v at h
 split at h
 case h_2=>exact h.elim
 rename_i s
 rw[VR.str_iff]at hv;subst hv
 have hu:P.underlying t=some .string:=tL h.1
 refine⟨.pointer (some ⟨w.heap.size,0,none⟩),w.alloc (.stringIter ⟨⟨s⟩⟩ 0), .ptr w.heap.size 0,_,?_,hr.addOb (.iter s 0), .ptr _ _,h.2 _ (hr.fresh (Nat.le_refl _))⟩
 simp[Instr.range,run_underlying hu]
theorem B3n{P:Program}{G:Nat ->AV}{K:bO}{σ:AS}{w:World}{ty:TypeId}{x:AV}{v:Value}{Kc:AV ->AS ->Prop}(hr:cV G K σ w)(h:B3m σ x Kc)(hv:VR K x v):
  ∃ z w' r σ',(Instr.next v true ty).run P w= .ok z w' /\ cV G K σ' w' /\ VR K r z /\ Kc r σ':=by
 unfold B3m at h
 split at h
 case h_2=>exact h.elim
 rename_i b
 rw[VR.ptr_iff]at hv;subst hv
 split at h
 case h_2=>exact h.elim
 rename_i s p n hty
 obtain⟨h1,h2⟩:=h
 obtain⟨hb,x,hx,hax⟩:=hr.ty b _ _ hty
 cases hax
 have hget:(getObj b).run P w= .ok (.stringIter ⟨⟨s⟩⟩ p) w:=by simp[getObj,Sem.run,hx]
 have hsz:(⟨⟨s⟩⟩:ByteArray).size=s.length:=rfl
 by_cases hp:p < s.length
 ·have hset:(setObj b (.stringIter ⟨⟨s⟩⟩ (p+(B4j s p).2))).run P w= .ok () {w with heap:=w.heap.setIfInBounds b (.stringIter ⟨⟨s⟩⟩ (p+(B4j s p).2))} :=by
   simp[setObj,Sem.run,hx]
  refine⟨.tuple #[.bool true,goInt p, .int .i32 (B4j s p).1],_,_,_,?_,hr.setOb hty (.iter s (p+(B4j s p).2)),?_,h1 hp⟩
  ·have hd:Utf8.decode ⟨⟨s⟩⟩ p=((B4j s p).1,(B4j s p).2):=rfl
   simp only[Instr.next,Sem.run_bind,hget,Result.andThen_ok,hsz,hp,if_true,hd,hset,Sem.run_pure]
  ·refine .tup _ _ rfl (fun j hj=> ?_)
   match j,hj with
   |0,_=>exact .bool true
   |1,_=>exact .int .i64 p
   |2,_=>exact .int .i32 _
 ·refine⟨.tuple #[.bool false],w,_,_,?_,hr,?_,h2 hp⟩
  ·simp only[Instr.next,Sem.run_bind,hget,Result.andThen_ok,hsz,hp,if_false,Sem.run_pure]
  ·refine .tup _ _ rfl (fun j hj=> ?_)
   match j,hj with
   |0,_=>exact .bool false
end Go.Av
