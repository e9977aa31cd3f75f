/- Structs put together, stores, new memory, appends, on abstract values. -/
import Derived.Test.YtinfbihcnonaoaaZ00
set_option linter.unusedVariables false
set_option linter.unusedSimpArgs false
namespace Go.Av
open Go Go.RowKit
structure CR(K:aJ)(cs:List AV)(vs:Array Value):Prop where
 size:vs.size=cs.length
 one:∀ c,c ∈ cs ->one c=true
 at_:∀ j (h:j < cs.length),VR K cs[j] (vs.getD j Go.undef)
theorem CR.mono{K K':aJ}(h:K.le K'){cs:List AV}{vs:Array Value}(k:CR K cs vs):CR K' cs vs:=⟨k.size,k.one,fun j hj=> (k.at_ j hj).mono h⟩
theorem CR.cells{K:aJ}{a:AV}{v:Value}(h:VR K a v)(h1:isv a=true):CR K (flat a) v.cells:=⟨(h.cells h1).1,(h.cells h1).2.1,(h.cells h1).2.2⟩
theorem zL(off:Nat):∀ (l:List Value) (k:Nat) (cells:Array Value),
  ((l.zipIdx k).foldl (fun cs (x:Value × Nat)=>cs.setIfInBounds (off+x.2) x.1) cells).size=cells.size /\
  ∀ i,((l.zipIdx k).foldl (fun cs (x:Value × Nat)=>cs.setIfInBounds (off+x.2) x.1) cells).getD i Go.undef=
   if off+k <=i /\ i < off+k+l.length /\ i < cells.size then l.getD (i - off - k) Go.undef else cells.getD i Go.undef
 |[],k,cells=> ⟨rfl,fun i=>by rw[if_neg (by simp;omega)];rfl⟩
 | c ::l,k,cells=>by
  simp only[List.zipIdx_cons,List.foldl_cons]
  obtain⟨h1,h2⟩:=zL off l (k+1) (cells.setIfInBounds (off+k) c)
  refine⟨by rw[h1];simp,fun i=> ?_⟩
  rw[h2 i]
  simp only[Array.size_setIfInBounds,List.length_cons]
  by_cases hi:off+(k+1) <=i /\ i < off+(k+1)+l.length /\ i < cells.size
  ·rw[if_pos hi,if_pos (by omega),show i - off - k=(i - off - (k+1))+1 by omega]
   rfl
  ·rw [if_neg hi]
   by_cases hk:i=off+k
   ·subst hk
    by_cases hlt:off+k < cells.size
    ·rw[if_pos (by omega),show off+k - off - k=0 by omega]
     simp[hlt]
    ·rw[if_neg (by omega)]
     simp[hlt]
   ·rw[if_neg (by omega)]
    simp only[Array.getD_eq_getD_getElem?]
    rw[Array.getElem?_setIfInBounds_ne (Ne.symm hk)]
theorem CR.splice{K:aJ}{cs xs:List AV}{vs us:Array Value}(h:CR K cs vs)(k:CR K xs us)(off:Nat)(hf:off+xs.length <=cs.length):
  CR K (cs.take off++xs++cs.drop (off+xs.length)) (us.zipIdx.foldl (fun(cs:Array Value) (x:Value × Nat)=>cs.setIfInBounds (off+x.2) x.1) vs):=by
 have e:us.zipIdx.foldl (fun(cs:Array Value) (x:Value × Nat)=>cs.setIfInBounds (off+x.2) x.1) vs=(us.toList.zipIdx 0).foldl (fun(cs:Array Value) (x:Value × Nat)=>cs.setIfInBounds (off+x.2) x.1) vs:=by
  rw[<- Array.foldl_toList,Array.toList_zipIdx]
 obtain⟨h1,h2⟩:=zL off us.toList 0 vs
 rw[e]
 refine⟨by rw[h1,h.size];simp;omega,fun c hc=> ?_,fun j hj=> ?_⟩
 ·simp only[List.mem_append]at hc
  rcases hc with(hc|hc)|hc
  ·exact h.one c (List.mem_of_mem_take hc)
  ·exact k.one c hc
  ·exact h.one c (List.mem_of_mem_drop hc)
 ·rw [h2 j]
  have hus:=k.size
  have hvs:=h.size
  have hjl:j < cs.length:=by simp at hj;omega
  by_cases h3:off <=j /\ j < off+xs.length
  ·rw[if_pos (by simp;omega)]
   have hx:(cs.take off++xs++cs.drop (off+xs.length))[j]=xs[j - off]'(by omega):=by
    rw[List.getElem_append_left (by simp;omega),List.getElem_append_right (by simp;omega)]
    congr 1;simp;omega
   rw[hx]
   have:=k.at_ (j - off) (by omega)
   simpa using this
  ·rw [if_neg (by simp;omega)]
   have hx:(cs.take off++xs++cs.drop (off+xs.length))[j]=cs[j]:=by
    by_cases h4:j < off
    ·rw[List.getElem_append_left (by simp;omega),List.getElem_append_left (by simp;omega)]
     simp
    ·rw[List.getElem_append_right (by simp;omega),List.getElem_drop]
     congr 1;simp;omega
   rw[hx]
   exact h.at_ j hjl
def gZ(place:Nat ->Option (Nat × Nat))(cells:List AV):List (Nat × AV) ->Option (List AV)
 |[]=>some cells
 | (i,v)::rest=>
  match place i with
  |none=>none
  | some (off,size)=>
   if isv v=true /\ (flat v).length=size /\ off+size <=cells.length then gZ place (cells.take off++flat v++cells.drop (off+size)) rest else none
def VRp(K:aJ):List (Nat × AV) ->List (Nat × Value) ->Prop
 |[],[]=>True
 |(i,a)::l,(j,v)::r=>i=j /\ VR K a v /\ VRp K l r
 |_,_=>False
theorem lP{K:aJ}{place:Nat ->Option (Nat × Nat)} :∀ (ps:List (Nat × AV)) (qs:List (Nat × Value)) (cs r:List AV) (vs:Array Value),
  VRp K ps qs ->CR K cs vs ->gZ place cs ps=some r ->∃ us,Instr.fill place vs qs=some us /\ CR K r us
 | [],[],cs,r,vs,_,hc,h=>by
  simp only[gZ,Option.some.injEq]at h;subst h
  exact⟨vs,rfl,hc⟩
 | (i,a)::ps,(j,v)::qs,cs,r,vs,⟨hij,hv,hp⟩,hc,h=>by
  subst hij
  unfold gZ at h
  split at h
  ·cases h
  rename_i off size hpl
  split at h
  ·rename_i hx
   obtain⟨hx1,hx2,hx3⟩:=hx
   have hcv:=CR.cells hv hx1
   have hs:=hc.splice hcv off (by omega)
   rw[hx2]at hs
   obtain⟨us,hus,hcr⟩:=lP ps qs _ r _ hp hs h
   refine⟨us,?_,hcr⟩
   unfold Instr.fill
   rw[hpl]
   have h1:v.cells.size=size:=by rw[hcv.size,hx2]
   have h2:=hc.size
   simp only[h1,ne_eq,not_true_eq_false,decide_false,Bool.false_or]
   rw[if_neg (by simp;omega)]
   exact hus
  ·cases h
 |[],_::_,_,_,_,h,_,_=>h.elim
 |_::_,[],_,_,_,h,_,_=>h.elim
section tables
variable (P:Program)
def zc(t:TypeId):Option (List AV):=
 match(P.info? t).bind (·.zero)with
 |some z=>if z.cells.toList.all (fun c=>one (ofCell c))then some (z.cells.toList.map ofCell)else none
 |none=>none
def jR(t:TypeId):Option (List (Nat × Nat)):=
 match P.underlying t with
 |some (.struct fs)=>fs.toList.mapM (fun f=> (P.info? f.type).map fun i=> (f.offset,i.size))
 |_=>none
def cM(t:TypeId):Option Nat:=(P.info? t).map (·.bytes)
end tables
theorem oV{P:Program}{K:aJ}{t:TypeId}{cs:List AV}(h:zc P t=some cs):∃ i z,P.info? t=some i /\ i.zero=some z /\ CR K cs z.cells:=by
 unfold zc at h
 split at h
 ·rename_i z hz
  cases hi:P.info? t with
  |none=>rw[hi]at hz;cases hz
  | some i=>
   rw[hi]at hz
   split at h
   ·rename_i h1
    simp only[Option.some.injEq]at h;subst h
    refine⟨i,z,rfl,hz,by simp,fun c hc=> ?_,VR.ofCells K z.cells⟩
    obtain⟨x,hx,rfl⟩:=List.mem_map.1 hc
    exact List.all_eq_true.1 h1 x hx
   ·cases h
 ·cases h
theorem sY{P:Program}{t:TypeId}{i:TypeInfo}{z:Value}(hi:P.info? t=some i)(hz:i.zero=some z)(w:World):(zeroValue t).run P w= .ok z w:=by
 simp[zeroValue,typeInfo,hi,hz]
def pD(P:Program)(t:TypeId)(ps:List (Nat × AV)):Option AV:=
 match jR P t,zc P t with
 |some pl,some z=> (gZ (pl[·]?) z ps).map .agg
 |_,_=>none
theorem vP{P:Program}{K:aJ}{w:World}{t:TypeId}{ps:List (Nat × AV)}{r:AV}(h:pD P t ps=some r){qs:List (Nat × Value)}(hv:VRp K ps qs):
  ∃ z,(Instr.build t qs.toArray).run P w= .ok z w /\ VR K r z:=by
 unfold pD at h
 split at h
 ·rename_i pl z hpl hz
  obtain⟨i,zv,hi,hzv,hcr⟩:=oV (K:=K) hz
  cases hf:gZ (pl[·]?) z ps with
  |none=>rw[hf]at h;cases h
  | some cells=>
   rw[hf]at h
   simp only[Option.map_some,Option.some.injEq]at h;subst h
   obtain⟨us,hus,hcu⟩:=lP ps qs z cells zv.cells hv hcr hf
   refine⟨.agg us,run_build w t qs.toArray us ?_, .agg _ _ hcu.size hcu.one hcu.at_⟩
   unfold jR at hpl
   split at hpl
   ·rename_i fs hu
    unfold Program.built
    simp only[hi,hu,hzv,hpl]
    simpa using hus
   ·cases hpl
 ·cases h
def fG(P:Program)(σ:AS)(t:TypeId)(p x:AV):Option AS:=
 match tk P t,p with
 | some (_,n), .ptr b o=>match σ.box b with
  |some cs=>if isv x=true /\ (flat x).length=n /\ o+n <=cs.length then some (σ.setBox b (cs.take o++flat x++cs.drop (o+n)))else none
  |none=>none
 |_,_=>none
theorem wH{P:Program}{G:Nat ->AV}{K:aJ}{σ σ':AS}{w:World}(hr:aZ G K σ w){t:TypeId}{p x:AV}(h:fG P σ t p x=some σ'){v u:Value}(hv:VR K p v)(hu:VR K x u):
  ∃ w',(Instr.storeAt t v u).run P w= .ok () w' /\ aZ G K σ' w':=by
 unfold fG at h
 split at h
 ·rename_i ag n b o hn
  split at h
  ·rename_i cs hb
   split at h
   ·rename_i hc
    obtain⟨h1,h2,h3⟩:=hc
    simp only[Option.some.injEq]at h;subst h
    rw[VR.ptr_iff]at hv;subst hv
    obtain⟨_,hsz,_⟩:=fY hn w
    obtain⟨g1,g2,g3,g4,g5,c,E,hcc,hcs,hcv⟩:=hr.box b cs hb
    have hcu:=CR.cells hu h1
    have hus:u.cells.size=n:=by rw[hcu.size,h2]
    have h1c:∀ y,y ∈ u.cells.toList ->y.oneCell'=true:=by
     intro y hy
     obtain⟨j,hj,rfl⟩:=List.getElem_of_mem hy
     have hj':j < (flat x).length:=by simpa [hcu.size] using hj
     have:=(hcu.at_ j hj').oneCell (hcu.one _ (List.getElem_mem hj'))
     have hjs:j < u.cells.size:=by simpa using hj
     simpa [Array.getD,hjs] using this
    have hst:=run_storeCells_at P b o E u.cells.toList 0 c w hcc (by simp;omega) h1c
    have hnew:(cs.take o++flat x++cs.drop (o+n)).length <=(c.toList.take o++u.cells.toList++c.toList.drop (o+u.cells.size)).toArray.size /\ (∀ y,y ∈ cs.take o++flat x++cs.drop (o+n) ->one y=true) /\
      ∀ j (hj:j < (cs.take o++flat x++cs.drop (o+n)).length),VR K (cs.take o++flat x++cs.drop (o+n))[j] ((c.toList.take o++u.cells.toList++c.toList.drop (o+u.cells.size)).toArray.getD j Go.undef):=by
     refine⟨by simp;omega,fun y hy=> ?_,fun j hj=> ?_⟩
     ·simp only[List.mem_append]at hy
      rcases hy with(hy|hy)|hy
      ·exact g5 y (List.mem_of_mem_take hy)
      ·exact hcu.one y hy
      ·exact g5 y (List.mem_of_mem_drop hy)
     ·have hjl:j < cs.length:=by simp at hj;omega
      simp only[Array.getD_eq_getD_getElem?,List.getElem?_toArray]
      by_cases h4:j < o
      ·rw[List.getElem_append_left (by simp;omega),List.getElem_append_left (by simp;omega)]
       rw[List.getElem?_append_left (by simp;omega),List.getElem?_append_left (by simp;omega)]
       have:=hcv j hjl
       simpa [h4,Array.getD_eq_getD_getElem?] using this
      ·by_cases h5:j < o+n
       ·rw[List.getElem_append_left (by simp;omega),List.getElem_append_right (by simp;omega)]
        rw[List.getElem?_append_left (by simp;omega),List.getElem?_append_right (by simp;omega)]
        have:=hcu.at_ (j - o) (by omega)
        have e1:min o cs.length=o:=by omega
        have e2:min o c.size=o:=by omega
        simpa [e1,e2,Array.getD_eq_getD_getElem?] using this
       ·rw[List.getElem_append_right (by simp;omega),List.getElem_drop]
        rw[List.getElem?_append_right (by simp;omega),List.getElem?_drop]
        have e1:o+n+(j - (List.take o cs++flat x).length)=j:=by simp;omega
        have e2:o+u.cells.size+(j - (List.take o c.toList++u.cells.toList).length)=j:=by simp;omega
        have:=hcv j hjl
        simp only[e1,e2]
        simpa [Array.getD_eq_getD_getElem?] using this
    refine⟨_,?_,hr.setBox hb hcc _ (by simp;omega) hnew.1 hnew.2.1 hnew.2.2⟩
    unfold Instr.storeAt storeVar
    simp only[Nat.add_zero,Array.length_toList]at hst
    simp[Instr.sureAddr,hsz,hus,hst]
   ·cases h
  ·cases h
 ·cases h
theorem yR{P:Program}{G:Nat ->AV}{K:aJ}{σ:AS}{w:World}(hr:aZ G K σ w){E:TypeId}{z:List AV}(h:zc P E=some z):
  (Instr.alloc E true (.tuple #[])).run P w= .ok (.pointer (some ⟨w.heap.size,0,none⟩)) (w.alloc (.cells ((((P.info? E).bind (·.zero)).getD default).cells) E)) /\
    aZ G K (σ.setBox w.heap.size z) (w.alloc (.cells ((((P.info? E).bind (·.zero)).getD default).cells) E)):=by
 obtain⟨i,zv,hi,hz,hcr⟩:=oV (K:=K) h
 have e:((P.info? E).bind (·.zero)).getD default=zv:=by simp[hi,hz]
 rw[e]
 refine⟨?_,hr.addBox _ E z (Nat.le_of_eq hcr.size.symm) hcr.one hcr.at_⟩
 unfold Instr.alloc
 simp[sY hi hz,newVar,newRow]
theorem A6h{P:Program}{G:Nat ->AV}{K:aJ}{σ:AS}{w:World}(hr:aZ G K σ w)(E:TypeId){x:AV}{v:Value}(hv:VR K x v)(h1:isv x=true):
  (Instr.box E v).run P w= .ok (.pointer (some ⟨w.heap.size,0,none⟩)) (w.alloc (.cells v.cells E)) /\ aZ G K (σ.setBox w.heap.size (flat x)) (w.alloc (.cells v.cells E)):=by
 have hcr:=CR.cells hv h1
 refine⟨?_,hr.addBox _ E _ (Nat.le_of_eq hcr.size.symm) hcr.one hcr.at_⟩
 unfold Instr.box
 simp[newVar,newRow]
theorem aZ.addImm{G:Nat ->AV}{K:aJ}{σ:AS}{w:World}(h:aZ G K σ w)(c:Array Value)(E:TypeId):
  ∃ K',K.le K' /\ aZ G K' σ (w.alloc (.cells c E)) /\ (∀ o,o < c.size ->K'.imm w.heap.size o=some (c.getD o Go.undef)) /\ K'.row=K.row:=by
 have h':=h.alloc (.cells c E)
 have hf:=h.fresh (Nat.le_refl w.heap.size)
 obtain⟨k1,k2⟩:=h'.keep w.heap.size (fun _=>true) hf.1 (fun n s hn=>by rw[hf.2.1]at hn;cases hn)
 refine⟨_,k1,k2,fun o ho=> ?_,rfl⟩
 show(if w.heap.size=w.heap.size /\ true=true then(w.alloc (.cells c E)).cell? ⟨w.heap.size,o,none⟩else K.imm w.heap.size o)=_
 rw[if_pos ⟨rfl,rfl⟩,World.cell?_alloc_new]
 simp[ho]
theorem uL{n:Nat} :∀ (xs:List AV) (k:Nat) (cells:List AV),(∀ a,a ∈ xs ->isv a=true /\ (flat a).length=n) -> (k+xs.length)*n <=cells.length ->
  gZ (fun i=>some (i*n,n)) cells ((List.range' k xs.length).zip xs)=some (cells.take (k*n)++xs.flatMap flat++cells.drop ((k+xs.length)*n))
 |[],k,cells,_,_=>by simp[gZ]
 | x::xs,k,cells,h,hl=>by
  obtain⟨h1,h2⟩:=h x (by simp)
  simp only[List.length_cons]at hl ⊢
  simp only[List.range'_succ,List.zip_cons_cons,gZ]
  have e0:(k+(xs.length+1))*n=(k+1+xs.length)*n:=by rw[show k+(xs.length+1)=k+1+xs.length by omega]
  have e1:k*n+n <=(k+(xs.length+1))*n:=by rw[<- Nat.succ_mul];exact Nat.mul_le_mul_right _ (by omega)
  rw[if_pos ⟨h1,h2,by omega⟩]
  have hlen:(cells.take (k*n)++flat x++cells.drop (k*n+n)).length=cells.length:=by simp;omega
  rw[uL xs (k+1) _ (fun a ha=>h a (by simp[ha])) (by rw[hlen];omega)]
  congr 1
  have e2:(k+1)*n=k*n+n:=Nat.succ_mul k n
  have e3:k*n+n <=(k+1+xs.length)*n:=by rw[<- e0];exact e1
  have t1:(cells.take (k*n)++flat x++cells.drop (k*n+n)).take ((k+1)*n)=cells.take (k*n)++flat x:=by
   rw[List.take_append_of_le_length (by simp;omega),List.take_of_length_le (by simp;omega)]
  have t2:(cells.take (k*n)++flat x++cells.drop (k*n+n)).drop ((k+1+xs.length)*n)=cells.drop ((k+(xs.length+1))*n):=by
   rw[List.drop_append,List.drop_eq_nil_of_le (by simp;omega),List.nil_append,List.drop_drop]
   congr 1
   rw[e0];simp;omega
  rw[t1,t2,List.flatMap_cons]
  simp[List.append_assoc]
def dG(P:Program)(t:TypeId)(len:Nat)(ps:List (Nat × AV)):Option AV:=
 match el P t with
 | some e=>match tk P e with
  | some (_,n)=>
   match cM P e with
   |some _=>
   if ps.map (·.1)=List.range len /\ (ps.map (·.2)).all (fun a=>isv a && decide ((flat a).length=n))=true /\ len*n <=16777216 /\ 0 < n /\ (zc P e).map List.length=some n then some (.sl .full (ps.map (·.2)) [])else none
   |none=>none
  |none=>none
 |none=>none
end Go.Av
namespace Go.Av
open Go Go.RowKit
theorem qP{α β:Type} :∀ (l:List (α × β)),(l.map (·.1)).zip (l.map (·.2))=l
 |[]=>rfl
 |x::l=>by simp[qP l]
theorem B6g{K:aJ}{z:List AV}{zv:Array Value}(h:CR K z zv)(m:Nat)(h0:0 < zv.size):
  CR K ((List.range m).map fun i=>z.getD (i % zv.size) .undef) ((Array.range m).map (zv[· % zv.size]!)):=by
 have hs:=h.size
 refine⟨by simp,fun c hc=> ?_,fun j hj=> ?_⟩
 ·obtain⟨i,_,rfl⟩:=List.mem_map.1 hc
  have hlt:i % zv.size < z.length:=by rw[<- hs];exact Nat.mod_lt _ h0
  rw[List.getD_eq_getElem?_getD,List.getElem?_eq_getElem hlt]
  exact h.one _ (List.getElem_mem hlt)
 ·have hjm:j < m:=by simpa using hj
  have hlt:j % zv.size < z.length:=by rw[<- hs];exact Nat.mod_lt _ h0
  have hlt':j % zv.size < zv.size:=Nat.mod_lt _ h0
  have:=h.at_ _ hlt
  simp only[Array.getD_eq_getD_getElem?]at this ⊢
  simp only[List.getElem_map,List.getElem_range,List.getD_eq_getElem?_getD,List.getElem?_eq_getElem hlt,Option.getD_some]
  simpa [hjm,hlt'] using this
theorem VR.sl_row {K:aJ} {g:Gh} {xs:List AV} {n b cap:Nat} {c:Array Value} (hx:∀ a,a ∈ xs -> (flat a).length=n /\ isv a=true /\ ∀ c,c ∈ flat a ->one c=true)
  (hcap:xs.length <=cap) (hml:cap <=maxLen) (himm:∀ o,o < xs.length*n ->K.imm b o=some (c.getD o Go.undef))
  (hv:∀ j (h:j < (xs.flatMap flat).length),VR K (xs.flatMap flat)[j] (c.getD j Go.undef)) (hg:g.ok K b 0 xs.length cap):
  VR K (.sl g xs []) (.slice (some ⟨b,0,none⟩) xs.length cap):=by
 have hl:=aS (sz:=n) xs (fun e he=> (hx e he).1)
 refine .sl g xs [] n b 0 cap (fun j=>c.getD j Go.undef) (fun e he=>hx e (by simpa using he)) (by simpa using hcap) hml (fun j hj=> ?_) (fun j hj=> ?_) hg
 ·simp only[List.append_nil]at hj
  rw[Nat.zero_add];exact himm j (by omega)
 ·have hj':j < (xs.flatMap flat).length:=by simpa using hj
  have:=hv j hj'
  simpa using this
theorem lE {P:Program} {K:aJ} {w:World} {t:TypeId} {len:Nat} {ps:List (Nat × AV)} {r:AV} (h:dG P t len ps=some r)
  {qs:List (Nat × Value)} (hv:VRp K ps qs):
  ∃ e ag n us,el P t=some e /\ tk P e=some (ag,n) /\ (Instr.buildSlice t len qs.toArray).run P w= .ok (.slice (some ⟨w.heap.size,0,none⟩) len len) (w.alloc (.cells us e)) /\ r= .sl .full (ps.map (·.2)) [] /\ us.size=len*n /\ len <=maxLen /\ (ps.map (·.2)).length=len /\
   (∀ a,a ∈ ps.map (·.2) ->isv a=true /\ (flat a).length=n) /\ CR K ((ps.map (·.2)).flatMap flat) us:=by
 unfold dG at h
 split at h
 case h_2=>cases h
 rename_i e he
 split at h
 case h_2=>cases h
 rename_i ag n hn
 split at h
 case h_2=>cases h
 split at h
 case isFalse=>cases h
 rename_i hc
 obtain⟨hc1,hc2,hc3,hc4,hc5⟩:=hc
 simp only[Option.some.injEq]at h;subst h
 obtain⟨z,hz,hzl⟩:=Option.map_eq_some_iff.1 hc5
 obtain⟨i,zv,hi,hzv,hcr⟩:=oV (K:=K) hz
 obtain⟨_,hsz,hsz2⟩:=fY hn w
 have hzn:zv.cells.size=n:=by rw[hcr.size,hzl]
 have hlen:(ps.map (·.2)).length=len:=by
  have:=congrArg List.length hc1;simpa using this
 have hall:∀ a,a ∈ ps.map (·.2) ->isv a=true /\ (flat a).length=n:=by
  intro a ha
  have:=List.all_eq_true.1 hc2 a ha
  simpa using this
 have hps:ps=(List.range' 0 (ps.map (·.2)).length).zip (ps.map (·.2)):=by
  conv=>lhs;rw[<- qP ps]
  rw[hc1,hlen,List.range_eq_range']
 have hz0:=B6g hcr (len*n) (by omega)
 have hfill:=uL (n:=n) (ps.map (·.2)) 0 ((List.range (len*n)).map fun i=>z.getD (i % zv.cells.size) .undef) hall (by rw[hlen];simp)
 rw[<- hps]at hfill
 obtain⟨us,hus,hcu⟩:=lP ps qs _ _ _ hv hz0 hfill
 have hflen:=aS (sz:=n) (ps.map (·.2)) (fun a ha=> (hall a ha).2)
 have hcells:(((List.range (len*n)).map fun i=>z.getD (i % zv.cells.size) .undef).take (0*n)++(ps.map (·.2)).flatMap flat++((List.range (len*n)).map fun i=>z.getD (i % zv.cells.size) .undef).drop ((0+(ps.map (·.2)).length)*n))=(ps.map (·.2)).flatMap flat:=by
  have hpl:ps.length=len:=by simpa using hlen
  rw[Nat.zero_mul,List.take_zero,List.nil_append,List.drop_eq_nil_of_le (by simp[hpl]),List.append_nil]
 rw[hcells]at hcu
 have hsize:us.size=len*n:=by rw[hcu.size,hflen,hlen]
 have hlml:len <=maxLen:=by
  unfold maxLen
  have:len*1 <=len*n:=Nat.mul_le_mul_left _ hc4
  omega
 refine⟨e,ag,n,us,he,hn,?_,rfl,hsize,hlml,hlen,hall,hcu⟩
 ·unfold Instr.buildSlice
  have hz1: ¬ (len*n >2 ^ 24):=by omega
  simp only[Sem.run_bind,run_underlying (bX he),hsz,Result.andThen_ok,if_neg hz1]
  by_cases h0:len*n=0
  ·have hl0:len=0:=by
    rcases Nat.mul_eq_zero.1 h0 with h|h
    ·exact h
    ·omega
   subst hl0
   have hp0:ps=[]:=by
    have:ps.length=0:=by simpa using hlen
    exact List.eq_nil_of_length_eq_zero this
   subst hp0
   cases qs with
   |cons=>exact hv.elim
   | nil=>
    simp only[Instr.fill,Option.some.injEq]at hus
    subst hus
    have ez:∀ (f g:Nat ->Value),(Array.range 0).map f=(Array.range 0).map g:=fun f g=>by apply Array.ext';simp
    simp[Instr.fill,newRow]
    exact congrArg (fun c=>w.alloc (Obj.cells c e)) (ez _ _)
  ·simp only[if_neg h0,Sem.run_bind,sY hi hzv,Result.andThen_ok,Sem.run_pure,hus,newRow]
   simp
theorem nX {P:Program} {G:Nat ->AV} {K:aJ} {σ:AS} {w:World} (hr:aZ G K σ w) {t:TypeId} {len:Nat} {ps:List (Nat × AV)} {r:AV} (h:dG P t len ps=some r)
  {qs:List (Nat × Value)} (hv:VRp K ps qs):
  ∃ z w' K',(Instr.buildSlice t len qs.toArray).run P w= .ok z w' /\ K.le K' /\ aZ G K' σ w' /\ VR K' r z:=by
 obtain⟨e,ag,n,us,he,hn,hrun,rfl,hsize,hlml,hlen,hall,hcu⟩:=lE (w:=w) h hv
 obtain⟨K',hK,hrel,himm,_⟩:=hr.addImm us e
 refine⟨_,_,K',hrun,hK,hrel,?_⟩
 have:=VR.sl_row (K:=K') (g:= .full) (xs:=ps.map (·.2)) (n:=n) (b:=w.heap.size) (cap:=(ps.map (·.2)).length) (c:=us)
  (fun a ha=> ⟨(hall a ha).2,(hall a ha).1,fun c hcm=>hcu.one c (List.mem_flatMap.2 ⟨a,ha,hcm⟩)⟩) (Nat.le_refl _)
  (by rw[hlen];exact hlml)
  (fun o ho=>himm o (by rw[hsize,<- hlen];exact ho)) (fun j hj=> (hcu.at_ j hj).mono hK) (by simp[Gh.ok])
 rw[hlen]at this
 exact this
def nB(P:Program)(t:TypeId):AV ->Option (List AV)
 | .sl _ ys _=>if(el P t).isSome then some ys else none
 | .nil=>if(el P t).isSome then some []else none
 | .str s=>if sk P t= .str then some (s.map fun c=> .int .u8 c.toNat)else none
 | .raw (.slice (some _) 0 _)=>if(el P t).isSome then some []else none
 |_=>none
def cC(f:Nat ->Value)(n:Nat):List Value:=(List.range n).map f
theorem fO(f:Nat ->Value)(n j:Nat)(h:j < n)(d:Value):(cC f n).getD j d=f j:=by
 simp[cC,h]
theorem iR(s:List UInt8):(s.map fun c=>AV.int .u8 c.toNat).flatMap flat=s.map fun c=>AV.int .u8 c.toNat:=by
 induction s with
 |nil=>rfl
 |cons c s ih=>rw[List.map_cons,List.flatMap_cons,ih];rfl
theorem nC {P:Program} {G:Nat ->AV} {K:aJ} {σ:AS} {w:World} (hr:aZ G K σ w) {t:TypeId} {x:AV} {ys:List AV} (h:nB P t x=some ys) {n:Nat}
  (hn:∀ a,a ∈ ys -> (flat a).length=n) {v:Value} (hv:VR K x v):
  ∃ news:List Value,Src P n t v ys.length news w /\ news.length=(ys.flatMap flat).length /\ (∀ a,a ∈ ys ->isv a=true /\ ∀ c,c ∈ flat a ->one c=true) /\
   ∀ j (hj:j < (ys.flatMap flat).length),VR K (ys.flatMap flat)[j] (news.getD j Go.undef):=by
 unfold nB at h
 have hfl:=aS (sz:=n) ys hn
 split at h
 ·rename_i g ys' sp
  split at h
  ·rename_i hs
   obtain⟨e,he⟩:=Option.isSome_iff_exists.1 hs
   simp only[Option.some.injEq]at h;subst h
   cases hv with
   | sl0 a=>
    refine⟨[],?_,rfl,(fun _ h=>by cases h),(fun j hj=>by cases hj)⟩
    cases a with
    |none=>exact Src.ofNil w (bX he) 0
    |some a=>exact Src.ofSlice w (bX he) a 0 0 [] (by simp) (fun j u h=>by simp at h) (fun u h=>by cases h)
   | sl _ _ _ sz b off cap f hsz hcap hml himm hvv hg=>
    have hle:(ys'.flatMap flat).length <=((ys'++sp).flatMap flat).length:=by simp
    have hgetf:∀ j (hj:j < (ys'.flatMap flat).length),((ys'++sp).flatMap flat)[j]'(by omega)=(ys'.flatMap flat)[j]:=by
     intro j hj
     simp only[List.flatMap_append]
     rw[List.getElem_append_left hj]
    have hone:∀ u,u ∈ cC f (ys'.flatMap flat).length ->u.oneCell'=true:=by
     intro u hu
     obtain⟨j,hj,rfl⟩:=List.mem_map.1 hu
     have hj':j < (ys'.flatMap flat).length:=by simpa using hj
     have h1:=hvv j (by omega)
     rw[hgetf j hj']at h1
     refine h1.oneCell ?_
     obtain⟨a,ha,hca⟩:=List.mem_flatMap.1 (List.getElem_mem hj')
     exact(hsz a (List.mem_append_left _ ha)).2.2 _ hca
    refine⟨cC f (ys'.flatMap flat).length,Src.ofSlice w (bX he) ⟨b,off,none⟩ ys'.length cap _ (by simp[cC,hfl]) (fun j u hu=> ?_) hone,by simp[cC],fun a ha=> (hsz a (List.mem_append_left _ ha)).2,fun j hj=> ?_⟩
    ·obtain⟨hj,rfl⟩:=List.getElem?_eq_some_iff.1 hu
     have hj':j < (ys'.flatMap flat).length:=by simpa [cC] using hj
     rw[Addr.add_lit]
     simp only[cC,List.getElem_map,List.getElem_range]
     exact hr.imm _ _ _ (himm j (by omega))
    ·have h1:=hvv j (by omega)
     rw[hgetf j hj]at h1
     rw[fO f _ j hj];exact h1
  ·cases h
 ·split at h
  ·rename_i hs
   obtain⟨e,he⟩:=Option.isSome_iff_exists.1 hs
   simp only[Option.some.injEq]at h;subst h
   rw[VR.nil_iff]at hv;subst hv
   exact⟨[],Src.ofNil w (bX he) 0,rfl,(fun _ h=>by cases h),(fun j hj=>by cases hj)⟩
  ·cases h
 ·rename_i s
  split at h
  ·rename_i hs
   simp only[Option.some.injEq]at h
   rw[VR.str_iff]at hv;subst hv
   have hb:byteCells ⟨⟨s⟩⟩=s.map (fun c=>Value.int .u8 c.toNat):=rfl
   have hf1:ys.flatMap flat=ys:=by
    subst h
    exact iR s
   subst h
   have hn1:n=1 \/ s=[]:=by
    cases s with
    |nil=>exact .inr rfl
    |cons c s=>left;have:=hn (.int .u8 c.toNat) (by simp);simpa [flat] using this.symm
   rw[hf1]
   refine⟨byteCells ⟨⟨s⟩⟩,?_,by simp[hb],fun a ha=>by obtain⟨c,_,rfl⟩:=List.mem_map.1 ha;exact⟨rfl,fun y hy=>by simp[flat]at hy;subst hy;rfl⟩,fun j hj=> ?_⟩
   ·have hsz:(ByteArray.mk (Array.mk s)).size=(s.map fun c=>AV.int .u8 c.toNat).length:=by simp;rfl
    rcases hn1 with rfl|rfl
    ·rw[<- hsz];exact Src.ofString w (jA hs) ⟨⟨s⟩⟩
    ·exact⟨.inr (jA hs),fun _=>rfl,by simp[Builtin.firstCells,byteCells],by simp[Builtin.firstCells,byteCells],by simp[byteCells],fun u hu=>by simp[byteCells]at hu⟩
   ·have hjs:j < s.length:=by simpa using hj
    rw[hb]
    simpa [hjs] using VR.int (K:=K) .u8 s[j].toNat
  ·cases h
 ·rename_i a0 c0
  split at h
  ·rename_i hs
   obtain⟨e,he⟩:=Option.isSome_iff_exists.1 hs
   simp only[Option.some.injEq]at h;subst h
   rw[VR.raw_iff]at hv;subst hv
   exact⟨[],Src.ofSlice w (bX he) a0 0 c0 [] (by simp) (fun j u h=>by simp at h) (fun u h=>by cases h),rfl,(fun _ h=>by cases h),(fun j hj=>by cases hj)⟩
  ·cases h
 ·cases h
end Go.Av
namespace Go.Av
open Go Go.RowKit
theorem jQ(b:Nat):∀ (vs:List Value) (o:Nat) (w:World) (cur:Array Value) (E:TypeId) (fz:Nat × Nat),w.heap[b]? =some (.cells cur E fz) ->
  ∃ cur',(w.setCells b o vs).heap[b]? =some (.cells cur' E fz) /\ cur'.size=cur.size
 |[],o,w,cur,E,fz,h=> ⟨cur,h,rfl⟩
 | v::r,o,w,cur,E,fz,h=>by
  rw[World.setCells]
  have h1:(w.setCell ⟨b,o,none⟩ v).heap[b]? =some (.cells (cur.setIfInBounds o v) E fz):=by
   simp[World.setCell,Array.getElem?_modify,h]
  obtain⟨c',h2,h3⟩:=jQ b r (o+1) _ _ E fz h1
  exact⟨c',h2,by rw[h3];simp⟩
theorem cE(b:Nat):∀ (vs:List Value) (o:Nat) (w:World) (k:Nat),k ≠ b -> (w.setCells b o vs).heap[k]? =w.heap[k]?
 |[],_,_,_,_=>rfl
 | v::r,o,w,k,h=>by
  rw[World.setCells,cE b r _ _ k h,Below.heap_setCell w _ v k h]
theorem jS(b:Nat):∀ (vs:List Value) (o:Nat) (w:World),(w.setCells b o vs).os=w.os /\ (w.setCells b o vs).tape=w.tape /\ (w.setCells b o vs).output=w.output /\ (w.setCells b o vs).heap.size=w.heap.size
 |[],_,_=> ⟨rfl,rfl,rfl,rfl⟩
 | v::r,o,w=>by
  rw[World.setCells]
  obtain⟨h1,h2,h3,h4⟩:=jS b r (o+1) (w.setCell ⟨b,o,none⟩ v)
  exact⟨h1,h2,h3,h4.trans (by simp)⟩
section
variable {G:Nat ->AV} {K:aJ} {σ:AS} {w:World}
theorem aZ.addRow(h:aZ G K σ w)(c:Array Value)(E:TypeId)(cap s m:Nat)(hc:c.size=cap*s)(hm:m <=cap)(hml:cap <=maxLen):
  ∃ K',K.le K' /\ aZ G K' (σ.setTip w.heap.size (m,s)) (w.alloc (.cells c E)) /\ K'.row w.heap.size=some (cap,s,E) /\ ∀ o,o < m*s ->K'.imm w.heap.size o=some (c.getD o Go.undef):=by
 have hf:=h.fresh (Nat.le_refl w.heap.size)
 have hms:m*s <=cap*s:=Nat.mul_le_mul_right _ hm
 let K':aJ:= {K with imm:=fun i o=>if i=w.heap.size /\ o < m*s then some (c.getD o Go.undef)else K.imm i o,row:=fun i=>if i=w.heap.size then some (cap,s,E)else K.row i}
 have himm0:∀ o,K.imm w.heap.size o=none:=h.imm_none (Nat.le_refl _)
 have hle:K.le K':=by
  refine⟨fun i o v hv=> ?_,fun i x hx=> ?_,rfl,rfl,fun _ _ h=>h⟩
  ·show(if i=w.heap.size /\ o < m*s then some (c.getD o Go.undef)else K.imm i o)=some v
   rw[if_neg]
   ·exact hv
   ·rintro⟨rfl,_⟩;rw[himm0]at hv;cases hv
  ·show(if i=w.heap.size then some (cap,s,E)else K.row i)=some x
   rw[if_neg]
   ·exact hx
   ·rintro rfl;rw[h.row_none (Nat.le_refl _)]at hx;cases hx
 have h':=h.alloc (.cells c E)
 have hnew:(w.alloc (.cells c E)).heap[w.heap.size]? =some (.cells c E (0,0)):=heap_alloc_new w _
 refine⟨K',hle,⟨fun i o v hv=> ?_,fun i cp s' F hr=> ?_,fun i cs hi=> ?_,fun i n s' hi=> ?_,fun i E n hi=> (h'.ty i E n hi).mono hle,fun g=> (h'.glob g).mono hle,⟨h'.below.b,h'.below.d⟩,h'.bs⟩,?_,fun o ho=> ?_⟩
 ·have hv':(if i=w.heap.size /\ o < m*s then some (c.getD o Go.undef)else K.imm i o)=some v:=hv
  split at hv'
  ·rename_i hx
   obtain⟨rfl,ho⟩:=hx
   rw[World.cell?_alloc_new,<- hv']
   have:o < c.size:=by omega
   simp[this]
  ·exact h'.imm _ _ _ hv'
 ·have hr':(if i=w.heap.size then some (cap,s,E)else K.row i)=some (cp,s',F):=hr
  split at hr'
  ·rename_i hx
   subst hx
   simp only[Option.some.injEq,Prod.mk.injEq]at hr'
   obtain⟨rfl,rfl,rfl⟩:=hr'
   exact⟨c,(0,0),hnew,hc,hml,fun _=> .inl rfl⟩
  ·rename_i hx
   obtain⟨cur,fz,h1,h2,h3,h4⟩:=h'.row _ _ _ _ hr'
   exact⟨cur,fz,h1,h2,h3,fun⟨x,hxx⟩=>h4 ⟨x,by simpa [AS.setTip,hx] using hxx⟩⟩
 ·obtain⟨h1,h2,h3,h4,h5,d,F,hd,hs,hvv⟩:=h'.box i cs hi
  have hne:i ≠ w.heap.size:=by rintro rfl;have hi':σ.box w.heap.size=some cs:=hi;rw[hf.1]at hi';cases hi'
  refine⟨h1,?_,?_,fun o=> ?_,h5,d,F,hd,hs,fun j hj=> (hvv j hj).mono hle⟩
  ·simp only[AS.setTip,if_neg hne];exact h2
  ·trivial
  ·show(if i=w.heap.size /\ o < m*s then some (c.getD o Go.undef)else K.imm i o)=none
   rw[if_neg (fun x=>hne x.1)];exact h4 o
 ·by_cases hne:i=w.heap.size
  ·subst hne
   simp only[AS.setTip,if_true,Option.some.injEq,Prod.mk.injEq]at hi
   obtain⟨rfl,rfl⟩:=hi
   refine⟨h.bs,cap,E,?_,hm,fun o ho=> ?_⟩
   ·show(if w.heap.size=w.heap.size then some (cap,s,E)else K.row _)=_
    rw[if_pos rfl]
   ·show(if w.heap.size=w.heap.size /\ o < m*s then some (c.getD o Go.undef)else K.imm _ o)=none
    rw[if_neg (by omega)];exact himm0 o
  ·simp only[AS.setTip,if_neg hne]at hi
   obtain⟨h1,cp,F,hr,hn,ho⟩:=h'.tip i n s' hi
   refine⟨h1,cp,F,hle.row _ _ hr,hn,fun o hlo=> ?_⟩
   show(if i=w.heap.size /\ o < m*s then some (c.getD o Go.undef)else K.imm i o)=none
   rw[if_neg (fun x=>hne x.1)];exact ho o hlo
 ·show(if w.heap.size=w.heap.size then some (cap,s,E)else K.row _)=_
  rw[if_pos rfl]
 ·show(if w.heap.size=w.heap.size /\ o < m*s then some (c.getD o Go.undef)else K.imm _ o)=_
  rw[if_pos ⟨rfl,ho⟩]
theorem aZ.growRow (h:aZ G K σ w) {b n s cap:Nat} {E:TypeId} (ht:σ.tip b=some (n,s)) (hrow:K.row b=some (cap,s,E)) (news:List Value) (m:Nat) (hm:news.length=m*s) (hcap:n+m <=cap)
  (h1:∀ u,u ∈ news ->u.oneCell'=true):
  ∃ K',K.le K' /\ aZ G K' (σ.setTip b (n+m,s)) (w.setCells b (n*s) news) /\ ∀ j,j < news.length ->K'.imm b (n*s+j)=some (news.getD j Go.undef):=by
 obtain⟨hb,cap',E',hrow',hn,himm⟩:=h.tip b n s ht
 rw[hrow]at hrow'
 simp only[Option.some.injEq,Prod.mk.injEq,true_and]at hrow'
 obtain⟨rfl,rfl⟩:=hrow'
 obtain⟨cur,fz,hcur,hcs,hml,hfz⟩:=h.row b cap s E hrow
 have hfz2:=hfz ⟨_,ht⟩
 have hnb:σ.box b=none:=by
  cases e:σ.box b with
  |none=>rfl
  |some cs=>have:=(h.box b cs e).2.1;rw[ht]at this;cases this
 have hms:(n+m)*s=n*s+m*s:=Nat.add_mul n m s
 have hle2:(n+m)*s <=cap*s:=Nat.mul_le_mul_right _ hcap
 obtain⟨cur',hc1,hc2⟩:=jQ b news (n*s) w cur E fz hcur
 obtain⟨m1,m2,m3,m4⟩:=jS b news (n*s) w
 have hcellin:∀ j,j < news.length -> (w.setCells b (n*s) news).cell? ⟨b,n*s+j,none⟩=some (news.getD j Go.undef):=by
  intro j hj
  have:=World.cell?_setCells_in b news (n*s) w (fun j hj=>by
   rw[cell_of_row w b _ cur E fz hcur]
   have:n*s+j < cur.size:=by omega
   simp[this]) j hj
  rw[this]
  simp[hj]
 let K':aJ:= {K with imm:=fun i o=>if i=b /\ n*s <=o /\ o < n*s+news.length then some (news.getD (o - n*s) Go.undef)else K.imm i o}
 have hle:K.le K':=by
  refine⟨fun i o v hv=> ?_,fun _ _ h=>h,rfl,rfl,fun _ _ h=>h⟩
  show(if i=b /\ n*s <=o /\ o < n*s+news.length then some (news.getD (o - n*s) Go.undef)else K.imm i o)=some v
  rw[if_neg]
  ·exact hv
  ·rintro⟨rfl,hx,_⟩;rw[himm o hx]at hv;cases hv
 refine⟨K',hle,⟨fun i o v hv=> ?_,fun i cp s' F hr=> ?_,fun i cs hi=> ?_,fun i n' s' hi=> ?_,fun i F n' hi=> ?_,fun g=> (h.glob g).mono hle,?_,by rw[m4];exact h.bs⟩,fun j hj=> ?_⟩
 ·have hv':(if i=b /\ n*s <=o /\ o < n*s+news.length then some (news.getD (o - n*s) Go.undef)else K.imm i o)=some v:=hv
  split at hv'
  ·rename_i hx
   obtain⟨rfl,hx1,hx2⟩:=hx
   have:=hcellin (o - n*s) (by omega)
   rw[show n*s+(o - n*s)=o by omega]at this
   rw[this,<- hv']
  ·rename_i hx
   have hcell:(w.setCells b (n*s) news).cell? ⟨i,o,none⟩=w.cell? ⟨i,o,none⟩:=
    World.cell?_setCells_out b news (n*s) w ⟨i,o,none⟩ (fun e1 _=>by
     have e1':i=b:=e1
     show o < n*s \/ n*s+news.length <=o
     rcases Nat.lt_or_ge o (n*s)with hlt|hge
     ·exact .inl hlt
     ·rcases Nat.lt_or_ge o (n*s+news.length)with hlt2|hge2
      ·exact absurd ⟨e1',hge,hlt2⟩ hx
      ·exact .inr hge2)
   rw[hcell];exact h.imm _ _ _ hv'
 ·obtain⟨cu,fz,hcu,hx⟩:=h.row i cp s' F hr
  by_cases hib:i=b
  ·subst hib
   rw[hcur]at hcu
   simp only[Option.some.injEq,Obj.cells.injEq]at hcu
   obtain⟨rfl,rfl,rfl⟩:=hcu
   rw[hrow]at hr
   simp only[Option.some.injEq,Prod.mk.injEq]at hr
   obtain⟨rfl,rfl,_⟩:=hr
   exact⟨cur',_,hc1,by rw[hc2];exact hx.1,hx.2.1,fun _=>hfz2⟩
  ·exact⟨cu,fz,by rw[cE b news _ _ i hib];exact hcu,hx.1,hx.2.1,fun⟨x,hxx⟩=>hx.2.2 ⟨x,by simpa [AS.setTip,hib] using hxx⟩⟩
 ·obtain⟨k1,k2,k3,k4,k5,d,F,hd,hs,hvv⟩:=h.box i cs hi
  have hne:i ≠ b:=by rintro rfl;have hi':σ.box i=some cs:=hi;rw[hnb]at hi';cases hi'
  refine⟨k1,by simp only[AS.setTip,if_neg hne];exact k2,k3,fun o=> ?_,k5,d,F,by rw[cE b news _ _ i hne];exact hd,hs,fun j hj=> (hvv j hj).mono hle⟩
  show(if i=b /\ n*s <=o /\ o < n*s+news.length then some (news.getD (o - n*s) Go.undef)else K.imm i o)=none
  rw[if_neg (fun x=>hne x.1)];exact k4 o
 ·by_cases hne:i=b
  ·subst hne
   simp only[AS.setTip,if_true,Option.some.injEq,Prod.mk.injEq]at hi
   obtain⟨rfl,rfl⟩:=hi
   refine⟨hb,cap,E,hrow,hcap,fun o ho=> ?_⟩
   show(if i=i /\ n*s <=o /\ o < n*s+news.length then some (news.getD (o - n*s) Go.undef)else K.imm i o)=none
   rw[if_neg (by omega)];exact himm o (by omega)
  ·simp only[AS.setTip,if_neg hne]at hi
   obtain⟨k1,cp,F,hr,hn',ho⟩:=h.tip i n' s' hi
   refine⟨k1,cp,F,hr,hn',fun o hlo=> ?_⟩
   show(if i=b /\ n*s <=o /\ o < n*s+news.length then some (news.getD (o - n*s) Go.undef)else K.imm i o)=none
   rw[if_neg (fun x=>hne x.1)];exact ho o hlo
 ·have h1:=(h.ty i F n' hi).mono hle
  by_cases hib:i=b
  ·subst hib
   exact h1.wrote hcur hc1 hc2
  ·exact h1.old (cE b news _ _ i hib)
 ·have hB:=h.below.trans ⟨m1,m2,m3,by rw[m4];exact Nat.le_refl _,fun k hk=>cE b news _ _ k (by omega)⟩ hcur (fun k hk=>cE b news _ _ k hk)
  exact⟨hB.b,hB.d⟩
 ·show(if b=b /\ n*s <=n*s+j /\ n*s+j < n*s+news.length then some (news.getD (n*s+j - n*s) Go.undef)else K.imm b (n*s+j))=_
  rw[if_pos ⟨rfl,by omega,by omega⟩,Nat.add_sub_cancel_left]
end
def eI(P:Program)(t:TypeId):Option (TypeId × Nat × Nat):=
 match el P t with
 | some e=>match tk P e,cM P e,zc P e with
  |some (_,n),some b,some z=>if 0 < n /\ 0 < b /\ z.length=n then some (e,n,b)else none
  |_,_,_=>none
 |none=>none
theorem eS{P:Program}{K:aJ}{t e:TypeId}{n b:Nat}(h:eI P t=some (e,n,b)):
  P.underlying t=some (.slice e) /\ ∃ i z,P.info? e=some i /\ i.zero=some z /\ i.size=n /\ i.bytes=b /\ z.cells.size=n /\ 0 < n /\ 0 < b /\ ∀ zz,zc P e=some zz ->CR K zz z.cells:=by
 unfold eI at h
 split at h
 case h_2=>cases h
 rename_i e' he
 split at h
 case h_2=>cases h
 rename_i ag n' b' z hn hb hz
 split at h
 case isFalse=>cases h
 rename_i hc
 simp only[Option.some.injEq,Prod.mk.injEq]at h
 obtain⟨rfl,rfl,rfl⟩:=h
 obtain⟨i,zv,hi,hzv,hcr⟩:=oV (K:=K) hz
 refine⟨bX he,i,zv,hi,hzv,?_,?_,by rw[hcr.size];exact hc.2.2,hc.1,hc.2.1,fun zz hzz=> ?_⟩
 ·unfold tk at hn
  rw[hi]at hn
  split at hn
  ·rename_i hii
   simp only[Option.some.injEq,Prod.mk.injEq]at hn hii
   rw[hii];exact hn.2
  ·cases hn
 ·unfold cM at hb
  rw[hi]at hb
  simpa using hb
 ·rw[hz]at hzz
  simp only[Option.some.injEq]at hzz
  subst hzz
  exact hcr
end Go.Av
namespace Go.Av
open Go Go.RowKit
def gK(P:Program)(σ:AS)(t tx:TypeId)(s x:AV)(K:AV ->AS ->Prop):Prop:=
 match eI P t,nB P tx x with
 | some (_,n,cM),some ys=>
  (∀ a,a ∈ ys -> (flat a).length=n) /\
  match s with
  | .nil=>ys.length*cM <=140737488355328 /\ (ys=[] ->K .nil σ) /\ (ys ≠ [] ->∀ b,σ.fresh b ->K (.sl (.own b) ys []) (σ.setTip b (ys.length,n)))
  | .sl .full xs []=> (∀ a,a ∈ xs -> (flat a).length=n) /\ (xs.length+ys.length)*cM <=140737488355328 /\ (ys=[] ->K (.sl .full xs []) σ) /\
    (ys ≠ [] ->∀ b,σ.fresh b ->K (.sl (.own b) (xs++ys) []) (σ.setTip b (xs.length+ys.length,n)))
  | .sl (.own b) xs []=>σ.tip b=some (xs.length,n) /\ (∀ a,a ∈ xs -> (flat a).length=n) /\ (xs.length+ys.length)*cM <=140737488355328 /\
    ∀ b',(b'=b \/ σ.fresh b') ->K (.sl (.own b') (xs++ys) []) ((σ.delTip b).setTip b' (xs.length+ys.length,n))
  |_=>False
 |_,_=>False
theorem AS.setTip_del(σ:AS)(b:Nat)(x:Nat × Nat):(σ.delTip b).setTip b x=σ.setTip b x:=by
 unfold AS.setTip AS.delTip
 congr 1
 funext i
 show(if i=b then some x else if i=b then none else σ.tip i)=_
 split <;>rfl
theorem aZ.delTip{G:Nat ->AV}{K:aJ}{σ:AS}{w:World}(h:aZ G K σ w)(b:Nat):aZ G K (σ.delTip b) w:=by
 refine⟨h.imm,fun i cap s E hr=> ?_,fun i cs hi=> ?_,fun i n s hi=> ?_,h.ty,h.glob,h.below,h.bs⟩
 ·obtain⟨cur,fz,h1,h2,h3,h4⟩:=h.row i cap s E hr
  exact⟨cur,fz,h1,h2,h3,fun⟨x,hx⟩=>h4 ⟨x,by
   have hx':(if i=b then none else σ.tip i)=some x:=hx
   split at hx'
   ·cases hx'
   ·exact hx'⟩⟩
 ·obtain⟨h1,h2,h3⟩:=h.box i cs hi
  refine⟨h1,?_,h3⟩
  show(if i=b then none else σ.tip i)=none
  split <;>first|rfl|exact h2
 ·have hi':(if i=b then none else σ.tip i)=some (n,s):=hi
  split at hi'
  ·cases hi'
  ·exact h.tip i n s hi'
structure rF(P:Program)(t tx ty e:TypeId)(i:TypeInfo)(z:Value)(x:Value)(n:Nat)(news:List Value)(w:World):Prop where
 one:∀ u ∈ news,u.oneCell'=true
 room:∀ (b off sLen sCap:Nat),sLen+n <=sCap -> (∀ j,j < news.length -> (w.cell? ⟨b,off+sLen*i.size+j,none⟩).isSome=true) -> (∀ j,j < news.length ->w.frozen? ⟨b,off+sLen*i.size+j,none⟩=false) ->
  (Builtin.append_ #[t,tx] ty #[.slice (some ⟨b,off,none⟩) sLen sCap,x]).run P w= .ok (.slice (some ⟨b,off,none⟩) (sLen+n) sCap) (w.setCells b (off+sLen*i.size) news)
 grow:∀ (base:Option Addr) (sLen sCap:Nat) (olds:List Value),(Builtin.firstCells i.size sLen (.slice base sLen sCap)).run P w.drew= .ok olds.toArray w.drew ->sCap < sLen+n -> ((sLen+n:Nat):Int) <=9223372036854775807 ->Builtin.nextslicecap (sLen+n) sCap*i.bytes <=281474976710656 ->
  (Builtin.append_ #[t,tx] ty #[.slice base sLen sCap,x]).run P w= .ok (.slice (some ⟨w.heap.size,0,none⟩) (sLen+n) (grownCap w (sLen+n) sCap e)) (w.drew.alloc (.cells ((olds++news).toArray++Builtin.zeroCells z.cells (grownCap w (sLen+n) sCap e - (sLen+n))) e))
theorem rF.of_src{P:Program}{t tx ty e:TypeId}{i:TypeInfo}{z x:Value}{n:Nat}{news:List Value}{w:World}(ht:P.underlying t=some (.slice e))(hi:P.info? e=some i)(hz:i.zero=some z)(hs:Src P i.size tx x n news w):rF P t tx ty e i z x n news w:=
 ⟨hs.one,fun b off sLen sCap h1 h2 h3=>run_append_room_src (P:=P) w t tx ty e i ht hi b off sLen sCap x n news hs h1 h2 h3,fun base sLen sCap olds h0 h1 h2 h3=>run_append_grow_src (P:=P) w t tx ty e i z ht hi hz base sLen sCap olds h0 x n news hs h1 h2 h3⟩
theorem rF.zeros {P:Program} {t tx ty e:TypeId} {i:TypeInfo} {z c:Value} {k k':IntKind} {w:World} {m:Nat} (ht:P.underlying t=some (.slice e)) (htx:P.underlying tx=some (.int k')) (hi:P.info? e=some i) (hz:i.zero=some z) (hsz:i.size=1) (hc:z.cells= #[c]) (ho:c.oneCell'=true)
  (hb0:0 < i.bytes) (hm:m*i.bytes <=140737488355328):rF P t tx ty e i z (.int k (m:Int)) m (List.replicate m c) w:=by
 have hm1:m <=140737488355328:=by
  have:m*1 <=m*i.bytes:=Nat.mul_le_mul_left _ hb0
  omega
 have hw1:IntKind.i64.wrap (m:Int)=m:=by rw[IntKind.wrap_i64];omega
 have hlt: ¬ ((m:Int) < 0):=by omega
 have h48: ¬ ((281474976710656:Int) < (m:Int)*(i.bytes:Int)):=by rw[<- Int.natCast_mul];omega
 have hzc:Builtin.zeroCells #[c] m=(List.replicate m c).toArray:=by
  unfold Builtin.zeroCells
  apply Array.ext
  ·simp
  ·intro j h1 h2;simp[Nat.mod_one]
 have hone:∀ u ∈ List.replicate m c,u.oneCell'=true:=fun u hu=>by
  obtain⟨_,rfl⟩:=List.mem_replicate.1 hu
  exact ho
 refine⟨hone,fun b off sLen sCap h1 h2 h3=> ?_,fun base sLen sCap olds h0 h1 h2 h3=> ?_⟩
 ·have hst:=run_storeCells_cells (P:=P) b (off+sLen*i.size) (List.replicate m c) 0 w (by simpa using h2) (by simpa using h3) hone
  rw[hsz]at hst
  simp only[Nat.add_zero,Nat.mul_one]at hst
  rcases Nat.eq_zero_or_pos m with hm0|hm0
  ·subst hm0
   have h1':sLen <=sCap:=by omega
   simp[Builtin.append_,run_underlying ht,run_underlying htx,sizeOf,typeInfo,zeroValue,hi,hz,hc,asInt,asIntOf,h1',Addr.add_lit,hsz,World.setCells,storeCells,IntKind.wrap_i64]
  ·have hmn: ¬ (m=0):=by omega
   simp[Builtin.append_,run_underlying ht,run_underlying htx,sizeOf,typeInfo,zeroValue,hi,hz,hc,asInt,asIntOf,hw1,hlt,h48,h1,hmn,Addr.add_lit,hsz,hzc,hst]
 ·have hn: ¬ (sLen+m <=sCap):=by omega
  have h63': ¬ (9223372036854775807 < ((sLen:Int)+(m:Int))):=by omega
  have h48': ¬ (281474976710656 < Builtin.nextslicecap (sLen+m) sCap*i.bytes):=by omega
  rw[hsz]at h0
  rcases Nat.eq_zero_or_pos m with hm0|hm0
  ·subst hm0
   have hn': ¬ (sLen <=sCap):=by omega
   have h63'': ¬ (9223372036854775807 < (sLen:Int)):=by omega
   have h48'': ¬ (281474976710656 < Builtin.nextslicecap sLen sCap*i.bytes):=by simpa using h48'
   simp[Builtin.append_,run_underlying ht,run_underlying htx,sizeOf,typeInfo,zeroValue,hi,hz,hc,asInt,asIntOf,hn',h63'',h48'',hsz,h0,Question.forced,newRow,grownCap,IntKind.wrap_i64]
  ·have hmn: ¬ (m=0):=by omega
   simp[Builtin.append_,run_underlying ht,run_underlying htx,sizeOf,typeInfo,zeroValue,hi,hz,hc,asInt,asIntOf,hw1,hlt,h48,hn,hmn,h63',h48',hsz,h0,hzc,Question.forced,newRow,grownCap]
   congr 2
   apply Array.ext'
   simp[List.append_assoc]
theorem nA {P:Program} {G:Nat ->AV} {K:aJ} {σ:AS} {w:World} (hr:aZ G K σ w) {xs ys:List AV} {n cM:Nat} {t tx ty e:TypeId} {i:TypeInfo} {z:Value}
  (ht:P.underlying t=some (.slice e)) (hi:P.info? e=some i) (hz:i.zero=some z) (hsz:i.size=n) (hby:i.bytes=cM) (hzs:z.cells.size=n) (hn0:0 < n) (hb0:0 < cM)
  (hxs:∀ a,a ∈ xs -> (flat a).length=n /\ isv a=true /\ ∀ c,c ∈ flat a ->one c=true) (hys:∀ a,a ∈ ys -> (flat a).length=n /\ isv a=true /\ ∀ c,c ∈ flat a ->one c=true)
  (base:Option Addr) (sCap:Nat) (olds:List Value) (hol:olds.length=(xs.flatMap flat).length) (hov:∀ j (hj:j < (xs.flatMap flat).length),VR K (xs.flatMap flat)[j] (olds.getD j Go.undef))
  (hold:(Builtin.firstCells i.size xs.length (.slice base xs.length sCap)).run P w.drew= .ok olds.toArray w.drew)
  (v:Value) (news:List Value) (hsrc:rF P t tx ty e i z v ys.length news w) (hnl:news.length=(ys.flatMap flat).length) (hnv:∀ j (hj:j < (ys.flatMap flat).length),VR K (ys.flatMap flat)[j] (news.getD j Go.undef))
  (hg:sCap < xs.length+ys.length) (hbytes:(xs.length+ys.length)*cM <=140737488355328):
  ∃ u w' K',(Builtin.append_ #[t,tx] ty #[.slice base xs.length sCap,v]).run P w= .ok u w' /\ K.le K' /\ aZ G K' (σ.setTip w.heap.size (xs.length+ys.length,n)) w' /\
   VR K' (.sl (.own w.heap.size) (xs++ys) []) u:=by
 have hmax:xs.length+ys.length <=140737488355328:=by
  have:(xs.length+ys.length)*1 <=(xs.length+ys.length)*cM:=Nat.mul_le_mul_left _ hb0
  omega
 have hrun:=hsrc.grow base xs.length sCap olds hold hg (by omega) (by rw[hby];exact growslice_fits hg hbytes)
 have hge:=grownCap_ge w (xs.length+ys.length) sCap e
 have hcm:grownCap w (xs.length+ys.length) sCap e <=maxLen:=grownCap_le_maxLen w _ sCap e (by unfold maxLen;omega)
 generalize grownCap w (xs.length+ys.length) sCap e=cap at hrun hge hcm
 have hxl:=aS (sz:=n) xs (fun a ha=> (hxs a ha).1)
 have hyl:=aS (sz:=n) ys (fun a ha=> (hys a ha).1)
 have hsize:((olds++news).toArray++Builtin.zeroCells z.cells (cap - (xs.length+ys.length))).size=cap*n:=by
  simp only[Array.size_append,List.size_toArray,List.length_append,size_zeroCells,hzs,hol,hnl,hxl,hyl,<- Nat.add_mul]
  congr 1;omega
 obtain⟨K',hle,hrel,hrow,himm⟩:=hr.drew.addRow ((olds++news).toArray++Builtin.zeroCells z.cells (cap - (xs.length+ys.length))) e cap n (xs.length+ys.length) hsize hge hcm
 refine⟨_,_,K',hrun,hle,hrel,?_⟩
 have key:∀ j (hj:j < ((xs++ys).flatMap flat).length),VR K' ((xs++ys).flatMap flat)[j] (((olds++news).toArray++Builtin.zeroCells z.cells (cap - (xs.length+ys.length))).getD j Go.undef):=by
  intro j hj
  have hjl:j < (olds++news).length:=by simp only[List.flatMap_append,List.length_append]at hj ⊢;omega
  have e1:((olds++news).toArray++Builtin.zeroCells z.cells (cap - (xs.length+ys.length))).getD j Go.undef=(olds++news).getD j Go.undef:=by
   simp only[Array.getD_eq_getD_getElem?,List.getD_eq_getElem?_getD]
   rw[Array.getElem?_append_left (by simpa using hjl)]
   simp
  rw[e1]
  by_cases hjx:j < (xs.flatMap flat).length
  ·have e2:(olds++news).getD j Go.undef=olds.getD j Go.undef:=by
    simp only[List.getD_eq_getElem?_getD];rw[List.getElem?_append_left (by omega)]
   have e3:((xs++ys).flatMap flat)[j]=(xs.flatMap flat)[j]:=by
    simp only[List.flatMap_append];rw[List.getElem_append_left hjx]
   rw[e2,e3];exact(hov j hjx).mono hle
  ·have e2:(olds++news).getD j Go.undef=news.getD (j - (xs.flatMap flat).length) Go.undef:=by
    simp only[List.getD_eq_getElem?_getD];rw[List.getElem?_append_right (by omega),hol]
   have hj2:j - (xs.flatMap flat).length < (ys.flatMap flat).length:=by simp only[List.flatMap_append,List.length_append]at hj;omega
   have e3:((xs++ys).flatMap flat)[j]=(ys.flatMap flat)[j - (xs.flatMap flat).length]:=by
    simp only[List.flatMap_append];rw[List.getElem_append_right (by omega)]
   rw[e2,e3];exact(hnv _ hj2).mono hle
 have:=VR.sl_row (K:=K') (g:= .own w.heap.size) (xs:=xs++ys) (n:=n) (b:=w.heap.size) (cap:=cap) (c:=(olds++news).toArray++Builtin.zeroCells z.cells (cap - (xs.length+ys.length)))
  (fun a ha=>by rcases List.mem_append.1 ha with h|h;exact hxs a h;exact hys a h) (by simp;exact hge) hcm (fun o ho=>himm o (by simpa using ho)) key ⟨rfl,rfl,e,n,hrow⟩
 simpa using this
theorem rV {P:Program} {G:Nat ->AV} {K:aJ} {σ:AS} {w:World} (hr:aZ G K σ w) {t tx ty e:TypeId} {i:TypeInfo} {z:Value} {cM b0:Nat} {xs ys:List AV} {v u:Value} {news:List Value} {Kc:AV ->AS ->Prop} (ht:P.underlying t=some (.slice e)) (hi:P.info? e=some i) (hz:i.zero=some z) (hby:i.bytes=cM) (hzs:z.cells.size=i.size) (hn0:0 < i.size) (hb0:0 < cM)
  (S2:rF P t tx ty e i z u ys.length news w) (hnl:news.length=(ys.flatMap flat).length) (hnv:∀ j (hj:j < (ys.flatMap flat).length),VR K (ys.flatMap flat)[j] (news.getD j Go.undef)) (hysf:∀ a,a ∈ ys -> (flat a).length=i.size /\ isv a=true /\ ∀ c,c ∈ flat a ->one c=true) (hv:VR K (.sl (.own b0) xs []) v)
  (htip:σ.tip b0=some (xs.length,i.size)) (hxn:∀ a,a ∈ xs -> (flat a).length=i.size) (hbytes:(xs.length+ys.length)*cM <=140737488355328) (h1:∀ b',(b'=b0 \/ σ.fresh b') ->Kc (.sl (.own b') (xs++ys) []) ((σ.delTip b0).setTip b' (xs.length+ys.length,i.size))):
  ∃ z w' K' r σ',(Builtin.append_ #[t,tx] ty #[v,u]).run P w= .ok z w' /\ K.le K' /\ aZ G K' σ' w' /\ VR K' r z /\ Kc r σ':=by
 have hys:∀ a,a ∈ ys -> (flat a).length=i.size:=fun a ha=> (hysf a ha).1
 have hv0:=hv
 cases hv with
 | sl _ _ _ sz b off cap f hsz hcap hml himm hvv hg=>
  obtain⟨rfl,rfl,E,s,hrow⟩:=hg
  simp only[List.append_nil]at hsz himm hvv
  have hxl:=aS (sz:=i.size) xs hxn
  obtain⟨_,cap',E',hrow',hn',hti⟩:=hr.tip b0 _ _ htip
  rw[hrow]at hrow'
  simp only[Option.some.injEq,Prod.mk.injEq]at hrow'
  obtain⟨rfl,rfl,rfl⟩:=hrow'
  obtain⟨cur,fz,hcur,hcs,hml',hfz⟩:=hr.row b0 cap i.size E hrow
  have hfz2:=hfz ⟨_,htip⟩
  by_cases hroom:xs.length+ys.length <=cap
  ·have hyl:=aS (sz:=i.size) ys hys
   have hle2:(xs.length+ys.length)*i.size <=cap*i.size:=Nat.mul_le_mul_right _ hroom
   have hadd:(xs.length+ys.length)*i.size=xs.length*i.size+ys.length*i.size:=Nat.add_mul _ _ _
   have hrun:=S2.room b0 0 xs.length cap hroom
    (fun j hj=>by
      rw[cell_of_row w b0 _ cur E fz hcur]
      have:xs.length*i.size+j < cur.size:=by omega
      simp[this])
    (fun j hj=>by
      obtain⟨lo,hi⟩:=fz
      have hj':xs.length*i.size+j < cap*i.size:=by omega
      simp only[World.frozen?,hcur]
      rcases hfz2 with h|h
      ·simp only[Prod.mk.injEq]at h
       obtain⟨rfl,rfl⟩:=h
       simp
      ·simp only at h
       have: ¬ lo <=xs.length*i.size+j:=by omega
       simp[this])
   rw[Nat.zero_add]at hrun
   obtain⟨K',hle,hrel,himm'⟩:=hr.growRow htip hrow news ys.length (by rw[hnl,hyl]) hroom S2.one
   have h2:=h1 b0 (.inl rfl)
   rw[AS.setTip_del]at h2
   refine⟨_,_,K',_,_,hrun,hle,hrel,?_,h2⟩
   have key:=VR.sl (K:=K') (.own b0) (xs++ys) [] i.size b0 0 cap (fun j=>if j < (xs.flatMap flat).length then f j else news.getD (j - (xs.flatMap flat).length) Go.undef)
    (fun a ha=>by
      rw[List.append_nil]at ha
      rcases List.mem_append.1 ha with h|h
      ·exact⟨hxn a h,(hsz a h).2⟩
      ·exact hysf a h) (by simp;exact hroom) hml
    (fun j hj=>by
      simp only[List.append_nil,List.flatMap_append,List.length_append]at hj
      by_cases hjx:j < (xs.flatMap flat).length
      ·rw[if_pos hjx];exact hle.imm _ _ _ (himm j hjx)
      ·rw[if_neg hjx,Nat.zero_add]
       have:=himm' (j - (xs.flatMap flat).length) (by omega)
       rw[<- this];congr 1;omega)
    (fun j hj=>by
      simp only[List.append_nil,List.flatMap_append]at hj ⊢
      by_cases hjx:j < (xs.flatMap flat).length
      ·simp only[if_pos hjx];rw[List.getElem_append_left hjx];exact(hvv j hjx).mono hle
      ·simp only[if_neg hjx]
       have hj2:j - (xs.flatMap flat).length < (ys.flatMap flat).length:=by simp only[List.length_append]at hj;omega
       rw[List.getElem_append_right (by omega)];exact(hnv _ hj2).mono hle)
    ⟨rfl,rfl,E,i.size,hle.row _ _ hrow⟩
   simpa using key
  ·obtain⟨z',w',K',h2,h3,h4,h5⟩:=nA (xs:=xs) (P:=P) (ty:=ty) hr ht hi hz rfl hby hzs hn0 hb0 (fun a ha=> ⟨hxn a ha,(hsz a ha).2⟩) hysf (some ⟨b0,0,none⟩) cap (cC f (xs.flatMap flat).length) (by simp[cC])
    (fun j hj=>by rw[fO f _ j hj];exact hvv j hj)
    (by
      refine run_firstCells_some w.drew i.size xs.length ⟨b0,0,none⟩ xs.length cap _ (by simp[cC,hxl]) (fun j y hy=> ?_)
      obtain⟨hj,rfl⟩:=List.getElem?_eq_some_iff.1 hy
      have hj':j < (xs.flatMap flat).length:=by simpa [cC] using hj
      rw[Addr.add_lit]
      simp only[cC,List.getElem_map,List.getElem_range]
      exact hr.imm _ _ _ (himm j hj')) u news S2 hnl hnv (by omega) hbytes
   have hf:=hr.fresh (Nat.le_refl w.heap.size)
   have h6:=h1 w.heap.size (.inr hf)
   refine⟨z',w',K',_,_,h2,h3,?_,h5,h6⟩
   have hne:w.heap.size ≠ b0:=fun e=>by rw[e]at hf;rw[hf.2.1]at htip;cases htip
   have:=h4.delTip b0
   have e2:((σ.setTip w.heap.size (xs.length+ys.length,i.size)).delTip b0)=((σ.delTip b0).setTip w.heap.size (xs.length+ys.length,i.size)):=by
    unfold AS.setTip AS.delTip
    congr 1
    funext j
    show(if j=b0 then none else if j=w.heap.size then some _ else σ.tip j)=(if j=w.heap.size then some _ else if j=b0 then none else σ.tip j)
    by_cases hj:j=b0
    ·subst hj;rw[if_pos rfl,if_neg (Ne.symm hne),if_pos rfl]
    ·rw[if_neg hj,if_neg hj]
   rw[e2]at this
   exact this
theorem tP {P:Program} {G:Nat ->AV} {K:aJ} {σ:AS} {w:World} (hr:aZ G K σ w) {t tx ty:TypeId} {s x:AV} {Kc:AV ->AS ->Prop} (h:gK P σ t tx s x Kc)
  {v u:Value} (hv:VR K s v) (hu:VR K x u):
  ∃ z w' K' r σ',(Builtin.append_ #[t,tx] ty #[v,u]).run P w= .ok z w' /\ K.le K' /\ aZ G K' σ' w' /\ VR K' r z /\ Kc r σ':=by
 unfold gK at h
 split at h
 case h_2=>exact h.elim
 rename_i e n cM ys hel hsrc
 obtain⟨hys,h⟩:=h
 obtain⟨ht,i,z,hi,hz,hsz,hby,hzs,hn0,hb0,_⟩:=eS (K:=K) hel
 obtain⟨news,hS,hnl,hyv,hnv⟩:=nC hr hsrc hys hu
 have hysf:∀ a,a ∈ ys -> (flat a).length=n /\ isv a=true /\ ∀ c,c ∈ flat a ->one c=true:=fun a ha=> ⟨hys a ha,hyv a ha⟩
 subst hsz
 split at h
 ·-- onto nil
  obtain⟨hbytes,h0,h1⟩:=h
  rw[VR.nil_iff]at hv;subst hv
  by_cases hy:ys=[]
  ·subst hy
   have hrun:(Builtin.append_ #[t,tx] ty #[.slice none 0 0,u]).run P w= .ok (.slice none 0 0) w:=by
    have hc1:(Builtin.firstCells i.size 0 u).run P w= .ok news.toArray w:=hS.cells
    have hl1:∀ w':World,(Builtin.lenOf u).run P w'= .ok 0 w':=hS.len
    rcases hS.kind with⟨e',hk⟩|hk <;>simp[Builtin.append_,run_underlying ht,run_underlying hk,sizeOf,typeInfo,hi,hl1,hc1]
   exact⟨_,w,K, .nil,σ,hrun,aJ.le.refl K,hr, .nil,h0 rfl⟩
  ·obtain⟨z',w',K',h2,h3,h4,h5⟩:=nA (xs:=[]) (P:=P) (ty:=ty) hr ht hi hz rfl hby hzs hn0 hb0 (fun a ha=>by cases ha) hysf none 0 [] rfl (fun j hj=>by cases hj)
    (by simp[Builtin.firstCells]) u news (rF.of_src ht hi hz hS) hnl hnv (by have:=List.length_pos_iff.2 hy;simp;omega) (by simpa using hbytes)
   refine⟨z',w',K',_,_,h2,h3,h4,h5,?_⟩
   have:=h1 hy w.heap.size (hr.fresh (Nat.le_refl _))
   simpa using this
 ·-- onto a slice without spare room
  rename_i xs
  obtain⟨hxn,hbytes,h0,h1⟩:=h
  have hv0:=hv
  cases hv with
  | sl _ _ _ sz b off cap f hsz hcap hml himm hvv hg=>
   have hgc:cap=xs.length:=hg
   simp only[List.append_nil]at hsz himm hvv
   by_cases hy:ys=[]
   ·subst hy
    have hnews:news=[]:=List.eq_nil_of_length_eq_zero (by simpa using hnl)
    subst hnews
    have hrun:(Builtin.append_ #[t,tx] ty #[.slice (some ⟨b,off,none⟩) xs.length cap,u]).run P w= .ok (.slice (some ⟨b,off,none⟩) xs.length cap) w:=by
     have hc0:xs.length <=cap:=by omega
     have hc1:(Builtin.firstCells i.size 0 u).run P w= .ok (#[]:Array Value) w:=hS.cells
     have hl1:∀ w':World,(Builtin.lenOf u).run P w'= .ok 0 w':=hS.len
     rcases hS.kind with⟨e',hk⟩|hk <;>simp[Builtin.append_,run_underlying ht,run_underlying hk,sizeOf,typeInfo,hi,hl1,hc1,hc0,storeCells]
    exact⟨_,w,K,_,σ,hrun,aJ.le.refl K,hr,hv0,h0 rfl⟩
   ·have hxl:=aS (sz:=i.size) xs hxn
    obtain⟨z',w',K',h2,h3,h4,h5⟩:=nA (xs:=xs) (P:=P) (ty:=ty) hr ht hi hz rfl hby hzs hn0 hb0 (fun a ha=> ⟨hxn a ha,(hsz a ha).2⟩) hysf (some ⟨b,off,none⟩) cap (cC f (xs.flatMap flat).length) (by simp[cC])
     (fun j hj=>by rw[fO f _ j hj];exact hvv j hj)
     (by
       refine run_firstCells_some w.drew i.size xs.length ⟨b,off,none⟩ xs.length cap _ (by simp[cC,hxl]) (fun j y hy=> ?_)
       obtain⟨hj,rfl⟩:=List.getElem?_eq_some_iff.1 hy
       have hj':j < (xs.flatMap flat).length:=by simpa [cC] using hj
       rw[Addr.add_lit]
       simp only[cC,List.getElem_map,List.getElem_range]
       exact hr.imm _ _ _ (himm j hj')) u news (rF.of_src ht hi hz hS) hnl hnv (by have:=List.length_pos_iff.2 hy;omega) hbytes
    exact⟨z',w',K',_,_,h2,h3,h4,h5,h1 hy w.heap.size (hr.fresh (Nat.le_refl _))⟩
 ·-- onto one's own
  rename_i b0 xs
  obtain⟨htip,hxn,hbytes,h1⟩:=h
  exact rV hr ht hi hz hby hzs hn0 hb0 (rF.of_src ht hi hz hS) hnl hnv hysf hv htip hxn hbytes h1
 ·exact h.elim
end Go.Av
namespace Go.Av
open Go Go.RowKit
def yS(P:Program)(σ:AS)(t:TypeId)(l c:AV)(K:AV ->AS ->Prop):Prop:=
 match eI P t,l,c with
 |some (_,n,cM), .int _ l, .int _ c=>l=0 /\ 0 <=c /\ c*cM <=140737488355328 /\ ∀ b,σ.fresh b ->K (.sl (.own b) [] []) (σ.setTip b (0,n))
 |_,_,_=>False
set_option maxRecDepth 8000 in
theorem yU{P:Program}{G:Nat ->AV}{K:aJ}{σ:AS}{w:World}(hr:aZ G K σ w){t:TypeId}{l c:AV}{Kc:AV ->AS ->Prop}(h:yS P σ t l c Kc){v u:Value}(hv:VR K l v)(hu:VR K c u):
  ∃ z w' K' r σ',(Instr.makeSlice t v u).run P w= .ok z w' /\ K.le K' /\ aZ G K' σ' w' /\ VR K' r z /\ Kc r σ':=by
 unfold yS at h
 split at h
 case h_2=>exact h.elim
 rename_i e n cM k l k' c hel
 obtain⟨rfl,h0,hby,hK⟩:=h
 rw[VR.int_iff]at hv hu;subst hv hu
 obtain⟨ht,i,z,hi,hz,hsz,hbb,hzs,hn0,hb0,_⟩:=eS (K:=K) hel
 obtain⟨m,rfl⟩:=Int.eq_ofNat_of_zero_le h0
 have hmb:m*cM <=140737488355328:=by
  have h:=hby
  rw[<- Int.natCast_mul]at h
  omega
 have hm1:m <=140737488355328:=by
  have:m*1 <=m*cM:=Nat.mul_le_mul_left _ hb0
  omega
 have hw1:IntKind.i64.wrap (m:Int)=m:=by rw[IntKind.wrap_i64];omega
 have hw0:IntKind.i64.wrap 0=0:=by rw[IntKind.wrap_i64];omega
 have hbm: ¬ ((cM:Int)*(m:Int) >2 ^ 48):=by
  have:(cM*m:Nat) <=140737488355328:=by rw[Nat.mul_comm];exact hmb
  have h2:((cM*m:Nat):Int) <=140737488355328:=by omega
  rw[Int.natCast_mul]at h2
  have:(2:Int) ^ 48=281474976710656:=by decide
  omega
 have hsize:((Array.range (m*n)).map (z.cells[· % z.cells.size]!)).size=m*n:=by simp
 obtain⟨K',hle,hrel,hrow,himm⟩:=hr.addRow ((Array.range (m*n)).map (z.cells[· % z.cells.size]!)) e m n 0 hsize (Nat.zero_le _) (by unfold maxLen;omega)
 have hvr:=VR.sl_row (K:=K') (g:= .own w.heap.size) (xs:=[]) (n:=n) (b:=w.heap.size) (cap:=m) (c:= #[]) (fun a ha=>by cases ha) (Nat.zero_le _) (by unfold maxLen;omega) (fun o ho=>by simp at ho) (fun j hj=>by cases hj) ⟨rfl,rfl,e,n,hrow⟩
 refine⟨_,_,K',_,_,?_,hle,hrel,hvr,hK _ (hr.fresh (Nat.le_refl _))⟩
 unfold Instr.makeSlice
 have h48: ¬ ((281474976710656:Int) < (cM:Int)*(m:Int)):=by
  have:(2:Int) ^ 48=281474976710656:=by decide
  omega
 by_cases hm0:m*n=0
 ·have hm00:m=0:=by rcases Nat.mul_eq_zero.1 hm0 with h|h <;>omega
  subst hm00
  have ez:∀ (f g:Nat ->Value),(Array.range 0).map f=(Array.range 0).map g:=fun f g=>by apply Array.ext';simp
  simp[run_underlying ht,asInt,asIntOf,typeInfo,hi,hw0,hbb,newRow,sizeOf,hsz]
  exact congrArg (fun c=>w.alloc (Obj.cells c e)) (ez _ _)
 ·simp only[Sem.run_bind,run_underlying ht,asInt,asIntOf,Sem.run_pure,Result.andThen_ok,typeInfo,hi,run_program,hw1,hw0,hbb]
  have hlt: ¬ ((m:Int) < 0):=by omega
  simp[hlt,h48,sizeOf,typeInfo,hi,hsz,hm0,sY hi hz,newRow]
theorem aZ.marked{G:Nat ->AV}{K:aJ}{σ:AS}{w:World}(h:aZ G K σ w){b k n:Nat}(hbase:K.base <=b)(hbox:σ.box b=none)(htip:σ.tip b=none):aZ G K σ (w.freeze ⟨b,k,none⟩ n):=by
 have hold:∀ i,i ≠ b -> (w.freeze ⟨b,k,none⟩ n).heap[i]? =w.heap[i]? :=fun i hi=>by
  unfold World.freeze
  split
  ·rfl
  ·simp[Array.getElem?_modify,Ne.symm hi]
 have hsame:∀ c E fz,w.heap[b]? =some (.cells c E fz) ->∃ fz',(w.freeze ⟨b,k,none⟩ n).heap[b]? =some (.cells c E fz'):=fun c E fz hc=>by
  unfold World.freeze
  split
  ·exact⟨fz,hc⟩
  ·simp[Array.getElem?_modify,hc]
 have hcell:∀ a:Addr,(w.freeze ⟨b,k,none⟩ n).cell? a=w.cell? a:=by
  intro a
  by_cases hab:a.block=b
  ·unfold World.freeze
   split
   ·rfl
   ·simp only[World.cell?,Array.getElem?_modify,hab,if_true]
    cases w.heap[b]? with
    |none=>rfl
    |some o=>cases o <;>rfl
  ·exact World.cell?_of_block (hold _ hab)
 have hsize:(w.freeze ⟨b,k,none⟩ n).heap.size=w.heap.size:=by
  unfold World.freeze
  split <;>simp
 have hmeta:(w.freeze ⟨b,k,none⟩ n).os=w.os /\ (w.freeze ⟨b,k,none⟩ n).tape=w.tape /\ (w.freeze ⟨b,k,none⟩ n).output=w.output:=by
  unfold World.freeze
  split <;>exact⟨rfl,rfl,rfl⟩
 refine⟨fun i o v hv=>by rw[hcell];exact h.imm _ _ _ hv,fun i cp s' E hi=> ?_,fun i cs hi=> ?_,h.tip,fun i E m hi=> ?_,h.glob,?_,by rw[hsize];exact h.bs⟩
 ·obtain⟨cu,fz,h1,h2,h3,h4⟩:=h.row i cp s' E hi
  by_cases hib:i=b
  ·subst hib
   obtain⟨fz',h5⟩:=hsame cu E fz h1
   exact⟨cu,fz',h5,h2,h3,fun⟨x,hx⟩=>by rw[htip]at hx;cases hx⟩
  ·exact⟨cu,fz,by rw[hold i hib];exact h1,h2,h3,h4⟩
 ·have hne:i ≠ b:=by rintro rfl;rw[hbox]at hi;cases hi
  obtain⟨k1,k2,k3,k4,k5,d,F,hd,hx⟩:=h.box i cs hi
  exact⟨k1,k2,k3,k4,k5,d,F,by rw[hold i hne];exact hd,hx⟩
 ·have h1:=h.ty i E m hi
  by_cases hib:i=b
  ·subst hib
   cases E with
   | t E=>
    obtain⟨d,fz,hd,hn⟩:=h1
    obtain⟨fz',h5⟩:=hsame d E fz hd
    exact⟨d,fz',h5,hn⟩
   | ob o=>
    obtain⟨hb,x,hx,ho⟩:=h1
    refine⟨hb,x,?_,ho⟩
    unfold World.freeze
    split
    ·exact hx
    ·cases ho <;>simp[Array.getElem?_modify,hx]
  ·exact h1.old (hold i hib)
 ·refine h.below.step ⟨hmeta.1,hmeta.2.1,hmeta.2.2,by rw[hsize];exact Nat.le_refl _,fun i hi=>hold i (by omega)⟩ fun i o ho hc _=> ?_
  by_cases hib:i=b
  ·subst hib
   unfold World.freeze
   split
   ·exact ho
   ·simp only[Array.getElem?_modify,ho,if_true,Option.map_some]
    cases o <;>first|rfl|exact absurd rfl (hc _ _ _)
  ·rw[hold i hib];exact ho
theorem aZ.markedEnd{G:Nat ->AV}{K:aJ}{σ:AS}{w:World}(h:aZ G K σ w){b k n s cap:Nat}{E:TypeId}{c:Array Value}(hbase:K.base <=b)(hbox:σ.box b=none)(hrow:K.row b=some (cap,s,E))(hc:w.heap[b]? =some (.cells c E (0,0)))(hk:cap*s <=k):aZ G K σ (w.freeze ⟨b,k,none⟩ n):=by
 by_cases hn:n=0
 ·subst hn;exact h
 have hold:∀ i,i ≠ b -> (w.freeze ⟨b,k,none⟩ n).heap[i]? =w.heap[i]? :=fun i hi=>by
  unfold World.freeze
  split
  ·rfl
  ·simp[Array.getElem?_modify,Ne.symm hi]
 have hnew:(w.freeze ⟨b,k,none⟩ n).heap[b]? =some (.cells c E (k,k+n)):=by
  unfold World.freeze
  rw[if_neg hn]
  simp[Array.getElem?_modify,hc]
 have hcell:∀ a:Addr,(w.freeze ⟨b,k,none⟩ n).cell? a=w.cell? a:=by
  intro a
  by_cases hab:a.block=b
  ·unfold World.freeze
   split
   ·rfl
   ·simp only[World.cell?,Array.getElem?_modify,hab,if_true]
    cases w.heap[b]? with
    |none=>rfl
    |some o=>cases o <;>rfl
  ·exact World.cell?_of_block (hold _ hab)
 have hsize:(w.freeze ⟨b,k,none⟩ n).heap.size=w.heap.size:=by
  unfold World.freeze
  split <;>simp
 have hmeta:(w.freeze ⟨b,k,none⟩ n).os=w.os /\ (w.freeze ⟨b,k,none⟩ n).tape=w.tape /\ (w.freeze ⟨b,k,none⟩ n).output=w.output:=by
  unfold World.freeze
  split <;>exact⟨rfl,rfl,rfl⟩
 refine⟨fun i o v hv=>by rw[hcell];exact h.imm _ _ _ hv,fun i cp s' F hi=> ?_,fun i cs hi=> ?_,h.tip,fun i F m hi=> ?_,h.glob,?_,by rw[hsize];exact h.bs⟩
 ·obtain⟨cu,fz,h1,h2,h3,h4⟩:=h.row i cp s' F hi
  by_cases hib:i=b
  ·subst hib
   rw[hrow]at hi
   simp only[Option.some.injEq,Prod.mk.injEq]at hi
   obtain⟨rfl,rfl,rfl⟩:=hi
   rw[hc]at h1
   simp only[Option.some.injEq,Obj.cells.injEq]at h1
   obtain⟨rfl,_,_⟩:=h1
   exact⟨c,(k,k+n),hnew,h2,h3,fun _=> .inr hk⟩
  ·exact⟨cu,fz,by rw[hold i hib];exact h1,h2,h3,h4⟩
 ·have hne:i ≠ b:=by rintro rfl;rw[hbox]at hi;cases hi
  obtain⟨k1,k2,k3,k4,k5,d,F,hd,hx⟩:=h.box i cs hi
  exact⟨k1,k2,k3,k4,k5,d,F,by rw[hold i hne];exact hd,hx⟩
 ·have h1:=h.ty i F m hi
  by_cases hib:i=b
  ·subst hib
   cases F with
   | t F=>
    obtain⟨d,fz,hd,hm⟩:=h1
    rw[hc]at hd
    simp only[Option.some.injEq,Obj.cells.injEq]at hd
    obtain⟨rfl,rfl,rfl⟩:=hd
    exact⟨c,(k,k+n),hnew,hm⟩
   | ob o=>
    obtain⟨hb,x,hx,ho⟩:=h1
    rw[hc]at hx
    simp only[Option.some.injEq]at hx
    subst hx
    cases ho
  ·exact h1.old (hold i hib)
 ·exact h.below.trans ⟨hmeta.1,hmeta.2.1,hmeta.2.2,by rw[hsize];exact Nat.le_refl _,fun i hi=>hold i (by omega)⟩ hc hold
theorem A2o{P:Program}{G:Nat ->AV}{K:aJ}{σ:AS}{w:World}(hr:aZ G K σ w){s d e:TypeId}(hs:(P.underlying s).isSome=true)(hd:el P d=some e)(he:sk P e= .int .u8)(l:List UInt8)(hl:l.length <=maxLen):
  ∃ z w' K',(convert s d (.string ⟨⟨l⟩⟩)).run P w= .ok z w' /\ K.le K' /\ aZ G K' σ w' /\ VR K' (.sl .none (l.map fun c=> .int .u8 c.toNat) []) z:=by
 obtain⟨u,hu⟩:=Option.isSome_iff_exists.1 hs
 have hsz:(ByteArray.mk (Array.mk l)).size=l.length:=rfl
 have hge:l.length <=grownCap w l.length 0 e:=grownCap_ge w l.length 0 e
 have hcm:grownCap w l.length 0 e <=maxLen:=grownCap_le_maxLen w _ 0 e hl
 obtain⟨cap,hcap⟩:∃ cap,cap=grownCap w l.length 0 e:=⟨_,rfl⟩
 rw[<- hcap]at hge hcm
 let c:Array Value:=((ByteArray.mk (Array.mk l)).data.map fun b=>Value.int .u8 b.toNat)++Array.replicate (cap - l.length) (.int .u8 0)
 obtain⟨K',hle,hrel,himm,hrw⟩:=hr.drew.addImm c e
 have hcs:c.size=cap:=by simp[c];omega
 have hget:∀ j (h:j < l.length),c.getD j Go.undef= .int .u8 l[j].toNat:=by
  intro j h
  have h1:j < ((ByteArray.mk (Array.mk l)).data.map fun b=>Value.int .u8 b.toNat).size:=by simpa using h
  simp only[c,Array.getD_eq_getD_getElem?]
  rw[Array.getElem?_append_left h1]
  simp[h]
 have hvr:VR K' (.sl .none (l.map fun c=> .int .u8 c.toNat) []) (.slice (some ⟨w.drew.heap.size,0,none⟩) (l.map fun c=>AV.int .u8 c.toNat).length cap):=by
  refine VR.sl_row (n:=1) (c:=c) (fun a ha=> ?_) (by simpa using hge) hcm (fun o ho=>himm o (by rw[hcs];simp at ho;omega)) (fun j hj=> ?_) trivial
  ·obtain⟨x,_,rfl⟩:=List.mem_map.1 ha
   exact⟨rfl,rfl,fun y hy=>by simp[flat]at hy;subst hy;rfl⟩
  ·have hj':j < l.length:=by rw[iR]at hj;simpa using hj
   rw[hget j hj']
   have:((l.map fun c=>AV.int .u8 c.toNat).flatMap flat)[j]=AV.int .u8 l[j].toNat:=by
    have h2:((l.map fun c=>AV.int .u8 c.toNat).flatMap flat)[j]? =(l.map fun c=>AV.int .u8 c.toNat)[j]? :=by rw[iR]
    rw[List.getElem?_eq_getElem hj]at h2
    simpa [hj'] using h2
   rw[this];exact .int _ _
 simp only[List.length_map]at hvr
 have hb1:K'.base <=w.drew.heap.size:=by rw[hle.base];exact hr.bs
 have hfr:=hr.fresh (Nat.le_refl w.heap.size)
 have hfin:=hrel.marked (b:=w.drew.heap.size) (k:=c.size) (n:=1) hb1 hfr.1 hfr.2.1
 refine⟨_,_,K',?_,hle,hfin,hvr⟩
 unfold convert
 have key:(Conv.stringToBytes e ⟨⟨l⟩⟩).run P w= .ok (.slice (some ⟨w.drew.heap.size,0,none⟩) l.length cap) ((w.drew.alloc (.cells c e)).freeze ⟨w.drew.heap.size,c.size,none⟩ 1):=by
  unfold Conv.stringToBytes
  have h1:(choose (.appendCap l.length 0 e)).run P w= .ok cap w.drew:=by
   rw[hcap]
   simp[grownCap,Question.forced]
  simp only[hsz,Sem.run_bind,h1,Result.andThen_ok,newRow,run_newObj,World.alloc_eq,Sem.run_pure]
  have h2:((w.drew.alloc (.cells c e)).shape? w.drew.heap.size)=some (e,c.size):=by
   have hx:=heap_alloc_new w.drew (Obj.cells c e)
   simp only[World.shape?]
   rw[hx]
  have h3:(markStringish ⟨w.drew.heap.size,0,none⟩).run P (w.drew.alloc (.cells c e))= .ok () ((w.drew.alloc (.cells c e)).freeze ⟨w.drew.heap.size,c.size,none⟩ 1):=by
   unfold markStringish
   simp only[Sem.run_bind,run_shape,h2,Result.andThen_ok]
   rfl
  simp only[c]at h3 ⊢
  rw[h3]
  rfl
 cases u <;>simp only[Sem.run_bind,run_underlying hu,run_underlying (bX hd),run_underlying (kZ he),Result.andThen_ok] <;>exact key
theorem B0o{P:Program}{G:Nat ->AV}{K:aJ}{σ:AS}{w:World}(hr:aZ G K σ w){s d e:TypeId}(hs:(P.underlying s).isSome=true)(hd:el P d=some e)(he:sk P e= .int .u8)(l:List UInt8)(hl:l.length <=maxLen):
  ∃ z w' K',(convert s d (.string ⟨⟨l⟩⟩)).run P w= .ok z w' /\ K.le K' /\ aZ G K' (σ.setTip w.heap.size (l.length,1)) w' /\ VR K' (.sl (.own w.heap.size) (l.map fun c=> .int .u8 c.toNat) []) z:=by
 obtain⟨u,hu⟩:=Option.isSome_iff_exists.1 hs
 have hsz:(ByteArray.mk (Array.mk l)).size=l.length:=rfl
 have hge:l.length <=grownCap w l.length 0 e:=grownCap_ge w l.length 0 e
 have hcm:grownCap w l.length 0 e <=maxLen:=grownCap_le_maxLen w _ 0 e hl
 obtain⟨cap,hcap⟩:∃ cap,cap=grownCap w l.length 0 e:=⟨_,rfl⟩
 rw[<- hcap]at hge hcm
 let c:Array Value:=((ByteArray.mk (Array.mk l)).data.map fun b=>Value.int .u8 b.toNat)++Array.replicate (cap - l.length) (.int .u8 0)
 have hcs:c.size=cap:=by simp[c];omega
 obtain⟨K',hle,hrel,hrow,himm⟩:=hr.drew.addRow c e cap 1 l.length (by rw[hcs];omega) hge hcm
 have hget:∀ j (h:j < l.length),c.getD j Go.undef= .int .u8 l[j].toNat:=by
  intro j h
  have h1:j < ((ByteArray.mk (Array.mk l)).data.map fun b=>Value.int .u8 b.toNat).size:=by simpa using h
  simp only[c,Array.getD_eq_getD_getElem?]
  rw[Array.getElem?_append_left h1]
  simp[h]
 have hvr:VR K' (.sl (.own w.drew.heap.size) (l.map fun c=> .int .u8 c.toNat) []) (.slice (some ⟨w.drew.heap.size,0,none⟩) (l.map fun c=>AV.int .u8 c.toNat).length cap):=by
  refine VR.sl_row (n:=1) (c:=c) (fun a ha=> ?_) (by simpa using hge) hcm (fun o ho=>himm o (by simpa using ho)) (fun j hj=> ?_) ⟨rfl,rfl,e,1,hrow⟩
  ·obtain⟨x,_,rfl⟩:=List.mem_map.1 ha
   exact⟨rfl,rfl,fun y hy=>by simp[flat]at hy;subst hy;rfl⟩
  ·have hj':j < l.length:=by rw[iR]at hj;simpa using hj
   rw[hget j hj']
   have:((l.map fun c=>AV.int .u8 c.toNat).flatMap flat)[j]=AV.int .u8 l[j].toNat:=by
    have h2:((l.map fun c=>AV.int .u8 c.toNat).flatMap flat)[j]? =(l.map fun c=>AV.int .u8 c.toNat)[j]? :=by rw[iR]
    rw[List.getElem?_eq_getElem hj]at h2
    simpa [hj'] using h2
   rw[this];exact .int _ _
 simp only[List.length_map]at hvr
 have hb1:K'.base <=w.drew.heap.size:=by rw[hle.base];exact hr.bs
 have hfr:=hr.fresh (Nat.le_refl w.heap.size)
 have hfin:=hrel.markedEnd (b:=w.drew.heap.size) (k:=c.size) (n:=1) hb1 hfr.1 hrow (heap_alloc_new w.drew _) (by rw[hcs];omega)
 refine⟨_,_,K',?_,hle,hfin,hvr⟩
 unfold convert
 have key:(Conv.stringToBytes e ⟨⟨l⟩⟩).run P w= .ok (.slice (some ⟨w.drew.heap.size,0,none⟩) l.length cap) ((w.drew.alloc (.cells c e)).freeze ⟨w.drew.heap.size,c.size,none⟩ 1):=by
  unfold Conv.stringToBytes
  have h1:(choose (.appendCap l.length 0 e)).run P w= .ok cap w.drew:=by
   rw[hcap]
   simp[grownCap,Question.forced]
  simp only[hsz,Sem.run_bind,h1,Result.andThen_ok,newRow,run_newObj,World.alloc_eq,Sem.run_pure]
  have h2:((w.drew.alloc (.cells c e)).shape? w.drew.heap.size)=some (e,c.size):=by
   have hx:=heap_alloc_new w.drew (Obj.cells c e)
   simp only[World.shape?]
   rw[hx]
  have h3:(markStringish ⟨w.drew.heap.size,0,none⟩).run P (w.drew.alloc (.cells c e))= .ok () ((w.drew.alloc (.cells c e)).freeze ⟨w.drew.heap.size,c.size,none⟩ 1):=by
   unfold markStringish
   simp only[Sem.run_bind,run_shape,h2,Result.andThen_ok]
   rfl
  simp only[c]at h3 ⊢
  rw[h3]
  rfl
 cases u <;>simp only[Sem.run_bind,run_underlying hu,run_underlying (bX hd),run_underlying (kZ he),Result.andThen_ok] <;>exact key
def lN(P:Program)(s d:TypeId)(x:AV):Option AV:=
 match x with
 | .str l=>if sk P d= .str then nY P s d x
   else if(P.underlying s).isSome && ((el P d).any fun e=>decide (sk P e= .int .u8)) && decide (l.length <=maxLen)then some (.sl .none (l.map fun c=> .int .u8 c.toNat) [])else none
 |_=>nY P s d x
theorem vT{P:Program}{G:Nat ->AV}{K:aJ}{σ:AS}{w:World}(hr:aZ G K σ w){s d:TypeId}{x r:AV}(h:lN P s d x=some r){v:Value}(hv:VR K x v):
  ∃ z w' K',(convert s d v).run P w= .ok z w' /\ K.le K' /\ aZ G K' σ w' /\ VR K' r z:=by
 have old:nY P s d x=some r ->∃ z w' K',(convert s d v).run P w= .ok z w' /\ K.le K' /\ aZ G K' σ w' /\ VR K' r z:=fun h=>by
  obtain⟨z,h1,h2⟩:=yL (w:=w) h hv
  exact⟨z,w,K,h1,aJ.le.refl K,hr,h2⟩
 unfold lN at h
 split at h
 ·rename_i l
  split at h
  ·exact old h
  ·split at h
   ·rename_i hc
    simp only[Bool.and_eq_true,decide_eq_true_eq,Option.any_eq_true]at hc
    obtain⟨⟨h1,e,h2,h3⟩,h4⟩:=hc
    simp only[Option.some.injEq]at h;subst h
    rw[VR.str_iff]at hv;subst hv
    exact A2o hr h1 h2 h3 l h4
   ·cases h
 ·exact old h
def vR(P:Program)(σ:AS)(s d:TypeId)(x:AV)(K:AV ->AS ->Prop):Prop:=
 ∃ l e,x= .str l /\ (P.underlying s).isSome=true /\ el P d=some e /\ sk P e= .int .u8 /\ l.length <=maxLen /\ ∀ b,σ.fresh b ->K (.sl (.own b) (l.map fun c=> .int .u8 c.toNat) []) (σ.setTip b (l.length,1))
theorem vS{P:Program}{G:Nat ->AV}{K:aJ}{σ:AS}{w:World}(hr:aZ G K σ w){s d:TypeId}{x:AV}{Kc:AV ->AS ->Prop}(h:vR P σ s d x Kc){v:Value}(hv:VR K x v):
  ∃ z w' K' r σ',(convert s d v).run P w= .ok z w' /\ K.le K' /\ aZ G K' σ' w' /\ VR K' r z /\ Kc r σ':=by
 obtain⟨l,e,rfl,h1,h2,h3,h4,hK⟩:=h
 rw[VR.str_iff]at hv
 subst hv
 obtain⟨z,w',K',g1,g2,g3,g4⟩:=B0o hr h1 h2 h3 l h4
 exact⟨z,w',K',_,_,g1,g2,g3,g4,hK _ (hr.fresh (Nat.le_refl _))⟩
end Go.Av
