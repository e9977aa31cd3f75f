/- Slices that may be written: made, appended to, frozen; on abstract values. -/
import Derived.Test.YtinfbihcnonaoaaZ01
import Derived.Lib.UnsafeStr
set_option linter.unusedVariables false
set_option linter.unusedSimpArgs false
namespace Go.Av
open Go Go.RowKit
def AS.delBox(σ:AS)(b:Nat):AS:= {σ with box:=fun i=>if i=b then none else σ.box i}
section
variable {G:Nat ->AV} {K:aJ} {σ:AS} {w:World}
theorem aZ.delBox(h:aZ G K σ w)(b:Nat):aZ G K (σ.delBox b) w:=by
 refine⟨h.imm,h.row,fun i cs hi=> ?_,h.tip,h.ty,h.glob,h.below,h.bs⟩
 have hi':(if i=b then none else σ.box i)=some cs:=hi
 split at hi'
 ·cases hi'
 ·exact h.box i cs hi'
theorem aZ.tipBox (h:aZ G K σ w) {b s cap:Nat} {E:TypeId} (ht:σ.tip b=some (0,s)) (hrow:K.row b=some (cap,s,E)) (cs:List AV) {c:Array Value} (hc:w.heap[b]? =some (.cells c E (0,0))) (hl:cs.length <=c.size)
  (h1:∀ a,a ∈ cs ->one a=true) (hv:∀ j (hj:j < cs.length),VR K cs[j] (c.getD j Go.undef)):aZ G K ((σ.delTip b).setBox b cs) w:=by
 obtain⟨hb,cap',E',hr',_,himm⟩:=h.tip b 0 s ht
 refine⟨h.imm,fun i cp q F hr=> ?_,fun i ds hi=> ?_,fun i n q hi=> ?_,h.ty,h.glob,h.below,h.bs⟩
 ·obtain⟨cur,fz,k1,k2,k3,k4⟩:=h.row i cp q F hr
  exact⟨cur,fz,k1,k2,k3,fun⟨x,hx⟩=>k4 ⟨x,by
   have hx':(if i=b then none else σ.tip i)=some x:=hx
   split at hx'
   ·cases hx'
   ·exact hx'⟩⟩
 ·by_cases hib:i=b
  ·subst hib
   simp only[AS.setBox,if_true,Option.some.injEq]at hi
   subst hi
   exact⟨hb,by simp[AS.setBox,AS.delTip],trivial,fun o=>himm o (by omega),h1,c,E,hc,hl,hv⟩
  ·simp only[AS.setBox,AS.delTip,if_neg hib]at hi
   obtain⟨k1,k2,k3⟩:=h.box i ds hi
   exact⟨k1,by simp[AS.setBox,AS.delTip,hib,k2],k3⟩
 ·have hi':(if i=b then none else σ.tip i)=some (n,q):=hi
  split at hi'
  ·cases hi'
  ·exact h.tip i n q hi'
theorem aZ.addMut (h:aZ G K σ w) (c:Array Value) (E:TypeId) (cap s:Nat) (hc:c.size=cap*s) (hml:cap <=maxLen) (cs:List AV) (hl:cs.length <=c.size)
  (h1:∀ a,a ∈ cs ->one a=true) (hv:∀ j (hj:j < cs.length),VR K cs[j] (c.getD j Go.undef)):
  ∃ K',K.le K' /\ aZ G K' (σ.setBox w.heap.size cs) (w.alloc (.cells c E)) /\ K'.row w.heap.size=some (cap,s,E):=by
 obtain⟨K',hle,hrel,hrow,_⟩:=h.addRow c E cap s 0 hc (Nat.zero_le _) hml
 have h2:=hrel.tipBox (b:=w.heap.size) (s:=s) (by simp[AS.setTip]) hrow cs (heap_alloc_new w _) hl h1 (fun j hj=> (hv j hj).mono hle)
 have hf:=h.fresh (Nat.le_refl w.heap.size)
 have e:((σ.setTip w.heap.size (0,s)).delTip w.heap.size).setBox w.heap.size cs=σ.setBox w.heap.size cs:=by
  unfold AS.setBox AS.delTip AS.setTip
  congr 1
  funext i
  show(if i=w.heap.size then none else if i=w.heap.size then some (0,s)else σ.tip i)=σ.tip i
  split
  ·rename_i hi;subst hi;exact hf.2.1.symm
  ·rfl
 rw[e]at h2
 exact⟨K',hle,h2,hrow⟩
theorem aZ.growMut (h:aZ G K σ w) {b n s cap:Nat} {E:TypeId} {cs:List AV} (hb:σ.box b=some cs) (hrow:K.row b=some (cap,s,E)) (hcs:cs.length=n*s) (news:List Value) (nas:List AV) (m:Nat) (hm:news.length=m*s) (hnl:nas.length=news.length) (hcap:n+m <=cap)
  (h1:∀ a,a ∈ nas ->one a=true) (hv:∀ j (hj:j < nas.length),VR K nas[j] (news.getD j Go.undef)):
  aZ G K (σ.setBox b (cs++nas)) (w.setCells b (n*s) news):=by
 obtain⟨g1,g2,g3,g4,g5,c,F,hc,hs,hvv⟩:=h.box b cs hb
 obtain⟨cur,fz,hcur,hcsz,hml,_⟩:=h.row b cap s E hrow
 rw[hc]at hcur
 simp only[Option.some.injEq,Obj.cells.injEq]at hcur
 obtain⟨rfl,rfl,_⟩:=hcur
 have hms:(n+m)*s=n*s+m*s:=Nat.add_mul n m s
 have hle2:(n+m)*s <=cap*s:=Nat.mul_le_mul_right _ hcap
 obtain⟨c',hc1,hc2⟩:=jQ b news (n*s) w c F (0,0) hc
 obtain⟨m1,m2,m3,m4⟩:=jS b news (n*s) w
 have old:∀ i,i ≠ b -> (w.setCells b (n*s) news).heap[i]? =w.heap[i]? :=fun i hi=>cE b news _ _ i hi
 have hcellin:∀ j,j < news.length ->c'[n*s+j]? =some (news.getD j Go.undef):=by
  intro j hj
  have h3:=World.cell?_setCells_in b news (n*s) w (fun j hj=>by
   rw[cell_of_row w b _ c F (0,0) hc]
   have:n*s+j < c.size:=by omega
   simp[this]) j hj
  rw[cell_of_row _ b _ c' F (0,0) hc1]at h3
  rw[h3];simp[hj]
 have hcellout:∀ o,o < n*s ->c'[o]? =c[o]? :=by
  intro o ho
  have h3:=World.cell?_setCells_out b news (n*s) w ⟨b,o,none⟩ (fun _ _=> .inl ho)
  rw[cell_of_row _ b _ c' F (0,0) hc1,cell_of_row w b _ c F (0,0) hc]at h3
  exact h3
 refine⟨fun i o v hi=> ?_,fun i cp q F' hr=> ?_,fun i ds hi=> ?_,h.tip,fun i F' n' hi=> ?_,h.glob,?_,by rw[m4];exact h.bs⟩
 ·have hne:i ≠ b:=fun e=>by subst e;rw[g4 o]at hi;cases hi
  rw[World.cell?_of_block (w:=w) (old i hne)];exact h.imm i o v hi
 ·obtain⟨cu,fz,hcu,hx⟩:=h.row i cp q F' hr
  by_cases hib:i=b
  ·subst hib
   rw[hc]at hcu
   simp only[Option.some.injEq,Obj.cells.injEq]at hcu
   obtain⟨rfl,rfl,rfl⟩:=hcu
   exact⟨c',_,hc1,by rw[hc2];exact hx.1,hx.2⟩
  ·exact⟨cu,fz,by rw[old i hib];exact hcu,hx⟩
 ·by_cases hib:i=b
  ·subst hib
   simp only[AS.setBox,if_true,Option.some.injEq]at hi
   subst hi
   refine⟨g1,g2,g3,g4,fun a ha=> ?_,c',F,hc1,by rw[List.length_append,hc2];omega,fun j hj=> ?_⟩
   ·rcases List.mem_append.1 ha with ha|ha
    ·exact g5 a ha
    ·exact h1 a ha
   ·simp only[Array.getD_eq_getD_getElem?]
    by_cases hjc:j < cs.length
    ·rw[List.getElem_append_left hjc,hcellout j (by omega)]
     have:=hvv j hjc
     simpa [Array.getD_eq_getD_getElem?] using this
    ·have hj2:j - cs.length < nas.length:=by simp only[List.length_append]at hj;omega
     rw[List.getElem_append_right (by omega)]
     have h3:=hcellin (j - n*s) (by omega)
     rw[show n*s+(j - n*s)=j by omega]at h3
     rw[h3]
     have:=hv (j - cs.length) hj2
     simpa [<- hcs] using this
  ·simp only[AS.setBox,if_neg hib]at hi
   obtain⟨k1,k2,k3,k4,k5,d,F',hd,hds,hdv⟩:=h.box i ds hi
   exact⟨k1,k2,k3,k4,k5,d,F',by rw[old i hib];exact hd,hds,hdv⟩
 ·have h1:=h.ty i F' n' hi
  by_cases hib:i=b
  ·subst hib
   exact h1.wrote hc hc1 hc2
  ·exact h1.old (old i hib)
 ·exact h.below.trans ⟨m1,m2,m3,by rw[m4];exact Nat.le_refl _,fun k hk=>old k (by omega)⟩ hc old
theorem aZ.frozen(h:aZ G K σ w){b n s cap:Nat}{E:TypeId}{cs:List AV}(hb:σ.box b=some cs)(hrow:K.row b=some (cap,s,E))(hcs:cs.length=n*s)(hn:n <=cap):
  ∃ K',K.le K' /\ aZ G K' ((σ.delBox b).setTip b (n,s)) w /\ K'.row b=some (cap,s,E) /\ ∃ f:Nat ->Value,(∀ j,j < cs.length ->K'.imm b j=some (f j)) /\ (∀ j (hj:j < cs.length),VR K' cs[j] (f j)) /\ ∀ c,c ∈ cs ->one c=true:=by
 obtain⟨g1,g2,g3,g4,g5,c,F,hc,hs,hvv⟩:=h.box b cs hb
 have h0:=h.delBox b
 have h2:aZ G K (σ.delBox b) w:=h0
 obtain⟨k1,k2⟩:=h2.keep b (fun o=>decide (o < n*s)) (by simp[AS.delBox]) (fun m q hm=>by
  have hm':σ.tip b=some (m,q):=hm
  rw[g2]at hm';cases hm')
 refine⟨_,k1,?_,hrow,fun j=>c.getD j Go.undef,fun j hj=> ?_,fun j hj=> (hvv j hj).mono k1,g5⟩
 ·refine⟨k2.imm,fun i cp q F' hr=> ?_,fun i ds hi=> ?_,fun i m q hi=> ?_,k2.ty,k2.glob,k2.below,k2.bs⟩
  ·obtain⟨cur,fz,q1,q2,q3,q4⟩:=k2.row i cp q F' hr
   refine⟨cur,fz,q1,q2,q3,fun⟨x,hx⟩=> ?_⟩
   by_cases hib:i=b
   ·subst hib
    rw[hc]at q1
    simp only[Option.some.injEq,Obj.cells.injEq]at q1
    exact .inl q1.2.2.symm
   ·exact q4 ⟨x,by simpa [AS.setTip,hib] using hx⟩
  ·obtain⟨q1,q2,q3⟩:=k2.box i ds hi
   have hne:i ≠ b:=fun e=>by subst e;have hi':(if i=i then none else σ.box i)=some ds:=hi;rw[if_pos rfl]at hi';cases hi'
   exact⟨q1,by simp only[AS.setTip,if_neg hne];exact q2,q3⟩
  ·by_cases hib:i=b
   ·subst hib
    simp only[AS.setTip,if_true,Option.some.injEq,Prod.mk.injEq]at hi
    obtain⟨rfl,rfl⟩:=hi
    refine⟨g1,cap,E,hrow,hn,fun o ho=> ?_⟩
    show(if i=i /\ decide (o < n*s)=true then w.cell? ⟨i,o,none⟩else K.imm i o)=none
    rw[if_neg (by simp;omega)]
    exact g4 o
   ·simp only[AS.setTip,if_neg hib]at hi
    exact k2.tip i m q hi
 ·show(if b=b /\ decide (j < n*s)=true then w.cell? ⟨b,j,none⟩else K.imm b j)=_
  rw[if_pos ⟨rfl,by simp;omega⟩,cell_of_row w b j c F (0,0) hc]
  have:j < c.size:=by omega
  simp[this]
end
set_option maxRecDepth 8000 in
theorem A0r {P:Program} (w:World) {t e:TypeId} {n cM:Nat} {i:TypeInfo} {z:Value} {k k':IntKind} (ht:P.underlying t=some (.slice e)) (hi:P.info? e=some i) (hz:i.zero=some z) (hsz:i.size=n) (hbb:i.bytes=cM) (hn0:0 < n) (hb0:0 < cM)
  (l m:Nat) (hl:l <=m) (hmb:m*cM <=140737488355328):
  (Instr.makeSlice t (.int k l) (.int k' m)).run P w= .ok (.slice (some ⟨w.heap.size,0,none⟩) l m) (w.alloc (.cells ((Array.range (m*n)).map (z.cells[· % z.cells.size]!)) e)):=by
 have hm1:m <=140737488355328:=by
  have:m*1 <=m*cM:=Nat.mul_le_mul_left _ hb0
  omega
 have hw1:IntKind.i64.wrap (m:Int)=m:=by rw[IntKind.wrap_i64];omega
 have hw0:IntKind.i64.wrap (l:Int)=l:=by rw[IntKind.wrap_i64];omega
 have h48: ¬ ((281474976710656:Int) < (cM:Int)*(m:Int)):=by
  have:(cM*m:Nat) <=140737488355328:=by rw[Nat.mul_comm];exact hmb
  have h2:((cM*m:Nat):Int) <=140737488355328:=by omega
  rw[Int.natCast_mul]at h2
  omega
 unfold Instr.makeSlice
 by_cases hm0:m*n=0
 ·have hm00:m=0:=by rcases Nat.mul_eq_zero.1 hm0 with h|h <;>omega
  subst hm00
  have hl0:l=0:=by omega
  subst hl0
  have ez:∀ (f g:Nat ->Value),(Array.range 0).map f=(Array.range 0).map g:=fun f g=>by apply Array.ext';simp
  have hw00:IntKind.i64.wrap 0=0:=by rw[IntKind.wrap_i64];omega
  simp[run_underlying ht,asInt,asIntOf,typeInfo,hi,hw00,hbb,newRow,sizeOf,hsz]
  exact congrArg (fun c=>w.alloc (Obj.cells c e)) (ez _ _)
 ·simp only[Sem.run_bind,run_underlying ht,asInt,asIntOf,Sem.run_pure,Result.andThen_ok,typeInfo,hi,run_program,hw1,hw0,hbb]
  have hlt: ¬ ((m:Int) < 0):=by omega
  have hlt2: ¬ ((l:Int) < 0):=by omega
  have hlt3: ¬ ((m:Int) < (l:Int)):=by omega
  have hlt4: ¬ (m < l):=by omega
  simp[hlt,hlt2,hlt3,hlt4,h48,sizeOf,typeInfo,hi,hsz,hm0,sY hi hz,newRow]
def rQ(P:Program)(σ:AS)(t:TypeId)(l c:AV)(K:AV ->AS ->Prop):Prop:=
 match eI P t,(el P t).bind (zc P),l,c with
 |some (e,n,cM),some zz, .int _ l, .int _ c=>0 <=l /\ l <=c /\ c*cM <=140737488355328 /\ ∀ b,σ.fresh b ->K (.bs b l.toNat n e) (σ.setBox b (List.replicate l.toNat zz).flatten)
 |_,_,_,_=>False
def rS(P:Program)(σ:AS)(t:TypeId)(l c:AV)(K:AV ->AS ->Prop):Prop:=
 match eI P t,(el P t).bind (zc P),l,c with
 |some (e,n,cM),some zz, .int _ l, .int _ c=>0 <=l /\ l <=c /\ c*cM <=140737488355328 /\ ∀ b,σ.fresh b ->K (.raw (.slice (some ⟨b,0,none⟩) l.toNat c.toNat)) ((σ.setBox b (List.replicate c.toNat zz).flatten).setTy b (e,c.toNat*n))
 |_,_,_,_=>False
theorem A3y{zz:List AV}{n:Nat}(hn:zz.length=n):∀ (l j:Nat),(hj:j < (List.replicate l zz).flatten.length) ->∃ h:j % n < zz.length,(List.replicate l zz).flatten[j]=zz[j % n]
 |0,j,hj=>by simp at hj
 | l +1,j,hj=>by
  have hlen:(List.replicate (l+1) zz).flatten=zz++(List.replicate l zz).flatten:=by simp[List.replicate_succ]
  simp only[hlen]at hj ⊢
  by_cases hjz:j < zz.length
  ·have:j % n=j:=Nat.mod_eq_of_lt (by omega)
   refine⟨by omega,?_⟩
   rw[List.getElem_append_left hjz]
   simp only[this]
  ·have hj2:j - zz.length < (List.replicate l zz).flatten.length:=by simp only[List.length_append]at hj;omega
   obtain⟨h1,h2⟩:=A3y hn l (j - zz.length) hj2
   have e:(j - zz.length) % n=j % n:=by
    rw[hn]at hjz ⊢
    rw[<- Nat.mod_eq_sub_mod (by omega)]
   simp only[e]at h1 h2
   refine⟨h1,?_⟩
   rw[List.getElem_append_right (by omega)]
   exact h2
theorem vZ{P:Program}{G:Nat ->AV}{K:aJ}{σ:AS}{w:World}(hr:aZ G K σ w){t:TypeId}{l c:AV}{Kc:AV ->AS ->Prop}(h:rQ P σ t l c Kc){v u:Value}(hv:VR K l v)(hu:VR K c u):
  ∃ z w' K' r σ',(Instr.makeSlice t v u).run P w= .ok z w' /\ K.le K' /\ aZ G K' σ' w' /\ VR K' r z /\ Kc r σ':=by
 unfold rQ at h
 split at h
 case h_2=>exact h.elim
 rename_i e n cM zz k l k' c hel hzz
 obtain⟨h0,hlc,hby,hK⟩:=h
 rw[VR.int_iff]at hv hu;subst hv hu
 obtain⟨ht,i,z,hi,hz,hsz,hbb,hzs,hn0,hb0,hcr⟩:=eS (K:=K) hel
 have hel2:el P t=some e:=by unfold el;rw[ht]
 rw[hel2,Option.bind_some]at hzz
 have hcrz:=hcr zz hzz
 obtain⟨l,rfl⟩:=Int.eq_ofNat_of_zero_le h0
 obtain⟨m,rfl⟩:=Int.eq_ofNat_of_zero_le (Int.le_trans h0 hlc)
 have hmb:m*cM <=140737488355328:=by
  have h:=hby
  rw[<- Int.natCast_mul]at h
  omega
 have hm1:m <=140737488355328:=by
  have:m*1 <=m*cM:=Nat.mul_le_mul_left _ hb0
  omega
 have hrun:=A0r (P:=P) w (k:=k) (k':=k') ht hi hz hsz hbb hn0 hb0 l m (by omega) hmb
 have hzl:zz.length=n:=by rw[<- hcrz.size];exact hzs
 have hsize:((Array.range (m*n)).map (z.cells[· % z.cells.size]!)).size=m*n:=by simp
 have hflen:(List.replicate l zz).flatten.length=l*n:=by simp[hzl]
 have hlm:l*n <=m*n:=Nat.mul_le_mul_right _ (by omega)
 obtain⟨K',hle,hrel,hrow⟩:=hr.addMut ((Array.range (m*n)).map (z.cells[· % z.cells.size]!)) e m n hsize (by unfold maxLen;omega) (List.replicate l zz).flatten (by rw[hsize,hflen];exact hlm)
  (fun a ha=>by
    obtain⟨x,hx,hax⟩:=List.mem_flatten.1 ha
    rw[List.mem_replicate]at hx
    rw[hx.2]at hax
    exact hcrz.one a hax)
  (fun j hj=>by
    obtain⟨h1,h2⟩:=A3y hzl l j hj
    rw[h2]
    have h3:=hcrz.at_ (j % n) h1
    have hjm:j < m*n:=by omega
    have:((Array.range (m*n)).map (z.cells[· % z.cells.size]!)).getD j Go.undef=z.cells.getD (j % n) Go.undef:=by
     have hlt:j % n < z.cells.size:=by rw[hzs];exact Nat.mod_lt _ hn0
     simp[hjm,hzs,Nat.mod_lt _ hn0]
    rw[this];exact h3)
 refine⟨_,_,K',_,_,hrun,hle,hrel,?_,hK _ (hr.fresh (Nat.le_refl _))⟩
 exact .bs _ _ n m e hrow (by omega) (by unfold maxLen;omega)
theorem wA{P:Program}{G:Nat ->AV}{K:aJ}{σ:AS}{w:World}(hr:aZ G K σ w){t:TypeId}{l c:AV}{Kc:AV ->AS ->Prop}(h:rS P σ t l c Kc){v u:Value}(hv:VR K l v)(hu:VR K c u):
  ∃ z w' K' r σ',(Instr.makeSlice t v u).run P w= .ok z w' /\ K.le K' /\ aZ G K' σ' w' /\ VR K' r z /\ Kc r σ':=by
 unfold rS at h
 split at h
 case h_2=>exact h.elim
 rename_i e n cM zz k l k' c hel hzz
 obtain⟨h0,hlc,hby,hK⟩:=h
 rw[VR.int_iff]at hv hu;subst hv hu
 obtain⟨ht,i,z,hi,hz,hsz,hbb,hzs,hn0,hb0,hcr⟩:=eS (K:=K) hel
 have hel2:el P t=some e:=by unfold el;rw[ht]
 rw[hel2,Option.bind_some]at hzz
 have hcrz:=hcr zz hzz
 obtain⟨l,rfl⟩:=Int.eq_ofNat_of_zero_le h0
 obtain⟨m,rfl⟩:=Int.eq_ofNat_of_zero_le (Int.le_trans h0 hlc)
 have hmb:m*cM <=140737488355328:=by
  have h:=hby
  rw[<- Int.natCast_mul]at h
  omega
 have hm1:m <=140737488355328:=by
  have:m*1 <=m*cM:=Nat.mul_le_mul_left _ hb0
  omega
 have hrun:=A0r (P:=P) w (k:=k) (k':=k') ht hi hz hsz hbb hn0 hb0 l m (by omega) hmb
 have hzl:zz.length=n:=by rw[<- hcrz.size];exact hzs
 have hsize:((Array.range (m*n)).map (z.cells[· % z.cells.size]!)).size=m*n:=by simp
 have hflen:(List.replicate m zz).flatten.length=m*n:=by simp[hzl]
 have hrel:=hr.addBox ((Array.range (m*n)).map (z.cells[· % z.cells.size]!)) e (List.replicate m zz).flatten (by rw[hsize,hflen];exact Nat.le_refl _)
  (fun a ha=>by
    obtain⟨x,hx,hax⟩:=List.mem_flatten.1 ha
    rw[List.mem_replicate]at hx
    rw[hx.2]at hax
    exact hcrz.one a hax)
  (fun j hj=>by
    obtain⟨h1,h2⟩:=A3y hzl m j hj
    rw[h2]
    have h3:=hcrz.at_ (j % n) h1
    have hjm:j < m*n:=by omega
    have:((Array.range (m*n)).map (z.cells[· % z.cells.size]!)).getD j Go.undef=z.cells.getD (j % n) Go.undef:=by
     have hlt:j % n < z.cells.size:=by rw[hzs];exact Nat.mod_lt _ hn0
     simp[hjm,hzs,Nat.mod_lt _ hn0]
    rw[this];exact h3)
 exact⟨_,_,K,_,_,hrun,aJ.le.refl K,hrel.typed (heap_alloc_new w _) hsize, .raw _,hK _ (hr.fresh (Nat.le_refl _))⟩
def nW(P:Program)(σ:AS)(t:TypeId)(len:Nat)(ps:List (Nat × AV))(K:AV ->AS ->Prop):Prop:=
 match el P t,(el P t).bind (tk P),dG P t len ps with
 |some e,some (_,n),some (.sl _ xs _)=>∀ b,σ.fresh b ->K (.bs b len n e) (σ.setBox b (xs.flatMap flat))
 |_,_,_=>False
theorem tQ {P:Program} {G:Nat ->AV} {K:aJ} {σ:AS} {w:World} (hr:aZ G K σ w) {t:TypeId} {len:Nat} {ps:List (Nat × AV)} {Kc:AV ->AS ->Prop} (h:nW P σ t len ps Kc)
  {qs:List (Nat × Value)} (hv:VRp K ps qs):
  ∃ z w' K' r σ',(Instr.buildSlice t len qs.toArray).run P w= .ok z w' /\ K.le K' /\ aZ G K' σ' w' /\ VR K' r z /\ Kc r σ':=by
 unfold nW at h
 split at h
 case h_2=>exact h.elim
 rename_i e ag n g xs sp hel htk hb
 obtain⟨e',ag',n',us,he,hn,hrun,hxs,hsize,hlml,hlen,hall,hcu⟩:=lE (w:=w) hb hv
 rw[hel]at he
 simp only[Option.some.injEq]at he
 subst he
 rw[hel,Option.bind_some,hn]at htk
 simp only[Option.some.injEq,Prod.mk.injEq]at htk
 obtain⟨rfl,rfl⟩:=htk
 simp only[AV.sl.injEq]at hxs
 obtain⟨rfl,rfl,rfl⟩:=hxs
 obtain⟨K',hle,hrel,hrow⟩:=hr.addMut us e len n' hsize hlml ((ps.map (·.2)).flatMap flat) (Nat.le_of_eq hcu.size.symm) hcu.one (fun j hj=>hcu.at_ j hj)
 exact⟨_,_,K',_,_,hrun,hle,hrel, .bs _ _ n' len e hrow (Nat.le_refl _) hlml,h _ (hr.fresh (Nat.le_refl _))⟩
def nT(P:Program)(σ:AS)(t tx:TypeId)(s x:AV)(K:AV ->AS ->Prop):Prop:=
 match eI P t,nB P tx x with
 | some (e,n,cM),some ys=>
  (∀ a,a ∈ ys -> (flat a).length=n) /\
  match s with
  | .nil=>ys ≠ [] /\ ys.length*cM <=140737488355328 /\ ∀ b,σ.fresh b ->K (.bs b ys.length n e) (σ.setBox b (ys.flatMap flat))
  | .bs b m q F=> (q=n /\ F=e) /\ ∃ cs,σ.box b=some cs /\ cs.length=m*n /\ (m+ys.length)*cM <=140737488355328 /\
    ∀ b',(b'=b \/ σ.fresh b') ->K (.bs b' (m+ys.length) n e) ((σ.delBox b).setBox b' (cs++ys.flatMap flat))
  |_=>False
 |_,_=>False
theorem jH {P:Program} {G:Nat ->AV} {K:aJ} {σ:AS} {w:World} (hr:aZ G K σ w) {cs nas:List AV} {n cM xl yl:Nat} {t tx ty e:TypeId} {i:TypeInfo} {z:Value}
  (ht:P.underlying t=some (.slice e)) (hi:P.info? e=some i) (hz:i.zero=some z) (hsz:i.size=n) (hby:i.bytes=cM) (hzs:z.cells.size=n) (hn0:0 < n) (hb0:0 < cM)
  (hcl:cs.length=xl*n) (hnn:nas.length=yl*n) (hc1:∀ c,c ∈ cs ->one c=true) (hn1:∀ c,c ∈ nas ->one c=true)
  (base:Option Addr) (sCap:Nat) (olds:List Value) (hol:olds.length=cs.length) (hov:∀ j (hj:j < cs.length),VR K cs[j] (olds.getD j Go.undef))
  (hold:(Builtin.firstCells i.size xl (.slice base xl sCap)).run P w.drew= .ok olds.toArray w.drew)
  (v:Value) (news:List Value) (hsrc:Src P i.size tx v yl news w) (hnl:news.length=nas.length) (hnv:∀ j (hj:j < nas.length),VR K nas[j] (news.getD j Go.undef))
  (hg:sCap < xl+yl) (hbytes:(xl+yl)*cM <=140737488355328):
  ∃ u w' K',(Builtin.append_ #[t,tx] ty #[.slice base xl sCap,v]).run P w= .ok u w' /\ K.le K' /\ aZ G K' (σ.setBox w.heap.size (cs++nas)) w' /\ VR K' (.bs w.heap.size (xl+yl) n e) u:=by
 have hmax:xl+yl <=140737488355328:=by
  have:(xl+yl)*1 <=(xl+yl)*cM:=Nat.mul_le_mul_left _ hb0
  omega
 have hrun:=run_append_grow_src (P:=P) w t tx ty e i z ht hi hz base xl sCap olds hold v yl news hsrc hg (by omega) (by rw[hby];exact growslice_fits hg hbytes)
 have hge:=grownCap_ge w (xl+yl) sCap e
 have hcm:grownCap w (xl+yl) sCap e <=maxLen:=grownCap_le_maxLen w _ sCap e (by unfold maxLen;omega)
 generalize grownCap w (xl+yl) sCap e=cap at hrun hge hcm
 have hsize:((olds++news).toArray++Builtin.zeroCells z.cells (cap - (xl+yl))).size=cap*n:=by
  simp only[Array.size_append,List.size_toArray,List.length_append,size_zeroCells,hzs,hol,hnl,hcl,hnn,<- Nat.add_mul]
  congr 1;omega
 have hge2:(xl+yl)*n <=cap*n:=Nat.mul_le_mul_right _ hge
 obtain⟨K',hle,hrel,hrow⟩:=hr.drew.addMut ((olds++news).toArray++Builtin.zeroCells z.cells (cap - (xl+yl))) e cap n hsize hcm (cs++nas) (by rw[hsize,List.length_append,hcl,hnn,<- Nat.add_mul];exact hge2)
  (fun a ha=>by rcases List.mem_append.1 ha with ha|ha;exact hc1 a ha;exact hn1 a ha)
  (fun j hj=>by
    have hjl:j < (olds++news).length:=by simp only[List.length_append]at hj ⊢;omega
    have e1:((olds++news).toArray++Builtin.zeroCells z.cells (cap - (xl+yl))).getD j Go.undef=(olds++news).getD j Go.undef:=by
     simp only[Array.getD_eq_getD_getElem?,List.getD_eq_getElem?_getD]
     rw[Array.getElem?_append_left (by simpa using hjl)]
     simp
    rw[e1]
    by_cases hjx:j < cs.length
    ·have e2:(olds++news).getD j Go.undef=olds.getD j Go.undef:=by
      simp only[List.getD_eq_getElem?_getD];rw[List.getElem?_append_left (by omega)]
     rw[e2,List.getElem_append_left hjx];exact hov j hjx
    ·have e2:(olds++news).getD j Go.undef=news.getD (j - cs.length) Go.undef:=by
      simp only[List.getD_eq_getElem?_getD];rw[List.getElem?_append_right (by omega),hol]
     have hj2:j - cs.length < nas.length:=by simp only[List.length_append]at hj;omega
     rw[e2,List.getElem_append_right (by omega)];exact hnv _ hj2)
 exact⟨_,_,K',hrun,hle,hrel, .bs _ _ n cap e hrow hge hcm⟩
theorem fN{ys:List AV}(h:∀ a,a ∈ ys ->isv a=true /\ ∀ c,c ∈ flat a ->one c=true):∀ c,c ∈ ys.flatMap flat ->one c=true:=fun c hc=>by
 obtain⟨a,ha,hca⟩:=List.mem_flatMap.1 hc
 exact(h a ha).2 c hca
theorem lJ {P:Program} {G:Nat ->AV} {K:aJ} {σ:AS} {w:World} (hr:aZ G K σ w) {t tx ty:TypeId} {s x:AV} {Kc:AV ->AS ->Prop} (h:nT P σ t tx s x Kc)
  {v u:Value} (hv:VR K s v) (hu:VR K x u):
  ∃ z w' K' r σ',(Builtin.append_ #[t,tx] ty #[v,u]).run P w= .ok z w' /\ K.le K' /\ aZ G K' σ' w' /\ VR K' r z /\ Kc r σ':=by
 unfold nT at h
 split at h
 case h_2=>exact h.elim
 rename_i e n cM ys hel hsrc
 obtain⟨hys,h⟩:=h
 obtain⟨ht,i,z,hi,hz,hsz,hby,hzs,hn0,hb0,_⟩:=eS (K:=K) hel
 obtain⟨news,hS,hnl,hyv,hnv⟩:=nC hr hsrc hys hu
 subst hsz
 have hyl:=aS (sz:=i.size) ys hys
 split at h
 ·obtain⟨hne,hbytes,hK⟩:=h
  rw[VR.nil_iff]at hv;subst hv
  obtain⟨z',w',K',h2,h3,h4,h5⟩:=jH (cs:=[]) (nas:=ys.flatMap flat) (xl:=0) (yl:=ys.length) (P:=P) (ty:=ty) hr ht hi hz rfl hby hzs hn0 hb0 (by simp) hyl (fun a ha=>by cases ha) (fN hyv) none 0 [] rfl (fun j hj=>by cases hj)
   (by simp[Builtin.firstCells]) u news hS hnl hnv (by have:=List.length_pos_iff.2 hne;omega) (by simpa using hbytes)
  refine⟨z',w',K',_,_,h2,h3,h4,h5,?_⟩
  have:=hK w.heap.size (hr.fresh (Nat.le_refl _))
  simpa using this
 ·rename_i b m q F0
  obtain⟨⟨hq,hF0⟩,cs,hb,hcl,hbytes,hK⟩:=h
  subst hq
  obtain⟨g1,g2,g3,g4,g5,c,F,hc,hs,hvv⟩:=hr.box b cs hb
  cases hv with
  | bs _ _ _ cap _ hrow hn hm=>
   rw[hF0]at hrow
   obtain⟨cur,fz,hcur,hcsz,hml,_⟩:=hr.row b cap i.size e hrow
   rw[hc]at hcur
   simp only[Option.some.injEq,Obj.cells.injEq]at hcur
   obtain⟨rfl,hFe,_⟩:=hcur
   rw[hFe]at hc
   by_cases hroom:m+ys.length <=cap
   ·have hle2:(m+ys.length)*i.size <=cap*i.size:=Nat.mul_le_mul_right _ hroom
    have hadd:(m+ys.length)*i.size=m*i.size+ys.length*i.size:=Nat.add_mul _ _ _
    have hrun:=run_append_room_src (P:=P) w t tx ty e i ht hi b 0 m cap u ys.length news hS hroom
     (fun j hj=>by
       rw[cell_of_row w b _ c e (0,0) hc]
       have:m*i.size+j < c.size:=by omega
       simp[this])
     (fun j hj=>by simp[World.frozen?,hc])
    rw[Nat.zero_add]at hrun
    have hrel:=hr.growMut hb hrow hcl news (ys.flatMap flat) ys.length (by rw[hnl,hyl]) hnl.symm hroom (fN hyv) hnv
    have h2:=hK b (.inl rfl)
    have e1:(σ.delBox b).setBox b (cs++ys.flatMap flat)=σ.setBox b (cs++ys.flatMap flat):=by
     unfold AS.setBox AS.delBox
     congr 1
     funext j
     show(if j=b then some (cs++ys.flatMap flat)else if j=b then none else σ.box j)=(if j=b then some (cs++ys.flatMap flat)else σ.box j)
     split <;>rfl
    rw[e1]at h2
    exact⟨_,_,K,_,_,hrun,aJ.le.refl K,hrel, .bs b _ i.size cap e hrow hroom hm,h2⟩
   ·obtain⟨z',w',K',h2,h3,h4,h5⟩:=jH (cs:=cs) (nas:=ys.flatMap flat) (xl:=m) (yl:=ys.length) (P:=P) (ty:=ty) hr ht hi hz rfl hby hzs hn0 hb0 hcl hyl g5 (fN hyv) (some ⟨b,0,none⟩) cap (cC (fun j=>c.getD j Go.undef) cs.length) (by simp[cC])
     (fun j hj=>by rw[fO _ _ j hj];exact hvv j hj)
     (by
       refine run_firstCells_some w.drew i.size m ⟨b,0,none⟩ m cap _ (by simp[cC,hcl]) (fun j y hy=> ?_)
       obtain⟨hj,rfl⟩:=List.getElem?_eq_some_iff.1 hy
       have hj':j < cs.length:=by simpa [cC] using hj
       rw[Addr.add_lit]
       simp only[cC,List.getElem_map,List.getElem_range]
       have:w.drew.cell? ⟨b,0+j,none⟩=w.cell? ⟨b,j,none⟩:=by rw[Nat.zero_add];rfl
       rw[this,cell_of_row w b j c e (0,0) hc]
       have:j < c.size:=by omega
       simp[this]) u news hS hnl hnv (by omega) hbytes
    have hf:=hr.fresh (Nat.le_refl w.heap.size)
    have hne:w.heap.size ≠ b:=fun e=>by rw[e]at hf;rw[hf.1]at hb;cases hb
    have h6:=hK w.heap.size (.inr hf)
    refine⟨z',w',K',_,_,h2,h3,?_,h5,h6⟩
    have h7:=h4.delBox b
    have e2:(σ.setBox w.heap.size (cs++ys.flatMap flat)).delBox b=(σ.delBox b).setBox w.heap.size (cs++ys.flatMap flat):=by
     unfold AS.setBox AS.delBox
     congr 1
     funext j
     show(if j=b then none else if j=w.heap.size then some (cs++ys.flatMap flat)else σ.box j)=(if j=w.heap.size then some (cs++ys.flatMap flat)else if j=b then none else σ.box j)
     by_cases h1:j=b
     ·rw[if_pos h1,if_neg (by rw[h1];exact Ne.symm hne),if_pos h1]
     ·rw[if_neg h1,if_neg h1]
    rw[e2]at h7
    exact h7
 ·exact h.elim
theorem aZ.shrink{G:Nat ->AV}{K:aJ}{σ:AS}{w:World}(h:aZ G K σ w){b:Nat}{cs:List AV}(hb:σ.box b=some cs)(k:Nat):aZ G K (σ.setBox b (cs.take k)) w:=by
 refine⟨h.imm,h.row,fun i ds hi=> ?_,h.tip,h.ty,h.glob,h.below,h.bs⟩
 have hi':(if i=b then some (cs.take k)else σ.box i)=some ds:=hi
 split at hi'
 ·rename_i hib
  subst hib
  simp only[Option.some.injEq]at hi'
  subst hi'
  obtain⟨g1,g2,g3,g4,g5,c,F,hc,hs,hvv⟩:=h.box i cs hb
  refine⟨g1,g2,g3,g4,fun a ha=>g5 a (List.mem_of_mem_take ha),c,F,hc,by simp only[List.length_take];omega,fun j hj=> ?_⟩
  rw[List.getElem_take]
  exact hvv j (by simp only[List.length_take]at hj;omega)
 ·exact h.box i ds hi'
def lI(P:Program)(σ:AS)(t tx:TypeId)(s x:AV)(K:AV ->AS ->Prop):Prop:=
 match eI P t,nB P tx x with
 | some (e,n,cM),some ys=>
  (∀ a,a ∈ ys -> (flat a).length=n) /\
  match s with
  | .nil=>ys ≠ [] /\ ys.length*cM <=140737488355328 /\ ∀ b,σ.fresh b ->K (.bs b ys.length n e) (σ.setBox b (ys.flatMap flat))
  | .bs b m q F=> (q=n /\ F=e) /\ ∃ cs,σ.box b=some cs /\ m*n <=cs.length /\ (m+ys.length)*cM <=140737488355328 /\
    ∀ b',(b'=b \/ σ.fresh b') ->K (.bs b' (m+ys.length) n e) ((σ.delBox b).setBox b' (cs.take (m*n)++ys.flatMap flat))
  |_=>False
 |_,_=>False
theorem rJ {P:Program} {G:Nat ->AV} {K:aJ} {σ:AS} {w:World} (hr:aZ G K σ w) {t tx ty:TypeId} {s x:AV} {Kc:AV ->AS ->Prop} (h:lI P σ t tx s x Kc)
  {v u:Value} (hv:VR K s v) (hu:VR K x u):
  ∃ z w' K' r σ',(Builtin.append_ #[t,tx] ty #[v,u]).run P w= .ok z w' /\ K.le K' /\ aZ G K' σ' w' /\ VR K' r z /\ Kc r σ':=by
 unfold lI at h
 split at h
 case h_2=>exact h.elim
 rename_i e n cM ys hel hsrc
 obtain⟨hys,h⟩:=h
 split at h
 ·exact lJ (ty:=ty) hr (by unfold nT;rw[hel,hsrc];exact⟨hys,h⟩) hv hu
 ·rename_i b m q F0
  obtain⟨hq,cs,hb,hcl,hbytes,hK⟩:=h
  refine lJ (ty:=ty) (σ:=σ.setBox b (cs.take (m*n))) (hr.shrink hb _) ?_ hv hu
  unfold nT
  rw[hel,hsrc]
  refine⟨hys,hq,cs.take (m*n),by simp[AS.setBox],by simp only[List.length_take];omega,hbytes,fun b' hb'=> ?_⟩
  have e1:((σ.setBox b (cs.take (m*n))).delBox b).setBox b' (cs.take (m*n)++ys.flatMap flat)=(σ.delBox b).setBox b' (cs.take (m*n)++ys.flatMap flat):=by
   unfold AS.setBox AS.delBox
   congr 1
   funext j
   show(if j=b' then _ else if j=b then none else if j=b then _ else σ.box j)=(if j=b' then _ else if j=b then none else σ.box j)
   split
   ·rfl
   ·split <;>rfl
  rw[e1]
  refine hK b' (hb'.imp id fun hf=> ?_)
  have hbb:b' ≠ b:=fun e=>by
   subst e
   have:=hf.1
   simp[AS.setBox]at this
  refine⟨?_,hf.2.1,hf.2.2⟩
  have h1:(if b'=b then some (cs.take (m*n))else σ.box b')=none:=hf.1
  rw[if_neg hbb]at h1;exact h1
 ·exact h.elim
def jV(P:Program)(σ:AS)(t tx:TypeId)(s x:AV)(K:AV ->AS ->Prop):Prop:=
 match eI P t,sk P tx,s,x with
 |some (e,n,cM), .int _, .nil, .int _ k=>0 < k /\ k*cM <=140737488355328 /\ ∀ b,σ.fresh b ->K (.bs b k.toNat n e) (σ.setBox b [])
 |_,_,_,_=>False
theorem qQ {P:Program} {G:Nat ->AV} {K:aJ} {σ:AS} {w:World} (hr:aZ G K σ w) {t tx ty:TypeId} {s x:AV} {Kc:AV ->AS ->Prop} (h:jV P σ t tx s x Kc)
  {v u:Value} (hv:VR K s v) (hu:VR K x u):
  ∃ z w' K' r σ',(Builtin.append_ #[t,tx] ty #[v,u]).run P w= .ok z w' /\ K.le K' /\ aZ G K' σ' w' /\ VR K' r z /\ Kc r σ':=by
 unfold jV at h
 split at h
 case h_2=>exact h.elim
 rename_i e n cM kk k' k hel hsk
 obtain⟨h0,hby,hK⟩:=h
 rw[VR.nil_iff]at hv;subst hv
 rw[VR.int_iff]at hu;subst hu
 obtain⟨ht,i,z,hi,hz,hsz,hbb,hzs,hn0,hb0,_⟩:=eS (K:=K) hel
 obtain⟨m,rfl⟩:=Int.eq_ofNat_of_zero_le (Int.le_of_lt h0)
 have hmb:m*cM <=140737488355328:=by
  have h:=hby
  rw[<- Int.natCast_mul]at h
  omega
 have hm1:m <=140737488355328:=by
  have:m*1 <=m*cM:=Nat.mul_le_mul_left _ hb0
  omega
 have hw1:IntKind.i64.wrap (m:Int)=m:=by rw[IntKind.wrap_i64];omega
 have hge:=grownCap_ge w m 0 e
 have hcm:grownCap w m 0 e <=maxLen:=grownCap_le_maxLen w _ 0 e (by unfold maxLen;omega)
 have hlt: ¬ ((m:Int) < 0):=by omega
 have h48: ¬ ((281474976710656:Int) < (m:Int)*(cM:Int)):=by rw[<- Int.natCast_mul];omega
 have hmn: ¬ (m <=0):=by omega
 have h63: ¬ ((9223372036854775807:Int) < (m:Int)):=by omega
 have hfit:=growslice_fits (need:=m) (old:=0) (bytes:=cM) (by omega) hmb
 have hfit': ¬ (281474976710656 < Builtin.nextslicecap m 0*cM):=by omega
 have hmn0:m*n ≠ 0:=Nat.mul_ne_zero (by omega) (by omega)
 have hrun:(Builtin.append_ #[t,tx] ty #[.slice none 0 0, .int k' (m:Int)]).run P w= .ok (.slice (some ⟨w.heap.size,0,none⟩) m (grownCap w m 0 e))
   (w.drew.alloc (.cells (Builtin.zeroCells z.cells m++Builtin.zeroCells z.cells (grownCap w m 0 e - m)) e)):=by
  simp[Builtin.append_,run_underlying ht,run_underlying (kZ hsk),sizeOf,typeInfo,zeroValue,hi,hz,hsz,hbb,asInt,asIntOf,hw1,hlt,h48,hmn,h63,hfit',hmn0,Question.forced,newRow,grownCap,Builtin.firstCells]
  omega
 have hsize:(Builtin.zeroCells z.cells m++Builtin.zeroCells z.cells (grownCap w m 0 e - m)).size=grownCap w m 0 e*n:=by
  simp only[Array.size_append,size_zeroCells,hzs,<- Nat.add_mul]
  congr 1;omega
 obtain⟨K',hle,hrel,hrow⟩:=hr.drew.addMut (Builtin.zeroCells z.cells m++Builtin.zeroCells z.cells (grownCap w m 0 e - m)) e (grownCap w m 0 e) n hsize hcm [] (Nat.zero_le _) (fun a ha=>by cases ha) (fun j hj=>by cases hj)
 refine⟨_,_,K',_,_,hrun,hle,hrel, .bs _ _ n _ e hrow hge hcm,?_⟩
 have:=hK w.heap.size (hr.fresh (Nat.le_refl _))
 simpa using this
def lK(P:Program)(σ:AS)(t tx:TypeId)(s x:AV)(K:AV ->AS ->Prop):Prop:=
 match eI P t,sk P tx,s,x with
 | some (e,1,cM), .int _, .sl (.own b) xs [], .int _ m=>∃ z0,zc P e=some [z0] /\ 0 <=m /\ σ.tip b=some (xs.length,1) /\ (∀ a,a ∈ xs -> (flat a).length=1) /\ (xs.length+m.toNat)*cM <=140737488355328 /\
   ∀ b',(b'=b \/ σ.fresh b') ->K (.sl (.own b') (xs++List.replicate m.toNat z0) []) ((σ.delTip b).setTip b' (xs.length+m.toNat,1))
 |_,_,_,_=>False
theorem rK {P:Program} {G:Nat ->AV} {K:aJ} {σ:AS} {w:World} (hr:aZ G K σ w) {t tx ty:TypeId} {s x:AV} {Kc:AV ->AS ->Prop} (h:lK P σ t tx s x Kc)
  {v u:Value} (hv:VR K s v) (hu:VR K x u):
  ∃ z w' K' r σ',(Builtin.append_ #[t,tx] ty #[v,u]).run P w= .ok z w' /\ K.le K' /\ aZ G K' σ' w' /\ VR K' r z /\ Kc r σ':=by
 unfold lK at h
 split at h
 case h_2=>exact h.elim
 rename_i e cM kk b0 xs k' m hel hsk
 obtain⟨z0,hz0,hm0,htip,hxn,hby2,hK⟩:=h
 rw[VR.int_iff]at hu;subst hu
 obtain⟨ht,i,z,hi,hz,hsz,hbb,hzs,hn0,hb0,hzc⟩:=eS (K:=K) hel
 obtain⟨m,rfl⟩:=Int.eq_ofNat_of_zero_le hm0
 have hcr:=hzc [z0] hz0
 obtain⟨c,hc⟩:∃ c,z.cells= #[c]:=⟨z.cells[0]'(by omega),by
  apply Array.ext
  ·simpa using hzs
  ·intro j h1 h2
   have:j=0:=by simp at h2;omega
   subst this;rfl⟩
 have hone:one z0=true:=hcr.one z0 (by simp)
 have hfz:flat z0=[z0]:=(kA hone).1
 have hvz:VR K z0 c:=by
  have:=hcr.at_ 0 (by simp)
  rw[hc]at this
  simpa using this
 have hfl:(List.replicate m z0).flatMap flat=List.replicate m z0:=mM _ (fun d hd=>by obtain⟨_,rfl⟩:=List.mem_replicate.1 hd;exact hone)
 have hml:m*i.bytes <=140737488355328:=by
  rw[hbb]
  refine Nat.le_trans (Nat.mul_le_mul_right _ (Nat.le_add_left m xs.length)) ?_
  simpa using hby2
 rw[Int.toNat_natCast]at hby2 hK
 have S2:rF P t tx ty e i z (.int k' (m:Int)) (List.replicate m z0).length (List.replicate m c) w:=by
  rw[List.length_replicate]
  exact rF.zeros ht (kZ hsk) hi hz hsz hc (hvz.oneCell hone) (by rw[hbb];exact hb0) hml
 refine rV (ys:=List.replicate m z0) (z:=z) hr ht hi hz hbb (by rw[hzs,hsz]) (by rw[hsz];omega) hb0 S2 (by rw[hfl];simp) (fun j hj=> ?_) (fun a ha=> ?_) hv (by rw[hsz];exact htip) (fun a ha=>by rw[hsz];exact hxn a ha) (by simpa using hby2) (fun b' hb'=> ?_)
 ·have hj':j < m:=by rw[hfl]at hj;simpa using hj
  have e1:((List.replicate m z0).flatMap flat)[j]=z0:=by simp only[hfl];simp
  rw[e1]
  simpa [List.getD_eq_getElem?_getD,hj'] using hvz
 ·obtain⟨_,rfl⟩:=List.mem_replicate.1 ha
  rw[hfz,hsz]
  exact⟨rfl,(kA hone).2,fun d hd=>by simp at hd;subst hd;exact hone⟩
 ·have:=hK b' hb'
  rw[hsz]
  simpa using this
def yC(P:Program)(σ:AS)(t tx:TypeId)(s x:AV)(K:AV ->AS ->Prop):Prop:=jV P σ t tx s x K \/ lK P σ t tx s x K
theorem rM {P:Program} {G:Nat ->AV} {K:aJ} {σ:AS} {w:World} (hr:aZ G K σ w) {t tx ty:TypeId} {s x:AV} {Kc:AV ->AS ->Prop} (h:yC P σ t tx s x Kc)
  {v u:Value} (hv:VR K s v) (hu:VR K x u):
  ∃ z w' K' r σ',(Builtin.append_ #[t,tx] ty #[v,u]).run P w= .ok z w' /\ K.le K' /\ aZ G K' σ' w' /\ VR K' r z /\ Kc r σ':=by
 rcases h with h|h
 ·exact qQ hr h hv hu
 ·exact rK hr h hv hu
def C9w(P:Program)(σ:AS)(tx:TypeId)(x:AV)(ys:List AV):Prop:=
 nB P tx x=some ys \/ ∃ b m q F cs,x= .bs b m q F /\ (el P tx).isSome=true /\ σ.box b=some cs /\ ys.length=m /\ m*q <=cs.length /\ ys.flatMap flat=cs.take (m*q) /\ ∀ a,a ∈ ys -> (flat a).length=q /\ isv a=true
theorem A4b {P:Program} {G:Nat ->AV} {K:aJ} {σ:AS} {w:World} (hr:aZ G K σ w) {t:TypeId} {x:AV} {ys:List AV} (h:C9w P σ t x ys) {n:Nat}
  (hn:∀ a,a ∈ ys -> (flat a).length=n) {v:Value} (hv:VR K x v):
  ∃ news:List Value,Src P n t v ys.length news w /\ news.length=(ys.flatMap flat).length /\ (∀ a,a ∈ ys ->isv a=true /\ ∀ c,c ∈ flat a ->one c=true) /\
   ∀ j (hj:j < (ys.flatMap flat).length),VR K (ys.flatMap flat)[j] (news.getD j Go.undef):=by
 rcases h with h|⟨b,m,q,F,cs,rfl,hs,hb,hm,hl,hf,ha⟩
 ·exact nC hr h hn hv
 ·obtain⟨e,he⟩:=Option.isSome_iff_exists.1 hs
  have hfl:=aS (sz:=n) ys hn
  obtain⟨g1,g2,g3,g4,g5,c,E,hc,hcs,hvv⟩:=hr.box b cs hb
  have hlen:(ys.flatMap flat).length=m*q:=by rw[hf,List.length_take];omega
  have hone:∀ a,a ∈ ys ->isv a=true /\ ∀ c,c ∈ flat a ->one c=true:=fun a haa=> ⟨(ha a haa).2,fun d hd=>by
   have:d ∈ ys.flatMap flat:=List.mem_flatMap.2 ⟨a,haa,hd⟩
   rw[hf]at this
   exact g5 d (List.mem_of_mem_take this)⟩
  have hat:∀ j (hj:j < (ys.flatMap flat).length),VR K (ys.flatMap flat)[j] (c.getD j Go.undef):=fun j hj=>by
   have hj':j < cs.length:=by omega
   have e1:(ys.flatMap flat)[j]=cs[j]:=by
    have:(ys.flatMap flat)[j]? =cs[j]? :=by rw[hf,List.getElem?_take,if_pos (by omega)]
    rw[List.getElem?_eq_getElem hj,List.getElem?_eq_getElem hj']at this
    exact Option.some.inj this
   rw[e1];exact hvv j hj'
  cases hv with
  | bs _ _ _ cap _ hrow hn' hm'=>
   subst hm
   suffices hsrc:Src P n t (.slice (some ⟨b,0,none⟩) ys.length cap) ys.length (cC (fun j=>c.getD j Go.undef) (ys.flatMap flat).length) w from
    ⟨cC (fun j=>c.getD j Go.undef) (ys.flatMap flat).length,hsrc,by simp[cC],hone,fun j hj=>by rw[fO _ _ j hj];exact hat j hj⟩
   refine Src.ofSlice w (bX he) ⟨b,0,none⟩ ys.length cap _ (by simp[cC,hfl]) (fun j u hu=> ?_) (fun u hu=> ?_)
   ·obtain⟨hj,rfl⟩:=List.getElem?_eq_some_iff.1 hu
    have hj':j < (ys.flatMap flat).length:=by simpa [cC] using hj
    rw[Addr.add_lit,Nat.zero_add]
    simp only[cC,List.getElem_map,List.getElem_range]
    rw[cell_of_row w b j c E (0,0) hc]
    have:j < c.size:=by omega
    simp[this]
   ·obtain⟨j,hj,rfl⟩:=List.mem_map.1 hu
    have hj':j < (ys.flatMap flat).length:=by simpa using hj
    refine(hat j hj').oneCell ?_
    obtain⟨a,haa,hca⟩:=List.mem_flatMap.1 (List.getElem_mem hj')
    exact(hone a haa).2 _ hca
def nS(P:Program)(σ:AS)(t tx:TypeId)(s x:AV)(K:AV ->AS ->Prop):Prop:=
 ∃ e n cM ys,eI P t=some (e,n,cM) /\ C9w P σ tx x ys /\ (∀ a,a ∈ ys -> (flat a).length=n) /\
  ((s= .nil /\ ys ≠ [] /\ ys.length*cM <=140737488355328 /\ ∀ b,σ.fresh b ->K (.bs b ys.length n e) (σ.setBox b (ys.flatMap flat))) \/
   ∃ b m cs,s= .bs b m n e /\ σ.box b=some cs /\ m*n <=cs.length /\ (m+ys.length)*cM <=140737488355328 /\ K (.bs b (m+ys.length) n e) (σ.setBox b (cs.take (m*n)++ys.flatMap flat)) /\
    ∀ b',σ.fresh b' ->K (.bs b' (m+ys.length) n e) (σ.setBox b' (cs.take (m*n)++ys.flatMap flat)))
theorem tN{P:Program}{σ:AS}{t tx:TypeId}{s x:AV}{K K':AV ->AS ->Prop}(hk:∀ r s,K r s ->K' r s)(h:nS P σ t tx s x K):nS P σ t tx s x K':=by
 obtain⟨e,n,cM,ys,h1,h2,h3,h4⟩:=h
 refine⟨e,n,cM,ys,h1,h2,h3,?_⟩
 rcases h4 with⟨g1,g2,g3,g4⟩|⟨b,m,cs,g1,g2,g3,g4,g5,g6⟩
 ·exact .inl ⟨g1,g2,g3,fun b hb=>hk _ _ (g4 b hb)⟩
 ·exact .inr ⟨b,m,cs,g1,g2,g3,g4,hk _ _ g5,fun b hb=>hk _ _ (g6 b hb)⟩
theorem rI {P:Program} {G:Nat ->AV} {K:aJ} {σ:AS} {w:World} (hr:aZ G K σ w) {t tx ty:TypeId} {s x:AV} {Kc:AV ->AS ->Prop} (h:nS P σ t tx s x Kc)
  {v u:Value} (hv:VR K s v) (hu:VR K x u):
  ∃ z w' K' r σ',(Builtin.append_ #[t,tx] ty #[v,u]).run P w= .ok z w' /\ K.le K' /\ aZ G K' σ' w' /\ VR K' r z /\ Kc r σ':=by
 obtain⟨e,n,cM,ys,hel,hsrc,hys,h⟩:=h
 obtain⟨ht,i,z,hi,hz,hsz,hby,hzs,hn0,hb0,_⟩:=eS (K:=K) hel
 obtain⟨news,hS,hnl,hyv,hnv⟩:=A4b hr hsrc hys hu
 subst hsz
 have hyl:=aS (sz:=i.size) ys hys
 rcases h with⟨rfl,hne,hbytes,hK⟩|⟨b,m,cs0,rfl,hb0',hcl0,hbytes,hK1,hK2⟩
 ·rw[VR.nil_iff]at hv;subst hv
  obtain⟨z',w',K',h2,h3,h4,h5⟩:=jH (cs:=[]) (nas:=ys.flatMap flat) (xl:=0) (yl:=ys.length) (P:=P) (ty:=ty) hr ht hi hz rfl hby hzs hn0 hb0 (by simp) hyl (fun a ha=>by cases ha) (fN hyv) none 0 [] rfl (fun j hj=>by cases hj)
   (by simp[Builtin.firstCells]) u news hS hnl hnv (by have:=List.length_pos_iff.2 hne;omega) (by simpa using hbytes)
  refine⟨z',w',K',_,_,h2,h3,h4,h5,?_⟩
  have:=hK w.heap.size (hr.fresh (Nat.le_refl _))
  simpa using this
 ·obtain⟨g1,g2,g3,g4,g5,c,F,hc,hs,hvv⟩:=hr.box b cs0 hb0'
  obtain⟨cs,hcs⟩:∃ cs,cs=cs0.take (m*i.size):=⟨_,rfl⟩
  have hcl:cs.length=m*i.size:=by rw[hcs,List.length_take];omega
  have g5':∀ a,a ∈ cs ->one a=true:=fun a ha=>g5 a (by rw[hcs]at ha;exact List.mem_of_mem_take ha)
  have hvv':∀ j (hj:j < cs.length),VR K cs[j] (c.getD j Go.undef):=fun j hj=>by
   have e1:cs[j]=cs0[j]'(by omega):=by
    have:cs[j]? =cs0[j]? :=by rw[hcs,List.getElem?_take,if_pos (by omega)]
    rw[List.getElem?_eq_getElem hj,List.getElem?_eq_getElem (by omega)]at this
    exact Option.some.inj this
   rw[e1];exact hvv j (by omega)
  rw[<- hcs]at hK1 hK2
  cases hv with
  | bs _ _ _ cap _ hrow hn hm=>
   obtain⟨cur,fz,hcur,hcsz,hml,_⟩:=hr.row b cap i.size e hrow
   rw[hc]at hcur
   simp only[Option.some.injEq,Obj.cells.injEq]at hcur
   obtain⟨rfl,hFe,_⟩:=hcur
   rw[hFe]at hc
   by_cases hroom:m+ys.length <=cap
   ·have hle2:(m+ys.length)*i.size <=cap*i.size:=Nat.mul_le_mul_right _ hroom
    have hadd:(m+ys.length)*i.size=m*i.size+ys.length*i.size:=Nat.add_mul _ _ _
    have hrun:=run_append_room_src (P:=P) w t tx ty e i ht hi b 0 m cap u ys.length news hS hroom
     (fun j hj=>by
       rw[cell_of_row w b _ c e (0,0) hc]
       have:m*i.size+j < c.size:=by omega
       simp[this])
     (fun j hj=>by simp[World.frozen?,hc])
    rw[Nat.zero_add]at hrun
    have hsh:=hr.shrink hb0' (m*i.size)
    rw[<- hcs]at hsh
    have hrel:=hsh.growMut (cs:=cs) (by simp[AS.setBox]) hrow hcl news (ys.flatMap flat) ys.length (by rw[hnl,hyl]) hnl.symm hroom (fN hyv) hnv
    have e1:(σ.setBox b cs).setBox b (cs++ys.flatMap flat)=σ.setBox b (cs++ys.flatMap flat):=by
     unfold AS.setBox
     congr 1
     funext j
     show(if j=b then some (cs++ys.flatMap flat)else if j=b then some cs else σ.box j)=(if j=b then some (cs++ys.flatMap flat)else σ.box j)
     split <;>rfl
    rw[e1]at hrel
    exact⟨_,_,K,_,_,hrun,aJ.le.refl K,hrel, .bs b _ i.size cap e hrow hroom hm,hK1⟩
   ·obtain⟨z',w',K',h2,h3,h4,h5⟩:=jH (cs:=cs) (nas:=ys.flatMap flat) (xl:=m) (yl:=ys.length) (P:=P) (ty:=ty) hr ht hi hz rfl hby hzs hn0 hb0 hcl hyl g5' (fN hyv) (some ⟨b,0,none⟩) cap (cC (fun j=>c.getD j Go.undef) cs.length) (by simp[cC])
     (fun j hj=>by rw[fO _ _ j hj];exact hvv' j hj)
     (by
       refine run_firstCells_some w.drew i.size m ⟨b,0,none⟩ m cap _ (by simp[cC,hcl]) (fun j y hy=> ?_)
       obtain⟨hj,rfl⟩:=List.getElem?_eq_some_iff.1 hy
       have hj':j < cs.length:=by simpa [cC] using hj
       rw[Addr.add_lit]
       simp only[cC,List.getElem_map,List.getElem_range]
       have:w.drew.cell? ⟨b,0+j,none⟩=w.cell? ⟨b,j,none⟩:=by rw[Nat.zero_add];rfl
       rw[this,cell_of_row w b j c e (0,0) hc]
       have:j < c.size:=by omega
       simp[this]) u news hS hnl hnv (by omega) hbytes
    exact⟨z',w',K',_,_,h2,h3,h4,h5,hK2 w.heap.size (hr.fresh (Nat.le_refl w.heap.size))⟩
def lL(P:Program)(σ:AS)(t tx:TypeId)(s x:AV)(K:AV ->AS ->Prop):Prop:=lI P σ t tx s x K \/ yC P σ t tx s x K \/ nS P σ t tx s x K
theorem rL {P:Program} {G:Nat ->AV} {K:aJ} {σ:AS} {w:World} (hr:aZ G K σ w) {t tx ty:TypeId} {s x:AV} {Kc:AV ->AS ->Prop} (h:lL P σ t tx s x Kc)
  {v u:Value} (hv:VR K s v) (hu:VR K x u):
  ∃ z w' K' r σ',(Builtin.append_ #[t,tx] ty #[v,u]).run P w= .ok z w' /\ K.le K' /\ aZ G K' σ' w' /\ VR K' r z /\ Kc r σ':=by
 rcases h with h|h|h
 ·exact rJ hr h hv hu
 ·exact rM hr h hv hu
 ·exact rI hr h hv hu
theorem tO{P:Program}{σ:AS}{t tx:TypeId}{s x:AV}{K K':AV ->AS ->Prop}(hk:∀ r s,K r s ->K' r s)(h:lL P σ t tx s x K):lL P σ t tx s x K':=by
 rcases h with h|h|h
 ·refine .inl ?_
  unfold lI at h ⊢
  split at h
  ·refine⟨h.1,?_⟩
   have h2:=h.2
   split at h2
   ·exact⟨h2.1,h2.2.1,fun b hb=>hk _ _ (h2.2.2 b hb)⟩
   ·obtain⟨g0,cs,g1,g2,g3,g4⟩:=h2
    exact⟨g0,cs,g1,g2,g3,fun b hb=>hk _ _ (g4 b hb)⟩
   ·exact h2.elim
  ·exact h.elim
 ·refine .inr (.inl ?_)
  rcases h with h|h
  ·refine .inl ?_
   unfold jV at h ⊢
   split at h
   ·exact⟨h.1,h.2.1,fun b hb=>hk _ _ (h.2.2 b hb)⟩
   ·exact h.elim
  ·refine .inr ?_
   unfold lK at h ⊢
   split at h
   ·obtain⟨z0,h1,h2,h3,h4,h5,h6⟩:=h
    exact⟨z0,h1,h2,h3,h4,h5,fun b hb=>hk _ _ (h6 b hb)⟩
   ·exact h.elim
 ·exact .inr (.inr (tN hk h))
def qB(P:Program)(σ:AS)(pt:TypeId)(x n:AV)(K:AV ->AS ->Prop):Prop:=
 match x,n with
 | .nilptr, .int k n=> (k= .i64 /\ n=0) /\ K (.str []) σ
 | .bp b s E, .int k n=>k= .i64 /\ s=1 /\ sk P pt= .ptr E /\ P.cellsOf E=1 /\ ∃ l:List UInt8,σ.box b=some (l.map fun c=> .int .u8 c.toNat) /\ l ≠ [] /\ n=l.length /\ K (.str l) (σ.delBox b)
 |_,_=>False
theorem A2d{P:Program}{σ:AS}{pt:TypeId}{x n:AV}{K K':AV ->AS ->Prop}(hk:∀ r s,K r s ->K' r s)(h:qB P σ pt x n K):qB P σ pt x n K':=by
 unfold qB at h ⊢
 split at h
 ·exact⟨h.1,hk _ _ h.2⟩
 ·obtain⟨g0,g1,g2,g3,l,g4,g5,g6,g7⟩:=h
  exact⟨g0,g1,g2,g3,l,g4,g5,g6,hk _ _ g7⟩
 ·exact h.elim
theorem yY {P:Program} {G:Nat ->AV} {K:aJ} {σ:AS} {w:World} (hr:aZ G K σ w) {pt it ty:TypeId} {x n:AV} {Kc:AV ->AS ->Prop} (h:qB P σ pt x n Kc)
  {v u:Value} (hv:VR K x v) (hu:VR K n u):
  ∃ z w' r σ',(Builtin.unsafeString_ #[pt,it] ty #[v,u]).run P w= .ok z w' /\ aZ G K σ' w' /\ VR K r z /\ Kc r σ':=by
 unfold qB at h
 split at h
 ·rename_i k n
  obtain⟨⟨rfl,rfl⟩,hK⟩:=h
  rw[VR.nilptr_iff]at hv;subst hv
  rw[VR.int_iff]at hu;subst hu
  exact⟨_,w,_,σ,Lib.run_unsafeString_none w _ _ _ none,hr, .str [],hK⟩
 ·rename_i b s E k n
  obtain⟨rfl,rfl,hp,hc1,l,hb,hl0,rfl,hK⟩:=h
  rw[VR.int_iff]at hu;subst hu
  cases hv with
  | bp _ _ cap _ hrow=>
   obtain⟨g1,g2,g3,g4,g5,c,F,hc,hs,hvv⟩:=hr.box b _ hb
   obtain⟨cur,fz,hcur,hcsz,hml,_⟩:=hr.row b cap 1 E hrow
   rw[hc]at hcur
   simp only[Option.some.injEq,Obj.cells.injEq]at hcur
   obtain⟨rfl,rfl,_⟩:=hcur
   simp only[List.length_map]at hs
   have hrun:=Lib.run_unsafeString_row (P:=P) w pt it ty F (pV hp) hc1 b c.size (by simp[World.shape?,hc]) l hl0 hs (by unfold maxLen at hml;omega) (fun j y hy=>by
    obtain⟨hj,rfl⟩:=List.getElem?_eq_some_iff.1 hy
    have h1:=hvv j (by simpa using hj)
    simp only[List.getElem_map,VR.int_iff]at h1
    rw[Addr.add_lit,Nat.zero_add,cell_of_row w b j c F (0,0) hc]
    have hjc:j < c.size:=by omega
    simp only[Array.getD_eq_getD_getElem?,Array.getElem?_eq_getElem hjc,Option.getD_some]at h1
    rw[Array.getElem?_eq_getElem hjc,h1])
   refine⟨_,_,_,σ.delBox b,hrun,(hr.delBox b).marked g1 (by simp[AS.delBox]) g2, .str _,hK⟩
 ·exact h.elim
def B0i:AV ->Option UInt8
 | .int .u8 n=>some (UInt8.ofNat n.toNat)
 |_=>none
def fD:List AV ->Option (List UInt8)
 |[]=>some []
 | a::l=>match B0i a,fD l with
  |some b,some r=>some (b::r)
  |_,_=>none
def kU(P:Program)(s d:TypeId):Bool:=decide (sk P d= .str) && (el P s).any fun e=>decide (sk P e= .int .u8)
def cX(P:Program)(σ:AS)(s d:TypeId)(x:AV):Option AV:=
 match x with
 | .nil=>if kU P s d=true then some (.str [])else none
 | .sl _ xs _=>if kU P s d=true then(fD xs).map .str else none
 | .bs b n q _=>if kU P s d=true /\ q=1 then(match σ.box b with|some cs=>if cs.length=n then(fD cs).map .str else none|none=>none)else none
 |_=>lN P s d x
theorem kS:∀ (as:List AV) (r:List UInt8),fD as=some r ->∃ ns:List Int,as=ns.map (AV.int .u8) /\ r=ns.map fun n=>UInt8.ofNat n.toNat
 |[],r,h=>by simp only[fD,Option.some.injEq]at h;exact⟨[],rfl,h.symm⟩
 | a::as,r,h=>by
  unfold fD at h
  split at h
  case h_2=>cases h
  rename_i b r' hb hr
  simp only[Option.some.injEq]at h
  subst h
  obtain⟨ns,rfl,rfl⟩:=kS as r' hr
  unfold B0i at hb
  split at hb
  ·rename_i n
   simp only[Option.some.injEq]at hb
   subst hb
   exact⟨n::ns,rfl,rfl⟩
  ·cases hb
theorem sL:∀ (ns:List Int) (s:ByteArray),ns.foldl (fun r n=>r.push (UInt8.ofNat n.toNat)) s=⟨⟨s.data.toList++ns.map fun n=>UInt8.ofNat n.toNat⟩⟩
 |[],s=>by simp
 | n::ns,s=>by
  rw[List.foldl_cons,sL ns]
  simp[ByteArray.push]
theorem pN {P:Program} {w:World} {s d:TypeId} (hb:kU P s d=true) {a:Addr} {n c:Nat} {f:Nat ->Value} {as:List AV} {r:List UInt8} {K:aJ} (hl:as.length=n) (hcell:∀ j,j < n ->w.cell? (a.add j)=some (f j))
  (hv:∀ j (h:j < as.length),VR K as[j] (f j)) (hr:fD as=some r):(convert s d (.slice (some a) n c)).run P w= .ok (.string ⟨⟨r⟩⟩) w:=by
 simp only[kU,Bool.and_eq_true,decide_eq_true_eq,Option.any_eq_true]at hb
 obtain⟨h1,e,h2,h3⟩:=hb
 obtain⟨ns,rfl,rfl⟩:=kS as r hr
 rw[run_convert_bytes_string w s d e (some a) n c (bX h2) (kZ h3) (jA h1)]
 have hnl:ns.length=n:=by simpa using hl
 have hlist:(List.range n).map f=ns.map (Value.int .u8):=by
  apply List.ext_getElem
  ·simp[hnl]
  ·intro j hj1 hj2
   have hj:j < ns.length:=by simpa using hj2
   have:=hv j (by simpa using hj)
   simp only[List.getElem_map,VR.int_iff]at this
   simp[this]
 have hload:=run_loadCells (P:=P) w a n f hcell
 rw[hlist]at hload
 rw[run_bytesToString w a n c ns hload,sL]
 simp[ByteArray.empty,ByteArray.emptyWithCapacity];rfl
theorem wT(ns:List Int):(ns.map (AV.int .u8)).flatMap flat=ns.map (AV.int .u8):=by
 induction ns with
 |nil=>rfl
 |cons n ns ih=>simp only[List.map_cons,List.flatMap_cons,ih];rfl
theorem vU{P:Program}{G:Nat ->AV}{K:aJ}{σ:AS}{w:World}(hr:aZ G K σ w){s d:TypeId}{x r:AV}(h:cX P σ s d x=some r){v:Value}(hv:VR K x v):
  ∃ z w' K',(convert s d v).run P w= .ok z w' /\ K.le K' /\ aZ G K' σ w' /\ VR K' r z:=by
 have none_:∀ (hb:kU P s d=true) (l c:Nat),(convert s d (.slice none l c)).run P w= .ok (.string ⟨⟨[]⟩⟩) w:=fun hb l c=>by
  simp only[kU,Bool.and_eq_true,decide_eq_true_eq,Option.any_eq_true]at hb
  obtain⟨h1,e,h2,h3⟩:=hb
  rw[run_convert_bytes_string w s d e none l c (bX h2) (kZ h3) (jA h1)]
  rfl
 unfold cX at h
 split at h
 ·split at h
  case isFalse=>cases h
  rename_i hb
  simp only[Option.some.injEq]at h;subst h
  rw[VR.nil_iff]at hv;subst hv
  exact⟨_,w,K,none_ hb 0 0,aJ.le.refl K,hr, .str _⟩
 ·rename_i g xs sp
  split at h
  case isFalse=>cases h
  rename_i hb
  simp only[Option.map_eq_some_iff]at h
  obtain⟨l,h1,rfl⟩:=h
  cases hv with
  | sl0 a=>
   simp only[fD,Option.some.injEq]at h1;subst h1
   cases a with
   |none=>exact⟨_,w,K,none_ hb 0 0,aJ.le.refl K,hr, .str _⟩
   |some a=>exact⟨_,w,K,pN (K:=K) (f:=fun _=>Go.undef) (as:=[]) hb rfl (fun j hj=>by omega) (fun j hj=>by cases hj) rfl,aJ.le.refl K,hr, .str _⟩
  | sl _ _ _ sz b off cap f hsz hcap hml himm hvv hg=>
   obtain⟨ns,rfl,e⟩:=kS xs l h1
   have hfl:((ns.map (AV.int .u8))++sp).flatMap flat=ns.map (AV.int .u8)++sp.flatMap flat:=by rw[List.flatMap_append,wT]
   refine⟨_,w,K,pN (K:=K) (f:=f) hb rfl (fun j hj=> ?_) (fun j hj=> ?_) h1,aJ.le.refl K,hr, .str _⟩
   ·rw[Addr.add_lit]
    exact hr.imm _ _ _ (himm j (by rw[hfl,List.length_append];omega))
   ·have hj2:j < (((ns.map (AV.int .u8))++sp).flatMap flat).length:=by rw[hfl,List.length_append];omega
    have h2:=hvv j hj2
    have e3:(((ns.map (AV.int .u8))++sp).flatMap flat)[j]=(ns.map (AV.int .u8))[j]:=by
     simp only[hfl];rw[List.getElem_append_left hj]
    rw[e3]at h2;exact h2
 ·rename_i b n q F0
  split at h
  case isFalse=>cases h
  rename_i hb
  split at h
  case h_2=>cases h
  rename_i cs hcs
  split at h
  case isFalse=>cases h
  rename_i hn
  simp only[Option.map_eq_some_iff]at h
  obtain⟨l,h1,rfl⟩:=h
  obtain⟨g1,g2,g3,g4,g5,c,F,hc,hs,hvv⟩:=hr.box b cs hcs
  cases hv with
  | bs _ _ _ cap E hrow hnc hm=>
   refine⟨_,w,K,pN (K:=K) (f:=fun j=>c.getD j Go.undef) hb.1 hn (fun j hj=> ?_) hvv h1,aJ.le.refl K,hr, .str _⟩
   rw[Addr.add_lit,Nat.zero_add,cell_of_row w b j c F (0,0) hc]
   have:j < c.size:=by omega
   simp[this]
 ·exact vT hr h hv
end Go.Av
namespace Go.Av
open Go Go.RowKit
section
variable {P:Program} {G:Nat ->AV} {K:aJ} {σ:AS} {w:World}
theorem OR.noCell{a:AO}{x:Obj}(k:OR K a x){b o:Nat}(hx:w.heap[b]? =some x):w.cell? ⟨b,o,none⟩=none:=by
 cases k <;>simp[World.cell?,hx]
theorem aZ.addOb(h:aZ G K σ w){a:AO}{x:Obj}(ho:OR K a x):aZ G K (σ.setTy w.heap.size (.ob a,0)) (w.alloc x):=by
 have h':=h.alloc x
 refine⟨h'.imm,h'.row,h'.box,h'.tip,fun i E n hi=> ?_,h'.glob,⟨h'.below.b,fun i o ho=> ⟨(h'.below.d i o ho).1,(h'.below.d i o ho).2.1,fun a' n e=> ?_,(h'.below.d i o ho).2.2.2⟩⟩,h'.bs⟩
 case refine_2=>
  have hlt:=(Array.getElem?_eq_some_iff.1 (h.below.d i o ho).1).1
  have e':(if i=w.heap.size then some ((mR.ob a),0)else σ.ty i)=some (.ob a',n):=e
  rw[if_neg (by omega)]at e'
  exact(h.below.d i o ho).2.2.1 a' n e'
 have hi':(if i=w.heap.size then some ((mR.ob a),0)else σ.ty i)=some (E,n):=hi
 split at hi'
 ·rename_i e
  subst e
  cases hi'
  exact⟨h.bs,x,heap_alloc_new w x,ho⟩
 ·exact h'.ty i E n hi'
theorem aZ.setOb(h:aZ G K σ w){b n:Nat}{a a':AO}{x':Obj}(hb:σ.ty b=some (.ob a,n))(ho:OR K a' x'):aZ G K (σ.setTy b (.ob a',n)) {w with heap:=w.heap.setIfInBounds b x'} :=by
 obtain⟨hbb,x,hx,hax⟩:=h.ty b _ _ hb
 have hlt:=(Array.getElem?_eq_some_iff.1 hx).1
 have old:∀ i,i ≠ b -> (w.heap.setIfInBounds b x')[i]? =w.heap[i]? :=fun i hi=>Array.getElem?_setIfInBounds_ne (Ne.symm hi)
 have new:(w.heap.setIfInBounds b x')[b]? =some x':=by simp[hlt]
 have nc:∀ {c E fz},¬ w.heap[b]? =some (.cells c E fz):=fun e=>by rw[hx]at e;cases e;exact hax.cells
 refine⟨fun i o v hv=> ?_,fun i cap s E hr=> ?_,fun i cs hi=> ?_,h.tip,fun i E m hi=> ?_,h.glob,?_,?_⟩
 ·have hne:i ≠ b:=by
   rintro rfl
   have:=h.imm _ _ _ hv
   rw[hax.noCell hx]at this;cases this
  rw[World.cell?_of_block (w:=w) (old i hne)];exact h.imm i o v hv
 ·obtain⟨cur,fz,h1,h2⟩:=h.row i cap s E hr
  have hne:i ≠ b:=by rintro rfl;exact nc h1
  exact⟨cur,fz,by rw[old i hne];exact h1,h2⟩
 ·obtain⟨h1,h2,h3,h4,h5,c,E,h6,h7⟩:=h.box i cs hi
  have hne:i ≠ b:=by rintro rfl;exact nc h6
  exact⟨h1,h2,h3,h4,h5,c,E,by rw[old i hne];exact h6,h7⟩
 ·have hi':(if i=b then some (mR.ob a',n)else σ.ty i)=some (E,m):=hi
  split at hi'
  ·rename_i e
   subst e
   cases hi'
   exact⟨hbb,x',new,ho⟩
  ·rename_i hne
   exact(h.ty i E m hi').old (old i hne)
 ·have hne:∀ i o,K.obs i=some o ->i ≠ b:=fun i o ho e=>by subst e;exact(h.below.d i o ho).2.2.1 _ _ hb
  refine⟨h.below.b.trans ⟨rfl,rfl,rfl,by simp,fun k hk=>old k (by omega)⟩,fun i o ho=> ⟨(old i (hne i o ho)).trans (h.below.d i o ho).1,(h.below.d i o ho).2.1,fun c m e=> ?_,(h.below.d i o ho).2.2.2⟩⟩
  have e':(if i=b then some (mR.ob a',n)else σ.ty i)=some (.ob c,m):=e
  rw[if_neg (hne i o ho)]at e'
  exact(h.below.d i o ho).2.2.1 c m e'
 ·have:=h.bs;simp;exact this
end
def rY(P:Program)(σ:AS)(t:TypeId)(x:AV)(Kc:AV ->AS ->Prop):Prop:=
 match x with
 | .str s=>sk P t= .str /\ ∀ b,σ.fresh b ->Kc (.ptr b 0) (σ.setTy b (.ob (.iter s 0),0))
 |_=>False
def zF(s:List UInt8)(p:Nat):Nat × Nat:=Utf8.decode ⟨⟨s⟩⟩ p
def yV(σ:AS)(x:AV)(Kc:AV ->AS ->Prop):Prop:=
 match x with
 | .ptr b 0=> (match σ.ty b with
  |some (.ob (.iter s p),n)=> (p < s.length ->Kc (.tup [.bool true, .int .i64 p, .int .i32 (zF s p).1]) (σ.setTy b (.ob (.iter s (p+(zF s p).2)),n))) /\ (¬ p < s.length ->Kc (.tup [.bool false]) σ)
  |_=>False)
 |_=>False
theorem wE{P:Program}{G:Nat ->AV}{K:aJ}{σ:AS}{w:World}{t:TypeId}{x:AV}{v:Value}{Kc:AV ->AS ->Prop}(hr:aZ G K σ w)(h:rY P σ t x Kc)(hv:VR K x v):
  ∃ z w' r σ',(Instr.range t v).run P w= .ok z w' /\ aZ G K σ' w' /\ VR K r z /\ Kc r σ':=by
 unfold rY at h
 split at h
 case h_2=>exact h.elim
 rename_i s
 rw[VR.str_iff]at hv;subst hv
 have hu:P.underlying t=some .string:=jA h.1
 refine⟨.pointer (some ⟨w.heap.size,0,none⟩),w.alloc (.stringIter ⟨⟨s⟩⟩ 0), .ptr w.heap.size 0,_,?_,hr.addOb (.iter s 0), .ptr _ _,h.2 _ (hr.fresh (Nat.le_refl _))⟩
 simp[Instr.range,run_underlying hu]
theorem yW{P:Program}{G:Nat ->AV}{K:aJ}{σ:AS}{w:World}{ty:TypeId}{x:AV}{v:Value}{Kc:AV ->AS ->Prop}(hr:aZ G K σ w)(h:yV σ x Kc)(hv:VR K x v):
  ∃ z w' r σ',(Instr.next v true ty).run P w= .ok z w' /\ aZ G K σ' w' /\ VR K r z /\ Kc r σ':=by
 unfold yV at h
 split at h
 case h_2=>exact h.elim
 rename_i b
 rw[VR.ptr_iff]at hv;subst hv
 split at h
 case h_2=>exact h.elim
 rename_i s p n hty
 obtain⟨h1,h2⟩:=h
 obtain⟨hb,x,hx,hax⟩:=hr.ty b _ _ hty
 cases hax
 have hget:(getObj b).run P w= .ok (.stringIter ⟨⟨s⟩⟩ p) w:=by simp[getObj,Sem.run,hx]
 have hsz:(⟨⟨s⟩⟩:ByteArray).size=s.length:=rfl
 by_cases hp:p < s.length
 ·have hset:(setObj b (.stringIter ⟨⟨s⟩⟩ (p+(zF s p).2))).run P w= .ok () {w with heap:=w.heap.setIfInBounds b (.stringIter ⟨⟨s⟩⟩ (p+(zF s p).2))} :=by
   simp[setObj,Sem.run,hx]
  refine⟨.tuple #[.bool true,goInt p, .int .i32 (zF s p).1],_,_,_,?_,hr.setOb hty (.iter s (p+(zF s p).2)),?_,h1 hp⟩
  ·have hd:Utf8.decode ⟨⟨s⟩⟩ p=((zF s p).1,(zF s p).2):=rfl
   simp only[Instr.next,Sem.run_bind,hget,Result.andThen_ok,hsz,hp,if_true,hd,hset,Sem.run_pure]
  ·refine .tup _ _ rfl (fun j hj=> ?_)
   match j,hj with
   |0,_=>exact .bool true
   |1,_=>exact .int .i64 p
   |2,_=>exact .int .i32 _
 ·refine⟨.tuple #[.bool false],w,_,_,?_,hr,?_,h2 hp⟩
  ·simp only[Instr.next,Sem.run_bind,hget,Result.andThen_ok,hsz,hp,if_false,Sem.run_pure]
  ·refine .tup _ _ rfl (fun j hj=> ?_)
   match j,hj with
   |0,_=>exact .bool false
def A0s:AV ->AV ->Option Bool
 | .int k a, .int k' b=>if k=k' then some (a==b)else none
 | .str a, .str b=>some (a==b)
 |_,_=>none
def jJ(k:AV):List (AV × AV) ->Nat ->Option (Option (Nat × AV))
 |[],_=>some none
 | e::es,i=>match A0s k e.1 with
  |some true=>some (some (i,e.2))
  |some false=>jJ k es (i+1)
  |none=>none
def plainKey(P:Program)(t:TypeId)(k:AV):Bool:=
 match sk P t,k with
 | .str, .str _=>true
 | .int _, .int _ _=>true
 |_,_=>false
def qW(k:AV)(d:TypeDesc):Prop:=(∃ s,k= .str s /\ d= .string) \/ ∃ q m q',k= .int q m /\ d= .int q'
theorem mV{P:Program}{t:TypeId}{k:AV}(h:plainKey P t k=true):∃ d,P.underlying t=some d /\ qW k d:=by
 unfold plainKey at h
 split at h
 ·rename_i s hs;exact⟨_,jA hs, .inl ⟨s,rfl,rfl⟩⟩
 ·rename_i q q' m hs;exact⟨_,kZ hs, .inr ⟨_,_,_,rfl,rfl⟩⟩
 ·cases h
theorem A6i(a b:List UInt8):((ByteArray.mk (Array.mk a))==(ByteArray.mk (Array.mk b)))=(a==b):=by
 show((Array.mk a)==(Array.mk b))=(a==b)
 simp
theorem qK{K:aJ}{k x:AV}{b:Bool}{d:TypeDesc}{v u:Value}(h:A0s k x=some b)(hd:qW k d)(hv:VR K k v)(hu:VR K x u):Instr.sameNow d v u=some b:=by
 unfold A0s at h
 split at h
 ·rename_i q a q' b'
  rw[VR.int_iff]at hv hu
  subst hv hu
  rcases hd with⟨s,h1,_⟩|⟨_,_,q2,h1,rfl⟩
  ·cases h1
  ·exact h
 ·rename_i a b'
  rw[VR.str_iff]at hv hu
  subst hv hu
  rcases hd with⟨s,_,rfl⟩|⟨_,_,q2,h1,_⟩
  ·simp only[Instr.sameNow,A6i];exact h
  ·cases h1
 ·cases h
theorem lY{K:aJ}{k:AV}{d:TypeDesc}{v:Value}(hd:qW k d)(hv:VR K k v):∀ (l:List (AV × AV)) (es:List MapEntry) (i:Nat) (r:Option (Nat × AV)),VRm K l es ->jJ k l i=some r ->
  ∃ r',Instr.findNow d v es i=some r' /\ ((r=none /\ r'=none) \/ ∃ j x y,r=some (j,x) /\ r'=some (j,y) /\ VR K x y)
 | [],[],i,r,_,h=>by
  simp only[jJ,Option.some.injEq]at h;subst h
  exact⟨none,rfl, .inl ⟨rfl,rfl⟩⟩
 | x::l,e::es,i,r,⟨h1,h2,h3⟩,h=>by
  simp only[jJ]at h
  split at h
  ·rename_i hs
   simp only[Option.some.injEq]at h;subst h
   exact⟨some (i,e.val),by simp[Instr.findNow,qK hs hd hv h1], .inr ⟨i,_,_,rfl,rfl,h2⟩⟩
  ·rename_i hs
   obtain⟨r',g1,g2⟩:=lY hd hv l es (i+1) r h3 h
   exact⟨r',by simp[Instr.findNow,qK hs hd hv h1,g1],g2⟩
  ·cases h
 |[],_::_,_,_,h,_=>h.elim
 |_::_,[],_,_,h,_=>h.elim
theorem lV{P:Program}{w:World}{b:Bool}{t:TypeId}{d:TypeDesc}{k:AV}{K:aJ}{v:Value}(hu:P.underlying t=some d)(hd:qW k d)(hv:VR K k v):(Instr.checkKey b 10000 t v).run P w= .ok () w:=by
 have key:∀ n,(Instr.checkKey b (n+1) t v).run P w= .ok () w:=fun n=>by
  rcases hd with⟨s,rfl,rfl⟩|⟨q,m,q',rfl,rfl⟩
  ·rw[VR.str_iff]at hv;subst hv;simp[Instr.checkKey,run_underlying hu]
  ·rw[VR.int_iff]at hv;subst hv;simp[Instr.checkKey,run_underlying hu]
 exact key 9999
def zv(P:Program)(t:TypeId):Option AV:=((P.info? t).bind (·.zero)).map ofConst
theorem B6h{P:Program}{K:aJ}{w:World}{t:TypeId}{a:AV}(h:zv P t=some a):∃ z,(zeroValue t).run P w= .ok z w /\ VR K a z:=by
 unfold zv at h
 cases hi:P.info? t with
 |none=>rw[hi]at h;cases h
 | some i=>
  rw[hi]at h
  cases hz:i.zero with
  |none=>simp[hz]at h
  | some z=>
   simp only[Option.bind_some,hz,Option.map_some,Option.some.injEq]at h;subst h
   exact⟨z,sY hi hz w, .ofConst K z⟩
def B7o(σ:AS)(x:AV):Option (List (AV × AV)):=
 match x with
 | .raw (.map none)=>some []
 | .raw (.map (some b))=>match σ.ty b with
  |some (.ob (.map kv),_)=>some kv
  |_=>none
 |_=>none
def uW(z:AV)(ok:Bool)(r:Option (Nat × AV)):AV:=let v:=match r with|some x=>x.2|none=>z;if ok then .tup [v, .bool r.isSome]else v
def gL(P:Program)(σ:AS)(t:TypeId)(x k:AV)(ok:Bool):Option AV:=
 match sk P t with
 | .map kt et=>if plainKey P kt k=true then
   match zv P et,B7o σ x with
   |some z,some kv=> (jJ k kv 0).map (uW z ok)
   |_,_=>none
  else none
 |_=>none
theorem tU{P:Program}{G:Nat ->AV}{K:aJ}{σ:AS}{w:World}{t:TypeId}{x k r:AV}{ok:Bool}(hr:aZ G K σ w)(h:gL P σ t x k ok=some r){v u:Value}(hv:VR K x v)(hu:VR K k u):
  ∃ z,(Instr.lookup t v u ok).run P w= .ok z w /\ VR K r z:=by
 unfold gL at h
 split at h
 case h_2=>cases h
 rename_i kt et ht
 split at h
 case isFalse=>cases h
 rename_i hk
 obtain⟨d,hd,hkd⟩:=mV hk
 split at h
 case h_2=>cases h
 rename_i z kv hz hkv
 obtain⟨zz,hzr,hzv⟩:=B6h (K:=K) (w:=w) hz
 cases hf:jJ k kv 0 with
 |none=>rw[hf]at h;cases h
 | some q=>
  rw[hf]at h
  simp only[Option.map_some,Option.some.injEq]at h;subst h
  have go:∀ es:Array MapEntry,VRm K kv es.toList -> ((∃ c b,v= .map (some b) /\ w.heap[b]? =some (.map es c)) \/ (v= .map none /\ es= #[])) ->∃ y,(Instr.lookup t v u ok).run P w= .ok y w /\ VR K (uW z ok q) y:=by
   intro es hes hcase
   obtain⟨q',hq1,hq2⟩:=lY hkd hu kv es.toList 0 q hes hf
   have hck:∀ b,(Instr.checkKey b 10000 kt u).run P w= .ok () w:=fun b=>lV hd hkd hu
   have hfk:(Instr.findKey kt u es.toList).run P w= .ok q' w:=by simp[Instr.findKey,run_underlying hd,hq1]
   have two:∀ a (y:Value) (b:Bool),VR K a y ->VR K (.tup [a, .bool b]) (.tuple #[y, .bool b]):=fun a y b h=> .tup _ _ rfl (fun j hj=>by
    match j,hj with
    |0,_=>exact h
    |1,_=>exact .bool b)
   have hgo:∀ y,(∀ (es2:Array MapEntry),es2=es -> (do let(v,ok') <- (match q' with|some (_,v)=>pure (v,true)|none=>do pure (<- zeroValue et,false));pure (if ok then .tuple #[v, .bool ok']else v):Sem Value).run P w= .ok y w) -> (Instr.lookup t v u ok).run P w= .ok y w:=by
    intro y hy
    have hy:=hy es rfl
    rcases hcase with⟨c,b,rfl,hb⟩|⟨rfl,rfl⟩
    ·have hg:(getObj b).run P w= .ok (.map es c) w:=by simp[getObj,Sem.run,hb]
     simp only[Instr.lookup,Sem.run_bind,run_underlying (xR ht),Result.andThen_ok,hg,Sem.run_pure,hck,hfk]
     cases q' <;>simpa using hy
    ·simp only[Instr.lookup,Sem.run_bind,run_underlying (xR ht),Result.andThen_ok,Sem.run_pure,hck,hfk]
     cases q' <;>simpa using hy
   rcases hq2 with⟨rfl,rfl⟩|⟨j,a,y,rfl,rfl,ha⟩
   ·cases ok
    ·exact⟨zz,hgo _ (fun _ _=>by simp[hzr]),hzv⟩
    ·exact⟨_,hgo _ (fun _ _=>by simp[hzr]),two _ _ false hzv⟩
   ·cases ok
    ·exact⟨y,hgo _ (fun _ _=>by simp),ha⟩
    ·exact⟨_,hgo _ (fun _ _=>by simp),two _ _ true ha⟩
  unfold B7o at hkv
  split at hkv
  ·rw[VR.raw_iff]at hv;subst hv
   simp only[Option.some.injEq]at hkv;subst hkv
   exact go #[] trivial (.inr ⟨rfl,rfl⟩)
  ·rename_i b
   rw[VR.raw_iff]at hv;subst hv
   split at hkv
   case h_2=>cases hkv
   rename_i kv' n hty
   simp only[Option.some.injEq]at hkv;subst hkv
   obtain⟨_,xo,hx,hax⟩:=hr.ty b _ _ hty
   cases hax with
   |map _ es c hes=>exact go es hes (.inl ⟨c,b,rfl,hx⟩)
  ·cases hkv
def yT(σ:AS)(r:Option Operand)(Kc:AV ->AS ->Prop):Prop:=
 r=none /\ ∀ b,σ.fresh b ->Kc (.raw (.map (some b))) (σ.setTy b (.ob (.map []),0))
theorem rR{P:Program}{G:Nat ->AV}{K:aJ}{σ:AS}{w:World}{t:TypeId}{Kc:AV ->AS ->Prop}(hr:aZ G K σ w)(h:∀ b,σ.fresh b ->Kc (.raw (.map (some b))) (σ.setTy b (.ob (.map []),0))):
  ∃ z w' r σ',(Instr.makeMap t none).run P w= .ok z w' /\ aZ G K σ' w' /\ VR K r z /\ Kc r σ':=
 ⟨.map (some w.heap.size),w.alloc (.map #[] 0),_,_,rfl,hr.addOb (.map [] #[] 0 trivial), .raw _,h _ (hr.fresh (Nat.le_refl _))⟩
def A4w(k:AV)(kv:List (AV × AV)):Bool:=match jJ k kv 0 with|some none=>true|_=>false
theorem A7w{k:AV}{kv:List (AV × AV)} :A4w k kv=true ↔ jJ k kv 0=some none:=by
 unfold A4w
 constructor
 ·intro h;split at h
  ·assumption
  ·cases h
 ·intro h;rw[h]
def A2e(P:Program)(σ:AS)(t:TypeId)(m k x:AV):Option AS:=
 match sk P t,m with
 | .map kt _, .raw (.map (some b))=> (match σ.ty b with
  |some (.ob (.map kv),n)=>if plainKey P kt k=true /\ A4w k kv=true then some (σ.setTy b (.ob (.map (kv++[(k,x)])),n))else none
  |_=>none)
 |_,_=>none
theorem VRm.push{K:aJ}{k x:AV}{e:MapEntry}(hk:VR K k e.key)(hx:VR K x e.val):∀ {l:List (AV × AV)} {r:List MapEntry},VRm K l r ->VRm K (l++[(k,x)]) (r++[e])
 |[],[],_=> ⟨hk,hx,trivial⟩
 |_::_,_::_,⟨a,b,c⟩=> ⟨a,b,VRm.push hk hx c⟩
 |[],_::_,h=>h.elim
 |_::_,[],h=>h.elim
theorem A2f{P:Program}{G:Nat ->AV}{K:aJ}{σ σ':AS}{w:World}{t:TypeId}{m k x:AV}(hr:aZ G K σ w)(h:A2e P σ t m k x=some σ'){vm vk vx:Value}(hm:VR K m vm)(hk:VR K k vk)(hx:VR K x vx):
  ∃ w',(Instr.mapUpdate t vm vk vx).run P w= .ok () w' /\ aZ G K σ' w':=by
 unfold A2e at h
 split at h
 case h_2=>cases h
 rename_i kt et b ht
 rw[VR.raw_iff]at hm;subst hm
 split at h
 case h_2=>cases h
 rename_i kv n hty
 split at h
 case isFalse=>cases h
 rename_i hc
 simp only[Option.some.injEq]at h;subst h
 obtain⟨d,hd,hkd⟩:=mV hc.1
 obtain⟨_,xo,hxo,hax⟩:=hr.ty b _ _ hty
 cases hax with
 | map _ es c hes=>
  obtain⟨q',hq1,hq2⟩:=lY hkd hk kv es.toList 0 none hes (A7w.1 hc.2)
  rcases hq2 with⟨_,rfl⟩|⟨_,_,_,h1,_⟩
  case inr=>cases h1
  have hck:∀ b,(Instr.checkKey b 10000 kt vk).run P w= .ok () w:=fun b=>lV hd hkd hk
  have hfk:(Instr.findKey kt vk es.toList).run P w= .ok none w:=by simp[Instr.findKey,run_underlying hd,hq1]
  have hg:(getObj b).run P w= .ok (.map es c) w:=by simp[getObj,Sem.run,hxo]
  have hset:(setObj b (.map (es.push {key:=vk,val:=vx,born:=c}) (c+1))).run P w= .ok () {w with heap:=w.heap.setIfInBounds b (.map (es.push {key:=vk,val:=vx,born:=c}) (c+1))} :=by
   simp[setObj,Sem.run,hxo]
  refine⟨_,?_,hr.setOb (n:=n) hty (.map (kv++[(k,x)]) (es.push {key:=vk,val:=vx,born:=c}) (c+1) ?_)⟩
  ·simp only[Instr.mapUpdate,Sem.run_bind,run_underlying (xR ht),Result.andThen_ok,hg,hck,hfk,hset]
  ·simp only[Array.toList_push]
   exact hes.push hk hx
end Go.Av
