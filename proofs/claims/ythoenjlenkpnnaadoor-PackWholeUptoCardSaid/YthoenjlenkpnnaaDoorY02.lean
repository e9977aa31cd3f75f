/- Slices that may be written: made, appended to, frozen; on abstract values. -/
import Derived.Test.YthoenjlenkpnnaaDoorY01
import Derived.Lib.UnsafeStr
import Derived.Lib.BufferWrite
set_option linter.unusedVariables false
set_option linter.unusedSimpArgs false
namespace Go.Av
open Go Go.RowKit
def AS.delBox(σ:AS)(b:Nat):AS:= {σ with box:=fun i=>if i=b then none else σ.box i}
section
variable {G:Nat ->AV} {K:aT} {σ:AS} {w:World}
theorem bM.delBox(h:bM G K σ w)(b:Nat):bM G K (σ.delBox b) w:=by
 refine⟨h.imm,h.row,fun i cs hi=> ?_,h.tip,h.ty,h.glob,h.below,h.bs⟩
 have hi':(if i=b then none else σ.box i)=some cs:=hi
 split at hi'
 ·cases hi'
 ·exact h.box i cs hi'
theorem bM.tipBox (h:bM G K σ w) {b s cap:Nat} {E:TypeId} (ht:σ.tip b=some (0,s)) (hrow:K.row b=some (cap,s,E)) (cs:List AV) {c:Array Value} (hc:w.heap[b]? =some (.cells c E (0,0))) (hl:cs.length <=c.size)
  (h1:∀ a,a ∈ cs ->one a=true) (hv:∀ j (hj:j < cs.length),VR K cs[j] (c.getD j Go.undef)):bM G K ((σ.delTip b).setBox b cs) w:=by
 obtain⟨hb,cap',E',hr',_,himm⟩:=h.tip b 0 s ht
 refine⟨h.imm,fun i cp q F hr=> ?_,fun i ds hi=> ?_,fun i n q hi=> ?_,h.ty,h.glob,h.below,h.bs⟩
 ·obtain⟨cur,fz,k1,k2,k3,k4⟩:=h.row i cp q F hr
  exact⟨cur,fz,k1,k2,k3,fun⟨x,hx⟩=>k4 ⟨x,by
   have hx':(if i=b then none else σ.tip i)=some x:=hx
   split at hx'
   ·cases hx'
   ·exact hx'⟩⟩
 ·by_cases hib:i=b
  ·subst hib
   simp only[AS.setBox,if_true,Option.some.injEq]at hi
   subst hi
   exact⟨hb,by simp[AS.setBox,AS.delTip],trivial,fun o=>himm o (by omega),h1,c,E,hc,hl,hv⟩
  ·simp only[AS.setBox,AS.delTip,if_neg hib]at hi
   obtain⟨k1,k2,k3⟩:=h.box i ds hi
   exact⟨k1,by simp[AS.setBox,AS.delTip,hib,k2],k3⟩
 ·have hi':(if i=b then none else σ.tip i)=some (n,q):=hi
  split at hi'
  ·cases hi'
  ·exact h.tip i n q hi'
theorem bM.addMut (h:bM G K σ w) (c:Array Value) (E:TypeId) (cap s:Nat) (hc:c.size=cap*s) (hml:cap <=maxLen) (cs:List AV) (hl:cs.length <=c.size)
  (h1:∀ a,a ∈ cs ->one a=true) (hv:∀ j (hj:j < cs.length),VR K cs[j] (c.getD j Go.undef)):
  ∃ K',K.le K' /\ bM G K' (σ.setBox w.heap.size cs) (w.alloc (.cells c E)) /\ K'.row w.heap.size=some (cap,s,E):=by
 obtain⟨K',hle,hrel,hrow,_⟩:=h.addRow c E cap s 0 hc (Nat.zero_le _) hml
 have h2:=hrel.tipBox (b:=w.heap.size) (s:=s) (by simp[AS.setTip]) hrow cs (heap_alloc_new w _) hl h1 (fun j hj=> (hv j hj).mono hle)
 have hf:=h.fresh (Nat.le_refl w.heap.size)
 have e:((σ.setTip w.heap.size (0,s)).delTip w.heap.size).setBox w.heap.size cs=σ.setBox w.heap.size cs:=by
  unfold AS.setBox AS.delTip AS.setTip
  congr 1
  funext i
  show(if i=w.heap.size then none else if i=w.heap.size then some (0,s)else σ.tip i)=σ.tip i
  split
  ·rename_i hi;subst hi;exact hf.2.1.symm
  ·rfl
 rw[e]at h2
 exact⟨K',hle,h2,hrow⟩
theorem bM.growMut (h:bM G K σ w) {b n s cap:Nat} {E:TypeId} {cs:List AV} (hb:σ.box b=some cs) (hrow:K.row b=some (cap,s,E)) (hcs:cs.length=n*s) (news:List Value) (nas:List AV) (m:Nat) (hm:news.length=m*s) (hnl:nas.length=news.length) (hcap:n+m <=cap)
  (h1:∀ a,a ∈ nas ->one a=true) (hv:∀ j (hj:j < nas.length),VR K nas[j] (news.getD j Go.undef)):
  bM G K (σ.setBox b (cs++nas)) (w.setCells b (n*s) news):=by
 obtain⟨g1,g2,g3,g4,g5,c,F,hc,hs,hvv⟩:=h.box b cs hb
 obtain⟨cur,fz,hcur,hcsz,hml,_⟩:=h.row b cap s E hrow
 rw[hc]at hcur
 simp only[Option.some.injEq,Obj.cells.injEq]at hcur
 obtain⟨rfl,rfl,_⟩:=hcur
 have hms:(n+m)*s=n*s+m*s:=Nat.add_mul n m s
 have hle2:(n+m)*s <=cap*s:=Nat.mul_le_mul_right _ hcap
 obtain⟨c',hc1,hc2⟩:=lA b news (n*s) w c F (0,0) hc
 obtain⟨m1,m2,m3,m4⟩:=lB b news (n*s) w
 have old:∀ i,i ≠ b -> (w.setCells b (n*s) news).heap[i]? =w.heap[i]? :=fun i hi=>dG b news _ _ i hi
 have hcellin:∀ j,j < news.length ->c'[n*s+j]? =some (news.getD j Go.undef):=by
  intro j hj
  have h3:=World.cell?_setCells_in b news (n*s) w (fun j hj=>by
   rw[cell_of_row w b _ c F (0,0) hc]
   have:n*s+j < c.size:=by omega
   simp[this]) j hj
  rw[cell_of_row _ b _ c' F (0,0) hc1]at h3
  rw[h3];simp[hj]
 have hcellout:∀ o,o < n*s ->c'[o]? =c[o]? :=by
  intro o ho
  have h3:=World.cell?_setCells_out b news (n*s) w ⟨b,o,none⟩ (fun _ _=> .inl ho)
  rw[cell_of_row _ b _ c' F (0,0) hc1,cell_of_row w b _ c F (0,0) hc]at h3
  exact h3
 refine⟨fun i o v hi=> ?_,fun i cp q F' hr=> ?_,fun i ds hi=> ?_,h.tip,fun i F' n' hi=> ?_,h.glob,?_,by rw[m4];exact h.bs⟩
 ·have hne:i ≠ b:=fun e=>by subst e;rw[g4 o]at hi;cases hi
  rw[World.cell?_of_block (w:=w) (old i hne)];exact h.imm i o v hi
 ·obtain⟨cu,fz,hcu,hx⟩:=h.row i cp q F' hr
  by_cases hib:i=b
  ·subst hib
   rw[hc]at hcu
   simp only[Option.some.injEq,Obj.cells.injEq]at hcu
   obtain⟨rfl,rfl,rfl⟩:=hcu
   exact⟨c',_,hc1,by rw[hc2];exact hx.1,hx.2⟩
  ·exact⟨cu,fz,by rw[old i hib];exact hcu,hx⟩
 ·by_cases hib:i=b
  ·subst hib
   simp only[AS.setBox,if_true,Option.some.injEq]at hi
   subst hi
   refine⟨g1,g2,g3,g4,fun a ha=> ?_,c',F,hc1,by rw[List.length_append,hc2];omega,fun j hj=> ?_⟩
   ·rcases List.mem_append.1 ha with ha|ha
    ·exact g5 a ha
    ·exact h1 a ha
   ·simp only[Array.getD_eq_getD_getElem?]
    by_cases hjc:j < cs.length
    ·rw[List.getElem_append_left hjc,hcellout j (by omega)]
     have:=hvv j hjc
     simpa [Array.getD_eq_getD_getElem?] using this
    ·have hj2:j - cs.length < nas.length:=by simp only[List.length_append]at hj;omega
     rw[List.getElem_append_right (by omega)]
     have h3:=hcellin (j - n*s) (by omega)
     rw[show n*s+(j - n*s)=j by omega]at h3
     rw[h3]
     have:=hv (j - cs.length) hj2
     simpa [<- hcs] using this
  ·simp only[AS.setBox,if_neg hib]at hi
   obtain⟨k1,k2,k3,k4,k5,d,F',hd,hds,hdv⟩:=h.box i ds hi
   exact⟨k1,k2,k3,k4,k5,d,F',by rw[old i hib];exact hd,hds,hdv⟩
 ·have h1:=h.ty i F' n' hi
  by_cases hib:i=b
  ·subst hib
   exact h1.wrote hc hc1 hc2
  ·exact h1.old (old i hib)
 ·exact h.below.trans ⟨m1,m2,m3,by rw[m4];exact Nat.le_refl _,fun k hk=>old k (by omega)⟩
theorem bM.frozen(h:bM G K σ w){b n s cap:Nat}{E:TypeId}{cs:List AV}(hb:σ.box b=some cs)(hrow:K.row b=some (cap,s,E))(hcs:cs.length=n*s)(hn:n <=cap):
  ∃ K',K.le K' /\ bM G K' ((σ.delBox b).setTip b (n,s)) w /\ K'.row b=some (cap,s,E) /\ ∃ f:Nat ->Value,(∀ j,j < cs.length ->K'.imm b j=some (f j)) /\ (∀ j (hj:j < cs.length),VR K' cs[j] (f j)) /\ ∀ c,c ∈ cs ->one c=true:=by
 obtain⟨g1,g2,g3,g4,g5,c,F,hc,hs,hvv⟩:=h.box b cs hb
 have h0:=h.delBox b
 have h2:bM G K (σ.delBox b) w:=h0
 obtain⟨k1,k2⟩:=h2.keep b (fun o=>decide (o < n*s)) (by simp[AS.delBox]) (fun m q hm=>by
  have hm':σ.tip b=some (m,q):=hm
  rw[g2]at hm';cases hm')
 refine⟨_,k1,?_,hrow,fun j=>c.getD j Go.undef,fun j hj=> ?_,fun j hj=> (hvv j hj).mono k1,g5⟩
 ·refine⟨k2.imm,fun i cp q F' hr=> ?_,fun i ds hi=> ?_,fun i m q hi=> ?_,k2.ty,k2.glob,k2.below,k2.bs⟩
  ·obtain⟨cur,fz,q1,q2,q3,q4⟩:=k2.row i cp q F' hr
   refine⟨cur,fz,q1,q2,q3,fun⟨x,hx⟩=> ?_⟩
   by_cases hib:i=b
   ·subst hib
    rw[hc]at q1
    simp only[Option.some.injEq,Obj.cells.injEq]at q1
    exact .inl q1.2.2.symm
   ·exact q4 ⟨x,by simpa [AS.setTip,hib] using hx⟩
  ·obtain⟨q1,q2,q3⟩:=k2.box i ds hi
   have hne:i ≠ b:=fun e=>by subst e;have hi':(if i=i then none else σ.box i)=some ds:=hi;rw[if_pos rfl]at hi';cases hi'
   exact⟨q1,by simp only[AS.setTip,if_neg hne];exact q2,q3⟩
  ·by_cases hib:i=b
   ·subst hib
    simp only[AS.setTip,if_true,Option.some.injEq,Prod.mk.injEq]at hi
    obtain⟨rfl,rfl⟩:=hi
    refine⟨g1,cap,E,hrow,hn,fun o ho=> ?_⟩
    show(if i=i /\ decide (o < n*s)=true then w.cell? ⟨i,o,none⟩else K.imm i o)=none
    rw[if_neg (by simp;omega)]
    exact g4 o
   ·simp only[AS.setTip,if_neg hib]at hi
    exact k2.tip i m q hi
 ·show(if b=b /\ decide (j < n*s)=true then w.cell? ⟨b,j,none⟩else K.imm b j)=_
  rw[if_pos ⟨rfl,by simp;omega⟩,cell_of_row w b j c F (0,0) hc]
  have:j < c.size:=by omega
  simp[this]
end
set_option maxRecDepth 8000 in
theorem A5p {P:Program} (w:World) {t e:TypeId} {n dB:Nat} {i:TypeInfo} {z:Value} {k k':IntKind} (ht:P.underlying t=some (.slice e)) (hi:P.info? e=some i) (hz:i.zero=some z) (hsz:i.size=n) (hbb:i.bytes=dB) (hn0:0 < n) (hb0:0 < dB)
  (l m:Nat) (hl:l <=m) (hmb:m*dB <=140737488355328):
  (Instr.makeSlice t (.int k l) (.int k' m)).run P w= .ok (.slice (some ⟨w.heap.size,0,none⟩) l m) (w.alloc (.cells ((Array.range (m*n)).map (z.cells[· % z.cells.size]!)) e)):=by
 have hm1:m <=140737488355328:=by
  have:m*1 <=m*dB:=Nat.mul_le_mul_left _ hb0
  omega
 have hw1:IntKind.i64.wrap (m:Int)=m:=by rw[IntKind.wrap_i64];omega
 have hw0:IntKind.i64.wrap (l:Int)=l:=by rw[IntKind.wrap_i64];omega
 have h48: ¬ ((281474976710656:Int) < (dB:Int)*(m:Int)):=by
  have:(dB*m:Nat) <=140737488355328:=by rw[Nat.mul_comm];exact hmb
  have h2:((dB*m:Nat):Int) <=140737488355328:=by omega
  rw[Int.natCast_mul]at h2
  omega
 unfold Instr.makeSlice
 by_cases hm0:m*n=0
 ·have hm00:m=0:=by rcases Nat.mul_eq_zero.1 hm0 with h|h <;>omega
  subst hm00
  have hl0:l=0:=by omega
  subst hl0
  have ez:∀ (f g:Nat ->Value),(Array.range 0).map f=(Array.range 0).map g:=fun f g=>by apply Array.ext';simp
  have hw00:IntKind.i64.wrap 0=0:=by rw[IntKind.wrap_i64];omega
  simp[run_underlying ht,asInt,asIntOf,typeInfo,hi,hw00,hbb,newRow,sizeOf,hsz]
  exact congrArg (fun c=>w.alloc (Obj.cells c e)) (ez _ _)
 ·simp only[Sem.run_bind,run_underlying ht,asInt,asIntOf,Sem.run_pure,Result.andThen_ok,typeInfo,hi,run_program,hw1,hw0,hbb]
  have hlt: ¬ ((m:Int) < 0):=by omega
  have hlt2: ¬ ((l:Int) < 0):=by omega
  have hlt3: ¬ ((m:Int) < (l:Int)):=by omega
  have hlt4: ¬ (m < l):=by omega
  simp[hlt,hlt2,hlt3,hlt4,h48,sizeOf,typeInfo,hi,hsz,hm0,wR hi hz,newRow]
def vD(P:Program)(σ:AS)(t:TypeId)(l c:AV)(K:AV ->AS ->Prop):Prop:=
 match fV P t,(el P t).bind (zc P),l,c with
 |some (e,n,dB),some zz, .int _ l, .int _ c=>0 <=l /\ l <=c /\ c*dB <=140737488355328 /\ ∀ b,σ.fresh b ->K (.bs b l.toNat n e) (σ.setBox b (List.replicate l.toNat zz).flatten)
 |_,_,_,_=>False
def rT(P:Program)(σ:AS)(t:TypeId)(l c:AV)(K:AV ->AS ->Prop):Prop:=
 match fV P t,(el P t).bind (zc P),l,c with
 |some (e,n,dB),some zz, .int _ l, .int _ c=>0 <=l /\ l <=c /\ c*dB <=140737488355328 /\ ∀ b,σ.fresh b ->K (.raw (.slice (some ⟨b,0,none⟩) l.toNat c.toNat)) ((σ.setBox b (List.replicate c.toNat zz).flatten).setTy b (e,c.toNat*n))
 |_,_,_,_=>False
theorem A9d{zz:List AV}{n:Nat}(hn:zz.length=n):∀ (l j:Nat),(hj:j < (List.replicate l zz).flatten.length) ->∃ h:j % n < zz.length,(List.replicate l zz).flatten[j]=zz[j % n]
 |0,j,hj=>by simp at hj
 | l +1,j,hj=>by
  have hlen:(List.replicate (l+1) zz).flatten=zz++(List.replicate l zz).flatten:=by simp[List.replicate_succ]
  simp only[hlen]at hj ⊢
  by_cases hjz:j < zz.length
  ·have:j % n=j:=Nat.mod_eq_of_lt (by omega)
   refine⟨by omega,?_⟩
   rw[List.getElem_append_left hjz]
   simp only[this]
  ·have hj2:j - zz.length < (List.replicate l zz).flatten.length:=by simp only[List.length_append]at hj;omega
   obtain⟨h1,h2⟩:=A9d hn l (j - zz.length) hj2
   have e:(j - zz.length) % n=j % n:=by
    rw[hn]at hjz ⊢
    rw[<- Nat.mod_eq_sub_mod (by omega)]
   simp only[e]at h1 h2
   refine⟨h1,?_⟩
   rw[List.getElem_append_right (by omega)]
   exact h2
theorem A0e{P:Program}{G:Nat ->AV}{K:aT}{σ:AS}{w:World}(hr:bM G K σ w){t:TypeId}{l c:AV}{Kc:AV ->AS ->Prop}(h:vD P σ t l c Kc){v u:Value}(hv:VR K l v)(hu:VR K c u):
  ∃ z w' K' r σ',(Instr.makeSlice t v u).run P w= .ok z w' /\ K.le K' /\ bM G K' σ' w' /\ VR K' r z /\ Kc r σ':=by
 unfold vD at h
 split at h
 case h_2=>exact h.elim
 rename_i e n dB zz k l k' c hel hzz
 obtain⟨h0,hlc,hby,hK⟩:=h
 rw[VR.int_iff]at hv hu;subst hv hu
 obtain⟨ht,i,z,hi,hz,hsz,hbb,hzs,hn0,hb0,hcr⟩:=hN (K:=K) hel
 have hel2:el P t=some e:=by unfold el;rw[ht]
 rw[hel2,Option.bind_some]at hzz
 have hcrz:=hcr zz hzz
 obtain⟨l,rfl⟩:=Int.eq_ofNat_of_zero_le h0
 obtain⟨m,rfl⟩:=Int.eq_ofNat_of_zero_le (Int.le_trans h0 hlc)
 have hmb:m*dB <=140737488355328:=by
  have h:=hby
  rw[<- Int.natCast_mul]at h
  omega
 have hm1:m <=140737488355328:=by
  have:m*1 <=m*dB:=Nat.mul_le_mul_left _ hb0
  omega
 have hrun:=A5p (P:=P) w (k:=k) (k':=k') ht hi hz hsz hbb hn0 hb0 l m (by omega) hmb
 have hzl:zz.length=n:=by rw[<- hcrz.size];exact hzs
 have hsize:((Array.range (m*n)).map (z.cells[· % z.cells.size]!)).size=m*n:=by simp
 have hflen:(List.replicate l zz).flatten.length=l*n:=by simp[hzl]
 have hlm:l*n <=m*n:=Nat.mul_le_mul_right _ (by omega)
 obtain⟨K',hle,hrel,hrow⟩:=hr.addMut ((Array.range (m*n)).map (z.cells[· % z.cells.size]!)) e m n hsize (by unfold maxLen;omega) (List.replicate l zz).flatten (by rw[hsize,hflen];exact hlm)
  (fun a ha=>by
    obtain⟨x,hx,hax⟩:=List.mem_flatten.1 ha
    rw[List.mem_replicate]at hx
    rw[hx.2]at hax
    exact hcrz.one a hax)
  (fun j hj=>by
    obtain⟨h1,h2⟩:=A9d hzl l j hj
    rw[h2]
    have h3:=hcrz.at_ (j % n) h1
    have hjm:j < m*n:=by omega
    have:((Array.range (m*n)).map (z.cells[· % z.cells.size]!)).getD j Go.undef=z.cells.getD (j % n) Go.undef:=by
     have hlt:j % n < z.cells.size:=by rw[hzs];exact Nat.mod_lt _ hn0
     simp[hjm,hzs,Nat.mod_lt _ hn0]
    rw[this];exact h3)
 refine⟨_,_,K',_,_,hrun,hle,hrel,?_,hK _ (hr.fresh (Nat.le_refl _))⟩
 exact .bs _ _ n m e hrow (by omega) (by unfold maxLen;omega)
theorem A0f{P:Program}{G:Nat ->AV}{K:aT}{σ:AS}{w:World}(hr:bM G K σ w){t:TypeId}{l c:AV}{Kc:AV ->AS ->Prop}(h:rT P σ t l c Kc){v u:Value}(hv:VR K l v)(hu:VR K c u):
  ∃ z w' K' r σ',(Instr.makeSlice t v u).run P w= .ok z w' /\ K.le K' /\ bM G K' σ' w' /\ VR K' r z /\ Kc r σ':=by
 unfold rT at h
 split at h
 case h_2=>exact h.elim
 rename_i e n dB zz k l k' c hel hzz
 obtain⟨h0,hlc,hby,hK⟩:=h
 rw[VR.int_iff]at hv hu;subst hv hu
 obtain⟨ht,i,z,hi,hz,hsz,hbb,hzs,hn0,hb0,hcr⟩:=hN (K:=K) hel
 have hel2:el P t=some e:=by unfold el;rw[ht]
 rw[hel2,Option.bind_some]at hzz
 have hcrz:=hcr zz hzz
 obtain⟨l,rfl⟩:=Int.eq_ofNat_of_zero_le h0
 obtain⟨m,rfl⟩:=Int.eq_ofNat_of_zero_le (Int.le_trans h0 hlc)
 have hmb:m*dB <=140737488355328:=by
  have h:=hby
  rw[<- Int.natCast_mul]at h
  omega
 have hm1:m <=140737488355328:=by
  have:m*1 <=m*dB:=Nat.mul_le_mul_left _ hb0
  omega
 have hrun:=A5p (P:=P) w (k:=k) (k':=k') ht hi hz hsz hbb hn0 hb0 l m (by omega) hmb
 have hzl:zz.length=n:=by rw[<- hcrz.size];exact hzs
 have hsize:((Array.range (m*n)).map (z.cells[· % z.cells.size]!)).size=m*n:=by simp
 have hflen:(List.replicate m zz).flatten.length=m*n:=by simp[hzl]
 have hrel:=hr.addBox ((Array.range (m*n)).map (z.cells[· % z.cells.size]!)) e (List.replicate m zz).flatten (by rw[hsize,hflen];exact Nat.le_refl _)
  (fun a ha=>by
    obtain⟨x,hx,hax⟩:=List.mem_flatten.1 ha
    rw[List.mem_replicate]at hx
    rw[hx.2]at hax
    exact hcrz.one a hax)
  (fun j hj=>by
    obtain⟨h1,h2⟩:=A9d hzl m j hj
    rw[h2]
    have h3:=hcrz.at_ (j % n) h1
    have hjm:j < m*n:=by omega
    have:((Array.range (m*n)).map (z.cells[· % z.cells.size]!)).getD j Go.undef=z.cells.getD (j % n) Go.undef:=by
     have hlt:j % n < z.cells.size:=by rw[hzs];exact Nat.mod_lt _ hn0
     simp[hjm,hzs,Nat.mod_lt _ hn0]
    rw[this];exact h3)
 exact⟨_,_,K,_,_,hrun,aT.le.refl K,hrel.typed (heap_alloc_new w _) hsize, .raw _,hK _ (hr.fresh (Nat.le_refl _))⟩
def mA(P:Program)(σ:AS)(t:TypeId)(len:Nat)(ps:List (Nat × AV))(K:AV ->AS ->Prop):Prop:=
 match el P t,(el P t).bind (tk P),cX P t len ps with
 |some e,some (_,n),some (.sl _ xs _)=>∀ b,σ.fresh b ->K (.bs b len n e) (σ.setBox b (xs.flatMap flat))
 |_,_,_=>False
theorem xI {P:Program} {G:Nat ->AV} {K:aT} {σ:AS} {w:World} (hr:bM G K σ w) {t:TypeId} {len:Nat} {ps:List (Nat × AV)} {Kc:AV ->AS ->Prop} (h:mA P σ t len ps Kc)
  {qs:List (Nat × Value)} (hv:VRp K ps qs):
  ∃ z w' K' r σ',(Instr.buildSlice t len qs.toArray).run P w= .ok z w' /\ K.le K' /\ bM G K' σ' w' /\ VR K' r z /\ Kc r σ':=by
 unfold mA at h
 split at h
 case h_2=>exact h.elim
 rename_i e ag n g xs sp hel htk hb
 obtain⟨e',ag',n',us,he,hn,hrun,hxs,hsize,hlml,hlen,hall,hcu⟩:=nF (w:=w) hb hv
 rw[hel]at he
 simp only[Option.some.injEq]at he
 subst he
 rw[hel,Option.bind_some,hn]at htk
 simp only[Option.some.injEq,Prod.mk.injEq]at htk
 obtain⟨rfl,rfl⟩:=htk
 simp only[AV.sl.injEq]at hxs
 obtain⟨rfl,rfl,rfl⟩:=hxs
 obtain⟨K',hle,hrel,hrow⟩:=hr.addMut us e len n' hsize hlml ((ps.map (·.2)).flatMap flat) (Nat.le_of_eq hcu.size.symm) hcu.one (fun j hj=>hcu.at_ j hj)
 exact⟨_,_,K',_,_,hrun,hle,hrel, .bs _ _ n' len e hrow (Nat.le_refl _) hlml,h _ (hr.fresh (Nat.le_refl _))⟩
def qE(P:Program)(σ:AS)(t tx:TypeId)(s x:AV)(K:AV ->AS ->Prop):Prop:=
 match fV P t,xO P tx x with
 | some (e,n,dB),some ys=>
  (∀ a,a ∈ ys -> (flat a).length=n) /\
  match s with
  | .nil=>ys ≠ [] /\ ys.length*dB <=140737488355328 /\ ∀ b,σ.fresh b ->K (.bs b ys.length n e) (σ.setBox b (ys.flatMap flat))
  | .bs b m q F=> (q=n /\ F=e) /\ ∃ cs,σ.box b=some cs /\ cs.length=m*n /\ (m+ys.length)*dB <=140737488355328 /\
    ∀ b',(b'=b \/ σ.fresh b') ->K (.bs b' (m+ys.length) n e) ((σ.delBox b).setBox b' (cs++ys.flatMap flat))
  |_=>False
 |_,_=>False
theorem kM {P:Program} {G:Nat ->AV} {K:aT} {σ:AS} {w:World} (hr:bM G K σ w) {cs nas:List AV} {n dB xl yl:Nat} {t tx ty e:TypeId} {i:TypeInfo} {z:Value}
  (ht:P.underlying t=some (.slice e)) (hi:P.info? e=some i) (hz:i.zero=some z) (hsz:i.size=n) (hby:i.bytes=dB) (hzs:z.cells.size=n) (hn0:0 < n) (hb0:0 < dB)
  (hcl:cs.length=xl*n) (hnn:nas.length=yl*n) (hc1:∀ c,c ∈ cs ->one c=true) (hn1:∀ c,c ∈ nas ->one c=true)
  (base:Option Addr) (sCap:Nat) (olds:List Value) (hol:olds.length=cs.length) (hov:∀ j (hj:j < cs.length),VR K cs[j] (olds.getD j Go.undef))
  (hold:(Builtin.firstCells i.size xl (.slice base xl sCap)).run P w.drew= .ok olds.toArray w.drew)
  (v:Value) (news:List Value) (hsrc:Src P i.size tx v yl news w) (hnl:news.length=nas.length) (hnv:∀ j (hj:j < nas.length),VR K nas[j] (news.getD j Go.undef))
  (hg:sCap < xl+yl) (hbytes:(xl+yl)*dB <=140737488355328):
  ∃ u w' K',(Builtin.append_ #[t,tx] ty #[.slice base xl sCap,v]).run P w= .ok u w' /\ K.le K' /\ bM G K' (σ.setBox w.heap.size (cs++nas)) w' /\ VR K' (.bs w.heap.size (xl+yl) n e) u:=by
 have hmax:xl+yl <=140737488355328:=by
  have:(xl+yl)*1 <=(xl+yl)*dB:=Nat.mul_le_mul_left _ hb0
  omega
 have hrun:=run_append_grow_src (P:=P) w t tx ty e i z ht hi hz base xl sCap olds hold v yl news hsrc hg (by omega) (by rw[hby];exact growslice_fits hg hbytes)
 have hge:=grownCap_ge w (xl+yl) sCap e
 have hcm:grownCap w (xl+yl) sCap e <=maxLen:=grownCap_le_maxLen w _ sCap e (by unfold maxLen;omega)
 generalize grownCap w (xl+yl) sCap e=cap at hrun hge hcm
 have hsize:((olds++news).toArray++Builtin.zeroCells z.cells (cap - (xl+yl))).size=cap*n:=by
  simp only[Array.size_append,List.size_toArray,List.length_append,size_zeroCells,hzs,hol,hnl,hcl,hnn,<- Nat.add_mul]
  congr 1;omega
 have hge2:(xl+yl)*n <=cap*n:=Nat.mul_le_mul_right _ hge
 obtain⟨K',hle,hrel,hrow⟩:=hr.drew.addMut ((olds++news).toArray++Builtin.zeroCells z.cells (cap - (xl+yl))) e cap n hsize hcm (cs++nas) (by rw[hsize,List.length_append,hcl,hnn,<- Nat.add_mul];exact hge2)
  (fun a ha=>by rcases List.mem_append.1 ha with ha|ha;exact hc1 a ha;exact hn1 a ha)
  (fun j hj=>by
    have hjl:j < (olds++news).length:=by simp only[List.length_append]at hj ⊢;omega
    have e1:((olds++news).toArray++Builtin.zeroCells z.cells (cap - (xl+yl))).getD j Go.undef=(olds++news).getD j Go.undef:=by
     simp only[Array.getD_eq_getD_getElem?,List.getD_eq_getElem?_getD]
     rw[Array.getElem?_append_left (by simpa using hjl)]
     simp
    rw[e1]
    by_cases hjx:j < cs.length
    ·have e2:(olds++news).getD j Go.undef=olds.getD j Go.undef:=by
      simp only[List.getD_eq_getElem?_getD];rw[List.getElem?_append_left (by omega)]
     rw[e2,List.getElem_append_left hjx];exact hov j hjx
    ·have e2:(olds++news).getD j Go.undef=news.getD (j - cs.length) Go.undef:=by
      simp only[List.getD_eq_getElem?_getD];rw[List.getElem?_append_right (by omega),hol]
     have hj2:j - cs.length < nas.length:=by simp only[List.length_append]at hj;omega
     rw[e2,List.getElem_append_right (by omega)];exact hnv _ hj2)
 exact⟨_,_,K',hrun,hle,hrel, .bs _ _ n cap e hrow hge hcm⟩
theorem iB{ys:List AV}(h:∀ a,a ∈ ys ->isv a=true /\ ∀ c,c ∈ flat a ->one c=true):∀ c,c ∈ ys.flatMap flat ->one c=true:=fun c hc=>by
 obtain⟨a,ha,hca⟩:=List.mem_flatMap.1 hc
 exact(h a ha).2 c hca
theorem nR {P:Program} {G:Nat ->AV} {K:aT} {σ:AS} {w:World} (hr:bM G K σ w) {t tx ty:TypeId} {s x:AV} {Kc:AV ->AS ->Prop} (h:qE P σ t tx s x Kc)
  {v u:Value} (hv:VR K s v) (hu:VR K x u):
  ∃ z w' K' r σ',(Builtin.append_ #[t,tx] ty #[v,u]).run P w= .ok z w' /\ K.le K' /\ bM G K' σ' w' /\ VR K' r z /\ Kc r σ':=by
 unfold qE at h
 split at h
 case h_2=>exact h.elim
 rename_i e n dB ys hel hsrc
 obtain⟨hys,h⟩:=h
 obtain⟨ht,i,z,hi,hz,hsz,hby,hzs,hn0,hb0,_⟩:=hN (K:=K) hel
 obtain⟨news,hS,hnl,hyv,hnv⟩:=pS hr hsrc hys hu
 subst hsz
 have hyl:=bD (sz:=i.size) ys hys
 split at h
 ·obtain⟨hne,hbytes,hK⟩:=h
  rw[VR.nil_iff]at hv;subst hv
  obtain⟨z',w',K',h2,h3,h4,h5⟩:=kM (cs:=[]) (nas:=ys.flatMap flat) (xl:=0) (yl:=ys.length) (P:=P) (ty:=ty) hr ht hi hz rfl hby hzs hn0 hb0 (by simp) hyl (fun a ha=>by cases ha) (iB hyv) none 0 [] rfl (fun j hj=>by cases hj)
   (by simp[Builtin.firstCells]) u news hS hnl hnv (by have:=List.length_pos_iff.2 hne;omega) (by simpa using hbytes)
  refine⟨z',w',K',_,_,h2,h3,h4,h5,?_⟩
  have:=hK w.heap.size (hr.fresh (Nat.le_refl _))
  simpa using this
 ·rename_i b m q F0
  obtain⟨⟨hq,hF0⟩,cs,hb,hcl,hbytes,hK⟩:=h
  subst hq
  obtain⟨g1,g2,g3,g4,g5,c,F,hc,hs,hvv⟩:=hr.box b cs hb
  cases hv with
  | bs _ _ _ cap _ hrow hn hm=>
   rw[hF0]at hrow
   obtain⟨cur,fz,hcur,hcsz,hml,_⟩:=hr.row b cap i.size e hrow
   rw[hc]at hcur
   simp only[Option.some.injEq,Obj.cells.injEq]at hcur
   obtain⟨rfl,hFe,_⟩:=hcur
   rw[hFe]at hc
   by_cases hroom:m+ys.length <=cap
   ·have hle2:(m+ys.length)*i.size <=cap*i.size:=Nat.mul_le_mul_right _ hroom
    have hadd:(m+ys.length)*i.size=m*i.size+ys.length*i.size:=Nat.add_mul _ _ _
    have hrun:=run_append_room_src (P:=P) w t tx ty e i ht hi b 0 m cap u ys.length news hS hroom
     (fun j hj=>by
       rw[cell_of_row w b _ c e (0,0) hc]
       have:m*i.size+j < c.size:=by omega
       simp[this])
     (fun j hj=>by simp[World.frozen?,hc])
    rw[Nat.zero_add]at hrun
    have hrel:=hr.growMut hb hrow hcl news (ys.flatMap flat) ys.length (by rw[hnl,hyl]) hnl.symm hroom (iB hyv) hnv
    have h2:=hK b (.inl rfl)
    have e1:(σ.delBox b).setBox b (cs++ys.flatMap flat)=σ.setBox b (cs++ys.flatMap flat):=by
     unfold AS.setBox AS.delBox
     congr 1
     funext j
     show(if j=b then some (cs++ys.flatMap flat)else if j=b then none else σ.box j)=(if j=b then some (cs++ys.flatMap flat)else σ.box j)
     split <;>rfl
    rw[e1]at h2
    exact⟨_,_,K,_,_,hrun,aT.le.refl K,hrel, .bs b _ i.size cap e hrow hroom hm,h2⟩
   ·obtain⟨z',w',K',h2,h3,h4,h5⟩:=kM (cs:=cs) (nas:=ys.flatMap flat) (xl:=m) (yl:=ys.length) (P:=P) (ty:=ty) hr ht hi hz rfl hby hzs hn0 hb0 hcl hyl g5 (iB hyv) (some ⟨b,0,none⟩) cap (cI (fun j=>c.getD j Go.undef) cs.length) (by simp[cI])
     (fun j hj=>by rw[iE _ _ j hj];exact hvv j hj)
     (by
       refine run_firstCells_some w.drew i.size m ⟨b,0,none⟩ m cap _ (by simp[cI,hcl]) (fun j y hy=> ?_)
       obtain⟨hj,rfl⟩:=List.getElem?_eq_some_iff.1 hy
       have hj':j < cs.length:=by simpa [cI] using hj
       rw[Addr.add_lit]
       simp only[cI,List.getElem_map,List.getElem_range]
       have:w.drew.cell? ⟨b,0+j,none⟩=w.cell? ⟨b,j,none⟩:=by rw[Nat.zero_add];rfl
       rw[this,cell_of_row w b j c e (0,0) hc]
       have:j < c.size:=by omega
       simp[this]) u news hS hnl hnv (by omega) hbytes
    have hf:=hr.fresh (Nat.le_refl w.heap.size)
    have hne:w.heap.size ≠ b:=fun e=>by rw[e]at hf;rw[hf.1]at hb;cases hb
    have h6:=hK w.heap.size (.inr hf)
    refine⟨z',w',K',_,_,h2,h3,?_,h5,h6⟩
    have h7:=h4.delBox b
    have e2:(σ.setBox w.heap.size (cs++ys.flatMap flat)).delBox b=(σ.delBox b).setBox w.heap.size (cs++ys.flatMap flat):=by
     unfold AS.setBox AS.delBox
     congr 1
     funext j
     show(if j=b then none else if j=w.heap.size then some (cs++ys.flatMap flat)else σ.box j)=(if j=w.heap.size then some (cs++ys.flatMap flat)else if j=b then none else σ.box j)
     by_cases h1:j=b
     ·rw[if_pos h1,if_neg (by rw[h1];exact Ne.symm hne),if_pos h1]
     ·rw[if_neg h1,if_neg h1]
    rw[e2]at h7
    exact h7
 ·exact h.elim
theorem bM.shrink{G:Nat ->AV}{K:aT}{σ:AS}{w:World}(h:bM G K σ w){b:Nat}{cs:List AV}(hb:σ.box b=some cs)(k:Nat):bM G K (σ.setBox b (cs.take k)) w:=by
 refine⟨h.imm,h.row,fun i ds hi=> ?_,h.tip,h.ty,h.glob,h.below,h.bs⟩
 have hi':(if i=b then some (cs.take k)else σ.box i)=some ds:=hi
 split at hi'
 ·rename_i hib
  subst hib
  simp only[Option.some.injEq]at hi'
  subst hi'
  obtain⟨g1,g2,g3,g4,g5,c,F,hc,hs,hvv⟩:=h.box i cs hb
  refine⟨g1,g2,g3,g4,fun a ha=>g5 a (List.mem_of_mem_take ha),c,F,hc,by simp only[List.length_take];omega,fun j hj=> ?_⟩
  rw[List.getElem_take]
  exact hvv j (by simp only[List.length_take]at hj;omega)
 ·exact h.box i ds hi'
def lH(P:Program)(σ:AS)(t tx:TypeId)(s x:AV)(K:AV ->AS ->Prop):Prop:=
 match fV P t,xO P tx x with
 | some (e,n,dB),some ys=>
  (∀ a,a ∈ ys -> (flat a).length=n) /\
  match s with
  | .nil=>ys ≠ [] /\ ys.length*dB <=140737488355328 /\ ∀ b,σ.fresh b ->K (.bs b ys.length n e) (σ.setBox b (ys.flatMap flat))
  | .bs b m q F=> (q=n /\ F=e) /\ ∃ cs,σ.box b=some cs /\ m*n <=cs.length /\ (m+ys.length)*dB <=140737488355328 /\
    ∀ b',(b'=b \/ σ.fresh b') ->K (.bs b' (m+ys.length) n e) ((σ.delBox b).setBox b' (cs.take (m*n)++ys.flatMap flat))
  |_=>False
 |_,_=>False
theorem uY {P:Program} {G:Nat ->AV} {K:aT} {σ:AS} {w:World} (hr:bM G K σ w) {t tx ty:TypeId} {s x:AV} {Kc:AV ->AS ->Prop} (h:lH P σ t tx s x Kc)
  {v u:Value} (hv:VR K s v) (hu:VR K x u):
  ∃ z w' K' r σ',(Builtin.append_ #[t,tx] ty #[v,u]).run P w= .ok z w' /\ K.le K' /\ bM G K' σ' w' /\ VR K' r z /\ Kc r σ':=by
 unfold lH at h
 split at h
 case h_2=>exact h.elim
 rename_i e n dB ys hel hsrc
 obtain⟨hys,h⟩:=h
 split at h
 ·exact nR (ty:=ty) hr (by unfold qE;rw[hel,hsrc];exact⟨hys,h⟩) hv hu
 ·rename_i b m q F0
  obtain⟨hq,cs,hb,hcl,hbytes,hK⟩:=h
  refine nR (ty:=ty) (σ:=σ.setBox b (cs.take (m*n))) (hr.shrink hb _) ?_ hv hu
  unfold qE
  rw[hel,hsrc]
  refine⟨hys,hq,cs.take (m*n),by simp[AS.setBox],by simp only[List.length_take];omega,hbytes,fun b' hb'=> ?_⟩
  have e1:((σ.setBox b (cs.take (m*n))).delBox b).setBox b' (cs.take (m*n)++ys.flatMap flat)=(σ.delBox b).setBox b' (cs.take (m*n)++ys.flatMap flat):=by
   unfold AS.setBox AS.delBox
   congr 1
   funext j
   show(if j=b' then _ else if j=b then none else if j=b then _ else σ.box j)=(if j=b' then _ else if j=b then none else σ.box j)
   split
   ·rfl
   ·split <;>rfl
  rw[e1]
  refine hK b' (hb'.imp id fun hf=> ?_)
  have hbb:b' ≠ b:=fun e=>by
   subst e
   have:=hf.1
   simp[AS.setBox]at this
  refine⟨?_,hf.2.1,hf.2.2⟩
  have h1:(if b'=b then some (cs.take (m*n))else σ.box b')=none:=hf.1
  rw[if_neg hbb]at h1;exact h1
 ·exact h.elim
def qF(P:Program)(σ:AS)(t tx:TypeId)(s x:AV)(K:AV ->AS ->Prop):Prop:=
 match fV P t,sk P tx,s,x with
 |some (e,n,dB), .int _, .nil, .int _ k=>0 < k /\ k*dB <=140737488355328 /\ ∀ b,σ.fresh b ->K (.bs b k.toNat n e) (σ.setBox b [])
 |_,_,_,_=>False
theorem vA {P:Program} {G:Nat ->AV} {K:aT} {σ:AS} {w:World} (hr:bM G K σ w) {t tx ty:TypeId} {s x:AV} {Kc:AV ->AS ->Prop} (h:qF P σ t tx s x Kc)
  {v u:Value} (hv:VR K s v) (hu:VR K x u):
  ∃ z w' K' r σ',(Builtin.append_ #[t,tx] ty #[v,u]).run P w= .ok z w' /\ K.le K' /\ bM G K' σ' w' /\ VR K' r z /\ Kc r σ':=by
 unfold qF at h
 split at h
 case h_2=>exact h.elim
 rename_i e n dB kk k' k hel hsk
 obtain⟨h0,hby,hK⟩:=h
 rw[VR.nil_iff]at hv;subst hv
 rw[VR.int_iff]at hu;subst hu
 obtain⟨ht,i,z,hi,hz,hsz,hbb,hzs,hn0,hb0,_⟩:=hN (K:=K) hel
 obtain⟨m,rfl⟩:=Int.eq_ofNat_of_zero_le (Int.le_of_lt h0)
 have hmb:m*dB <=140737488355328:=by
  have h:=hby
  rw[<- Int.natCast_mul]at h
  omega
 have hm1:m <=140737488355328:=by
  have:m*1 <=m*dB:=Nat.mul_le_mul_left _ hb0
  omega
 have hw1:IntKind.i64.wrap (m:Int)=m:=by rw[IntKind.wrap_i64];omega
 have hge:=grownCap_ge w m 0 e
 have hcm:grownCap w m 0 e <=maxLen:=grownCap_le_maxLen w _ 0 e (by unfold maxLen;omega)
 have hlt: ¬ ((m:Int) < 0):=by omega
 have h48: ¬ ((281474976710656:Int) < (m:Int)*(dB:Int)):=by rw[<- Int.natCast_mul];omega
 have hmn: ¬ (m <=0):=by omega
 have h63: ¬ ((9223372036854775807:Int) < (m:Int)):=by omega
 have hfit:=growslice_fits (need:=m) (old:=0) (bytes:=dB) (by omega) hmb
 have hfit': ¬ (281474976710656 < Builtin.nextslicecap m 0*dB):=by omega
 have hmn0:m*n ≠ 0:=Nat.mul_ne_zero (by omega) (by omega)
 have hrun:(Builtin.append_ #[t,tx] ty #[.slice none 0 0, .int k' (m:Int)]).run P w= .ok (.slice (some ⟨w.heap.size,0,none⟩) m (grownCap w m 0 e))
   (w.drew.alloc (.cells (Builtin.zeroCells z.cells m++Builtin.zeroCells z.cells (grownCap w m 0 e - m)) e)):=by
  simp[Builtin.append_,run_underlying ht,run_underlying (oQ hsk),sizeOf,typeInfo,zeroValue,hi,hz,hsz,hbb,asInt,asIntOf,hw1,hlt,h48,hmn,h63,hfit',hmn0,Question.forced,newRow,grownCap,Builtin.firstCells]
  omega
 have hsize:(Builtin.zeroCells z.cells m++Builtin.zeroCells z.cells (grownCap w m 0 e - m)).size=grownCap w m 0 e*n:=by
  simp only[Array.size_append,size_zeroCells,hzs,<- Nat.add_mul]
  congr 1;omega
 obtain⟨K',hle,hrel,hrow⟩:=hr.drew.addMut (Builtin.zeroCells z.cells m++Builtin.zeroCells z.cells (grownCap w m 0 e - m)) e (grownCap w m 0 e) n hsize hcm [] (Nat.zero_le _) (fun a ha=>by cases ha) (fun j hj=>by cases hj)
 refine⟨_,_,K',_,_,hrun,hle,hrel, .bs _ _ n _ e hrow hge hcm,?_⟩
 have:=hK w.heap.size (hr.fresh (Nat.le_refl _))
 simpa using this
def D6t(P:Program)(σ:AS)(tx:TypeId)(x:AV)(ys:List AV):Prop:=
 xO P tx x=some ys \/ ∃ b m q F cs,x= .bs b m q F /\ (el P tx).isSome=true /\ σ.box b=some cs /\ ys.length=m /\ m*q <=cs.length /\ ys.flatMap flat=cs.take (m*q) /\ ∀ a,a ∈ ys -> (flat a).length=q /\ isv a=true
theorem A9j {P:Program} {G:Nat ->AV} {K:aT} {σ:AS} {w:World} (hr:bM G K σ w) {t:TypeId} {x:AV} {ys:List AV} (h:D6t P σ t x ys) {n:Nat}
  (hn:∀ a,a ∈ ys -> (flat a).length=n) {v:Value} (hv:VR K x v):
  ∃ news:List Value,Src P n t v ys.length news w /\ news.length=(ys.flatMap flat).length /\ (∀ a,a ∈ ys ->isv a=true /\ ∀ c,c ∈ flat a ->one c=true) /\
   ∀ j (hj:j < (ys.flatMap flat).length),VR K (ys.flatMap flat)[j] (news.getD j Go.undef):=by
 rcases h with h|⟨b,m,q,F,cs,rfl,hs,hb,hm,hl,hf,ha⟩
 ·exact pS hr h hn hv
 ·obtain⟨e,he⟩:=Option.isSome_iff_exists.1 hs
  have hfl:=bD (sz:=n) ys hn
  obtain⟨g1,g2,g3,g4,g5,c,E,hc,hcs,hvv⟩:=hr.box b cs hb
  have hlen:(ys.flatMap flat).length=m*q:=by rw[hf,List.length_take];omega
  have hone:∀ a,a ∈ ys ->isv a=true /\ ∀ c,c ∈ flat a ->one c=true:=fun a haa=> ⟨(ha a haa).2,fun d hd=>by
   have:d ∈ ys.flatMap flat:=List.mem_flatMap.2 ⟨a,haa,hd⟩
   rw[hf]at this
   exact g5 d (List.mem_of_mem_take this)⟩
  have hat:∀ j (hj:j < (ys.flatMap flat).length),VR K (ys.flatMap flat)[j] (c.getD j Go.undef):=fun j hj=>by
   have hj':j < cs.length:=by omega
   have e1:(ys.flatMap flat)[j]=cs[j]:=by
    have:(ys.flatMap flat)[j]? =cs[j]? :=by rw[hf,List.getElem?_take,if_pos (by omega)]
    rw[List.getElem?_eq_getElem hj,List.getElem?_eq_getElem hj']at this
    exact Option.some.inj this
   rw[e1];exact hvv j hj'
  cases hv with
  | bs _ _ _ cap _ hrow hn' hm'=>
   subst hm
   suffices hsrc:Src P n t (.slice (some ⟨b,0,none⟩) ys.length cap) ys.length (cI (fun j=>c.getD j Go.undef) (ys.flatMap flat).length) w from
    ⟨cI (fun j=>c.getD j Go.undef) (ys.flatMap flat).length,hsrc,by simp[cI],hone,fun j hj=>by rw[iE _ _ j hj];exact hat j hj⟩
   refine Src.ofSlice w (cG he) ⟨b,0,none⟩ ys.length cap _ (by simp[cI,hfl]) (fun j u hu=> ?_) (fun u hu=> ?_)
   ·obtain⟨hj,rfl⟩:=List.getElem?_eq_some_iff.1 hu
    have hj':j < (ys.flatMap flat).length:=by simpa [cI] using hj
    rw[Addr.add_lit,Nat.zero_add]
    simp only[cI,List.getElem_map,List.getElem_range]
    rw[cell_of_row w b j c E (0,0) hc]
    have:j < c.size:=by omega
    simp[this]
   ·obtain⟨j,hj,rfl⟩:=List.mem_map.1 hu
    have hj':j < (ys.flatMap flat).length:=by simpa using hj
    refine(hat j hj').oneCell ?_
    obtain⟨a,haa,hca⟩:=List.mem_flatMap.1 (List.getElem_mem hj')
    exact(hone a haa).2 _ hca
def qD(P:Program)(σ:AS)(t tx:TypeId)(s x:AV)(K:AV ->AS ->Prop):Prop:=
 ∃ e n dB ys,fV P t=some (e,n,dB) /\ D6t P σ tx x ys /\ (∀ a,a ∈ ys -> (flat a).length=n) /\
  ((s= .nil /\ ys ≠ [] /\ ys.length*dB <=140737488355328 /\ ∀ b,σ.fresh b ->K (.bs b ys.length n e) (σ.setBox b (ys.flatMap flat))) \/
   ∃ b m cs,s= .bs b m n e /\ σ.box b=some cs /\ m*n <=cs.length /\ (m+ys.length)*dB <=140737488355328 /\ K (.bs b (m+ys.length) n e) (σ.setBox b (cs.take (m*n)++ys.flatMap flat)) /\
    ∀ b',σ.fresh b' ->K (.bs b' (m+ys.length) n e) (σ.setBox b' (cs.take (m*n)++ys.flatMap flat)))
theorem xF{P:Program}{σ:AS}{t tx:TypeId}{s x:AV}{K K':AV ->AS ->Prop}(hk:∀ r s,K r s ->K' r s)(h:qD P σ t tx s x K):qD P σ t tx s x K':=by
 obtain⟨e,n,dB,ys,h1,h2,h3,h4⟩:=h
 refine⟨e,n,dB,ys,h1,h2,h3,?_⟩
 rcases h4 with⟨g1,g2,g3,g4⟩|⟨b,m,cs,g1,g2,g3,g4,g5,g6⟩
 ·exact .inl ⟨g1,g2,g3,fun b hb=>hk _ _ (g4 b hb)⟩
 ·exact .inr ⟨b,m,cs,g1,g2,g3,g4,hk _ _ g5,fun b hb=>hk _ _ (g6 b hb)⟩
theorem uX {P:Program} {G:Nat ->AV} {K:aT} {σ:AS} {w:World} (hr:bM G K σ w) {t tx ty:TypeId} {s x:AV} {Kc:AV ->AS ->Prop} (h:qD P σ t tx s x Kc)
  {v u:Value} (hv:VR K s v) (hu:VR K x u):
  ∃ z w' K' r σ',(Builtin.append_ #[t,tx] ty #[v,u]).run P w= .ok z w' /\ K.le K' /\ bM G K' σ' w' /\ VR K' r z /\ Kc r σ':=by
 obtain⟨e,n,dB,ys,hel,hsrc,hys,h⟩:=h
 obtain⟨ht,i,z,hi,hz,hsz,hby,hzs,hn0,hb0,_⟩:=hN (K:=K) hel
 obtain⟨news,hS,hnl,hyv,hnv⟩:=A9j hr hsrc hys hu
 subst hsz
 have hyl:=bD (sz:=i.size) ys hys
 rcases h with⟨rfl,hne,hbytes,hK⟩|⟨b,m,cs0,rfl,hb0',hcl0,hbytes,hK1,hK2⟩
 ·rw[VR.nil_iff]at hv;subst hv
  obtain⟨z',w',K',h2,h3,h4,h5⟩:=kM (cs:=[]) (nas:=ys.flatMap flat) (xl:=0) (yl:=ys.length) (P:=P) (ty:=ty) hr ht hi hz rfl hby hzs hn0 hb0 (by simp) hyl (fun a ha=>by cases ha) (iB hyv) none 0 [] rfl (fun j hj=>by cases hj)
   (by simp[Builtin.firstCells]) u news hS hnl hnv (by have:=List.length_pos_iff.2 hne;omega) (by simpa using hbytes)
  refine⟨z',w',K',_,_,h2,h3,h4,h5,?_⟩
  have:=hK w.heap.size (hr.fresh (Nat.le_refl _))
  simpa using this
 ·obtain⟨g1,g2,g3,g4,g5,c,F,hc,hs,hvv⟩:=hr.box b cs0 hb0'
  obtain⟨cs,hcs⟩:∃ cs,cs=cs0.take (m*i.size):=⟨_,rfl⟩
  have hcl:cs.length=m*i.size:=by rw[hcs,List.length_take];omega
  have g5':∀ a,a ∈ cs ->one a=true:=fun a ha=>g5 a (by rw[hcs]at ha;exact List.mem_of_mem_take ha)
  have hvv':∀ j (hj:j < cs.length),VR K cs[j] (c.getD j Go.undef):=fun j hj=>by
   have e1:cs[j]=cs0[j]'(by omega):=by
    have:cs[j]? =cs0[j]? :=by rw[hcs,List.getElem?_take,if_pos (by omega)]
    rw[List.getElem?_eq_getElem hj,List.getElem?_eq_getElem (by omega)]at this
    exact Option.some.inj this
   rw[e1];exact hvv j (by omega)
  rw[<- hcs]at hK1 hK2
  cases hv with
  | bs _ _ _ cap _ hrow hn hm=>
   obtain⟨cur,fz,hcur,hcsz,hml,_⟩:=hr.row b cap i.size e hrow
   rw[hc]at hcur
   simp only[Option.some.injEq,Obj.cells.injEq]at hcur
   obtain⟨rfl,hFe,_⟩:=hcur
   rw[hFe]at hc
   by_cases hroom:m+ys.length <=cap
   ·have hle2:(m+ys.length)*i.size <=cap*i.size:=Nat.mul_le_mul_right _ hroom
    have hadd:(m+ys.length)*i.size=m*i.size+ys.length*i.size:=Nat.add_mul _ _ _
    have hrun:=run_append_room_src (P:=P) w t tx ty e i ht hi b 0 m cap u ys.length news hS hroom
     (fun j hj=>by
       rw[cell_of_row w b _ c e (0,0) hc]
       have:m*i.size+j < c.size:=by omega
       simp[this])
     (fun j hj=>by simp[World.frozen?,hc])
    rw[Nat.zero_add]at hrun
    have hsh:=hr.shrink hb0' (m*i.size)
    rw[<- hcs]at hsh
    have hrel:=hsh.growMut (cs:=cs) (by simp[AS.setBox]) hrow hcl news (ys.flatMap flat) ys.length (by rw[hnl,hyl]) hnl.symm hroom (iB hyv) hnv
    have e1:(σ.setBox b cs).setBox b (cs++ys.flatMap flat)=σ.setBox b (cs++ys.flatMap flat):=by
     unfold AS.setBox
     congr 1
     funext j
     show(if j=b then some (cs++ys.flatMap flat)else if j=b then some cs else σ.box j)=(if j=b then some (cs++ys.flatMap flat)else σ.box j)
     split <;>rfl
    rw[e1]at hrel
    exact⟨_,_,K,_,_,hrun,aT.le.refl K,hrel, .bs b _ i.size cap e hrow hroom hm,hK1⟩
   ·obtain⟨z',w',K',h2,h3,h4,h5⟩:=kM (cs:=cs) (nas:=ys.flatMap flat) (xl:=m) (yl:=ys.length) (P:=P) (ty:=ty) hr ht hi hz rfl hby hzs hn0 hb0 hcl hyl g5' (iB hyv) (some ⟨b,0,none⟩) cap (cI (fun j=>c.getD j Go.undef) cs.length) (by simp[cI])
     (fun j hj=>by rw[iE _ _ j hj];exact hvv' j hj)
     (by
       refine run_firstCells_some w.drew i.size m ⟨b,0,none⟩ m cap _ (by simp[cI,hcl]) (fun j y hy=> ?_)
       obtain⟨hj,rfl⟩:=List.getElem?_eq_some_iff.1 hy
       have hj':j < cs.length:=by simpa [cI] using hj
       rw[Addr.add_lit]
       simp only[cI,List.getElem_map,List.getElem_range]
       have:w.drew.cell? ⟨b,0+j,none⟩=w.cell? ⟨b,j,none⟩:=by rw[Nat.zero_add];rfl
       rw[this,cell_of_row w b j c e (0,0) hc]
       have:j < c.size:=by omega
       simp[this]) u news hS hnl hnv (by omega) hbytes
    exact⟨z',w',K',_,_,h2,h3,h4,h5,hK2 w.heap.size (hr.fresh (Nat.le_refl w.heap.size))⟩
def nS(P:Program)(σ:AS)(t tx:TypeId)(s x:AV)(K:AV ->AS ->Prop):Prop:=lH P σ t tx s x K \/ qF P σ t tx s x K \/ qD P σ t tx s x K
theorem uZ {P:Program} {G:Nat ->AV} {K:aT} {σ:AS} {w:World} (hr:bM G K σ w) {t tx ty:TypeId} {s x:AV} {Kc:AV ->AS ->Prop} (h:nS P σ t tx s x Kc)
  {v u:Value} (hv:VR K s v) (hu:VR K x u):
  ∃ z w' K' r σ',(Builtin.append_ #[t,tx] ty #[v,u]).run P w= .ok z w' /\ K.le K' /\ bM G K' σ' w' /\ VR K' r z /\ Kc r σ':=by
 rcases h with h|h|h
 ·exact uY hr h hv hu
 ·exact vA hr h hv hu
 ·exact uX hr h hv hu
theorem xG{P:Program}{σ:AS}{t tx:TypeId}{s x:AV}{K K':AV ->AS ->Prop}(hk:∀ r s,K r s ->K' r s)(h:nS P σ t tx s x K):nS P σ t tx s x K':=by
 rcases h with h|h|h
 ·refine .inl ?_
  unfold lH at h ⊢
  split at h
  ·refine⟨h.1,?_⟩
   have h2:=h.2
   split at h2
   ·exact⟨h2.1,h2.2.1,fun b hb=>hk _ _ (h2.2.2 b hb)⟩
   ·obtain⟨g0,cs,g1,g2,g3,g4⟩:=h2
    exact⟨g0,cs,g1,g2,g3,fun b hb=>hk _ _ (g4 b hb)⟩
   ·exact h2.elim
  ·exact h.elim
 ·refine .inr (.inl ?_)
  unfold qF at h ⊢
  split at h
  ·exact⟨h.1,h.2.1,fun b hb=>hk _ _ (h.2.2 b hb)⟩
  ·exact h.elim
 ·exact .inr (.inr (xF hk h))
def tD(P:Program)(σ:AS)(pt:TypeId)(x n:AV)(K:AV ->AS ->Prop):Prop:=
 match x,n with
 | .nilptr, .int k n=> (k= .i64 /\ n=0) /\ K (.str []) σ
 | .bp b s E, .int k n=>k= .i64 /\ s=1 /\ sk P pt= .ptr E /\ P.cellsOf E=1 /\ ∃ l:List UInt8,σ.box b=some (l.map fun c=> .int .u8 c.toNat) /\ l ≠ [] /\ n=l.length /\ K (.str l) (σ.delBox b)
 |_,_=>False
theorem A7f{P:Program}{σ:AS}{pt:TypeId}{x n:AV}{K K':AV ->AS ->Prop}(hk:∀ r s,K r s ->K' r s)(h:tD P σ pt x n K):tD P σ pt x n K':=by
 unfold tD at h ⊢
 split at h
 ·exact⟨h.1,hk _ _ h.2⟩
 ·obtain⟨g0,g1,g2,g3,l,g4,g5,g6,g7⟩:=h
  exact⟨g0,g1,g2,g3,l,g4,g5,g6,hk _ _ g7⟩
 ·exact h.elim
theorem A3m {P:Program} {G:Nat ->AV} {K:aT} {σ:AS} {w:World} (hr:bM G K σ w) {pt it ty:TypeId} {x n:AV} {Kc:AV ->AS ->Prop} (h:tD P σ pt x n Kc)
  {v u:Value} (hv:VR K x v) (hu:VR K n u):
  ∃ z w' r σ',(Builtin.unsafeString_ #[pt,it] ty #[v,u]).run P w= .ok z w' /\ bM G K σ' w' /\ VR K r z /\ Kc r σ':=by
 unfold tD at h
 split at h
 ·rename_i k n
  obtain⟨⟨rfl,rfl⟩,hK⟩:=h
  rw[VR.nilptr_iff]at hv;subst hv
  rw[VR.int_iff]at hu;subst hu
  exact⟨_,w,_,σ,Lib.run_unsafeString_none w _ _ _ none,hr, .str [],hK⟩
 ·rename_i b s E k n
  obtain⟨rfl,rfl,hp,hc1,l,hb,hl0,rfl,hK⟩:=h
  rw[VR.int_iff]at hu;subst hu
  cases hv with
  | bp _ _ cap _ hrow=>
   obtain⟨g1,g2,g3,g4,g5,c,F,hc,hs,hvv⟩:=hr.box b _ hb
   obtain⟨cur,fz,hcur,hcsz,hml,_⟩:=hr.row b cap 1 E hrow
   rw[hc]at hcur
   simp only[Option.some.injEq,Obj.cells.injEq]at hcur
   obtain⟨rfl,rfl,_⟩:=hcur
   simp only[List.length_map]at hs
   have hrun:=Lib.run_unsafeString_row (P:=P) w pt it ty F (sQ hp) hc1 b c.size (by simp[World.shape?,hc]) l hl0 hs (by unfold maxLen at hml;omega) (fun j y hy=>by
    obtain⟨hj,rfl⟩:=List.getElem?_eq_some_iff.1 hy
    have h1:=hvv j (by simpa using hj)
    simp only[List.getElem_map,VR.int_iff]at h1
    rw[Addr.add_lit,Nat.zero_add,cell_of_row w b j c F (0,0) hc]
    have hjc:j < c.size:=by omega
    simp only[Array.getD_eq_getD_getElem?,Array.getElem?_eq_getElem hjc,Option.getD_some]at h1
    rw[Array.getElem?_eq_getElem hjc,h1])
   refine⟨_,_,_,σ.delBox b,hrun,(hr.delBox b).marked g1 (by simp[AS.delBox]) g2, .str _,hK⟩
 ·exact h.elim
def byteOf:AV ->Option UInt8
 | .int .u8 n=>some (UInt8.ofNat n.toNat)
 |_=>none
def fO:List AV ->Option (List UInt8)
 |[]=>some []
 | a::l=>match byteOf a,fO l with
  |some b,some r=>some (b::r)
  |_,_=>none
def mK(P:Program)(s d:TypeId):Bool:=decide (sk P d= .str) && (el P s).any fun e=>decide (sk P e= .int .u8)
def dP(P:Program)(σ:AS)(s d:TypeId)(x:AV):Option AV:=
 match x with
 | .nil=>if mK P s d=true then some (.str [])else none
 | .sl _ xs _=>if mK P s d=true then(fO xs).map .str else none
 | .bs b n q _=>if mK P s d=true /\ q=1 then(match σ.box b with|some cs=>if cs.length=n then(fO cs).map .str else none|none=>none)else none
 |_=>nT P s d x
theorem mF:∀ (as:List AV) (r:List UInt8),fO as=some r ->∃ ns:List Int,as=ns.map (AV.int .u8) /\ r=ns.map fun n=>UInt8.ofNat n.toNat
 |[],r,h=>by simp only[fO,Option.some.injEq]at h;exact⟨[],rfl,h.symm⟩
 | a::as,r,h=>by
  unfold fO at h
  split at h
  case h_2=>cases h
  rename_i b r' hb hr
  simp only[Option.some.injEq]at h
  subst h
  obtain⟨ns,rfl,rfl⟩:=mF as r' hr
  unfold byteOf at hb
  split at hb
  ·rename_i n
   simp only[Option.some.injEq]at hb
   subst hb
   exact⟨n::ns,rfl,rfl⟩
  ·cases hb
theorem vZ:∀ (ns:List Int) (s:ByteArray),ns.foldl (fun r n=>r.push (UInt8.ofNat n.toNat)) s=⟨⟨s.data.toList++ns.map fun n=>UInt8.ofNat n.toNat⟩⟩
 |[],s=>by simp
 | n::ns,s=>by
  rw[List.foldl_cons,vZ ns]
  simp[ByteArray.push]
theorem rY {P:Program} {w:World} {s d:TypeId} (hb:mK P s d=true) {a:Addr} {n c:Nat} {f:Nat ->Value} {as:List AV} {r:List UInt8} {K:aT} (hl:as.length=n) (hcell:∀ j,j < n ->w.cell? (a.add j)=some (f j))
  (hv:∀ j (h:j < as.length),VR K as[j] (f j)) (hr:fO as=some r):(convert s d (.slice (some a) n c)).run P w= .ok (.string ⟨⟨r⟩⟩) w:=by
 simp only[mK,Bool.and_eq_true,decide_eq_true_eq,Option.any_eq_true]at hb
 obtain⟨h1,e,h2,h3⟩:=hb
 obtain⟨ns,rfl,rfl⟩:=mF as r hr
 rw[run_convert_bytes_string w s d e (some a) n c (cG h2) (oQ h3) (kD h1)]
 have hnl:ns.length=n:=by simpa using hl
 have hlist:(List.range n).map f=ns.map (Value.int .u8):=by
  apply List.ext_getElem
  ·simp[hnl]
  ·intro j hj1 hj2
   have hj:j < ns.length:=by simpa using hj2
   have:=hv j (by simpa using hj)
   simp only[List.getElem_map,VR.int_iff]at this
   simp[this]
 have hload:=run_loadCells (P:=P) w a n f hcell
 rw[hlist]at hload
 rw[run_bytesToString w a n c ns hload,vZ]
 simp[ByteArray.empty,ByteArray.emptyWithCapacity];rfl
theorem A1e(ns:List Int):(ns.map (AV.int .u8)).flatMap flat=ns.map (AV.int .u8):=by
 induction ns with
 |nil=>rfl
 |cons n ns ih=>simp only[List.map_cons,List.flatMap_cons,ih];rfl
theorem zZ{P:Program}{G:Nat ->AV}{K:aT}{σ:AS}{w:World}(hr:bM G K σ w){s d:TypeId}{x r:AV}(h:dP P σ s d x=some r){v:Value}(hv:VR K x v):
  ∃ z w' K',(convert s d v).run P w= .ok z w' /\ K.le K' /\ bM G K' σ w' /\ VR K' r z:=by
 have none_:∀ (hb:mK P s d=true) (l c:Nat),(convert s d (.slice none l c)).run P w= .ok (.string ⟨⟨[]⟩⟩) w:=fun hb l c=>by
  simp only[mK,Bool.and_eq_true,decide_eq_true_eq,Option.any_eq_true]at hb
  obtain⟨h1,e,h2,h3⟩:=hb
  rw[run_convert_bytes_string w s d e none l c (cG h2) (oQ h3) (kD h1)]
  rfl
 unfold dP at h
 split at h
 ·split at h
  case isFalse=>cases h
  rename_i hb
  simp only[Option.some.injEq]at h;subst h
  rw[VR.nil_iff]at hv;subst hv
  exact⟨_,w,K,none_ hb 0 0,aT.le.refl K,hr, .str _⟩
 ·rename_i g xs sp
  split at h
  case isFalse=>cases h
  rename_i hb
  simp only[Option.map_eq_some_iff]at h
  obtain⟨l,h1,rfl⟩:=h
  cases hv with
  | sl0 a=>
   simp only[fO,Option.some.injEq]at h1;subst h1
   cases a with
   |none=>exact⟨_,w,K,none_ hb 0 0,aT.le.refl K,hr, .str _⟩
   |some a=>exact⟨_,w,K,rY (K:=K) (f:=fun _=>Go.undef) (as:=[]) hb rfl (fun j hj=>by omega) (fun j hj=>by cases hj) rfl,aT.le.refl K,hr, .str _⟩
  | sl _ _ _ sz b off cap f hsz hcap hml himm hvv hg=>
   obtain⟨ns,rfl,e⟩:=mF xs l h1
   have hfl:((ns.map (AV.int .u8))++sp).flatMap flat=ns.map (AV.int .u8)++sp.flatMap flat:=by rw[List.flatMap_append,A1e]
   refine⟨_,w,K,rY (K:=K) (f:=f) hb rfl (fun j hj=> ?_) (fun j hj=> ?_) h1,aT.le.refl K,hr, .str _⟩
   ·rw[Addr.add_lit]
    exact hr.imm _ _ _ (himm j (by rw[hfl,List.length_append];omega))
   ·have hj2:j < (((ns.map (AV.int .u8))++sp).flatMap flat).length:=by rw[hfl,List.length_append];omega
    have h2:=hvv j hj2
    have e3:(((ns.map (AV.int .u8))++sp).flatMap flat)[j]=(ns.map (AV.int .u8))[j]:=by
     simp only[hfl];rw[List.getElem_append_left hj]
    rw[e3]at h2;exact h2
 ·rename_i b n q F0
  split at h
  case isFalse=>cases h
  rename_i hb
  split at h
  case h_2=>cases h
  rename_i cs hcs
  split at h
  case isFalse=>cases h
  rename_i hn
  simp only[Option.map_eq_some_iff]at h
  obtain⟨l,h1,rfl⟩:=h
  obtain⟨g1,g2,g3,g4,g5,c,F,hc,hs,hvv⟩:=hr.box b cs hcs
  cases hv with
  | bs _ _ _ cap E hrow hnc hm=>
   refine⟨_,w,K,rY (K:=K) (f:=fun j=>c.getD j Go.undef) hb.1 hn (fun j hj=> ?_) hvv h1,aT.le.refl K,hr, .str _⟩
   rw[Addr.add_lit,Nat.zero_add,cell_of_row w b j c F (0,0) hc]
   have:j < c.size:=by omega
   simp[this]
 ·exact zY hr h hv
end Go.Av
namespace Go.Av
open Go Go.RowKit
section
variable {P:Program} {G:Nat ->AV} {K:aT} {σ:AS} {w:World}
theorem OR.noCell{a:AO}{x:Obj}(k:OR K a x){b o:Nat}(hx:w.heap[b]? =some x):w.cell? ⟨b,o,none⟩=none:=by
 cases k <;>simp[World.cell?,hx]
theorem bM.addOb(h:bM G K σ w){a:AO}{x:Obj}(ho:OR K a x):bM G K (σ.setTy w.heap.size (.ob a,0)) (w.alloc x):=by
 have h':=h.alloc x
 refine⟨h'.imm,h'.row,h'.box,h'.tip,fun i E n hi=> ?_,h'.glob,h'.below,h'.bs⟩
 have hi':(if i=w.heap.size then some ((rQ.ob a),0)else σ.ty i)=some (E,n):=hi
 split at hi'
 ·rename_i e
  subst e
  cases hi'
  exact⟨h.bs,x,heap_alloc_new w x,ho⟩
 ·exact h'.ty i E n hi'
theorem bM.setOb(h:bM G K σ w){b n:Nat}{a a':AO}{x':Obj}(hb:σ.ty b=some (.ob a,n))(ho:OR K a' x'):bM G K (σ.setTy b (.ob a',n)) {w with heap:=w.heap.setIfInBounds b x'} :=by
 obtain⟨hbb,x,hx,hax⟩:=h.ty b _ _ hb
 have hlt:=(Array.getElem?_eq_some_iff.1 hx).1
 have old:∀ i,i ≠ b -> (w.heap.setIfInBounds b x')[i]? =w.heap[i]? :=fun i hi=>Array.getElem?_setIfInBounds_ne (Ne.symm hi)
 have new:(w.heap.setIfInBounds b x')[b]? =some x':=by simp[hlt]
 have nc:∀ {c E fz},¬ w.heap[b]? =some (.cells c E fz):=fun e=>by rw[hx]at e;cases e;exact hax.cells
 refine⟨fun i o v hv=> ?_,fun i cap s E hr=> ?_,fun i cs hi=> ?_,h.tip,fun i E m hi=> ?_,h.glob,?_,?_⟩
 ·have hne:i ≠ b:=by
   rintro rfl
   have:=h.imm _ _ _ hv
   rw[hax.noCell hx]at this;cases this
  rw[World.cell?_of_block (w:=w) (old i hne)];exact h.imm i o v hv
 ·obtain⟨cur,fz,h1,h2⟩:=h.row i cap s E hr
  have hne:i ≠ b:=by rintro rfl;exact nc h1
  exact⟨cur,fz,by rw[old i hne];exact h1,h2⟩
 ·obtain⟨h1,h2,h3,h4,h5,c,E,h6,h7⟩:=h.box i cs hi
  have hne:i ≠ b:=by rintro rfl;exact nc h6
  exact⟨h1,h2,h3,h4,h5,c,E,by rw[old i hne];exact h6,h7⟩
 ·have hi':(if i=b then some (rQ.ob a',n)else σ.ty i)=some (E,m):=hi
  split at hi'
  ·rename_i e
   subst e
   cases hi'
   exact⟨hbb,x',new,ho⟩
  ·rename_i hne
   exact(h.ty i E m hi').old (old i hne)
 ·exact h.below.trans ⟨rfl,rfl,rfl,by simp,fun k hk=>old k (by omega)⟩
 ·have:=h.bs;simp;exact this
end
def vH(P:Program)(σ:AS)(t:TypeId)(x:AV)(Kc:AV ->AS ->Prop):Prop:=
 match x with
 | .str s=>sk P t= .str /\ ∀ b,σ.fresh b ->Kc (.ptr b 0) (σ.setTy b (.ob (.iter s 0),0))
 |_=>False
def xT(s:List UInt8)(p:Nat):Nat × Nat:=Utf8.decode ⟨⟨s⟩⟩ p
def vF(σ:AS)(x:AV)(Kc:AV ->AS ->Prop):Prop:=
 match x with
 | .ptr b 0=> (match σ.ty b with
  |some (.ob (.iter s p),n)=> (p < s.length ->Kc (.tup [.bool true, .int .i64 p, .int .i32 (xT s p).1]) (σ.setTy b (.ob (.iter s (p+(xT s p).2)),n))) /\ (¬ p < s.length ->Kc (.tup [.bool false]) σ)
  |_=>False)
 |_=>False
theorem A0g{P:Program}{G:Nat ->AV}{K:aT}{σ:AS}{w:World}{t:TypeId}{x:AV}{v:Value}{Kc:AV ->AS ->Prop}(hr:bM G K σ w)(h:vH P σ t x Kc)(hv:VR K x v):
  ∃ z w' r σ',(Instr.range t v).run P w= .ok z w' /\ bM G K σ' w' /\ VR K r z /\ Kc r σ':=by
 unfold vH at h
 split at h
 case h_2=>exact h.elim
 rename_i s
 rw[VR.str_iff]at hv;subst hv
 have hu:P.underlying t=some .string:=kD h.1
 refine⟨.pointer (some ⟨w.heap.size,0,none⟩),w.alloc (.stringIter ⟨⟨s⟩⟩ 0), .ptr w.heap.size 0,_,?_,hr.addOb (.iter s 0), .ptr _ _,h.2 _ (hr.fresh (Nat.le_refl _))⟩
 simp[Instr.range,run_underlying hu]
theorem A3i{P:Program}{G:Nat ->AV}{K:aT}{σ:AS}{w:World}{ty:TypeId}{x:AV}{v:Value}{Kc:AV ->AS ->Prop}(hr:bM G K σ w)(h:vF σ x Kc)(hv:VR K x v):
  ∃ z w' r σ',(Instr.next v true ty).run P w= .ok z w' /\ bM G K σ' w' /\ VR K r z /\ Kc r σ':=by
 unfold vF at h
 split at h
 case h_2=>exact h.elim
 rename_i b
 rw[VR.ptr_iff]at hv;subst hv
 split at h
 case h_2=>exact h.elim
 rename_i s p n hty
 obtain⟨h1,h2⟩:=h
 obtain⟨hb,x,hx,hax⟩:=hr.ty b _ _ hty
 cases hax
 have hget:(getObj b).run P w= .ok (.stringIter ⟨⟨s⟩⟩ p) w:=by simp[getObj,Sem.run,hx]
 have hsz:(⟨⟨s⟩⟩:ByteArray).size=s.length:=rfl
 by_cases hp:p < s.length
 ·have hset:(setObj b (.stringIter ⟨⟨s⟩⟩ (p+(xT s p).2))).run P w= .ok () {w with heap:=w.heap.setIfInBounds b (.stringIter ⟨⟨s⟩⟩ (p+(xT s p).2))} :=by
   simp[setObj,Sem.run,hx]
  refine⟨.tuple #[.bool true,goInt p, .int .i32 (xT s p).1],_,_,_,?_,hr.setOb hty (.iter s (p+(xT s p).2)),?_,h1 hp⟩
  ·have hd:Utf8.decode ⟨⟨s⟩⟩ p=((xT s p).1,(xT s p).2):=rfl
   simp only[Instr.next,Sem.run_bind,hget,Result.andThen_ok,hsz,hp,if_true,hd,hset,Sem.run_pure]
  ·refine .tup _ _ rfl (fun j hj=> ?_)
   match j,hj with
   |0,_=>exact .bool true
   |1,_=>exact .int .i64 p
   |2,_=>exact .int .i32 _
 ·refine⟨.tuple #[.bool false],w,_,_,?_,hr,?_,h2 hp⟩
  ·simp only[Instr.next,Sem.run_bind,hget,Result.andThen_ok,hsz,hp,if_false,Sem.run_pure]
  ·refine .tup _ _ rfl (fun j hj=> ?_)
   match j,hj with
   |0,_=>exact .bool false
def C1w:AV ->AV ->Option Bool
 | .int k a, .int k' b=>if k=k' then some (a==b)else none
 | .str a, .str b=>some (a==b)
 |_,_=>none
def oI(k:AV):List (AV × AV) ->Nat ->Option (Option (Nat × AV))
 |[],_=>some none
 | e::es,i=>match C1w k e.1 with
  |some true=>some (some (i,e.2))
  |some false=>oI k es (i+1)
  |none=>none
def plainKey(P:Program)(t:TypeId)(k:AV):Bool:=
 match sk P t,k with
 | .str, .str _=>true
 | .int _, .int _ _=>true
 |_,_=>false
def uM(k:AV)(d:TypeDesc):Prop:=(∃ s,k= .str s /\ d= .string) \/ ∃ q m q',k= .int q m /\ d= .int q'
theorem pN{P:Program}{t:TypeId}{k:AV}(h:plainKey P t k=true):∃ d,P.underlying t=some d /\ uM k d:=by
 unfold plainKey at h
 split at h
 ·rename_i s hs;exact⟨_,kD hs, .inl ⟨s,rfl,rfl⟩⟩
 ·rename_i q q' m hs;exact⟨_,oQ hs, .inr ⟨_,_,_,rfl,rfl⟩⟩
 ·cases h
theorem B2e(a b:List UInt8):((ByteArray.mk (Array.mk a))==(ByteArray.mk (Array.mk b)))=(a==b):=by
 show((Array.mk a)==(Array.mk b))=(a==b)
 simp
theorem tS{K:aT}{k x:AV}{b:Bool}{d:TypeDesc}{v u:Value}(h:C1w k x=some b)(hd:uM k d)(hv:VR K k v)(hu:VR K x u):Instr.sameNow d v u=some b:=by
 unfold C1w at h
 split at h
 ·rename_i q a q' b'
  rw[VR.int_iff]at hv hu
  subst hv hu
  rcases hd with⟨s,h1,_⟩|⟨_,_,q2,h1,rfl⟩
  ·cases h1
  ·exact h
 ·rename_i a b'
  rw[VR.str_iff]at hv hu
  subst hv hu
  rcases hd with⟨s,_,rfl⟩|⟨_,_,q2,h1,_⟩
  ·simp only[Instr.sameNow,B2e];exact h
  ·cases h1
 ·cases h
theorem oJ{K:aT}{k:AV}{d:TypeDesc}{v:Value}(hd:uM k d)(hv:VR K k v):∀ (l:List (AV × AV)) (es:List MapEntry) (i:Nat) (r:Option (Nat × AV)),VRm K l es ->oI k l i=some r ->
  ∃ r',Instr.findNow d v es i=some r' /\ ((r=none /\ r'=none) \/ ∃ j x y,r=some (j,x) /\ r'=some (j,y) /\ VR K x y)
 | [],[],i,r,_,h=>by
  simp only[oI,Option.some.injEq]at h;subst h
  exact⟨none,rfl, .inl ⟨rfl,rfl⟩⟩
 | x::l,e::es,i,r,⟨h1,h2,h3⟩,h=>by
  simp only[oI]at h
  split at h
  ·rename_i hs
   simp only[Option.some.injEq]at h;subst h
   exact⟨some (i,e.val),by simp[Instr.findNow,tS hs hd hv h1], .inr ⟨i,_,_,rfl,rfl,h2⟩⟩
  ·rename_i hs
   obtain⟨r',g1,g2⟩:=oJ hd hv l es (i+1) r h3 h
   exact⟨r',by simp[Instr.findNow,tS hs hd hv h1,g1],g2⟩
  ·cases h
 |[],_::_,_,_,h,_=>h.elim
 |_::_,[],_,_,h,_=>h.elim
theorem oD{P:Program}{w:World}{b:Bool}{t:TypeId}{d:TypeDesc}{k:AV}{K:aT}{v:Value}(hu:P.underlying t=some d)(hd:uM k d)(hv:VR K k v):(Instr.checkKey b 10000 t v).run P w= .ok () w:=by
 have key:∀ n,(Instr.checkKey b (n+1) t v).run P w= .ok () w:=fun n=>by
  rcases hd with⟨s,rfl,rfl⟩|⟨q,m,q',rfl,rfl⟩
  ·rw[VR.str_iff]at hv;subst hv;simp[Instr.checkKey,run_underlying hu]
  ·rw[VR.int_iff]at hv;subst hv;simp[Instr.checkKey,run_underlying hu]
 exact key 9999
def zv(P:Program)(t:TypeId):Option AV:=((P.info? t).bind (·.zero)).map ofConst
theorem C3j{P:Program}{K:aT}{w:World}{t:TypeId}{a:AV}(h:zv P t=some a):∃ z,(zeroValue t).run P w= .ok z w /\ VR K a z:=by
 unfold zv at h
 cases hi:P.info? t with
 |none=>rw[hi]at h;cases h
 | some i=>
  rw[hi]at h
  cases hz:i.zero with
  |none=>simp[hz]at h
  | some z=>
   simp only[Option.bind_some,hz,Option.map_some,Option.some.injEq]at h;subst h
   exact⟨z,wR hi hz w, .ofConst K z⟩
def C4q(σ:AS)(x:AV):Option (List (AV × AV)):=
 match x with
 | .raw (.map none)=>some []
 | .raw (.map (some b))=>match σ.ty b with
  |some (.ob (.map kv),_)=>some kv
  |_=>none
 |_=>none
def zB(z:AV)(ok:Bool)(r:Option (Nat × AV)):AV:=let v:=match r with|some x=>x.2|none=>z;if ok then .tup [v, .bool r.isSome]else v
def kL(P:Program)(σ:AS)(t:TypeId)(x k:AV)(ok:Bool):Option AV:=
 match sk P t with
 | .map kt et=>if plainKey P kt k=true then
   match zv P et,C4q σ x with
   |some z,some kv=> (oI k kv 0).map (zB z ok)
   |_,_=>none
  else none
 |_=>none
theorem xL{P:Program}{G:Nat ->AV}{K:aT}{σ:AS}{w:World}{t:TypeId}{x k r:AV}{ok:Bool}(hr:bM G K σ w)(h:kL P σ t x k ok=some r){v u:Value}(hv:VR K x v)(hu:VR K k u):
  ∃ z,(Instr.lookup t v u ok).run P w= .ok z w /\ VR K r z:=by
 unfold kL at h
 split at h
 case h_2=>cases h
 rename_i kt et ht
 split at h
 case isFalse=>cases h
 rename_i hk
 obtain⟨d,hd,hkd⟩:=pN hk
 split at h
 case h_2=>cases h
 rename_i z kv hz hkv
 obtain⟨zz,hzr,hzv⟩:=C3j (K:=K) (w:=w) hz
 cases hf:oI k kv 0 with
 |none=>rw[hf]at h;cases h
 | some q=>
  rw[hf]at h
  simp only[Option.map_some,Option.some.injEq]at h;subst h
  have go:∀ es:Array MapEntry,VRm K kv es.toList -> ((∃ c b,v= .map (some b) /\ w.heap[b]? =some (.map es c)) \/ (v= .map none /\ es= #[])) ->∃ y,(Instr.lookup t v u ok).run P w= .ok y w /\ VR K (zB z ok q) y:=by
   intro es hes hcase
   obtain⟨q',hq1,hq2⟩:=oJ hkd hu kv es.toList 0 q hes hf
   have hck:∀ b,(Instr.checkKey b 10000 kt u).run P w= .ok () w:=fun b=>oD hd hkd hu
   have hfk:(Instr.findKey kt u es.toList).run P w= .ok q' w:=by simp[Instr.findKey,run_underlying hd,hq1]
   have two:∀ a (y:Value) (b:Bool),VR K a y ->VR K (.tup [a, .bool b]) (.tuple #[y, .bool b]):=fun a y b h=> .tup _ _ rfl (fun j hj=>by
    match j,hj with
    |0,_=>exact h
    |1,_=>exact .bool b)
   have hgo:∀ y,(∀ (es2:Array MapEntry),es2=es -> (do let(v,ok') <- (match q' with|some (_,v)=>pure (v,true)|none=>do pure (<- zeroValue et,false));pure (if ok then .tuple #[v, .bool ok']else v):Sem Value).run P w= .ok y w) -> (Instr.lookup t v u ok).run P w= .ok y w:=by
    intro y hy
    have hy:=hy es rfl
    rcases hcase with⟨c,b,rfl,hb⟩|⟨rfl,rfl⟩
    ·have hg:(getObj b).run P w= .ok (.map es c) w:=by simp[getObj,Sem.run,hb]
     simp only[Instr.lookup,Sem.run_bind,run_underlying (A2e ht),Result.andThen_ok,hg,Sem.run_pure,hck,hfk]
     cases q' <;>simpa using hy
    ·simp only[Instr.lookup,Sem.run_bind,run_underlying (A2e ht),Result.andThen_ok,Sem.run_pure,hck,hfk]
     cases q' <;>simpa using hy
   rcases hq2 with⟨rfl,rfl⟩|⟨j,a,y,rfl,rfl,ha⟩
   ·cases ok
    ·exact⟨zz,hgo _ (fun _ _=>by simp[hzr]),hzv⟩
    ·exact⟨_,hgo _ (fun _ _=>by simp[hzr]),two _ _ false hzv⟩
   ·cases ok
    ·exact⟨y,hgo _ (fun _ _=>by simp),ha⟩
    ·exact⟨_,hgo _ (fun _ _=>by simp),two _ _ true ha⟩
  unfold C4q at hkv
  split at hkv
  ·rw[VR.raw_iff]at hv;subst hv
   simp only[Option.some.injEq]at hkv;subst hkv
   exact go #[] trivial (.inr ⟨rfl,rfl⟩)
  ·rename_i b
   rw[VR.raw_iff]at hv;subst hv
   split at hkv
   case h_2=>cases hkv
   rename_i kv' n hty
   simp only[Option.some.injEq]at hkv;subst hkv
   obtain⟨_,xo,hx,hax⟩:=hr.ty b _ _ hty
   cases hax with
   |map _ es c hes=>exact go es hes (.inl ⟨c,b,rfl,hx⟩)
  ·cases hkv
def A3g(σ:AS)(r:Option Operand)(Kc:AV ->AS ->Prop):Prop:=
 r=none /\ ∀ b,σ.fresh b ->Kc (.raw (.map (some b))) (σ.setTy b (.ob (.map []),0))
theorem vE{P:Program}{G:Nat ->AV}{K:aT}{σ:AS}{w:World}{t:TypeId}{Kc:AV ->AS ->Prop}(hr:bM G K σ w)(h:∀ b,σ.fresh b ->Kc (.raw (.map (some b))) (σ.setTy b (.ob (.map []),0))):
  ∃ z w' r σ',(Instr.makeMap t none).run P w= .ok z w' /\ bM G K σ' w' /\ VR K r z /\ Kc r σ':=
 ⟨.map (some w.heap.size),w.alloc (.map #[] 0),_,_,rfl,hr.addOb (.map [] #[] 0 trivial), .raw _,h _ (hr.fresh (Nat.le_refl _))⟩
def B0h(k:AV)(kv:List (AV × AV)):Bool:=match oI k kv 0 with|some none=>true|_=>false
theorem B3r{k:AV}{kv:List (AV × AV)} :B0h k kv=true ↔ oI k kv 0=some none:=by
 unfold B0h
 constructor
 ·intro h;split at h
  ·assumption
  ·cases h
 ·intro h;rw[h]
def B1n(P:Program)(σ:AS)(t:TypeId)(m k x:AV):Option AS:=
 match sk P t,m with
 | .map kt _, .raw (.map (some b))=> (match σ.ty b with
  |some (.ob (.map kv),n)=>if plainKey P kt k=true /\ B0h k kv=true then some (σ.setTy b (.ob (.map (kv++[(k,x)])),n))else none
  |_=>none)
 |_,_=>none
theorem VRm.push{K:aT}{k x:AV}{e:MapEntry}(hk:VR K k e.key)(hx:VR K x e.val):∀ {l:List (AV × AV)} {r:List MapEntry},VRm K l r ->VRm K (l++[(k,x)]) (r++[e])
 |[],[],_=> ⟨hk,hx,trivial⟩
 |_::_,_::_,⟨a,b,c⟩=> ⟨a,b,VRm.push hk hx c⟩
 |[],_::_,h=>h.elim
 |_::_,[],h=>h.elim
theorem A7g{P:Program}{G:Nat ->AV}{K:aT}{σ σ':AS}{w:World}{t:TypeId}{m k x:AV}(hr:bM G K σ w)(h:B1n P σ t m k x=some σ'){vm vk vx:Value}(hm:VR K m vm)(hk:VR K k vk)(hx:VR K x vx):
  ∃ w',(Instr.mapUpdate t vm vk vx).run P w= .ok () w' /\ bM G K σ' w':=by
 unfold B1n at h
 split at h
 case h_2=>cases h
 rename_i kt et b ht
 rw[VR.raw_iff]at hm;subst hm
 split at h
 case h_2=>cases h
 rename_i kv n hty
 split at h
 case isFalse=>cases h
 rename_i hc
 simp only[Option.some.injEq]at h;subst h
 obtain⟨d,hd,hkd⟩:=pN hc.1
 obtain⟨_,xo,hxo,hax⟩:=hr.ty b _ _ hty
 cases hax with
 | map _ es c hes=>
  obtain⟨q',hq1,hq2⟩:=oJ hkd hk kv es.toList 0 none hes (B3r.1 hc.2)
  rcases hq2 with⟨_,rfl⟩|⟨_,_,_,h1,_⟩
  case inr=>cases h1
  have hck:∀ b,(Instr.checkKey b 10000 kt vk).run P w= .ok () w:=fun b=>oD hd hkd hk
  have hfk:(Instr.findKey kt vk es.toList).run P w= .ok none w:=by simp[Instr.findKey,run_underlying hd,hq1]
  have hg:(getObj b).run P w= .ok (.map es c) w:=by simp[getObj,Sem.run,hxo]
  have hset:(setObj b (.map (es.push {key:=vk,val:=vx,born:=c}) (c+1))).run P w= .ok () {w with heap:=w.heap.setIfInBounds b (.map (es.push {key:=vk,val:=vx,born:=c}) (c+1))} :=by
   simp[setObj,Sem.run,hxo]
  refine⟨_,?_,hr.setOb (n:=n) hty (.map (kv++[(k,x)]) (es.push {key:=vk,val:=vx,born:=c}) (c+1) ?_)⟩
  ·simp only[Instr.mapUpdate,Sem.run_bind,run_underlying (A2e ht),Result.andThen_ok,hg,hck,hfk,hset]
  ·simp only[Array.toList_push]
   exact hes.push hk hx
theorem A7t{s:List UInt8}{p:Nat}{c:UInt8}(h:s[p]? =some c)(hc:c.toNat < 128):xT s p=(c.toNat,1):=by
 obtain⟨hp,he⟩:=List.getElem?_eq_some_iff.1 h
 have hg:(ByteArray.mk (Array.mk s)).get! p=c:=by
  unfold ByteArray.get!
  simp[Array.getElem!_eq_getD,h]
 unfold xT Utf8.decode
 simp only[Nat.add_zero,hg]
 rw[if_pos hc]
end Go.Av
namespace Go.Av
open Go Go.RowKit
def oC(P:Program)(k:FuncId):Bool:=
 match P.funcs[k]? with
 |some fn=> !(fn.name== "runtime.NumGoroutine") && fn.body.isSome
 |none=>false
def aJ(P:Program)(G:Nat ->AV)(f:FuncId)(args:List AV)(σ:AS)(Q:AV ->AS ->Prop):Prop:=
 oC P f=true /\ ∀ (K:aT) (w:World) (vals:List Value),bM G K σ w ->lE K args vals ->
  Calls P f vals.toArray w fun e w'=>∃ v r σ' K',e= .returned v /\ Q r σ' /\ VR K' r v /\ bM G K' σ' w' /\ K.le K'
theorem aJ.mono{P:Program}{G:Nat ->AV}{f:FuncId}{args:List AV}{σ:AS}{Q Q':AV ->AS ->Prop}(h:aJ P G f args σ Q)(hq:∀ r σ',Q r σ' ->Q' r σ'):aJ P G f args σ Q':=
 ⟨h.1,fun K w vals hr hv=> (h.2 K w vals hr hv).mono fun e w' ⟨v,r,σ',K',he,hQ,h1⟩=> ⟨v,r,σ',K',he,hq _ _ hQ,h1⟩⟩
def iJ(G:Nat ->AV)(e:aM)(ps:List (Nat × Operand)):List (Nat × AV):=ps.map fun p=> (p.1,ev G e p.2)
def nU(P:Program)(σ:AS)(t ts:TypeId)(x s:AV)(Kc:AV ->AS ->Prop):Prop:=
 match x,s,fV P t with
 | .raw (.slice (some ⟨b,o,none⟩) n _), .str s,some (_,1,_)=> (match σ.box b with
  |some cs=>sk P ts= .str /\ s.length <=n /\ o+s.length <=cs.length /\ Kc (.int .i64 s.length) (σ.setBox b (cs.take o++s.map (fun c=> .int .u8 c.toNat)++cs.drop (o+s.length)))
  |none=>False)
 |_,_,_=>False
theorem A0a{P:Program}{G:Nat ->AV}{K:aT}{σ:AS}{w:World}{t ts ty:TypeId}{x s:AV}{v u:Value}{Kc:AV ->AS ->Prop}(hr:bM G K σ w)(h:nU P σ t ts x s Kc)(hv:VR K x v)(hu:VR K s u):
  ∃ z w' r σ',(Builtin.copy_ #[t,ts] ty #[v,u]).run P w= .ok z w' /\ bM G K σ' w' /\ VR K r z /\ Kc r σ':=by
 unfold nU at h
 split at h
 case h_2=>exact h.elim
 rename_i b o n c s e dB hel
 split at h
 case h_2=>exact h.elim
 rename_i cs hb
 obtain⟨hts,hsn,hoc,hK⟩:=h
 rw[VR.raw_iff]at hv;subst hv
 rw[VR.str_iff]at hu;subst hu
 obtain⟨ht,i,z,hi,hz,hsz,_⟩:=hN (K:=K) hel
 obtain⟨g1,g2,g3,g4,g5,cur,E,g6,g7,g8⟩:=hr.box b cs hb
 have hsize:(ByteArray.mk (Array.mk s)).size=s.length:=rfl
 have hrun:(Builtin.copy_ #[t,ts] ty #[.slice (some ⟨b,o,none⟩) n c, .string ⟨⟨s⟩⟩]).run P w= .ok (goInt s.length) (w.setRow b (cur.toList.take o++Lib.byteCells s++cur.toList.drop (o+s.length)).toArray):=
  Lib.run_copy_row_string (P:=P) w t ts ty e b o n c ⟨⟨s⟩⟩ cur E ht (by rw[hi];simp[hsz]) g6 (by rw[hsize];exact hsn) (by rw[hsize];omega)
 have hbc:(Lib.byteCells s).length=s.length:=by simp[Lib.byteCells]
 have hcl:(cur.toList.take o).length=o:=by rw[List.length_take,Array.length_toList];omega
 refine⟨_,_,_,_,hrun,hr.setBox hb g6 _ ?_ ?_ ?_ ?_, .int _ _,hK⟩
 ·simp only[List.size_toArray,List.length_append,hbc,hcl,List.length_drop,Array.length_toList];omega
 ·simp only[List.size_toArray,List.length_append,hbc,hcl,List.length_drop,Array.length_toList,List.length_take,List.length_map];omega
 ·intro a ha
  simp only[List.mem_append,List.mem_map]at ha
  rcases ha with(ha|⟨y,_,rfl⟩)|ha
  ·exact g5 a (List.mem_of_mem_take ha)
  ·rfl
  ·exact g5 a (List.mem_of_mem_drop ha)
 ·intro j hj
  have hcl2:cur.toList.length=cur.size:=Array.length_toList
  have hs2:(Array.mk s).size=s.length:=rfl
  have hl1:(cs.take o).length=o:=by rw[List.length_take];omega
  have hlA:(cs.take o++s.map (fun c=>AV.int .u8 c.toNat)).length=o+s.length:=by rw[List.length_append,hl1,List.length_map]
  have hlB:(cur.toList.take o++Lib.byteCells s).length=o+s.length:=by rw[List.length_append,hcl,hbc]
  have hget:∀ (l:List Value) (k:Nat) (hk:k < l.length),l.toArray.getD k Go.undef=l[k]:=fun l k hk=>by simp[Array.getD,hk]
  have hjl:j < (cur.toList.take o++Lib.byteCells s++cur.toList.drop (o+s.length)).length:=by
   rw[List.length_append,hlA,List.length_drop]at hj
   rw[List.length_append,hlB,List.length_drop];omega
  have hjc:j < cs.length:=by rw[List.length_append,hlA,List.length_drop]at hj;omega
  have hold:=g8 j hjc
  have hcd:cur.getD j Go.undef=cur.toList[j]'(by rw[Array.length_toList];omega):=by simp[Array.getD,show j < cur.size by omega]
  rw[hget _ _ hjl]
  by_cases h1:j < o
  ·rw[List.getElem_append_left (by rw[hlA];omega),List.getElem_append_left (by rw[hl1];omega),List.getElem_append_left (by rw[hlB];omega),List.getElem_append_left (by rw[hcl];omega),List.getElem_take,List.getElem_take,<- hcd]
   exact hold
  ·by_cases h2:j < o+s.length
   ·rw[List.getElem_append_left (by rw[hlA];omega),List.getElem_append_right (by rw[hl1];omega),List.getElem_append_left (by rw[hlB];omega),List.getElem_append_right (by rw[hcl];omega)]
    simp only[hl1,hcl,Lib.byteCells,List.getElem_map]
    exact .int _ _
   ·have e1:(cs.take o++s.map (fun c=>AV.int .u8 c.toNat)++cs.drop (o+s.length))[j]=cs[j]:=by
     rw[List.getElem_append_right (by rw[hlA];omega),List.getElem_drop]
     congr 1
     rw[hlA];omega
    have e2:(cur.toList.take o++Lib.byteCells s++cur.toList.drop (o+s.length))[j]=cur.toList[j]'(by rw[Array.length_toList];omega):=by
     rw[List.getElem_append_right (by rw[hlB];omega),List.getElem_drop]
     congr 1
     rw[hlB];omega
    rw[e1,e2,<- hcd];exact hold
theorem A2z{P:Program}{σ:AS}{t ts:TypeId}{x s:AV}{K K':AV ->AS ->Prop}(hk:∀ r s,K r s ->K' r s)(h:nU P σ t ts x s K):nU P σ t ts x s K':=by
 unfold nU at h ⊢
 split at h
 ·split at h
  ·exact⟨h.1,h.2.1,h.2.2.1,hk _ _ h.2.2.2⟩
  ·exact h.elim
 ·exact h.elim
def A6n(P:Program)(σ:AS)(s d:TypeId)(x:AV)(K:AV ->AS ->Prop):Prop:=
 ∃ b cs E e,x= .bs b cs.length 1 E /\ σ.box b=some cs /\ s=d /\ el P s=some e /\ sk P e= .int .u8 /\ (∀ a,a ∈ cs ->flat a=[a] /\ isv a=true) /\ K (.sl (.own b) cs []) ((σ.delBox b).setTip b (cs.length,1))
theorem qT:∀ {cs:List AV},(∀ a,a ∈ cs ->flat a=[a]) ->cs.flatMap flat=cs
 |[],_=>rfl
 |x::cs,h=>by rw[List.flatMap_cons,h x (by simp),qT fun a ha=>h a (by simp[ha])];rfl
theorem zV{P:Program}{G:Nat ->AV}{K:aT}{σ:AS}{w:World}(hr:bM G K σ w){s d:TypeId}{x:AV}{Kc:AV ->AS ->Prop}(h:A6n P σ s d x Kc){v:Value}(hv:VR K x v):
  ∃ z w' K' r σ',(convert s d v).run P w= .ok z w' /\ K.le K' /\ bM G K' σ' w' /\ VR K' r z /\ Kc r σ':=by
 obtain⟨b,cs,E,e,rfl,hb,rfl,he,hk,hone,hK⟩:=h
 cases hv with
 | bs _ _ _ cap _ hrow hn hm=>
  obtain⟨K',h1,h2,h3,f,h4,h5,h6⟩:=hr.frozen hb hrow (by omega) hn
  obtain⟨g1,g2,g3,g4,g5,c,F,hc,hs,hvv⟩:=hr.box b cs hb
  obtain⟨cur,fz,q1,q2,q3,q4⟩:=hr.row b cap 1 E hrow
  rw[hc]at q1
  simp only[Option.some.injEq,Obj.cells.injEq]at q1
  obtain⟨rfl,rfl,_⟩:=q1
  have hfin:=h2.markedEnd (b:=b) (k:=c.size) (n:=1) (by rw[h1.base];exact g1) (by simp[AS.setTip,AS.delBox]) h3 hc (by omega)
  have hfl:(cs++[]).flatMap flat=cs:=by rw[List.append_nil];exact qT fun a ha=> (hone a ha).1
  refine⟨.slice (some ⟨b,0,none⟩) cs.length cap,w.freeze ⟨b,c.size,none⟩ 1,K', .sl (.own b) cs [],_,?_,h1,hfin,?_,hK⟩
  ·have hsh:w.shape? b=some (F,c.size):=by simp only[World.shape?];rw[hc]
   have hmk:(markStringish ⟨b,0,none⟩).run P w= .ok () (w.freeze ⟨b,c.size,none⟩ 1):=by
    unfold markStringish
    simp only[Sem.run_bind,run_shape,hsh,Result.andThen_ok]
    rfl
   unfold convert
   simp[run_underlying (cG he),run_underlying (oQ hk),hmk]
  ·exact VR.sl (K:=K') (.own b) cs [] 1 b 0 cap f (fun a ha=>by
    rw[List.append_nil]at ha
    exact⟨by rw[(hone a ha).1];rfl,(hone a ha).2,fun q hq=>by rw[(hone a ha).1]at hq;simp at hq;subst hq;exact h6 _ ha⟩) (by simp;exact hn) hm
    (fun j hj=>by rw[hfl]at hj;rw[Nat.zero_add];exact h4 j hj)
    (fun j hj=>by
      have hj':j < cs.length:=by rw[hfl]at hj;exact hj
      have e1:((cs++[]).flatMap flat)[j]=cs[j]:=by congr 1
      rw[e1];exact h5 j hj')
    ⟨rfl,rfl,F,1,h3⟩
def mfn(k:FuncId)(b o:Nat):AV:= .raw (.func (.func k) #[.pointer (some ⟨b,o,none⟩)] #[])
def tB(P:Program)(G:Nat ->AV)(e:aM)(σ:AS)(Kc:AV ->AS ->Prop)(c:Callee)(args:List Operand)(ts:List TypeId):Prop:=
 match c with
 | .value f=> (match ev G e f with
   | .fn k caps=>aJ P G k (args.map (ev G e)++caps) σ Kc
   | .raw v=>∃ k b o,v= .func (.func k) #[.pointer (some ⟨b,o,none⟩)] #[] /\ aJ P G k (.ptr b o::args.map (ev G e)) σ Kc
   |_=>False)
 | .builtin b=>if b= .append then(match args,ts with
   |[s,x],[t,tx]=>lZ P σ t tx (ev G e s) (ev G e x) Kc \/ nS P σ t tx (ev G e s) (ev G e x) Kc
   |_,_=>False)
  else if b= .unsafeString then(match args,ts with
   |[x,n],[pt,it]=>tD P σ pt (ev G e x) (ev G e n) Kc
   |_,_=>False)
  else if b= .copy then(match args,ts with
   |[x,n],[pt,it]=>nU P σ pt it (ev G e x) (ev G e n) Kc
   |_,_=>False)
  else ∃ r,fS P b ts.toArray (args.map (ev G e))=some r /\ Kc r σ
 | .invoke _ _=>False
noncomputable def kN(P:Program)(σ:AS)(t:TypeId)(x:AV)(lo hi:Option AV):Option AV:=
 match x with
 | .bs b n s E=>match el P t,cM lo 0,cM hi n,σ.box b with
  |some e,some l,some h,some cs=>if l=0 /\ 0 < s /\ h*s <=cs.length /\ (tk P e).isSome then some (.bs b h s E)else none
  |_,_,_,_=>none
 | .raw (.slice (some a) n c)=>match(el P t).bind (tk P),cM lo 0,cM hi n with
  |some (_,s),some l,some h=>if l <=h /\ h <=c then some (.raw (.slice (some (if c=l then a else a.add (l*s))) (h - l) (c - l)))else none
  |_,_,_=>none
 |_=>none
noncomputable def gL(P:Program)(σ:AS)(t:TypeId)(x:AV)(lo hi:Option AV):Option AV:=
 match eL P t x lo hi with
 |some r=>some r
 |none=>kN P σ t x lo hi
theorem A0h{P:Program}{σ0 σ:AS}(hl:σ0.le σ){t:TypeId}{x r:AV}{lo hi:Option AV}(h:kN P σ0 t x lo hi=some r):kN P σ t x lo hi=some r:=by
 unfold kN at h ⊢
 split at h
 ·split at h
  ·rename_i e l hh cs he hl0 hhh hcs
   rw[he,hl0,hhh,hl.box _ _ hcs];exact h
  ·cases h
 ·exact h
 ·cases h
theorem A0i{P:Program}{σ0 σ:AS}(hl:σ0.le σ){t:TypeId}{x r:AV}{lo hi:Option AV}(h:gL P σ0 t x lo hi=some r):gL P σ t x lo hi=some r:=by
 unfold gL at h ⊢
 split at h
 ·exact h
 ·exact A0h hl h
theorem xN {P:Program} {G:Nat ->AV} {K:aT} {σ:AS} {w:World} (hr:bM G K σ w) {t:TypeId} {x r:AV} {lo hi:Option AV} (h:gL P σ t x lo hi=some r) {v:Value} (hv:VR K x v)
  {vlo vhi:Option Value} (hvl:∀ a,lo=some a ->∃ v,vlo=some v /\ VR K a v) (hvln:lo=none ->vlo=none) (hvh:∀ a,hi=some a ->∃ v,vhi=some v /\ VR K a v) (hvhn:hi=none ->vhi=none):
  ∃ z,(Instr.sliceAt t v vlo vhi none).run P w= .ok z w /\ VR K r z:=by
 unfold gL at h
 split at h
 ·rename_i y hy
  cases h
  exact A0j hy hv hvl hvln hvh hvhn
 ·unfold kN at h
  cases x with
  | bs b n s E0=>
   simp only at h
   split at h
   ·rename_i e l hh cs he hl hhh hcs
    split at h
    ·rename_i hc
     simp only[Option.some.injEq]at h;subst h
     obtain⟨rfl,hs0,hc2,hc3⟩:=hc
     obtain⟨x,hx⟩:=Option.isSome_iff_exists.1 hc3
     obtain⟨_,hsz,_⟩:=iV (b:=x.1) (n:=x.2) hx w
     cases hv with
     | bs _ _ _ cap E hrow hnn hm=>
      obtain⟨_,_,_,_,_,c,F,g1,g2,_⟩:=hr.box b cs hcs
      obtain⟨cur,fz,q1,q2,_,_⟩:=hr.row b cap s _ hrow
      rw[g1]at q1
      simp only[Option.some.injEq,Obj.cells.injEq]at q1
      obtain⟨rfl,_,_⟩:=q1
      have hcap:hh <=cap:=by
       have h1:hh*s <=cap*s:=by omega
       exact Nat.le_of_mul_le_mul_right h1 hs0
      have hb:=dJ (P:=P) (w:=w) (len:=n) (cap:=cap) hl hhh (Nat.zero_le _) hcap hvl hvln hvh hvhn true
      refine⟨.slice (some ⟨b,0,none⟩) hh cap,?_, .bs b hh s cap _ hrow hcap hm⟩
      unfold Instr.sliceAt Instr.slice
      simp[run_underlying (cG he),hb,hsz,Addr.add_lit]
    ·cases h
   ·cases h
  | raw u=>
   rw[VR.raw_iff]at hv;subst hv
   cases v with
   | slice oa n c=>
    cases oa with
    |none=>simp only at h;cases h
    | some a=>
     simp only at h
     split at h
     ·rename_i ag s l hh hes hl hhh
      split at h
      ·rename_i hc
       simp only[Option.some.injEq]at h;subst h
       obtain⟨e,he,hes⟩:=Option.bind_eq_some_iff.1 hes
       obtain⟨_,hsz,_⟩:=iV hes w
       have hb:=dJ (P:=P) (w:=w) (len:=n) (cap:=c) hl hhh hc.1 hc.2 hvl hvln hvh hvhn true
       refine⟨_,?_, .raw _⟩
       unfold Instr.sliceAt Instr.slice
       simp only[Sem.run_bind,run_underlying (cG he),Result.andThen_ok,hb,hsz,Sem.run_pure]
       congr 2
       split <;>rfl
      ·cases h
     ·cases h
   |_=>simp only at h;cases h
  |_=>simp only at h;cases h
def eK(P:Program)(G:Nat ->AV)(o:Oper)(e:aM)(σ:AS)(Kc:AV ->AS ->Prop):Prop:=
 match o.op with
 | .move x=>Kc (ev G e x) σ
 | .assign x=>Kc (ev G e x) σ
 | .pick c a b=>∃ t,ev G e c= .bool t /\ Kc (if t=true then ev G e a else ev G e b) σ
 | .alloc E=>∃ z,zc P E=some z /\ ((∀ b,σ.fresh b ->Kc (.ptr b 0) (σ.setBox b z)) \/ (∀ b,σ.fresh b ->Kc (.ptr b 0) ((σ.setBox b z).setTy b (E,z.length))))
 | .box E x=>isv (ev G e x)=true /\ ∀ b,σ.fresh b ->Kc (.ptr b 0) (σ.setBox b (flat (ev G e x)))
 | .build t ps=>∃ r,rR P t (iJ G e ps.toList)=some r /\ Kc r σ
 | .buildSlice t n ps=> (∃ r,cX P t n (iJ G e ps.toList)=some r /\ Kc r σ) \/ mA P σ t n (iJ G e ps.toList) Kc
 | .load t x=>∃ r,hO P σ t (ev G e x)=some r /\ Kc r σ
 | .store t p x=>∃ σ',gQ P σ t (ev G e p) (ev G e x)=some σ' /\ Kc .undef σ'
 | .nilCheck x=> (match ev G e x with| .ptr .. =>True| .rp .. =>True| .fn .. =>True|_=>False) /\ Kc (ev G e x) σ
 | .binOp op t x y _=>∃ r,pJ P op t y (ev G e x) (ev G e y)=some r /\ Kc r σ
 | .unOp op _ x=>∃ r,aun op (ev G e x)=some r /\ Kc r σ
 | .convert s d x=> (∃ r,dP P σ s d (ev G e x)=some r /\ Kc r σ) \/ zW P σ s d (ev G e x) Kc \/ A6n P σ s d (ev G e x) Kc
 | .makeFunc fn first caps=> (match fn,first.toList with
   | .func f,[]=>Kc (.fn f (caps.toList.map (ev G e))) σ
   | .func f,[x]=>caps.toList=[] /\ ∃ b o,ev G e x= .ptr b o /\ Kc (mfn f b o) σ
   |_,_=>False)
 | .slice t x lo hi none=>∃ r,gL P σ t (ev G e x) (lo.map (ev G e)) (hi.map (ev G e))=some r /\ Kc r σ
 | .fieldAddr t x i=>∃ r,nV P t (ev G e x) i=some r /\ Kc r σ
 | .field t x i=>∃ r,mD P t (ev G e x) i=some r /\ Kc r σ
 | .indexAddr t x i=>∃ r,eA P t (ev G e x) (ev G e i)=some r /\ Kc r σ
 | .index t x i=>∃ r,nX P t (ev G e x) (ev G e i)=some r /\ Kc r σ
 | .extract x i=>∃ r,lI (ev G e x) i=some r /\ Kc r σ
 | .call c=>tB P G e σ Kc c.callee c.args.toList c.argTypes.toList
 | .makeSlice t l c=>A3f P σ t (ev G e l) (ev G e c) Kc \/ vD P σ t (ev G e l) (ev G e c) Kc \/ rT P σ t (ev G e l) (ev G e c) Kc
 | .range t x=>vH P σ t (ev G e x) Kc
 | .next it true=>vF σ (ev G e it) Kc
 | .makeMap _ r=>A3g σ r Kc
 | .lookup t x k ok=>∃ r,kL P σ t (ev G e x) (ev G e k) ok=some r /\ Kc r σ
 | .mapUpdate t m k x=>∃ σ',B1n P σ t (ev G e m) (ev G e k) (ev G e x)=some σ' /\ Kc .undef σ'
 |_=>False
def fT(P:Program)(G:Nat ->AV)(K:aT)(Kc:AV ->AS ->Prop):Result Next ->Prop
 | .ok (.value v) w'=>∃ r σ' K',Kc r σ' /\ VR K' r v /\ bM G K' σ' w' /\ K.le K'
 | .ok .skip w'=>∃ σ' K',Kc .undef σ' /\ bM G K' σ' w' /\ K.le K'
 | .ok (.enter f args) w'=>Calls P f args w' fun e w''=>∃ v r σ' K',e= .returned v /\ Kc r σ' /\ VR K' r v /\ bM G K' σ' w'' /\ K.le K'
 |_=>False
theorem fT.value {P:Program} {G:Nat ->AV} {K:aT} {Kc:AV ->AS ->Prop} {s:Sem Value} {w:World} {σ:AS} {r:AV} (hr:bM G K σ w) (hK:Kc r σ)
  (h:∃ z,s.run P w= .ok z w /\ VR K r z):fT P G K Kc ((do pure (.value (<- s)):Sem Next).run P w):=by
 obtain⟨z,h1,h2⟩:=h
 simp only[Sem.run_bind,h1,Result.andThen_ok,Sem.run_pure]
 exact⟨r,σ,K,hK,h2,hr,aT.le.refl K⟩
theorem fT.value' {P:Program} {G:Nat ->AV} {K:aT} {Kc:AV ->AS ->Prop} {s:Sem Value} {w w':World} {z:Value} (h1:s.run P w= .ok z w')
  (h:∃ r σ' K',Kc r σ' /\ VR K' r z /\ bM G K' σ' w' /\ K.le K'):fT P G K Kc ((do pure (.value (<- s)):Sem Next).run P w):=by
 simp only[Sem.run_bind,h1,Result.andThen_ok,Sem.run_pure]
 exact h
theorem VRp.map{K:aT}{G:Nat ->AV}{σ:AS}{w:World}{e:aM}{a:Act}(h:ER K e a)(hr:bM G K σ w):∀ (l:List (Nat × Operand)),VRp K (iJ G e l) (l.map fun p=> (p.1,a.eval p.2))
 |[]=>trivial
 |(i,x)::l=> ⟨rfl,h.eval hr x,VRp.map h hr l⟩
theorem iO{P:Program}{G:Nat ->AV}{K:aT}{σ:AS}{w:World}{e:aM}{a:Act}{o:Oper}{Kc:AV ->AS ->Prop}(h:eK P G o e σ Kc)(he:ER K e a)(hr:bM G K σ w):
  fT P G K Kc ((execOp a.eval o).run P w):=by
 unfold eK at h
 unfold execOp
 split at h
 ·rename_i x hop;rw[hop]
  exact⟨_,σ,K,h,he.eval hr x,hr,aT.le.refl K⟩
 ·rename_i x hop;rw[hop]
  exact⟨_,σ,K,h,he.eval hr x,hr,aT.le.refl K⟩
 ·rename_i c x y hop;rw[hop]
  obtain⟨t,ht,hK⟩:=h
  have hc:=he.eval hr c
  rw[ht,VR.bool_iff]at hc
  simp only[hc,asBool,Sem.run_bind,Sem.run_pure,Result.andThen_ok]
  refine⟨_,σ,K,hK,?_,hr,aT.le.refl K⟩
  cases t
  ·exact he.eval hr y
  ·exact he.eval hr x
 ·rename_i E hop;rw[hop]
  obtain⟨z,hz,hK⟩:=h
  obtain⟨h1,h2⟩:=A3e hr hz
  rcases hK with hK|hK
  ·exact fT.value' h1 ⟨_,_,K,hK _ (hr.fresh (Nat.le_refl _)), .ptr _ _,h2,aT.le.refl K⟩
  ·refine fT.value' h1 ⟨_,_,K,hK _ (hr.fresh (Nat.le_refl _)), .ptr _ _,?_,aT.le.refl K⟩
   refine h2.typed (heap_alloc_new w _) ?_
   obtain⟨i,zv,hi,hzv,hcr⟩:=rN (K:=K) hz
   have e:((P.info? E).bind (·.zero)).getD default=zv:=by simp[hi,hzv]
   rw[e];exact hcr.size
 ·rename_i E x hop;rw[hop]
  obtain⟨h1,hK⟩:=h
  obtain⟨h2,h3⟩:=B2c (P:=P) hr E (he.eval hr x) h1
  exact fT.value' h2 ⟨_,_,K,hK _ (hr.fresh (Nat.le_refl _)), .ptr _ _,h3,aT.le.refl K⟩
 ·rename_i t ps hop;rw[hop]
  obtain⟨r,h1,hK⟩:=h
  have:=zU (w:=w) h1 (VRp.map he hr ps.toList)
  have e1:(ps.toList.map fun p=> (p.1,a.eval p.2)).toArray=ps.map fun(x:Nat × Operand)=>match x with|(i,x)=> (i,a.eval x):=by
   apply Array.ext';simp
  rw[e1]at this
  exact fT.value hr hK this
 ·rename_i t n ps hop;rw[hop]
  have e1:(ps.toList.map fun p=> (p.1,a.eval p.2)).toArray=ps.map fun(x:Nat × Operand)=>match x with|(i,x)=> (i,a.eval x):=by
   apply Array.ext';simp
  rcases h with⟨r,h1,hK⟩|h
  ·obtain⟨z,w',K',h2,h3,h4,h5⟩:=qH hr h1 (VRp.map he hr ps.toList)
   rw[e1]at h2
   exact fT.value' h2 ⟨r,σ,K',hK,h5,h4,h3⟩
  ·obtain⟨z,w',K',r,σ',h2,h3,h4,h5,hK⟩:=xI hr h (VRp.map he hr ps.toList)
   rw[e1]at h2
   exact fT.value' h2 ⟨r,σ',K',hK,h5,h4,h3⟩
 ·rename_i t x hop;rw[hop]
  obtain⟨r,h1,hK⟩:=h
  exact fT.value hr hK (tC hr h1 (he.eval hr x))
 ·rename_i t p x hop;rw[hop]
  obtain⟨σ',h1,hK⟩:=h
  obtain⟨w',h2,h3⟩:=A0k hr h1 (he.eval hr p) (he.eval hr x)
  simp only[Sem.run_bind,h2,Result.andThen_ok,Sem.run_pure]
  exact⟨σ',K,hK,h3,aT.le.refl K⟩
 ·rename_i x hop;rw[hop]
  obtain⟨h1,hK⟩:=h
  have hv:=he.eval hr x
  have hx:∀ v,a.eval x=v -> (∃ p,v= .pointer (some p)) \/ (∃ f vs,v= .func (.func f) #[] vs) ->VR K (ev G e x) v ->fT P G K Kc (Result.ok (Next.value v) w):=fun v _ _ hv=> ⟨_,σ,K,hK,hv,hr,aT.le.refl K⟩
  generalize hy:ev G e x=y at h1 hv
  generalize hz:a.eval x=v at hv
  cases y <;>simp only at h1
  case ptr b o=>
   rw[VR.ptr_iff]at hv;subst hv
   simp only[hz]
   exact hx _ hz (.inl ⟨_,rfl⟩) (hy ▸ .ptr b o)
  case rp cs=>
   have hv':=hv
   cases hv with
   | rp _ b off f h2 h3 h4=>
    simp only[hz]
    exact hx _ hz (.inl ⟨_,rfl⟩) (hy ▸ hv')
  case fn f caps=>
   have hv':=hv
   cases hv with
   | fn _ _ vs h2 h3=>
    simp only[hz]
    exact hx _ hz (.inr ⟨_,_,rfl⟩) (hy ▸ hv')
 ·rename_i op t x y yt hop;rw[hop]
  obtain⟨r,h1,hK⟩:=h
  refine fT.value hr hK ?_
  unfold pJ at h1
  split at h1
  ·exact A2r h1 (he.eval hr x) x
  ·exact A2q h1 (he.eval hr x) x
  ·exact A6l h1 (he.eval hr x) (he.eval hr y) x y
 ·rename_i op t x hop;rw[hop]
  obtain⟨r,h1,hK⟩:=h
  exact fT.value hr hK (B1m h1 (he.eval hr x))
 ·rename_i s d x hop;rw[hop]
  rcases h with⟨r,h1,hK⟩|h|h
  ·obtain⟨z,w',K',h2,h3,h4,h5⟩:=zZ hr h1 (he.eval hr x)
   exact fT.value' h2 ⟨r,σ,K',hK,h5,h4,h3⟩
  ·obtain⟨z,w',K',r,σ',h2,h3,h4,h5,hK⟩:=zX hr h (he.eval hr x)
   exact fT.value' h2 ⟨r,σ',K',hK,h5,h4,h3⟩
  ·obtain⟨z,w',K',r,σ',h2,h3,h4,h5,hK⟩:=zV hr h (he.eval hr x)
   exact fT.value' h2 ⟨r,σ',K',hK,h5,h4,h3⟩
 ·rename_i fn first caps hop;rw[hop]
  split at h
  case h_3=>exact h.elim
  case h_2=>
   rename_i f x hfirst
   obtain⟨hc,b,q,hx,hK⟩:=h
   have hf0:first= #[x]:=by apply Array.ext';simpa using hfirst
   have hc0:caps= #[]:=by apply Array.ext';simpa using hc
   subst hf0 hc0
   have hv:=he.eval hr x
   rw[hx]at hv
   generalize hfe:a.eval x=fv at hv
   cases hv with
   | ptr=>
    refine fT.value' (z:= .func (.func f) #[.pointer (some ⟨b,q,none⟩)] #[]) (w':=w) (by simp[Instr.makeFunc,hfe]) ⟨_,σ,K,hK, .raw _,hr,aT.le.refl K⟩
  rename_i f hfirst
  have hl:=lE.map he hr caps.toList
  have hf0:first= #[]:=by apply Array.ext';simpa using hfirst
  subst hf0
  refine fT.value' (z:= .func (.func f) #[] (caps.map a.eval)) (w':=w) (by simp[Instr.makeFunc]) ⟨_,σ,K,h, .fn f _ _ (by simp) (fun j hj=> ?_),hr,aT.le.refl K⟩
  have:=hl.get j hj
  simpa [Array.getD_eq_getD_getElem?,List.getD_eq_getElem?_getD] using this
 ·rename_i t x lo hi hop;rw[hop]
  obtain⟨r,h1,hK⟩:=h
  refine fT.value hr hK (xN hr h1 (he.eval hr x) (vlo:=lo.map a.eval) (vhi:=hi.map a.eval) ?_ ?_ ?_ ?_)
  ·intro b hb;cases lo with
   |none=>cases hb
   |some l=>simp only[Option.map_some,Option.some.injEq]at hb;subst hb;exact⟨_,rfl,he.eval hr l⟩
  ·intro hb;cases lo with|none=>rfl|some l=>cases hb
  ·intro b hb;cases hi with
   |none=>cases hb
   |some l=>simp only[Option.map_some,Option.some.injEq]at hb;subst hb;exact⟨_,rfl,he.eval hr l⟩
  ·intro hb;cases hi with|none=>rfl|some l=>cases hb
 ·rename_i t x i hop;rw[hop]
  obtain⟨r,h1,hK⟩:=h
  exact fT.value hr hK (A0c h1 (he.eval hr x))
 ·rename_i t x i hop;rw[hop]
  obtain⟨r,h1,hK⟩:=h
  exact fT.value hr hK (xJ h1 (he.eval hr x))
 ·rename_i t x i hop;rw[hop]
  obtain⟨r,h1,hK⟩:=h
  exact fT.value hr hK (xK hr.imm h1 (he.eval hr x) (he.eval hr i))
 ·rename_i t x i hop;rw[hop]
  obtain⟨r,h1,hK⟩:=h
  exact fT.value hr hK (A0d h1 (he.eval hr x) (he.eval hr i))
 ·rename_i x i hop;rw[hop]
  obtain⟨r,h1,hK⟩:=h
  exact fT.value hr hK (vB h1 (he.eval hr x))
 ·rename_i c hop;rw[hop]
  obtain⟨callee,args,ts⟩:=c
  change fT P G K Kc (Sem.run P (do let d <- resolve a.eval {callee:=callee,args:=args,argTypes:=ts} o.type;invoke d.target d.args) w)
  cases callee with
  | value f=>
   simp only[tB]at h
   split at h
   case h_3=>exact h.elim
   case h_2=>
    rename_i v hf
    obtain⟨k,b,q,rfl,hT⟩:=h
    have hv:=he.eval hr f
    rw[hf]at hv
    generalize hfe:a.eval f=fv at hv
    cases hv with
    | raw=>
     obtain⟨hc,hT⟩:=hT
     have qV:=hT K w (.pointer (some ⟨b,q,none⟩)::args.toList.map a.eval) hr ⟨.ptr b q,lE.map he hr args.toList⟩
     have e1:(Value.pointer (some ⟨b,q,none⟩)::args.toList.map a.eval).toArray= #[.pointer (some ⟨b,q,none⟩)]++args.map a.eval:=by apply Array.ext';simp
     rw[e1]at qV
     unfold oC at hc
     split at hc
     case h_2=>cases hc
     rename_i fn hfn
     simp only[Bool.and_eq_true,Bool.not_eq_true']at hc
     have hb:fn.body.isNone=false:=by cases hx:fn.body with|none=>rw[hx]at hc;simp at hc|some _=>rfl
     have hrun:((do let d <- resolve a.eval {callee:= .value f,args:=args,argTypes:=ts} o.type;invoke d.target d.args:Sem Next)).run P w= .ok (.enter k (#[.pointer (some ⟨b,q,none⟩)]++args.map a.eval)) w:=by
      have hn1: ¬ (fn.name= "runtime.NumGoroutine"):=by have:=hc.1;simpa using this
      have hn2: ¬ (fn.body=none):=by intro hx;rw[hx]at hb;cases hb
      simp[resolve,hfe,Deferred.ofValue,invoke,callFunc,hfn,hn1,hn2]
     rw[hrun]
     exact qV
   rename_i k caps hf
   have hv:=he.eval hr f
   rw[hf]at hv
   generalize hfe:a.eval f=fv at hv
   cases hv with
   | fn _ _ vs hl hvv=>
    obtain⟨hc,hT⟩:=h
    have hargs:lE K (args.toList.map (ev G e)++caps) (args.toList.map a.eval++vs.toList):=by
     refine lE.append (lE.map he hr args.toList) (lE.of (by simpa using hl.symm) (fun j hj=> ?_))
     have:=hvv j hj
     simpa [Array.getD_eq_getD_getElem?,List.getD_eq_getElem?_getD] using this
    have qV:=hT K w _ hr hargs
    have e1:(args.toList.map a.eval++vs.toList).toArray=args.map a.eval++vs:=by apply Array.ext';simp
    rw[e1]at qV
    unfold oC at hc
    split at hc
    case h_2=>cases hc
    rename_i fn hfn
    simp only[Bool.and_eq_true,Bool.not_eq_true']at hc
    have hb:fn.body.isNone=false:=by cases hx:fn.body with|none=>rw[hx]at hc;simp at hc|some _=>rfl
    have hrun:((do let d <- resolve a.eval {callee:= .value f,args:=args,argTypes:=ts} o.type;invoke d.target d.args:Sem Next)).run P w= .ok (.enter k (args.map a.eval++vs)) w:=by
     have hn1: ¬ (fn.name= "runtime.NumGoroutine"):=by have:=hc.1;simpa using this
     have hn2: ¬ (fn.body=none):=by intro hx;rw[hx]at hb;cases hb
     simp[resolve,hfe,Deferred.ofValue,invoke,callFunc,hfn,hn1,hn2]
    rw[hrun]
    exact qV
  | builtin b=>
   simp only[tB]at h
   by_cases hb:b= .append
   ·rw[if_pos hb]at h
    subst hb
    split at h
    case h_2=>exact h.elim
    rename_i s x t tx hargs hts
    have hboth:∃ z w' K' r σ',(Builtin.append_ #[t,tx] o.type #[a.eval s,a.eval x]).run P w= .ok z w' /\ K.le K' /\ bM G K' σ' w' /\ VR K' r z /\ Kc r σ':=by
     rcases h with h|h
     ·exact xH (ty:=o.type) hr h (he.eval hr s) (he.eval hr x)
     ·exact uZ (ty:=o.type) hr h (he.eval hr s) (he.eval hr x)
    obtain⟨z,w',K',r,σ',h1,h2,h3,h4,h5⟩:=hboth
    have ea:args= #[s,x]:=by apply Array.ext';simpa using hargs
    have et:ts= #[t,tx]:=by apply Array.ext';simpa using hts
    subst ea et
    have hrun:((do let d <- resolve a.eval {callee:= .builtin .append,args:= #[s,x],argTypes:= #[t,tx]} o.type;invoke d.target d.args:Sem Next)).run P w= .ok (.value z) w':=by
     simp[resolve,invoke,builtin,h1]
    rw[hrun]
    exact⟨r,σ',K',h5,h4,h3,h2⟩
   ·rw [if_neg hb]at h
    by_cases hb2:b= .unsafeString
    ·rw[if_pos hb2]at h
     subst hb2
     split at h
     case h_2=>exact h.elim
     rename_i x n pt it hargs hts
     obtain⟨z,w',r,σ',h1,h3,h4,h5⟩:=A3m (it:=it) (ty:=o.type) hr h (he.eval hr x) (he.eval hr n)
     have ea:args= #[x,n]:=by apply Array.ext';simpa using hargs
     have et:ts= #[pt,it]:=by apply Array.ext';simpa using hts
     subst ea et
     have hrun:((do let d <- resolve a.eval {callee:= .builtin .unsafeString,args:= #[x,n],argTypes:= #[pt,it]} o.type;invoke d.target d.args:Sem Next)).run P w= .ok (.value z) w':=by
      simp[resolve,invoke,builtin,h1]
     rw[hrun]
     exact⟨r,σ',K,h5,h4,h3,aT.le.refl K⟩
    rw[if_neg hb2]at h
    by_cases hb3:b= .copy
    ·rw[if_pos hb3]at h
     subst hb3
     split at h
     case h_2=>exact h.elim
     rename_i x n pt it hargs hts
     obtain⟨z,w',r,σ',h1,h3,h4,h5⟩:=A0a (ty:=o.type) hr h (he.eval hr x) (he.eval hr n)
     have ea:args= #[x,n]:=by apply Array.ext';simpa using hargs
     have et:ts= #[pt,it]:=by apply Array.ext';simpa using hts
     subst ea et
     have hrun:((do let d <- resolve a.eval {callee:= .builtin .copy,args:= #[x,n],argTypes:= #[pt,it]} o.type;invoke d.target d.args:Sem Next)).run P w= .ok (.value z) w':=by
      simp[resolve,invoke,builtin,h1]
     rw[hrun]
     exact⟨r,σ',K,h5,h4,h3,aT.le.refl K⟩
    rw[if_neg hb3]at h
    obtain⟨r,h1,hK⟩:=h
    obtain⟨z,h2,h3⟩:=A6m (P:=P) (w:=w) (ty:=o.type) (cn:=args.map fun| .const _=>true|_=>false) h1 (lE.map he hr args.toList)
    have e1:(args.toList.map a.eval).toArray=args.map a.eval:=by apply Array.ext';simp
    have e2:ts.toList.toArray=ts:=by simp
    rw[e1,e2]at h2
    have hrun:((do let d <- resolve a.eval {callee:= .builtin b,args:=args,argTypes:=ts} o.type;invoke d.target d.args:Sem Next)).run P w= .ok (.value z) w:=by
     simp only[resolve,invoke,Sem.run_bind,Sem.run_pure,Result.andThen_ok]
     exact h2
    rw[hrun]
    exact⟨r,σ,K,hK,h3,hr,aT.le.refl K⟩
  |invoke r m=>exact h.elim
 ·rename_i t l c hop;rw[hop]
  have hboth:∃ z w' K' r σ',(Instr.makeSlice t (a.eval l) (a.eval c)).run P w= .ok z w' /\ K.le K' /\ bM G K' σ' w' /\ VR K' r z /\ Kc r σ':=by
   rcases h with h|h|h
   ·exact A3h hr h (he.eval hr l) (he.eval hr c)
   ·exact A0e hr h (he.eval hr l) (he.eval hr c)
   ·exact A0f hr h (he.eval hr l) (he.eval hr c)
  obtain⟨z,w',K',r,σ',h1,h2,h3,h4,h5⟩:=hboth
  exact fT.value' h1 ⟨r,σ',K',h5,h4,h3,h2⟩
 ·rename_i t x hop;rw[hop]
  obtain⟨z,w',r,σ',h1,h2,h3,h4⟩:=A0g (P:=P) hr h (he.eval hr x)
  exact fT.value' h1 ⟨r,σ',K,h4,h3,h2,aT.le.refl K⟩
 ·rename_i it hop;rw[hop]
  obtain⟨z,w',r,σ',h1,h2,h3,h4⟩:=A3i (P:=P) (ty:=o.type) hr h (he.eval hr it)
  exact fT.value' h1 ⟨r,σ',K,h4,h3,h2,aT.le.refl K⟩
 ·rename_i t r hop;rw[hop]
  obtain⟨rfl,h⟩:=h
  obtain⟨z,w',r,σ',h1,h2,h3,h4⟩:=vE (P:=P) (t:=t) hr h
  exact fT.value' h1 ⟨r,σ',K,h4,h3,h2,aT.le.refl K⟩
 ·rename_i t x k ok hop;rw[hop]
  obtain⟨r,h1,hK⟩:=h
  exact fT.value hr hK (xL hr h1 (he.eval hr x) (he.eval hr k))
 ·rename_i t m k x hop;rw[hop]
  obtain⟨σ',h1,hK⟩:=h
  obtain⟨w',h2,h3⟩:=A7g hr h1 (he.eval hr m) (he.eval hr k) (he.eval hr x)
  simp only[Sem.run_bind,h2,Result.andThen_ok,Sem.run_pure]
  exact⟨σ',K,hK,h3,aT.le.refl K⟩
 ·exact h.elim
end Go.Av
