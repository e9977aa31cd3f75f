/- What a call is said to do, on abstract values; one operation; a row of operations. -/
import Derived.Test.YtinfbihcnonaoaaZ02
import Derived.Lib.BufferWrite
import Derived.Orders
import Derived.OrdersIn
import Derived.TacticsIn
import Derived.LoopIn
import Derived.RangeFuncRecord
set_option linter.unusedVariables false
set_option linter.unusedSimpArgs false
namespace Go.Av
open Go Go.RowKit
def iP(P:Program)(k:FuncId):Bool:=
 match P.funcs[k]? with
 |some fn=> !(fn.name== "runtime.NumGoroutine") && fn.body.isSome
 |none=>false
def aH(P:Program)(G:Nat ->AV)(f:FuncId)(args:List AV)(σ:AS)(Q:AV ->AS ->Prop):Prop:=
 iP P f=true /\ ∀ (K:aJ) (w:World) (vals:List Value),aZ G K σ w ->iL K args vals ->
  Calls P f vals.toArray w fun e w'=>∃ v r σ' K',e= .returned v /\ Q r σ' /\ VR K' r v /\ aZ G K' σ' w' /\ K.le K'
theorem aH.mono{P:Program}{G:Nat ->AV}{f:FuncId}{args:List AV}{σ:AS}{Q Q':AV ->AS ->Prop}(h:aH P G f args σ Q)(hq:∀ r σ',Q r σ' ->Q' r σ'):aH P G f args σ Q':=
 ⟨h.1,fun K w vals hr hv=> (h.2 K w vals hr hv).mono fun e w' ⟨v,r,σ',K',he,hQ,h1⟩=> ⟨v,r,σ',K',he,hq _ _ hQ,h1⟩⟩
def gE(G:Nat ->AV)(e:aK)(ps:List (Nat × Operand)):List (Nat × AV):=ps.map fun p=> (p.1,ev G e p.2)
def mY(P:Program)(σ:AS)(t ts:TypeId)(x s:AV)(Kc:AV ->AS ->Prop):Prop:=
 match x,s,eI P t with
 | .raw (.slice (some ⟨b,o,none⟩) n _), .str s,some (_,1,_)=> (match σ.box b with
  |some cs=>sk P ts= .str /\ s.length <=n /\ o+s.length <=cs.length /\ Kc (.int .i64 s.length) (σ.setBox b (cs.take o++s.map (fun c=> .int .u8 c.toNat)++cs.drop (o+s.length)))
  |none=>False)
 |_,_,_=>False
theorem vV{P:Program}{G:Nat ->AV}{K:aJ}{σ:AS}{w:World}{t ts ty:TypeId}{x s:AV}{v u:Value}{Kc:AV ->AS ->Prop}(hr:aZ G K σ w)(h:mY P σ t ts x s Kc)(hv:VR K x v)(hu:VR K s u):
  ∃ z w' r σ',(Builtin.copy_ #[t,ts] ty #[v,u]).run P w= .ok z w' /\ aZ G K σ' w' /\ VR K r z /\ Kc r σ':=by
 unfold mY at h
 split at h
 case h_2=>exact h.elim
 rename_i b o n c s e cM hel
 split at h
 case h_2=>exact h.elim
 rename_i cs hb
 obtain⟨hts,hsn,hoc,hK⟩:=h
 rw[VR.raw_iff]at hv;subst hv
 rw[VR.str_iff]at hu;subst hu
 obtain⟨ht,i,z,hi,hz,hsz,_⟩:=eS (K:=K) hel
 obtain⟨g1,g2,g3,g4,g5,cur,E,g6,g7,g8⟩:=hr.box b cs hb
 have hsize:(ByteArray.mk (Array.mk s)).size=s.length:=rfl
 have hrun:(Builtin.copy_ #[t,ts] ty #[.slice (some ⟨b,o,none⟩) n c, .string ⟨⟨s⟩⟩]).run P w= .ok (goInt s.length) (w.setRow b (cur.toList.take o++Lib.byteCells s++cur.toList.drop (o+s.length)).toArray):=
  Lib.run_copy_row_string (P:=P) w t ts ty e b o n c ⟨⟨s⟩⟩ cur E ht (by rw[hi];simp[hsz]) g6 (by rw[hsize];exact hsn) (by rw[hsize];omega)
 have hbc:(Lib.byteCells s).length=s.length:=by simp[Lib.byteCells]
 have hcl:(cur.toList.take o).length=o:=by rw[List.length_take,Array.length_toList];omega
 refine⟨_,_,_,_,hrun,hr.setBox hb g6 _ ?_ ?_ ?_ ?_, .int _ _,hK⟩
 ·simp only[List.size_toArray,List.length_append,hbc,hcl,List.length_drop,Array.length_toList];omega
 ·simp only[List.size_toArray,List.length_append,hbc,hcl,List.length_drop,Array.length_toList,List.length_take,List.length_map];omega
 ·intro a ha
  simp only[List.mem_append,List.mem_map]at ha
  rcases ha with(ha|⟨y,_,rfl⟩)|ha
  ·exact g5 a (List.mem_of_mem_take ha)
  ·rfl
  ·exact g5 a (List.mem_of_mem_drop ha)
 ·intro j hj
  have hcl2:cur.toList.length=cur.size:=Array.length_toList
  have hs2:(Array.mk s).size=s.length:=rfl
  have hl1:(cs.take o).length=o:=by rw[List.length_take];omega
  have hlA:(cs.take o++s.map (fun c=>AV.int .u8 c.toNat)).length=o+s.length:=by rw[List.length_append,hl1,List.length_map]
  have hlB:(cur.toList.take o++Lib.byteCells s).length=o+s.length:=by rw[List.length_append,hcl,hbc]
  have hget:∀ (l:List Value) (k:Nat) (hk:k < l.length),l.toArray.getD k Go.undef=l[k]:=fun l k hk=>by simp[Array.getD,hk]
  have hjl:j < (cur.toList.take o++Lib.byteCells s++cur.toList.drop (o+s.length)).length:=by
   rw[List.length_append,hlA,List.length_drop]at hj
   rw[List.length_append,hlB,List.length_drop];omega
  have hjc:j < cs.length:=by rw[List.length_append,hlA,List.length_drop]at hj;omega
  have hold:=g8 j hjc
  have hcd:cur.getD j Go.undef=cur.toList[j]'(by rw[Array.length_toList];omega):=by simp[Array.getD,show j < cur.size by omega]
  rw[hget _ _ hjl]
  by_cases h1:j < o
  ·rw[List.getElem_append_left (by rw[hlA];omega),List.getElem_append_left (by rw[hl1];omega),List.getElem_append_left (by rw[hlB];omega),List.getElem_append_left (by rw[hcl];omega),List.getElem_take,List.getElem_take,<- hcd]
   exact hold
  ·by_cases h2:j < o+s.length
   ·rw[List.getElem_append_left (by rw[hlA];omega),List.getElem_append_right (by rw[hl1];omega),List.getElem_append_left (by rw[hlB];omega),List.getElem_append_right (by rw[hcl];omega)]
    simp only[hl1,hcl,Lib.byteCells,List.getElem_map]
    exact .int _ _
   ·have e1:(cs.take o++s.map (fun c=>AV.int .u8 c.toNat)++cs.drop (o+s.length))[j]=cs[j]:=by
     rw[List.getElem_append_right (by rw[hlA];omega),List.getElem_drop]
     congr 1
     rw[hlA];omega
    have e2:(cur.toList.take o++Lib.byteCells s++cur.toList.drop (o+s.length))[j]=cur.toList[j]'(by rw[Array.length_toList];omega):=by
     rw[List.getElem_append_right (by rw[hlB];omega),List.getElem_drop]
     congr 1
     rw[hlB];omega
    rw[e1,e2,<- hcd];exact hold
theorem yM{P:Program}{σ:AS}{t ts:TypeId}{x s:AV}{K K':AV ->AS ->Prop}(hk:∀ r s,K r s ->K' r s)(h:mY P σ t ts x s K):mY P σ t ts x s K':=by
 unfold mY at h ⊢
 split at h
 ·split at h
  ·exact⟨h.1,h.2.1,h.2.2.1,hk _ _ h.2.2.2⟩
  ·exact h.elim
 ·exact h.elim
def A1j(P:Program)(σ:AS)(s d:TypeId)(x:AV)(K:AV ->AS ->Prop):Prop:=
 ∃ b cs E e,x= .bs b cs.length 1 E /\ σ.box b=some cs /\ s=d /\ el P s=some e /\ sk P e= .int .u8 /\ (∀ a,a ∈ cs ->flat a=[a] /\ isv a=true) /\ K (.sl (.own b) cs []) ((σ.delBox b).setTip b (cs.length,1))
theorem oG:∀ {cs:List AV},(∀ a,a ∈ cs ->flat a=[a]) ->cs.flatMap flat=cs
 |[],_=>rfl
 |x::cs,h=>by rw[List.flatMap_cons,h x (by simp),oG fun a ha=>h a (by simp[ha])];rfl
theorem vQ{P:Program}{G:Nat ->AV}{K:aJ}{σ:AS}{w:World}(hr:aZ G K σ w){s d:TypeId}{x:AV}{Kc:AV ->AS ->Prop}(h:A1j P σ s d x Kc){v:Value}(hv:VR K x v):
  ∃ z w' K' r σ',(convert s d v).run P w= .ok z w' /\ K.le K' /\ aZ G K' σ' w' /\ VR K' r z /\ Kc r σ':=by
 obtain⟨b,cs,E,e,rfl,hb,rfl,he,hk,hone,hK⟩:=h
 cases hv with
 | bs _ _ _ cap _ hrow hn hm=>
  obtain⟨K',h1,h2,h3,f,h4,h5,h6⟩:=hr.frozen hb hrow (by omega) hn
  obtain⟨g1,g2,g3,g4,g5,c,F,hc,hs,hvv⟩:=hr.box b cs hb
  obtain⟨cur,fz,q1,q2,q3,q4⟩:=hr.row b cap 1 E hrow
  rw[hc]at q1
  simp only[Option.some.injEq,Obj.cells.injEq]at q1
  obtain⟨rfl,rfl,_⟩:=q1
  have hfin:=h2.markedEnd (b:=b) (k:=c.size) (n:=1) (by rw[h1.base];exact g1) (by simp[AS.setTip,AS.delBox]) h3 hc (by omega)
  have hfl:(cs++[]).flatMap flat=cs:=by rw[List.append_nil];exact oG fun a ha=> (hone a ha).1
  refine⟨.slice (some ⟨b,0,none⟩) cs.length cap,w.freeze ⟨b,c.size,none⟩ 1,K', .sl (.own b) cs [],_,?_,h1,hfin,?_,hK⟩
  ·have hsh:w.shape? b=some (F,c.size):=by simp only[World.shape?];rw[hc]
   have wZ:(markStringish ⟨b,0,none⟩).run P w= .ok () (w.freeze ⟨b,c.size,none⟩ 1):=by
    unfold markStringish
    simp only[Sem.run_bind,run_shape,hsh,Result.andThen_ok]
    rfl
   unfold convert
   simp[run_underlying (bX he),run_underlying (kZ hk),wZ]
  ·exact VR.sl (K:=K') (.own b) cs [] 1 b 0 cap f (fun a ha=>by
    rw[List.append_nil]at ha
    exact⟨by rw[(hone a ha).1];rfl,(hone a ha).2,fun q hq=>by rw[(hone a ha).1]at hq;simp at hq;subst hq;exact h6 _ ha⟩) (by simp;exact hn) hm
    (fun j hj=>by rw[hfl]at hj;rw[Nat.zero_add];exact h4 j hj)
    (fun j hj=>by
      have hj':j < cs.length:=by rw[hfl]at hj;exact hj
      have e1:((cs++[]).flatMap flat)[j]=cs[j]:=by congr 1
      rw[e1];exact h5 j hj')
    ⟨rfl,rfl,F,1,h3⟩
def mfn(k:FuncId)(b o:Nat):AV:= .raw (.func (.func k) #[.pointer (some ⟨b,o,none⟩)] #[])
def pZ(P:Program)(G:Nat ->AV)(e:aK)(σ:AS)(Kc:AV ->AS ->Prop)(c:Callee)(args:List Operand)(ts:List TypeId):Prop:=
 match c with
 | .value f=> (match ev G e f with
   | .fn k caps=>aH P G k (args.map (ev G e)++caps) σ Kc
   | .raw v=>∃ k b o,v= .func (.func k) #[.pointer (some ⟨b,o,none⟩)] #[] /\ aH P G k (.ptr b o::args.map (ev G e)) σ Kc
   |_=>False)
 | .builtin b=>if b= .append then(match args,ts with
   |[s,x],[t,tx]=>gK P σ t tx (ev G e s) (ev G e x) Kc \/ lL P σ t tx (ev G e s) (ev G e x) Kc
   |_,_=>False)
  else if b= .unsafeString then(match args,ts with
   |[x,n],[pt,it]=>qB P σ pt (ev G e x) (ev G e n) Kc
   |_,_=>False)
  else if b= .copy then(match args,ts with
   |[x,n],[pt,it]=>mY P σ pt it (ev G e x) (ev G e n) Kc
   |_,_=>False)
  else ∃ r,eK P b ts.toArray (args.map (ev G e))=some r /\ Kc r σ
 | .invoke _ _=>False
noncomputable def kP(P:Program)(σ:AS)(t:TypeId)(x:AV)(lo hi:Option AV):Option AV:=
 match x with
 | .bs b n s E=>match el P t,cG lo 0,cG hi n,σ.box b with
  |some e,some l,some h,some cs=>if l=0 /\ 0 < s /\ h*s <=cs.length /\ (tk P e).isSome then some (.bs b h s E)else none
  |_,_,_,_=>none
 | .raw (.slice (some a) n c)=>match(el P t).bind (tk P),cG lo 0,cG hi n with
  |some (_,s),some l,some h=>if l <=h /\ h <=c then some (.raw (.slice (some (if c=l then a else a.add (l*s))) (h - l) (c - l)))else none
  |_,_,_=>none
 |_=>none
noncomputable def fS(P:Program)(σ:AS)(t:TypeId)(x:AV)(lo hi:Option AV):Option AV:=
 match eN P t x lo hi with
 |some r=>some r
 |none=>kP P σ t x lo hi
theorem wF{P:Program}{σ0 σ:AS}(hl:σ0.le σ){t:TypeId}{x r:AV}{lo hi:Option AV}(h:kP P σ0 t x lo hi=some r):kP P σ t x lo hi=some r:=by
 unfold kP at h ⊢
 split at h
 ·split at h
  ·rename_i e l hh cs he hl0 hhh hcs
   rw[he,hl0,hhh,hl.box _ _ hcs];exact h
  ·cases h
 ·exact h
 ·cases h
theorem wG{P:Program}{σ0 σ:AS}(hl:σ0.le σ){t:TypeId}{x r:AV}{lo hi:Option AV}(h:fS P σ0 t x lo hi=some r):fS P σ t x lo hi=some r:=by
 unfold fS at h ⊢
 split at h
 ·exact h
 ·exact wF hl h
theorem tW {P:Program} {G:Nat ->AV} {K:aJ} {σ:AS} {w:World} (hr:aZ G K σ w) {t:TypeId} {x r:AV} {lo hi:Option AV} (h:fS P σ t x lo hi=some r) {v:Value} (hv:VR K x v)
  {vlo vhi:Option Value} (hvl:∀ a,lo=some a ->∃ v,vlo=some v /\ VR K a v) (hvln:lo=none ->vlo=none) (hvh:∀ a,hi=some a ->∃ v,vhi=some v /\ VR K a v) (hvhn:hi=none ->vhi=none):
  ∃ z,(Instr.sliceAt t v vlo vhi none).run P w= .ok z w /\ VR K r z:=by
 unfold fS at h
 split at h
 ·rename_i y hy
  cases h
  exact oB hy hv hvl hvln hvh hvhn
 ·unfold kP at h
  cases x with
  | bs b n s E0=>
   simp only at h
   split at h
   ·rename_i e l hh cs he hl hhh hcs
    split at h
    ·rename_i hc
     simp only[Option.some.injEq]at h;subst h
     obtain⟨rfl,hs0,hc2,hc3⟩:=hc
     obtain⟨x,hx⟩:=Option.isSome_iff_exists.1 hc3
     obtain⟨_,hsz,_⟩:=fY (b:=x.1) (n:=x.2) hx w
     cases hv with
     | bs _ _ _ cap E hrow hnn hm=>
      obtain⟨_,_,_,_,_,c,F,g1,g2,_⟩:=hr.box b cs hcs
      obtain⟨cur,fz,q1,q2,_,_⟩:=hr.row b cap s _ hrow
      rw[g1]at q1
      simp only[Option.some.injEq,Obj.cells.injEq]at q1
      obtain⟨rfl,_,_⟩:=q1
      have hcap:hh <=cap:=by
       have h1:hh*s <=cap*s:=by omega
       exact Nat.le_of_mul_le_mul_right h1 hs0
      have hb:=cH (P:=P) (w:=w) (len:=n) (cap:=cap) hl hhh (Nat.zero_le _) hcap hvl hvln hvh hvhn true
      refine⟨.slice (some ⟨b,0,none⟩) hh cap,?_, .bs b hh s cap _ hrow hcap hm⟩
      unfold Instr.sliceAt Instr.slice
      simp[run_underlying (bX he),hb,hsz,Addr.add_lit]
    ·cases h
   ·cases h
  | raw u=>
   rw[VR.raw_iff]at hv;subst hv
   cases v with
   | slice oa n c=>
    cases oa with
    |none=>simp only at h;cases h
    | some a=>
     simp only at h
     split at h
     ·rename_i ag s l hh hes hl hhh
      split at h
      ·rename_i hc
       simp only[Option.some.injEq]at h;subst h
       obtain⟨e,he,hes⟩:=Option.bind_eq_some_iff.1 hes
       obtain⟨_,hsz,_⟩:=fY hes w
       have hb:=cH (P:=P) (w:=w) (len:=n) (cap:=c) hl hhh hc.1 hc.2 hvl hvln hvh hvhn true
       refine⟨_,?_, .raw _⟩
       unfold Instr.sliceAt Instr.slice
       simp only[Sem.run_bind,run_underlying (bX he),Result.andThen_ok,hb,hsz,Sem.run_pure]
       congr 2
       split <;>rfl
      ·cases h
     ·cases h
   |_=>simp only at h;cases h
  |_=>simp only at h;cases h
noncomputable def oA(P:Program)(t:TypeId)(x:AV)(lo hi:Option AV)(mx:AV):Option AV:=
 match x,lo,hi,mx with
 | .sl _ xs _,some (.int _ l),some (.int _ h), .int _ m=> (match(el P t).bind (tk P)with
  |some (_,n)=>if 0 <=l /\ l <=h /\ m=h /\ h <=xs.length /\ ∀ a,a ∈ xs -> (flat a).length=n then some (.sl .none ((xs.take h.toNat).drop l.toNat) [])else none
  |none=>none)
 |_,_,_,_=>none
theorem tX {P:Program} {K:aJ} {w:World} {t:TypeId} {x r mx:AV} {lo hi:Option AV} (h:oA P t x lo hi mx=some r) {v:Value} (hv:VR K x v) {vlo vhi:Option Value} {vm:Value} (hvl:∀ a,lo=some a ->∃ v,vlo=some v /\ VR K a v)
  (hvh:∀ a,hi=some a ->∃ v,vhi=some v /\ VR K a v) (hvm:VR K mx vm):∃ z,(Instr.sliceAt t v vlo vhi (some vm)).run P w= .ok z w /\ VR K r z:=by
 unfold oA at h
 split at h
 case h_2=>cases h
 rename_i g xs sp k1 l k2 hh k3 m
 split at h
 case h_2=>cases h
 rename_i en n hes
 split at h
 case isFalse=>cases h
 rename_i hc
 simp only[Option.some.injEq]at h;subst h
 obtain⟨h0,h1,rfl,h2,h3⟩:=hc
 obtain⟨e,he,hes⟩:=Option.bind_eq_some_iff.1 hes
 obtain⟨_,hsz,_⟩:=fY hes w
 obtain⟨a1,rfl,hva⟩:=hvl _ rfl
 obtain⟨b1,rfl,hvb⟩:=hvh _ rfl
 rw[VR.int_iff]at hva hvb hvm
 subst hva hvb hvm
 have hb:∀ len cap:Nat,xs.length <=cap -> (Instr.sliceBounds true len cap (some (.int k1 l)) (some (.int k2 m)) (some (.int k3 m))).run P w= .ok (l.toNat,m.toNat,m.toNat) w:=fun len cap hcap=>by
  have e1:0 <=m /\ m <=(cap:Int):=by omega
  have e2:m <=max m 0:=by omega
  have e3:l <=max m 0:=by omega
  have e4:0 <=m:=by omega
  simp[Instr.sliceBounds,Instr.sliceBound,asIntOf,e1,e2,e3,e4,h0]
 have run:∀ (a:Option Addr) (cap:Nat),xs.length <=cap -> (Instr.sliceAt t (.slice a xs.length cap) (some (.int k1 l)) (some (.int k2 m)) (some (.int k3 m))).run P w= .ok (.slice (if m.toNat=l.toNat then a else a.map (·.add (l.toNat*n))) (m.toNat - l.toNat) (m.toNat - l.toNat)) w:=fun a cap hcap=>by
  unfold Instr.sliceAt Instr.slice
  simp only[Sem.run_bind,run_underlying (bX he),Result.andThen_ok,hb xs.length cap hcap,hsz,Sem.run_pure]
 by_cases hml:m.toNat=l.toNat
 ·have hnil:(xs.take m.toNat).drop l.toNat=[]:=by rw[hml];exact List.drop_eq_nil_of_le (by simp;omega)
  rw[hnil]
  cases hv with
  | sl0 a=>
   refine⟨_,run a 0 (by simp),?_⟩
   rw[if_pos hml,hml,Nat.sub_self];exact .sl0 _
  | sl _ _ _ sz b off cap f hsz' hcap hmx himm hvv hg=>
   refine⟨_,run _ cap (by omega),?_⟩
   rw[if_pos hml,hml,Nat.sub_self];exact .sl0 _
 ·cases hv with
  |sl0 a=>simp at h2;omega
  | sl _ _ _ sz b off cap f hsz' hcap hmx himm hvv hg=>
   refine⟨_,run _ cap (by omega),?_⟩
   rw[if_neg hml]
   have h4:=(VR.sl (K:=K) g xs sp sz b off cap f hsz' hcap hmx himm hvv hg).spareless
   have hal:=oB (P:=P) (w:=w) (t:=t) (lo:=some (.int k1 l)) (hi:=some (.int k2 m)) (x:= .sl g xs []) (r:=sZ (.sl g xs []) (.sl (gN g l.toNat m.toNat xs.length) (((xs++[]).take m.toNat).drop l.toNat) ((xs++[]).drop m.toNat))) (by
    unfold eN iB
    have q1:cG (some (.int k1 l)) 0=some l.toNat:=by simp[cG,h0]
    have q2:cG (some (.int k2 m)) xs.length=some m.toNat:=by simp[cG];omega
    simp only[he,q1,q2,hes]
    rw[if_pos ⟨by omega,by simp;omega, .inr (by simpa using h3)⟩]
    rfl) h4 (fun a ha=>by cases ha;exact⟨_,rfl, .int _ _⟩) (fun h=>by cases h) (fun a ha=>by cases ha;exact⟨_,rfl, .int _ _⟩) (fun h=>by cases h)
   obtain⟨z,z1,z2⟩:=hal
   have run2:(Instr.sliceAt t (.slice (some ⟨b,off,none⟩) xs.length cap) (some (.int k1 l)) (some (.int k2 m)) none).run P w= .ok (.slice (if cap=l.toNat then(some ⟨b,off,none⟩:Option Addr)else(some ⟨b,off,none⟩:Option Addr).map (·.add (l.toNat*n))) (m.toNat - l.toNat) (cap - l.toNat)) w:=by
    have hb2:=cH (P:=P) (K:=K) (w:=w) (lo:=some (.int k1 l)) (hi:=some (.int k2 m)) (len:=xs.length) (cap:=cap) (l:=l.toNat) (h:=m.toNat) (by simp[cG,h0]) (by simp[cG];omega) (by omega) (by omega) (vlo:=some (.int k1 l)) (vhi:=some (.int k2 m)) (fun a ha=>by cases ha;exact⟨_,rfl, .int _ _⟩) (fun h=>by cases h) (fun a ha=>by cases ha;exact⟨_,rfl, .int _ _⟩) (fun h=>by cases h) true
    unfold Instr.sliceAt Instr.slice
    simp only[Sem.run_bind,run_underlying (bX he),Result.andThen_ok,hb2,hsz,Sem.run_pure]
   rw[run2]at z1
   simp only[Result.ok.injEq]at z1
   rw[if_neg (by omega)]at z1
   obtain⟨z1,_⟩:=z1
   subst z1
   have hys:((xs++[]).take m.toNat).drop l.toNat=(xs.take m.toNat).drop l.toNat:=by rw[List.append_nil]
   have hlen:((xs.take m.toNat).drop l.toNat).length=m.toNat - l.toNat:=by simp;omega
   have z3:∃ g',VR K (.sl g' ((xs.take m.toNat).drop l.toNat) []) (.slice ((some ⟨b,off,none⟩:Option Addr).map (·.add (l.toNat*n))) (m.toNat - l.toNat) (cap - l.toNat)):=by
    rw[hys]at z2
    unfold sZ at z2
    split at z2
    ·rename_i e1 e2;cases e2;exact⟨_,z2⟩
    ·exact⟨_,z2.spareless⟩
   obtain⟨g',z3⟩:=z3
   have key:∀ (ys:List AV) (gv:Value),VR K (.sl g' ys []) gv ->ys ≠ [] ->∀ (A:Option Addr) (c:Nat),gv= .slice A ys.length c ->VR K (.sl .none ys []) (.slice A ys.length ys.length):=by
    intro ys gv hz hne A c hgv
    cases hz with
    |sl0 a=>exact absurd rfl hne
    | sl _ _ _ sz2 b2 off2 cap2 f2 q1 q2 q3 q4 q5 q6=>
     simp only[Value.slice.injEq]at hgv
     obtain⟨e1,e2,e3⟩:=hgv
     rw[<- e1]
     simp at q2
     exact .sl .none _ [] sz2 b2 off2 _ f2 q1 (by simp) (by omega) q4 q5 trivial
   rw[<- hlen]
   refine key _ _ z3 (fun e=> ?_) _ (cap - l.toNat) (by rw[hlen])
   rw[e]at hlen;simp at hlen;omega
def dJ(P:Program)(G:Nat ->AV)(o:Oper)(e:aK)(σ:AS)(Kc:AV ->AS ->Prop):Prop:=
 match o.op with
 | .move x=>Kc (ev G e x) σ
 | .assign x=>Kc (ev G e x) σ
 | .pick c a b=>∃ t,ev G e c= .bool t /\ Kc (if t=true then ev G e a else ev G e b) σ
 | .alloc E=>∃ z,zc P E=some z /\ ((∀ b,σ.fresh b ->Kc (.ptr b 0) (σ.setBox b z)) \/ (∀ b,σ.fresh b ->Kc (.ptr b 0) ((σ.setBox b z).setTy b (E,z.length))))
 | .box E x=>isv (ev G e x)=true /\ ∀ b,σ.fresh b ->Kc (.ptr b 0) (σ.setBox b (flat (ev G e x)))
 | .build t ps=>∃ r,pD P t (gE G e ps.toList)=some r /\ Kc r σ
 | .buildSlice t n ps=> (∃ r,dG P t n (gE G e ps.toList)=some r /\ Kc r σ) \/ nW P σ t n (gE G e ps.toList) Kc
 | .load t x=>∃ r,fR P σ t (ev G e x)=some r /\ Kc r σ
 | .store t p x=>∃ σ',fG P σ t (ev G e p) (ev G e x)=some σ' /\ Kc .undef σ'
 | .nilCheck x=> (match ev G e x with| .ptr .. =>True| .rp .. =>True| .fn .. =>True|_=>False) /\ Kc (ev G e x) σ
 | .binOp op t x y _=>∃ r,mS P op t y (ev G e x) (ev G e y)=some r /\ Kc r σ
 | .unOp op _ x=>∃ r,aun op (ev G e x)=some r /\ Kc r σ
 | .convert s d x=> (∃ r,cX P σ s d (ev G e x)=some r /\ Kc r σ) \/ vR P σ s d (ev G e x) Kc \/ A1j P σ s d (ev G e x) Kc
 | .makeFunc fn first caps=> (match fn,first.toList with
   | .func f,[]=>Kc (.fn f (caps.toList.map (ev G e))) σ
   | .func f,[x]=>caps.toList=[] /\ ∃ b o,ev G e x= .ptr b o /\ Kc (mfn f b o) σ
   |_,_=>False)
 | .slice t x lo hi none=>∃ r,fS P σ t (ev G e x) (lo.map (ev G e)) (hi.map (ev G e))=some r /\ Kc r σ
 | .slice t x lo hi (some m)=>∃ r,oA P t (ev G e x) (lo.map (ev G e)) (hi.map (ev G e)) (ev G e m)=some r /\ Kc r σ
 | .fieldAddr t x i=>∃ r,lO P t (ev G e x) i=some r /\ Kc r σ
 | .field t x i=>∃ r,kM P t (ev G e x) i=some r /\ Kc r σ
 | .indexAddr t x i=>∃ r,cR P t (ev G e x) (ev G e i)=some r /\ Kc r σ
 | .index t x i=>∃ r,lQ P t (ev G e x) (ev G e i)=some r /\ Kc r σ
 | .extract x i=>∃ r,jW (ev G e x) i=some r /\ Kc r σ
 | .call c=>pZ P G e σ Kc c.callee c.args.toList c.argTypes.toList
 | .makeSlice t l c=>yS P σ t (ev G e l) (ev G e c) Kc \/ rQ P σ t (ev G e l) (ev G e c) Kc \/ rS P σ t (ev G e l) (ev G e c) Kc
 | .range t x=>rY P σ t (ev G e x) Kc
 | .next it true=>yV σ (ev G e it) Kc
 | .makeMap _ r=>yT σ r Kc
 | .lookup t x k ok=>∃ r,gL P σ t (ev G e x) (ev G e k) ok=some r /\ Kc r σ
 | .mapUpdate t m k x=>∃ σ',A2e P σ t (ev G e m) (ev G e k) (ev G e x)=some σ' /\ Kc .undef σ'
 |_=>False
def eH(P:Program)(G:Nat ->AV)(K:aJ)(Kc:AV ->AS ->Prop):Result Next ->Prop
 | .ok (.value v) w'=>∃ r σ' K',Kc r σ' /\ VR K' r v /\ aZ G K' σ' w' /\ K.le K'
 | .ok .skip w'=>∃ σ' K',Kc .undef σ' /\ aZ G K' σ' w' /\ K.le K'
 | .ok (.enter f args) w'=>Calls P f args w' fun e w''=>∃ v r σ' K',e= .returned v /\ Kc r σ' /\ VR K' r v /\ aZ G K' σ' w'' /\ K.le K'
 |_=>False
theorem eH.value {P:Program} {G:Nat ->AV} {K:aJ} {Kc:AV ->AS ->Prop} {s:Sem Value} {w:World} {σ:AS} {r:AV} (hr:aZ G K σ w) (hK:Kc r σ)
  (h:∃ z,s.run P w= .ok z w /\ VR K r z):eH P G K Kc ((do pure (.value (<- s)):Sem Next).run P w):=by
 obtain⟨z,h1,h2⟩:=h
 simp only[Sem.run_bind,h1,Result.andThen_ok,Sem.run_pure]
 exact⟨r,σ,K,hK,h2,hr,aJ.le.refl K⟩
theorem eH.value' {P:Program} {G:Nat ->AV} {K:aJ} {Kc:AV ->AS ->Prop} {s:Sem Value} {w w':World} {z:Value} (h1:s.run P w= .ok z w')
  (h:∃ r σ' K',Kc r σ' /\ VR K' r z /\ aZ G K' σ' w' /\ K.le K'):eH P G K Kc ((do pure (.value (<- s)):Sem Next).run P w):=by
 simp only[Sem.run_bind,h1,Result.andThen_ok,Sem.run_pure]
 exact h
theorem VRp.map{K:aJ}{G:Nat ->AV}{σ:AS}{w:World}{e:aK}{a:Act}(h:ER K e a)(hr:aZ G K σ w):∀ (l:List (Nat × Operand)),VRp K (gE G e l) (l.map fun p=> (p.1,a.eval p.2))
 |[]=>trivial
 |(i,x)::l=> ⟨rfl,h.eval hr x,VRp.map h hr l⟩
theorem gI{P:Program}{G:Nat ->AV}{K:aJ}{σ:AS}{w:World}{e:aK}{a:Act}{o:Oper}{Kc:AV ->AS ->Prop}(h:dJ P G o e σ Kc)(he:ER K e a)(hr:aZ G K σ w):
  eH P G K Kc ((execOp a.eval o).run P w):=by
 unfold dJ at h
 unfold execOp
 split at h
 ·rename_i x hop;rw[hop]
  exact⟨_,σ,K,h,he.eval hr x,hr,aJ.le.refl K⟩
 ·rename_i x hop;rw[hop]
  exact⟨_,σ,K,h,he.eval hr x,hr,aJ.le.refl K⟩
 ·rename_i c x y hop;rw[hop]
  obtain⟨t,ht,hK⟩:=h
  have hc:=he.eval hr c
  rw[ht,VR.bool_iff]at hc
  simp only[hc,asBool,Sem.run_bind,Sem.run_pure,Result.andThen_ok]
  refine⟨_,σ,K,hK,?_,hr,aJ.le.refl K⟩
  cases t
  ·exact he.eval hr y
  ·exact he.eval hr x
 ·rename_i E hop;rw[hop]
  obtain⟨z,hz,hK⟩:=h
  obtain⟨h1,h2⟩:=yR hr hz
  rcases hK with hK|hK
  ·exact eH.value' h1 ⟨_,_,K,hK _ (hr.fresh (Nat.le_refl _)), .ptr _ _,h2,aJ.le.refl K⟩
  ·refine eH.value' h1 ⟨_,_,K,hK _ (hr.fresh (Nat.le_refl _)), .ptr _ _,?_,aJ.le.refl K⟩
   refine h2.typed (heap_alloc_new w _) ?_
   obtain⟨i,zv,hi,hzv,hcr⟩:=oV (K:=K) hz
   have e:((P.info? E).bind (·.zero)).getD default=zv:=by simp[hi,hzv]
   rw[e];exact hcr.size
 ·rename_i E x hop;rw[hop]
  obtain⟨h1,hK⟩:=h
  obtain⟨h2,h3⟩:=A6h (P:=P) hr E (he.eval hr x) h1
  exact eH.value' h2 ⟨_,_,K,hK _ (hr.fresh (Nat.le_refl _)), .ptr _ _,h3,aJ.le.refl K⟩
 ·rename_i t ps hop;rw[hop]
  obtain⟨r,h1,hK⟩:=h
  have:=vP (w:=w) h1 (VRp.map he hr ps.toList)
  have e1:(ps.toList.map fun p=> (p.1,a.eval p.2)).toArray=ps.map fun(x:Nat × Operand)=>match x with|(i,x)=> (i,a.eval x):=by
   apply Array.ext';simp
  rw[e1]at this
  exact eH.value hr hK this
 ·rename_i t n ps hop;rw[hop]
  have e1:(ps.toList.map fun p=> (p.1,a.eval p.2)).toArray=ps.map fun(x:Nat × Operand)=>match x with|(i,x)=> (i,a.eval x):=by
   apply Array.ext';simp
  rcases h with⟨r,h1,hK⟩|h
  ·obtain⟨z,w',K',h2,h3,h4,h5⟩:=nX hr h1 (VRp.map he hr ps.toList)
   rw[e1]at h2
   exact eH.value' h2 ⟨r,σ,K',hK,h5,h4,h3⟩
  ·obtain⟨z,w',K',r,σ',h2,h3,h4,h5,hK⟩:=tQ hr h (VRp.map he hr ps.toList)
   rw[e1]at h2
   exact eH.value' h2 ⟨r,σ',K',hK,h5,h4,h3⟩
 ·rename_i t x hop;rw[hop]
  obtain⟨r,h1,hK⟩:=h
  exact eH.value hr hK (qA hr h1 (he.eval hr x))
 ·rename_i t p x hop;rw[hop]
  obtain⟨σ',h1,hK⟩:=h
  obtain⟨w',h2,h3⟩:=wH hr h1 (he.eval hr p) (he.eval hr x)
  simp only[Sem.run_bind,h2,Result.andThen_ok,Sem.run_pure]
  exact⟨σ',K,hK,h3,aJ.le.refl K⟩
 ·rename_i x hop;rw[hop]
  obtain⟨h1,hK⟩:=h
  have hv:=he.eval hr x
  have hx:∀ v,a.eval x=v -> (∃ p,v= .pointer (some p)) \/ (∃ f vs,v= .func (.func f) #[] vs) ->VR K (ev G e x) v ->eH P G K Kc (Result.ok (Next.value v) w):=fun v _ _ hv=> ⟨_,σ,K,hK,hv,hr,aJ.le.refl K⟩
  generalize hy:ev G e x=y at h1 hv
  generalize hz:a.eval x=v at hv
  cases y <;>simp only at h1
  case ptr b o=>
   rw[VR.ptr_iff]at hv;subst hv
   simp only[hz]
   exact hx _ hz (.inl ⟨_,rfl⟩) (hy ▸ .ptr b o)
  case rp cs=>
   have hv':=hv
   cases hv with
   | rp _ b off f h2 h3 h4=>
    simp only[hz]
    exact hx _ hz (.inl ⟨_,rfl⟩) (hy ▸ hv')
  case fn f caps=>
   have hv':=hv
   cases hv with
   | fn _ _ vs h2 h3=>
    simp only[hz]
    exact hx _ hz (.inr ⟨_,_,rfl⟩) (hy ▸ hv')
 ·rename_i op t x y yt hop;rw[hop]
  obtain⟨r,h1,hK⟩:=h
  refine eH.value hr hK ?_
  unfold mS at h1
  split at h1
  ·exact yE h1 (he.eval hr x) x
  ·exact yD h1 (he.eval hr x) x
  ·exact A1h h1 (he.eval hr x) (he.eval hr y) x y
 ·rename_i op t x hop;rw[hop]
  obtain⟨r,h1,hK⟩:=h
  exact eH.value hr hK (A5z h1 (he.eval hr x))
 ·rename_i s d x hop;rw[hop]
  rcases h with⟨r,h1,hK⟩|h|h
  ·obtain⟨z,w',K',h2,h3,h4,h5⟩:=vU hr h1 (he.eval hr x)
   exact eH.value' h2 ⟨r,σ,K',hK,h5,h4,h3⟩
  ·obtain⟨z,w',K',r,σ',h2,h3,h4,h5,hK⟩:=vS hr h (he.eval hr x)
   exact eH.value' h2 ⟨r,σ',K',hK,h5,h4,h3⟩
  ·obtain⟨z,w',K',r,σ',h2,h3,h4,h5,hK⟩:=vQ hr h (he.eval hr x)
   exact eH.value' h2 ⟨r,σ',K',hK,h5,h4,h3⟩
 ·rename_i fn first caps hop;rw[hop]
  split at h
  case h_3=>exact h.elim
  case h_2=>
   rename_i f x hfirst
   obtain⟨hc,b,q,hx,hK⟩:=h
   have hf0:first= #[x]:=by apply Array.ext';simpa using hfirst
   have hc0:caps= #[]:=by apply Array.ext';simpa using hc
   subst hf0 hc0
   have hv:=he.eval hr x
   rw[hx]at hv
   generalize hfe:a.eval x=fv at hv
   cases hv with
   | ptr=>
    refine eH.value' (z:= .func (.func f) #[.pointer (some ⟨b,q,none⟩)] #[]) (w':=w) (by simp[Instr.makeFunc,hfe]) ⟨_,σ,K,hK, .raw _,hr,aJ.le.refl K⟩
  rename_i f hfirst
  have hl:=iL.map he hr caps.toList
  have hf0:first= #[]:=by apply Array.ext';simpa using hfirst
  subst hf0
  refine eH.value' (z:= .func (.func f) #[] (caps.map a.eval)) (w':=w) (by simp[Instr.makeFunc]) ⟨_,σ,K,h, .fn f _ _ (by simp) (fun j hj=> ?_),hr,aJ.le.refl K⟩
  have:=hl.get j hj
  simpa [Array.getD_eq_getD_getElem?,List.getD_eq_getElem?_getD] using this
 ·rename_i t x lo hi hop;rw[hop]
  obtain⟨r,h1,hK⟩:=h
  refine eH.value hr hK (tW hr h1 (he.eval hr x) (vlo:=lo.map a.eval) (vhi:=hi.map a.eval) ?_ ?_ ?_ ?_)
  ·intro b hb;cases lo with
   |none=>cases hb
   |some l=>simp only[Option.map_some,Option.some.injEq]at hb;subst hb;exact⟨_,rfl,he.eval hr l⟩
  ·intro hb;cases lo with|none=>rfl|some l=>cases hb
  ·intro b hb;cases hi with
   |none=>cases hb
   |some l=>simp only[Option.map_some,Option.some.injEq]at hb;subst hb;exact⟨_,rfl,he.eval hr l⟩
  ·intro hb;cases hi with|none=>rfl|some l=>cases hb
 ·rename_i t x lo hi mx hop;rw[hop]
  obtain⟨r,h1,hK⟩:=h
  refine eH.value hr hK (tX h1 (he.eval hr x) (vlo:=lo.map a.eval) (vhi:=hi.map a.eval) ?_ ?_ (he.eval hr mx))
  ·intro b hb;cases lo with
   |none=>cases hb
   |some l=>simp only[Option.map_some,Option.some.injEq]at hb;subst hb;exact⟨_,rfl,he.eval hr l⟩
  ·intro b hb;cases hi with
   |none=>cases hb
   |some l=>simp only[Option.map_some,Option.some.injEq]at hb;subst hb;exact⟨_,rfl,he.eval hr l⟩
 ·rename_i t x i hop;rw[hop]
  obtain⟨r,h1,hK⟩:=h
  exact eH.value hr hK (vX h1 (he.eval hr x))
 ·rename_i t x i hop;rw[hop]
  obtain⟨r,h1,hK⟩:=h
  exact eH.value hr hK (tR h1 (he.eval hr x))
 ·rename_i t x i hop;rw[hop]
  obtain⟨r,h1,hK⟩:=h
  exact eH.value hr hK (tT hr.imm h1 (he.eval hr x) (he.eval hr i))
 ·rename_i t x i hop;rw[hop]
  obtain⟨r,h1,hK⟩:=h
  exact eH.value hr hK (vY h1 (he.eval hr x) (he.eval hr i))
 ·rename_i x i hop;rw[hop]
  obtain⟨r,h1,hK⟩:=h
  exact eH.value hr hK (rO h1 (he.eval hr x))
 ·rename_i c hop;rw[hop]
  obtain⟨callee,args,ts⟩:=c
  change eH P G K Kc (Sem.run P (do let d <- resolve a.eval {callee:=callee,args:=args,argTypes:=ts} o.type;invoke d.target d.args) w)
  cases callee with
  | value f=>
   simp only[pZ]at h
   split at h
   case h_3=>exact h.elim
   case h_2=>
    rename_i v hf
    obtain⟨k,b,q,rfl,hT⟩:=h
    have hv:=he.eval hr f
    rw[hf]at hv
    generalize hfe:a.eval f=fv at hv
    cases hv with
    | raw=>
     obtain⟨hc,hT⟩:=hT
     have iS:=hT K w (.pointer (some ⟨b,q,none⟩)::args.toList.map a.eval) hr ⟨.ptr b q,iL.map he hr args.toList⟩
     have e1:(Value.pointer (some ⟨b,q,none⟩)::args.toList.map a.eval).toArray= #[.pointer (some ⟨b,q,none⟩)]++args.map a.eval:=by apply Array.ext';simp
     rw[e1]at iS
     unfold iP at hc
     split at hc
     case h_2=>cases hc
     rename_i fn hfn
     simp only[Bool.and_eq_true,Bool.not_eq_true']at hc
     have hb:fn.body.isNone=false:=by cases hx:fn.body with|none=>rw[hx]at hc;simp at hc|some _=>rfl
     have hrun:((do let d <- resolve a.eval {callee:= .value f,args:=args,argTypes:=ts} o.type;invoke d.target d.args:Sem Next)).run P w= .ok (.enter k (#[.pointer (some ⟨b,q,none⟩)]++args.map a.eval)) w:=by
      have hn1: ¬ (fn.name= "runtime.NumGoroutine"):=by have:=hc.1;simpa using this
      have hn2: ¬ (fn.body=none):=by intro hx;rw[hx]at hb;cases hb
      simp[resolve,hfe,Deferred.ofValue,invoke,callFunc,hfn,hn1,hn2]
     rw[hrun]
     exact iS
   rename_i k caps hf
   have hv:=he.eval hr f
   rw[hf]at hv
   generalize hfe:a.eval f=fv at hv
   cases hv with
   | fn _ _ vs hl hvv=>
    obtain⟨hc,hT⟩:=h
    have hargs:iL K (args.toList.map (ev G e)++caps) (args.toList.map a.eval++vs.toList):=by
     refine iL.append (iL.map he hr args.toList) (iL.of (by simpa using hl.symm) (fun j hj=> ?_))
     have:=hvv j hj
     simpa [Array.getD_eq_getD_getElem?,List.getD_eq_getElem?_getD] using this
    have iS:=hT K w _ hr hargs
    have e1:(args.toList.map a.eval++vs.toList).toArray=args.map a.eval++vs:=by apply Array.ext';simp
    rw[e1]at iS
    unfold iP at hc
    split at hc
    case h_2=>cases hc
    rename_i fn hfn
    simp only[Bool.and_eq_true,Bool.not_eq_true']at hc
    have hb:fn.body.isNone=false:=by cases hx:fn.body with|none=>rw[hx]at hc;simp at hc|some _=>rfl
    have hrun:((do let d <- resolve a.eval {callee:= .value f,args:=args,argTypes:=ts} o.type;invoke d.target d.args:Sem Next)).run P w= .ok (.enter k (args.map a.eval++vs)) w:=by
     have hn1: ¬ (fn.name= "runtime.NumGoroutine"):=by have:=hc.1;simpa using this
     have hn2: ¬ (fn.body=none):=by intro hx;rw[hx]at hb;cases hb
     simp[resolve,hfe,Deferred.ofValue,invoke,callFunc,hfn,hn1,hn2]
    rw[hrun]
    exact iS
  | builtin b=>
   simp only[pZ]at h
   by_cases hb:b= .append
   ·rw[if_pos hb]at h
    subst hb
    split at h
    case h_2=>exact h.elim
    rename_i s x t tx hargs hts
    have hboth:∃ z w' K' r σ',(Builtin.append_ #[t,tx] o.type #[a.eval s,a.eval x]).run P w= .ok z w' /\ K.le K' /\ aZ G K' σ' w' /\ VR K' r z /\ Kc r σ':=by
     rcases h with h|h
     ·exact tP (ty:=o.type) hr h (he.eval hr s) (he.eval hr x)
     ·exact rL (ty:=o.type) hr h (he.eval hr s) (he.eval hr x)
    obtain⟨z,w',K',r,σ',h1,h2,h3,h4,h5⟩:=hboth
    have ea:args= #[s,x]:=by apply Array.ext';simpa using hargs
    have et:ts= #[t,tx]:=by apply Array.ext';simpa using hts
    subst ea et
    have hrun:((do let d <- resolve a.eval {callee:= .builtin .append,args:= #[s,x],argTypes:= #[t,tx]} o.type;invoke d.target d.args:Sem Next)).run P w= .ok (.value z) w':=by
     simp[resolve,invoke,builtin,h1]
    rw[hrun]
    exact⟨r,σ',K',h5,h4,h3,h2⟩
   ·rw [if_neg hb]at h
    by_cases hb2:b= .unsafeString
    ·rw[if_pos hb2]at h
     subst hb2
     split at h
     case h_2=>exact h.elim
     rename_i x n pt it hargs hts
     obtain⟨z,w',r,σ',h1,h3,h4,h5⟩:=yY (it:=it) (ty:=o.type) hr h (he.eval hr x) (he.eval hr n)
     have ea:args= #[x,n]:=by apply Array.ext';simpa using hargs
     have et:ts= #[pt,it]:=by apply Array.ext';simpa using hts
     subst ea et
     have hrun:((do let d <- resolve a.eval {callee:= .builtin .unsafeString,args:= #[x,n],argTypes:= #[pt,it]} o.type;invoke d.target d.args:Sem Next)).run P w= .ok (.value z) w':=by
      simp[resolve,invoke,builtin,h1]
     rw[hrun]
     exact⟨r,σ',K,h5,h4,h3,aJ.le.refl K⟩
    rw[if_neg hb2]at h
    by_cases hb3:b= .copy
    ·rw[if_pos hb3]at h
     subst hb3
     split at h
     case h_2=>exact h.elim
     rename_i x n pt it hargs hts
     obtain⟨z,w',r,σ',h1,h3,h4,h5⟩:=vV (ty:=o.type) hr h (he.eval hr x) (he.eval hr n)
     have ea:args= #[x,n]:=by apply Array.ext';simpa using hargs
     have et:ts= #[pt,it]:=by apply Array.ext';simpa using hts
     subst ea et
     have hrun:((do let d <- resolve a.eval {callee:= .builtin .copy,args:= #[x,n],argTypes:= #[pt,it]} o.type;invoke d.target d.args:Sem Next)).run P w= .ok (.value z) w':=by
      simp[resolve,invoke,builtin,h1]
     rw[hrun]
     exact⟨r,σ',K,h5,h4,h3,aJ.le.refl K⟩
    rw[if_neg hb3]at h
    obtain⟨r,h1,hK⟩:=h
    obtain⟨z,h2,h3⟩:=A1i (P:=P) (w:=w) (ty:=o.type) (cn:=args.map fun| .const _=>true|_=>false) h1 (iL.map he hr args.toList)
    have e1:(args.toList.map a.eval).toArray=args.map a.eval:=by apply Array.ext';simp
    have e2:ts.toList.toArray=ts:=by simp
    rw[e1,e2]at h2
    have hrun:((do let d <- resolve a.eval {callee:= .builtin b,args:=args,argTypes:=ts} o.type;invoke d.target d.args:Sem Next)).run P w= .ok (.value z) w:=by
     simp only[resolve,invoke,Sem.run_bind,Sem.run_pure,Result.andThen_ok]
     exact h2
    rw[hrun]
    exact⟨r,σ,K,hK,h3,hr,aJ.le.refl K⟩
  |invoke r m=>exact h.elim
 ·rename_i t l c hop;rw[hop]
  have hboth:∃ z w' K' r σ',(Instr.makeSlice t (a.eval l) (a.eval c)).run P w= .ok z w' /\ K.le K' /\ aZ G K' σ' w' /\ VR K' r z /\ Kc r σ':=by
   rcases h with h|h|h
   ·exact yU hr h (he.eval hr l) (he.eval hr c)
   ·exact vZ hr h (he.eval hr l) (he.eval hr c)
   ·exact wA hr h (he.eval hr l) (he.eval hr c)
  obtain⟨z,w',K',r,σ',h1,h2,h3,h4,h5⟩:=hboth
  exact eH.value' h1 ⟨r,σ',K',h5,h4,h3,h2⟩
 ·rename_i t x hop;rw[hop]
  obtain⟨z,w',r,σ',h1,h2,h3,h4⟩:=wE (P:=P) hr h (he.eval hr x)
  exact eH.value' h1 ⟨r,σ',K,h4,h3,h2,aJ.le.refl K⟩
 ·rename_i it hop;rw[hop]
  obtain⟨z,w',r,σ',h1,h2,h3,h4⟩:=yW (P:=P) (ty:=o.type) hr h (he.eval hr it)
  exact eH.value' h1 ⟨r,σ',K,h4,h3,h2,aJ.le.refl K⟩
 ·rename_i t r hop;rw[hop]
  obtain⟨rfl,h⟩:=h
  obtain⟨z,w',r,σ',h1,h2,h3,h4⟩:=rR (P:=P) (t:=t) hr h
  exact eH.value' h1 ⟨r,σ',K,h4,h3,h2,aJ.le.refl K⟩
 ·rename_i t x k ok hop;rw[hop]
  obtain⟨r,h1,hK⟩:=h
  exact eH.value hr hK (tU hr h1 (he.eval hr x) (he.eval hr k))
 ·rename_i t m k x hop;rw[hop]
  obtain⟨σ',h1,hK⟩:=h
  obtain⟨w',h2,h3⟩:=A2f hr h1 (he.eval hr m) (he.eval hr k) (he.eval hr x)
  simp only[Sem.run_bind,h2,Result.andThen_ok,Sem.run_pure]
  exact⟨σ',K,hK,h3,aJ.le.refl K⟩
 ·exact h.elim
end Go.Av
namespace Go.Av
open Go Go.RowKit
def bZ(ops:List Oper)(e:aK)(g:Option (Nat × Bool)):Option Bool:=
 match g with
 |none=>some true
 | some (j,want)=>match(ops[j]?).bind (·.dst)with
  | some t=>match e t with
   | .bool b=>some (b==want)
   | .tup []=>some false
   |_=>none
  |none=>none
theorem VR.skipped{K:aJ} :VR K (.tup []) Go.undef:= .tup [] #[] rfl (fun j h=>by cases h)
theorem dO{ops:Array Oper}{K:aJ}{e:aK}{a:Act}{o:Oper}{b:Bool}(h:bZ ops.toList e o.guard=some b)(he:ER K e a):Region.wanted o (yielded ops a.tmps)=b:=by
 unfold bZ at h
 unfold Region.wanted
 split at h
 ·rename_i hg;rw[hg];simpa using h
 ·rename_i j want hg
  rw[hg]
  simp only
  split at h
  ·rename_i t ht
   split at h
   ·rename_i b' hb
    simp only[Option.some.injEq]at h
    have ht':(ops[j]?).bind (·.dst)=some t:=by simpa using ht
    have hv:=he t
    rw[hb,VR.bool_iff]at hv
    have hget:a.tmps[t]? =some (.bool b'):=by
     cases hx:a.tmps[t]? with
     |none=>simp[hx]at hv;cases hv
     |some v=>simp[hx]at hv;rw[hv]
    have hy:yielded ops a.tmps j=some b':=by
     unfold yielded
     rw[ht']
     simp[hget]
    rw[hy,<- h]
    simp
   ·rename_i hb
    simp only[Option.some.injEq]at h;subst h
    have ht':(ops[j]?).bind (·.dst)=some t:=by simpa using ht
    have hv:=he t
    rw[hb]at hv
    have hget:∀ b',a.tmps[t]? ≠ some (.bool b'):=fun b' hx=>by
     have:a.tmps.getD t Go.undef= .bool b':=by simp[Array.getD_eq_getD_getElem?,hx]
     rw[this]at hv;cases hv
    have hy:yielded ops a.tmps j=none:=by
     unfold yielded
     rw[ht']
     cases hx:a.tmps[t]? with
     |none=>simp[hx]
     |some v=>cases v <;>first|(simp[hx];done)|exact absurd hx (hget _)
    rw[hy]
    rfl
   ·cases h
  ·cases h
def cI(P:Program)(G:Nat ->AV)(ops:List Oper)(Q:aK ->AS ->Prop):List Oper ->aK ->AS ->Prop
 |[],e,σ=>Q e σ
 | o::rest,e,σ=>∃ b,bZ ops e o.guard=some b /\ (b=true ->dJ P G o e σ fun r σ'=>cI P G ops Q rest (e.upd o.dst r) σ') /\
   (b=false ->cI P G ops Q rest (e.upd o.dst (.tup [])) σ)
def mrk(D:Nat):Deferred:= {target:= .collected D,args:= #[]}
def yB(K0 K:aJ)(ds:List Deferred):Prop:=∃ l:List Nat,ds=l.map mrk /\ l.Nodup /\ ∀ D,D ∈ l ->K0.obs D=none /\ K.obs D=some (.deferred (some []))
theorem yB.mono{K0 K K':aJ}(hk:K.le K'){ds:List Deferred}(h:yB K0 K ds):yB K0 K' ds:=by
 obtain⟨l,h1,h2,h3⟩:=h
 exact⟨l,h1,h2,fun D hD=> ⟨(h3 D hD).1,hk.obs _ _ (h3 D hD).2⟩⟩
structure St(P:Program)(G:Nat ->AV)(K:aJ)(N:Nat)(K0:aJ)(e:aK)(σ:AS)(a:Act)(w:World):Prop where
 er:ER K e a
 rel:aZ G K σ w
 size:N <=a.tmps.size
 le:K0.le K
 defers:yB K0 K a.defers
theorem St.put {P:Program} {G:Nat ->AV} {K K':aJ} {N:Nat} {ds:aJ} {e:aK} {σ σ':AS} {a:Act} {w w':World} (h:St P G K N ds e σ a w) (hK:K.le K') {d:Option Tmp} (hd:∀ t,d=some t ->t < N)
  {r:AV} {v:Value} (hv:VR K' r v) (hr:aZ G K' σ' w'):St P G K' N ds (e.upd d r) σ' (a.put d v) w':=by
 refine⟨(h.er.mono hK).put (fun t ht=>Nat.lt_of_lt_of_le (hd t ht) h.size) hv,hr,?_,h.le.trans hK,?_⟩
 ·cases d with
  |none=>exact h.size
  |some t=>simpa [Act.put] using h.size
 ·cases d with
  |none=>exact h.defers.mono hK
  |some t=>exact h.defers.mono hK
theorem eH.wp {P:Program} {G:Nat ->AV} {K:aJ} {Kc:AV ->AS ->Prop} {o:Oper} {a:Act} {w:World} (h:eH P G K Kc ((execOp a.eval o).run P w)) {next:Act ->World ->Prop} {Q:Exit ->Act ->World ->Prop}
  (hn:∀ r σ' K' v w',Kc r σ' ->VR K' r v ->aZ G K' σ' w' ->K.le K' ->next (a.put o.dst v) w'):o.wp P a w next Q:=by
 unfold Oper.wp
 generalize(execOp a.eval o).run P w=res at h
 unfold eH at h
 split at h
 ·obtain⟨r,σ',K',h1,h2,h3,h4⟩:=h
  exact hn r σ' K' _ _ h1 h2 h3 h4
 ·obtain⟨σ',K',h1,h2,h3⟩:=h
  exact hn .undef σ' K' _ _ h1 (.undef _) h2 h3
 ·simp only[Oper.upon]
  refine h.mono ?_
  rintro e w' ⟨v,r,σ',K',rfl,h1,h2,h3,h4⟩
  exact hn r σ' K' _ _ h1 h2 h3 h4
 ·exact h.elim
def eG(N:Nat)(o:Oper):Bool:=match o.dst with|some t=>decide (t < N)|none=>true
theorem dP{N:Nat}{o:Oper}(h:eG N o=true):∀ t,o.dst=some t ->t < N:=by
 intro t ht
 unfold eG at h
 rw[ht]at h
 simpa using h
theorem dV {P:Program} {G:Nat ->AV} {N:Nat} {ds:aJ} {ops:Array Oper} {Q:aK ->AS ->Prop} {R:Exit ->Act ->World ->Prop} {K0:aJ}
  (hR:∀ e σ K a w,Q e σ ->St P G K N ds e σ a w ->K0.le K ->R .normal a w):
  ∀ (l:List Oper) (e:aK) (σ:AS) (K:aJ) (a:Act) (w:World),l.all (eG N)=true ->cI P G ops.toList Q l e σ ->St P G K N ds e σ a w ->K0.le K ->wpList P ops R l a w
 |[],e,σ,K,a,w,_,h,hs,hk=>hR e σ K a w h hs hk
 | o::rest,e,σ,K,a,w,hd,h,hs,hk=>by
  simp only[List.all_cons,Bool.and_eq_true]at hd
  obtain⟨b,hb,h1,h2⟩:=h
  have hw:=dO hb hs.er
  unfold wpList
  cases b with
  | true=>
   rw[if_pos hw]
   refine .inl ((gI (h1 rfl) hs.er hs.rel).wp fun r σ' K' v w' hq hv hr hle=> ?_)
   exact dV hR rest _ _ K' _ _ hd.2 hq (hs.put hle (dP hd.1) hv hr) (hk.trans hle)
  | false=>
   rw[if_neg (by rw[hw];simp)]
   exact dV hR rest _ _ K _ _ hd.2 (h2 rfl) (hs.put (aJ.le.refl K) (dP hd.1) VR.skipped hs.rel) hk
def bC(l:List Oper):List Nat:=l.filterMap (·.dst)
def bO:Code ->List Nat
 | .region _ ops _=>bC ops.toList
 | .seq a b=>bO a++bO b
 | .cond _ a b=>bO a++bO b
 | .block _ c=>bO c
 | .loop c=>bO c
 |_=> []
def zX(o:Oper):Bool:=match o.op with| .defer _=>false|_=>true
def nJ:Code ->Bool
 | .seq a b=>nJ a && nJ b
 | .cond _ a b=>nJ a && nJ b
 | .block _ c=>nJ c
 | .loop c=>nJ c
 | .rangeFunc .. =>false
 |_=>true
def cOK(N:Nat):Code ->Bool
 | .region _ ops _=>ops.toList.all (eG N) && ops.toList.all zX
 | .seq a b=>cOK N a && cOK N b
 | .cond _ a b=>cOK N a && cOK N b
 | .block _ c=>cOK N c
 | .loop c=>cOK N c
 | .rangeFunc _ ps a b=>ps.toList.all (fun t=>decide (t < N)) && cOK N a && cOK N b && nJ a && nJ b
 |_=>true
def mrg(W:List Nat)(v e:aK):aK:=fun t=>if W.contains t then v t else e t
def uQ:aK ->List Tmp ->List AV ->aK
 |e,p::ps,x::xs=>uQ (e.upd (some p) x) ps xs
 |e,_,_=>e
def iI(σ σ':AS):Prop:=∀ b a n,σ'.ty b=some (.ob a,n) ->∃ a' n',σ.ty b=some (.ob a',n')
theorem iI.refl(σ:AS):iI σ σ:=fun _ a n h=> ⟨a,n,h⟩
theorem iI.setTy{σ σ':AS}(h:iI σ σ'){b:Nat}{E:TypeId}{n:Nat} :iI σ (σ'.setTy b (.t E,n)):=fun i a m hi=>by
 have hi':(if i=b then some ((mR.t E),n)else σ'.ty i)=some (.ob a,m):=hi
 split at hi'
 ·cases hi'
 ·exact h i a m hi'
def C2n(P:Program)(gf:FuncId)(caps:List AV)(items:List (List AV)):Prop:=
 iP P gf=true /\ ∀ (l:Nat) (J Jx:Nat ->World ->Prop) (K:aJ) (w:World) (vals:List Value),iL K caps vals -> (∀ k W b o v,J k W ->K.imm b o=some v ->W.cell? ⟨b,o,none⟩=some v) -> (∀ k W,J k W ->J k W.drew) ->
  (∀ k (h:k < items.length) W (vs:Array Value),J k W ->iL K items[k] vs.toList ->∃ fn tmps assign body,(Instr.yield l vs).run P W= .ok (.round l fn tmps assign body) W /\ RoundIn Fence.wide 3 P l fn tmps assign body W fun e W'=> (e= .returned (.bool true) /\ J (k+1) W') \/ (e= .returned (.bool false) /\ Jx (k+1) W')) ->
  J 0 w ->CallsIn Fence.wide 4 P gf (#[.func (.yield l) #[] #[]]++vals.toArray) w fun e W'=> (∃ v,e= .returned v) /\ (J items.length W' \/ ∃ k,Jx k W')
section kQ
variable (P:Program) (G:Nat ->AV) (D:Array Oper -> (aK ->AS ->Prop) ->aK ->AS ->Prop)
def  kQ:Code -> (Exit ->aK ->AS ->Prop) ->aK ->AS ->Prop
 | .skip,Q,e,σ=>Q .normal e σ
 | .label _,Q,e,σ=>Q .normal e σ
 | .region _ ops false,Q,e,σ=>cI P G ops.toList (Q .normal) ops.toList e σ
 | .region _ ops true,Q,e,σ=>D ops (Q .normal) e σ
 | .seq a b,Q,e,σ=>kQ a (fun x e σ=>match x with| .normal=>kQ b Q e σ|x=>Q x e σ) e σ
 | .cond c a b,Q,e,σ=>∃ t,ev G e c= .bool t /\ (t=true ->kQ a Q e σ) /\ (t=false ->kQ b Q e σ)
 | .block id c,Q,e,σ=>kQ c (fun x e σ=>match x with| .exit i=>if i=id then Q .normal e σ else Q (.exit i) e σ|x=>Q x e σ) e σ
 | .loop c,Q,e,σ=>∃ I:Nat ->aK ->AS ->Prop,(∃ n,I n e σ) /\ ∀ n v σ',I n (mrg (bO c) v e) σ' ->
   kQ c (fun x e' σ'=>match x with| .normal=>∃ m,m < n /\ I m e' σ'|x=>Q x e' σ') (mrg (bO c) v e) σ'
 | .exit id,Q,e,σ=>Q (.exit id) e σ
 | .ret,Q,e,σ=>Q .ret e σ
 | .rangeFunc g ps a b,Q,e,σ=>∃ gf caps items,ev G e g= .fn gf caps /\ C2n P gf caps items /\ (∀ x,x ∈ items ->x.length=ps.size) /\ ∃ I:Nat ->AS ->Prop,I 0 σ /\
   (∀ k (h:k < items.length) σ',I k σ' ->iI σ σ' ->kQ a (fun x e1 σ1=>match x with
     | .normal=>kQ b (fun x e2 σ2=>match x with| .normal=>iI σ σ2 /\ I (k+1) σ2| .ret=>iI σ σ2 /\ Q .ret e σ2| .exit i=>iI σ σ2 /\ Q (.exit i) e σ2|_=>False) e1 σ1
     |_=>False) (uQ e ps.toList items[k]) σ') /\
   ∀ σ',I items.length σ' ->iI σ σ' ->Q .normal e σ'
 |_,_,_,_=>False
end kQ
theorem aK.upd_other{e:aK}{d:Option Tmp}{r:AV}{t:Nat}(h:∀ x,d=some x ->x ≠ t):e.upd d r t=e t:=by
 cases d with
 |none=>rfl
 | some x=>
  show(if t=x then r else e t)=e t
  rw[if_neg (Ne.symm (h x rfl))]
theorem eB{P:Program}{G:Nat ->AV}{o:Oper}{e:aK}{σ:AS}{K K':AV ->AS ->Prop}(hk:∀ r s,K r s ->K' r s)(h:dJ P G o e σ K):dJ P G o e σ K':=by
 unfold dJ at h ⊢
 generalize o.op=op at h ⊢
 cases op <;>first|exact h.elim|exact hk _ _ h|(obtain⟨x,h1,h2⟩:=h;exact⟨x,h1,hk _ _ h2⟩)|skip
 case alloc E=>
  obtain⟨z,h1,h2⟩:=h
  rcases h2 with h2|h2
  ·exact⟨z,h1, .inl fun b hb=>hk _ _ (h2 b hb)⟩
  ·exact⟨z,h1, .inr fun b hb=>hk _ _ (h2 b hb)⟩
 case box E x=>exact⟨h.1,fun b hb=>hk _ _ (h.2 b hb)⟩
 case buildSlice t n ps=>
  rcases h with⟨r,h1,h2⟩|h
  ·exact .inl ⟨r,h1,hk _ _ h2⟩
  ·refine .inr ?_
   unfold nW at h ⊢
   split at h
   ·exact fun b hb=>hk _ _ (h b hb)
   ·exact h.elim
 case nilCheck x=>exact⟨h.1,hk _ _ h.2⟩
 case convert s d x=>
  rcases h with⟨r,h1,h2⟩|⟨l,e,h1,h2,h3,h4,h5,h6⟩|⟨b,cs,E,e,h1,h2,h3,h4,h5,h6,h7⟩
  ·exact .inl ⟨r,h1,hk _ _ h2⟩
  ·exact .inr (.inl ⟨l,e,h1,h2,h3,h4,h5,fun b hb=>hk _ _ (h6 b hb)⟩)
  ·exact .inr (.inr ⟨b,cs,E,e,h1,h2,h3,h4,h5,h6,hk _ _ h7⟩)
 case makeSlice t l c=>
  simp only at h ⊢
  rcases h with h|h|h
  ·refine .inl ?_
   unfold yS at h ⊢
   split at h
   ·exact⟨h.1,h.2.1,h.2.2.1,fun b hb=>hk _ _ (h.2.2.2 b hb)⟩
   ·exact h.elim
  ·refine .inr (.inl ?_)
   unfold rQ at h ⊢
   split at h
   ·exact⟨h.1,h.2.1,h.2.2.1,fun b hb=>hk _ _ (h.2.2.2 b hb)⟩
   ·exact h.elim
  ·refine .inr (.inr ?_)
   unfold rS at h ⊢
   split at h
   ·exact⟨h.1,h.2.1,h.2.2.1,fun b hb=>hk _ _ (h.2.2.2 b hb)⟩
   ·exact h.elim
 case makeFunc fn first caps=>
  simp only at h ⊢
  split at h
  ·exact hk _ _ h
  ·obtain⟨h1,b,o,h2,h3⟩:=h;exact⟨h1,b,o,h2,hk _ _ h3⟩
  ·exact h.elim
 case range t x=>
  simp only at h ⊢
  unfold rY at h ⊢
  split at h
  ·exact⟨h.1,fun b hb=>hk _ _ (h.2 b hb)⟩
  ·exact h.elim
 case makeMap t r=>exact⟨h.1,fun b hb=>hk _ _ (h.2 b hb)⟩
 case next it s=>
  cases s with
  |false=>exact h.elim
  | true=>
   simp only at h ⊢
   unfold yV at h ⊢
   split at h
   case h_2=>exact h.elim
   split at h
   case h_2=>exact h.elim
   exact⟨fun x=>hk _ _ (h.1 x),fun x=>hk _ _ (h.2 x)⟩
 case slice t x lo hi mx=>
  cases mx with
  |none=>obtain⟨x,h1,h2⟩:=h;exact⟨x,h1,hk _ _ h2⟩
  |some m=>obtain⟨x,h1,h2⟩:=h;exact⟨x,h1,hk _ _ h2⟩
 case call c=>
  simp only at h ⊢
  unfold pZ at h ⊢
  split at h
  ·split at h
   ·exact h.mono hk
   ·obtain⟨k,b,o,h1,h2⟩:=h;exact⟨k,b,o,h1,h2.mono hk⟩
   ·exact h.elim
  ·split at h
   ·rename_i hb
    simp only[if_pos hb]
    split at h
    ·rcases h with h|h
     ·refine .inl ?_
      unfold gK at h ⊢
      split at h
      ·refine⟨h.1,?_⟩
       have h2:=h.2
       split at h2
       ·exact⟨h2.1,fun x=>hk _ _ (h2.2.1 x),fun x b hb=>hk _ _ (h2.2.2 x b hb)⟩
       ·exact⟨h2.1,h2.2.1,fun x=>hk _ _ (h2.2.2.1 x),fun x b hb=>hk _ _ (h2.2.2.2 x b hb)⟩
       ·exact⟨h2.1,h2.2.1,h2.2.2.1,fun b hb=>hk _ _ (h2.2.2.2 b hb)⟩
       ·exact h2.elim
      ·exact h.elim
     ·exact .inr (tO hk h)
    ·exact h.elim
   ·rename_i hb
    simp only[if_neg hb]
    split at h
    ·rename_i hb2
     simp only[if_pos hb2]
     split at h
     ·exact A2d hk h
     ·exact h.elim
    ·rename_i hb2
     simp only[if_neg hb2]
     split at h
     ·rename_i hb3
      simp only[if_pos hb3]
      split at h
      ·exact yM hk h
      ·exact h.elim
     ·rename_i hb3
      simp only[if_neg hb3]
      obtain⟨r,h1,h2⟩:=h
      exact⟨r,h1,hk _ _ h2⟩
  ·exact h.elim
theorem eT{P:Program}{G:Nat ->AV}{ops:List Oper}{Q:aK ->AS ->Prop} :∀ (l:List Oper) (e:aK) (σ:AS),cI P G ops Q l e σ ->
  cI P G ops (fun e' σ'=>Q e' σ' /\ ∀ t,t ∉ bC l ->e' t=e t) l e σ
 |[],e,σ,h=> ⟨h,fun _ _=>rfl⟩
 | o ::rest,e,σ,h=>by
  obtain⟨b,hb,h1,h2⟩:=h
  have key:∀ r σ',cI P G ops Q rest (e.upd o.dst r) σ' ->cI P G ops (fun e' σ'=>Q e' σ' /\ ∀ t,t ∉ bC (o::rest) ->e' t=e t) rest (e.upd o.dst r) σ':=by
   intro r σ' hh
   have h3:=eT rest _ _ hh
   have mono:∀ (l:List Oper) (Q Q':aK ->AS ->Prop),(∀ e s,Q e s ->Q' e s) ->∀ e s,cI P G ops Q l e s ->cI P G ops Q' l e s:=by
    intro l
    induction l with
    |nil=>intro Q Q' hq e s h;exact hq _ _ h
    | cons o' l ih=>
     intro Q Q' hq e s h
     obtain⟨b,hb,h1,h2⟩:=h
     exact⟨b,hb,fun x=>eB (fun r s' h=>ih Q Q' hq _ _ h) (h1 x),fun x=>ih Q Q' hq _ _ (h2 x)⟩
   refine mono rest _ _ (fun e' s' hq=> ⟨hq.1,fun t ht=> ?_⟩) _ _ h3
   have ht1:t ∉ bC rest:=fun hm=>ht (by
    unfold bC at*
    rw[List.filterMap_cons]
    split
    ·exact hm
    ·exact List.mem_cons_of_mem _ hm)
   rw[hq.2 t ht1]
   refine aK.upd_other fun x hx hxt=>ht ?_
   unfold bC
   rw[List.filterMap_cons,hx]
   subst hxt
   exact List.mem_cons_self
  exact⟨b,hb,fun x=>eB (fun r s' hh=>key r s' hh) (h1 x),fun x=>key _ _ (h2 x)⟩
def dZ(R:Act ->World ->Prop):Exit ->Act ->World ->Prop:=fun x a w=>x= .normal /\ R a w
structure rD(P:Program)(G:Nat ->AV)(D:Array Oper -> (aK ->AS ->Prop) ->aK ->AS ->Prop):Prop where
 sound:∀ (N:Nat) (ds:aJ) (id:Nat) (ops:Array Oper) (Q:aK ->AS ->Prop) (R:Act ->World ->Prop) (e:aK) (σ:AS) (K:aJ) (a:Act) (w:World),
  ops.toList.all (eG N)=true ->D ops Q e σ ->St P G K N ds e σ a w -> (∀ e σ K' a w,Q e σ ->St P G K' N ds e σ a w ->K.le K' ->R a w) ->wpAny P .any ops (dZ R) ops.size (Array.replicate ops.size false) a {w with drawn:=w.drawn+1}
 frame:∀ (ops:Array Oper) (Q:aK ->AS ->Prop) (e:aK) (σ:AS),D ops Q e σ ->D ops (fun e' σ'=>Q e' σ' /\ ∀ t,t ∉ bC ops.toList ->e' t=e t) e σ
 mono:∀ (ops:Array Oper) (Q Q':aK ->AS ->Prop) (e:aK) (σ:AS),(∀ e s,Q e s ->Q' e s) ->D ops Q e σ ->D ops Q' e σ
section
variable {P:Program} {G:Nat ->AV} {D:Array Oper -> (aK ->AS ->Prop) ->aK ->AS ->Prop}
theorem cT{ops:List Oper} :∀ (l:List Oper) {Q Q':aK ->AS ->Prop},(∀ e s,Q e s ->Q' e s) ->∀ e s,cI P G ops Q l e s ->cI P G ops Q' l e s
 |[],_,_,hq,e,s,h=>hq _ _ h
 |o::l,_,_,hq,e,s,⟨b,hb,h1,h2⟩=> ⟨b,hb,fun x=>eB (fun r s' h=>cT l hq _ _ h) (h1 x),fun x=>cT l hq _ _ (h2 x)⟩
theorem fT(hD:rD P G D):∀ (c:Code) {Q Q':Exit ->aK ->AS ->Prop} (e:aK) (σ:AS),(∀ x e s,Q x e s ->Q' x e s) ->kQ P G D c Q e σ ->kQ P G D c Q' e σ:=by
 intro c
 induction c with
 |skip=>intro Q Q' e σ hq h;exact hq _ _ _ h
 |label l=>intro Q Q' e σ hq h;exact hq _ _ _ h
 | region id ops d=>
  intro Q Q' e σ hq h
  cases d with
  |false=>exact cT _ (fun e s h=>hq _ _ _ h) _ _ h
  |true=>exact hD.mono _ _ _ _ _ (fun e s h=>hq _ _ _ h) h
 | seq a b iha ihb=>
  intro Q Q' e σ hq h
  refine iha e σ (fun x e s hx=> ?_) h
  cases x <;>first|exact ihb _ _ hq hx|exact hq _ _ _ hx
 | cond c a b iha ihb=>
  intro Q Q' e σ hq h
  obtain⟨t,ht,h1,h2⟩:=h
  exact⟨t,ht,fun x=>iha _ _ hq (h1 x),fun x=>ihb _ _ hq (h2 x)⟩
 | block id c ih=>
  intro Q Q' e σ hq h
  refine ih e σ (fun x e s hx=> ?_) h
  cases x <;>first|exact hq _ _ _ hx|skip
  simp only at hx ⊢
  split at hx
  ·rename_i hi;rw[if_pos hi];exact hq _ _ _ hx
  ·rename_i hi;rw[if_neg hi];exact hq _ _ _ hx
 | loop c ih=>
  intro Q Q' e σ hq h
  obtain⟨I,h0,h1⟩:=h
  refine⟨I,h0,fun n v σ' hI=>ih _ _ (fun x e s hx=> ?_) (h1 n v σ' hI)⟩
  cases x <;>first|exact hx|exact hq _ _ _ hx
 |exit id=>intro Q Q' e σ hq h;exact hq _ _ _ h
 |ret=>intro Q Q' e σ hq h;exact hq _ _ _ h
 | rangeFunc f ps a b iha ihb=>
  intro Q Q' e σ hq h
  obtain⟨gf,caps,items,h1,h2,h3,I,h4,h5,h6⟩:=h
  refine⟨gf,caps,items,h1,h2,h3,I,h4,fun k hk σ' hI ho=>iha _ _ (fun x e s hx=> ?_) (h5 k hk σ' hI ho),fun σ' hI ho=>hq _ _ _ (h6 σ' hI ho)⟩
  cases x <;>first|exact hx|skip
  refine ihb _ _ (fun x e s hx=> ?_) hx
  cases x <;>first|exact hx|exact⟨hx.1,hq _ _ _ hx.2⟩
 |scope c _=>intro Q Q' e σ hq h;exact h.elim
 |goto l=>intro Q Q' e σ hq h;exact h.elim
 |refuse w=>intro Q Q' e σ hq h;exact h.elim
theorem A6b(hD:rD P G D):∀ (c:Code) {Q:Exit ->aK ->AS ->Prop} (e:aK) (σ:AS),kQ P G D c Q e σ ->
  kQ P G D c (fun x e' σ'=>Q x e' σ' /\ ∀ t,t ∉ bO c ->e' t=e t) e σ:=by
 intro c
 induction c with
 |skip=>intro Q e σ h;exact⟨h,fun _ _=>rfl⟩
 |label l=>intro Q e σ h;exact⟨h,fun _ _=>rfl⟩
 | region id ops d=>
  intro Q e σ h
  cases d with
  |false=>exact eT _ _ _ h
  |true=>exact hD.frame _ _ _ _ h
 | seq a b iha ihb=>
  intro Q e σ h
  refine fT hD a e σ (fun x e' s hx=> ?_) (iha e σ h)
  obtain⟨hx,hw⟩:=hx
  cases x with
  | normal=>
   refine fT hD b e' s (fun y e'' s' hy=> ⟨hy.1,fun t ht=> ?_⟩) (ihb e' s hx)
   simp only[bO,List.mem_append,not_or]at ht
   rw[hy.2 t ht.2,hw t ht.1]
  |_=>exact⟨hx,fun t ht=>hw t (fun hm=>ht (by simp only[bO,List.mem_append];exact .inl hm))⟩
 | cond c a b iha ihb=>
  intro Q e σ h
  obtain⟨t,ht,h1,h2⟩:=h
  refine⟨t,ht,fun x=>fT hD a e σ (fun y e' s hy=> ⟨hy.1,fun t ht=>hy.2 t (fun hm=>ht (by simp only[bO,List.mem_append];exact .inl hm))⟩) (iha _ _ (h1 x)),
   fun x=>fT hD b e σ (fun y e' s hy=> ⟨hy.1,fun t ht=>hy.2 t (fun hm=>ht (by simp only[bO,List.mem_append];exact .inr hm))⟩) (ihb _ _ (h2 x))⟩
 | block id c ih=>
  intro Q e σ h
  refine fT hD c e σ (fun x e' s hx=> ?_) (ih e σ h)
  obtain⟨hx,hw⟩:=hx
  cases x <;>first|exact⟨hx,hw⟩|skip
  simp only at hx ⊢
  split at hx
  ·rename_i hi;rw[if_pos hi];exact⟨hx,hw⟩
  ·rename_i hi;rw[if_neg hi];exact⟨hx,hw⟩
 | loop c ih=>
  intro Q e σ h
  obtain⟨I,h0,h1⟩:=h
  have hmrg:∀ v t,t ∉ bO c ->mrg (bO c) v e t=e t:=by
   intro v t ht
   unfold mrg
   rw[if_neg (by simpa using ht)]
  refine⟨I,h0,fun n v σ' hI=> ?_⟩
  refine fT hD c _ _ (fun x e' s hx=> ?_) (ih _ _ (h1 n v σ' hI))
  obtain⟨hx,hw⟩:=hx
  have hx2:∀ t,t ∉ bO (Code.loop c) ->e' t=e t:=fun t ht=> (hw t ht).trans (hmrg v t ht)
  cases x <;>first|exact hx|exact⟨hx,hx2⟩
 |exit id=>intro Q e σ h;exact⟨h,fun _ _=>rfl⟩
 |ret=>intro Q e σ h;exact⟨h,fun _ _=>rfl⟩
 | rangeFunc f ps a b iha ihb=>
  intro Q e σ h
  obtain⟨gf,caps,items,h1,h2,h3,I,h4,h5,h6⟩:=h
  refine⟨gf,caps,items,h1,h2,h3,I,h4,fun k hk σ' hI ho=>fT hD a _ _ (fun x e s hx=> ?_) (h5 k hk σ' hI ho),fun σ' hI ho=> ⟨h6 σ' hI ho,fun _ _=>rfl⟩⟩
  cases x <;>first|exact hx|skip
  refine fT hD b _ _ (fun x e s hx=> ?_) hx
  cases x <;>first|exact hx|exact⟨hx.1,hx.2,fun _ _=>rfl⟩
 |scope c _=>intro Q e σ h;exact h.elim
 |goto l=>intro Q e σ h;exact h.elim
 |refuse w=>intro Q e σ h;exact h.elim
theorem A4h {F:Fence} {rm:Nat} {Q:Exit ->Act ->World ->Prop} {a:Act} {w:World} {c:Code} (I:Nat ->Act ->World ->Prop) (n₀:Nat) (h₀:I n₀ a w)
  (round:∀ n a w,I n a w ->c.wpIn F rm P (fun x a' w'=>match x with| .normal=>∃ n',n' < n /\ I n' a' w'|x=>Q x a' w') a w):(Code.loop c).wpIn F rm P Q a w:=by
 refine wpIn_loop (fun a w=>∃ n,I n a w) (fun a w=>leastOf (fun n=>I n a w)) ⟨n₀,h₀⟩ ?_
 intro a w hI
 refine wpIn_mono (round _ a w (leastOf_spec hI).1) ?_
 intro e a' w' hq
 cases e with
 | normal=>
  obtain⟨n',hlt,hI'⟩:=hq
  exact show(∃ n,I n a' w') /\ leastOf (fun n=>I n a' w') < leastOf (fun n=>I n a w) from⟨⟨n',hI'⟩,Nat.lt_of_le_of_lt ((leastOf_spec ⟨n',hI'⟩).2 n' hI') hlt⟩
 |_=>exact hq
def Fr(r:Option Nat):Fence:= {Fence.wide with round:=r}
theorem A1c{r:Option Nat}{n m:Nat}{c:Code}{Q:Exit ->Act ->World ->Prop}{a:Act}{w:World}(h:c.wpIn (Fr r) n P Q a w):c.wpIn (Fr r) m P Q a w:=
 fun b k cs h1 h2 _=>h b k cs h1 h2 (room_wide _)
theorem B0l{r:Option Nat}{n:Nat}{f:FuncId}{args:Array Value}{w:World}{R:Ending ->World ->Prop}(h:Calls P f args w R):CallsIn (Fr r) n P f args w R:=
 (callsIn_wide (n:=n)).2 h
theorem C2d{r:Option Nat}{n:Nat}{o:Oper}(hd:zX o=true){Q:Exit ->Act ->World ->Prop}{a:Act}{w:World}{K:Act ->World ->Prop}(h:o.wp P a w K Q):o.wpIn (Fr r) n P a w K Q:=by
 refine⟨fun _ _=>trivial,?_⟩
 have e:o.semAt (Fr r).round a.eval=execOp a.eval o:=Oper.semAt_eq _ _ _ (fun c hc=>by unfold zX at hd;rw[hc]at hd;cases hd)
 rw[e]
 unfold Oper.wp at h
 generalize(execOp a.eval o).run P w=res at h ⊢
 unfold Oper.upon at h
 unfold Oper.uponIn
 split at h
 ·exact h
 ·exact h
 ·exact h
 ·exact⟨fun hx=> (by cases hx),B0l h⟩
 ·exact⟨fun hx=> (by cases hx),fun c cs _=>let⟨v,w',q,s⟩:=h c cs;⟨v,w',q,stepsIn_wide.2 s⟩⟩
 ·exact h
 ·exact h.elim
theorem xL{r:Option Nat}{n:Nat}{ops:Array Oper}{R:Act ->World ->Prop} :∀ (l:List Oper) (a:Act) (w:World),l.all zX=true ->wpList P ops (dZ R) l a w ->wpListIn (Fr r) n P ops (dZ R) l a w
 |[],a,w,_,h=>h
 | o::l,a,w,hd,h=>by
  simp only[List.all_cons,Bool.and_eq_true]at hd
  unfold wpList at h
  unfold wpListIn
  split at h
  ·rename_i hw
   rw[if_pos hw]
   rcases h with h|⟨_,_,_,h⟩
   ·exact C2d hd.1 (Oper.wp_mono (fun a w h=>xL l a w hd.2 h) h)
   ·cases h.1
  ·rename_i hw
   rw[if_neg hw]
   exact⟨fun _ _=>trivial,xL l _ _ hd.2 h⟩
theorem wC{r:Option Nat}{n:Nat}{md:Region.Mode}{ops:Array Oper}{R:Act ->World ->Prop}(hd:ops.toList.all zX=true):∀ (fuel:Nat) (listed:Array Bool) (a:Act) (w:World),wpAny P md ops (dZ R) fuel listed a w ->wpAnyIn (Fr r) n P md ops (dZ R) fuel listed a w
 |0,_,_,_,h=>h
 | f +1,listed,a,w,h=>by
  refine⟨h.1,fun i hi=> ?_⟩
  have h1:=h.2 i hi
  unfold wpOp at h1
  unfold wpOpIn
  cases ho:ops[i]? with
  | none=>
   simp only[ho]at h1 ⊢
   exact wC hd f _ _ _ h1
  | some o=>
   simp only[ho]at h1 ⊢
   by_cases hw:Region.wanted o (yielded ops a.tmps)=true
   ·rw[if_pos hw]at h1 ⊢
    rcases h1 with h1|⟨_,_,_,h1,_⟩
    ·exact C2d (List.all_eq_true.1 hd o (Array.mem_toList_iff.2 (Array.mem_of_getElem? ho))) (Oper.wp_mono (fun a w h=>wC hd f _ _ _ h) h1)
    ·cases h1
   ·rw[if_neg hw]at h1 ⊢
    exact⟨fun _ _=>trivial,wC hd f _ _ _ h1⟩
theorem wP{gf:FuncId}(h:iP P gf=true)(args:Array Value)(w:World):(callFunc gf args).run P w= .ok (.enter gf args) w:=by
 unfold iP at h
 split at h
 case h_2=>cases h
 rename_i fn hfn
 simp only[Bool.and_eq_true,Bool.not_eq_true']at h
 have hb:fn.body.isNone=false:=by cases hx:fn.body with|none=>rw[hx]at h;simp at h|some _=>rfl
 have hn1: ¬ (fn.name= "runtime.NumGoroutine"):=by have:=h.1;simpa using this
 have hn2: ¬ (fn.body=none):=by intro hx;rw[hx]at hb;cases hb
 simp[callFunc,hfn,hn1,hn2]
theorem A4j{K:aJ} :∀ (ps:List Tmp) (xs:List AV) (vs:List Value) (e:aK) (tmps:Array Value) (ds:List Deferred),(∀ t,t ∈ ps ->t < tmps.size) ->iL K xs vs ->ER K e {tmps:=tmps,defers:=ds} ->
  ER K (uQ e ps xs) {tmps:=(ps.zip vs).foldl (fun t (p,v)=>t.setIfInBounds p v) tmps,defers:=ds} /\ ((ps.zip vs).foldl (fun t (p,v)=>t.setIfInBounds p v) tmps).size=tmps.size
 |[],[],[],e,tmps,ds,_,_,h=> ⟨h,rfl⟩
 |[],_::_,_::_,e,tmps,ds,_,_,h=> ⟨h,rfl⟩
 |_::_,[],[],e,tmps,ds,_,_,h=> ⟨h,rfl⟩
 | p::ps,x::xs,v::vs,e,tmps,ds,hp,hv,h=>by
  have h1:=ER.put (d:=some p) h (fun t ht=>by cases ht;exact hp p (by simp)) hv.1
  obtain⟨k1,k2⟩:=A4j ps xs vs (e.upd (some p) x) (tmps.setIfInBounds p v) ds (fun t ht=>by rw[Array.size_setIfInBounds];exact hp t (by simp[ht])) hv.2 h1
  exact⟨k1,k2.trans (by simp)⟩
 |_,[],_::_,_,_,_,_,hv,_=>hv.elim
 |_,_::_,[],_,_,_,_,hv,_=>hv.elim
theorem qU {N:Nat} {K0:aJ} {g:Operand} {ps:Array Tmp} {a b:Code} {Q:Exit ->aK ->AS ->Prop} {e:aK} {σ:AS} {K:aJ} {act:Act} {w:World} (hps:ps.toList.all (fun t=>decide (t < N))=true)
  (iha:∀ (l:Nat) (Q:Exit ->aK ->AS ->Prop) (e:aK) (σ:AS) (K0 K:aJ) (act:Act) (w:World),kQ P G D a Q e σ ->St P G K N K0 e σ act w ->a.wpIn (Fr (some l)) 3 P (fun x a' w'=>∃ e' σ' K',Q x e' σ' /\ St P G K' N K0 e' σ' a' w' /\ K.le K') act w)
  (ihb:∀ (l:Nat) (Q:Exit ->aK ->AS ->Prop) (e:aK) (σ:AS) (K0 K:aJ) (act:Act) (w:World),kQ P G D b Q e σ ->St P G K N K0 e σ act w ->b.wpIn (Fr (some l)) 3 P (fun x a' w'=>∃ e' σ' K',Q x e' σ' /\ St P G K' N K0 e' σ' a' w' /\ K.le K') act w)
  (h:kQ P G D (.rangeFunc g ps a b) Q e σ) (hs:St P G K N K0 e σ act w):(Code.rangeFunc g ps a b).wpIn (Fr none) 5 P (fun x a' w'=>∃ e' σ' K',Q x e' σ' /\ St P G K' N K0 e' σ' a' w' /\ K.le K') act w:=by
 obtain⟨gf,caps,items,hg,⟨hcl,hit⟩,hlen,I,h0,h1,h2⟩:=h
 have hgv:=hs.er.eval hs.rel g
 rw[hg]at hgv
 generalize hge:act.eval g=gv at hgv
 cases hgv with
 |fn _ _ lb hl hcv=>
 have hcaps:iL K caps lb.toList:=iL.of (by simpa using hl.symm) fun j hj=>by
  have:=hcv j hj
  simpa [Array.getD_eq_getD_getElem?,List.getD_eq_getElem?_getD] using this
 refine wpIn_rangeFunc ?_
 intro fn _
 obtain⟨L,hL⟩:∃ L,L=w.heap.size+1:=⟨_,rfl⟩
 obtain⟨M,hM⟩:∃ M,M=w.heap.size:=⟨_,rfl⟩
 obtain⟨rec,hrec⟩:∃ rec:LoopState ->Option Code ->Loop,rec=fun st pe=> {state:=st,pending:=pe,fn,tmps:=act.tmps,params:=ps,assign:=a,body:=b,defers:=M} :=⟨_,rfl⟩
 obtain⟨W1,hW1⟩:∃ W1,(w.alloc (.deferred (some []))).alloc (.loop (rec .ready none))=W1:=⟨_,rfl⟩
 have hML:M ≠ L:=by omega
 have hL1:W1.heap[L]? =some (.loop (rec .ready none)):=by
  rw[<- hW1,hL];have:=World.alloc_heap_new (w.alloc (.deferred (some []))) (.loop (rec .ready none));rwa [World.size_alloc]at this
 have hK1:W1.heap[M]? =some (.deferred (some [])):=by
  rw[<- hW1,hM];exact(Below.heap_alloc _ _ _ (by simp)).trans (World.alloc_heap_new w _)
 have hfM:=hs.rel.fresh (b:=M) (by omega)
 have hfL:=hs.rel.fresh (b:=L) (by omega)
 have hbs:=hs.rel.bs
 have hKM:∀ i,w.heap.size <=i ->K.obs i=none:=fun i hi=>by
  cases e:K.obs i with
  |none=>rfl
  |some o=>have:=(Array.getElem?_eq_some_iff.1 (hs.rel.below.d i o e).1).1;omega
 -- what is kept:the mark's block,the loop's record
 obtain⟨ob,hob⟩:∃ ob:Option Obj ->Nat ->Option Obj,ob=fun x i=>if i=L then x else if i=M then some (.deferred (some []))else K.obs i:=⟨_,rfl⟩
 have obL:∀ x,ob x L=x:=fun x=>by rw[hob];simp
 have obM:∀ x,ob x M=some (.deferred (some [])):=fun x=>by rw[hob];simp[hML]
 have obO:∀ x i,i ≠ L ->∀ y,ob x i=ob y i:=fun x i hi y=>by rw[hob];simp[hi]
 have obK:∀ x i o,K.obs i=some o ->ob x i=some o:=fun x i o hi=>by
  have h1:i ≠ L:=fun e=>by rw[e,hKM L (by omega)]at hi;cases hi
  have h2:i ≠ M:=fun e=>by rw[e,hKM M (by omega)]at hi;cases hi
  rw[hob];simp[h1,h2,hi]
 have hrel1:aZ G {K with obs:=ob (some (.loop (rec .ready none)))} σ W1:=by
  have k1:aZ G K σ W1:=by rw[<- hW1];exact(hs.rel.alloc _).alloc _
  have k2:=k1.addKept hK1 (fun _ _ _ h=>by cases h) (fun a n h=>by rw[hfM.2.2]at h;cases h) (by omega)
  have k3:=k2.addKept (D:=L) hL1 (fun _ _ _ h=>by cases h) (fun a n h=>by rw[hfL.2.2]at h;cases h) (by show K.base <=L;omega)
  have e:(fun i=>if i=L then some (Obj.loop (rec .ready none))else if i=M then some (Obj.deferred (some []))else K.obs i)=ob (some (.loop (rec .ready none))):=by rw[hob]
  rw[<- e];exact k3
 -- the state between rounds,and behind one that has left
 obtain⟨S,hS⟩:∃ S:LoopState ->Option Code ->AS ->aJ ->World ->Prop,S=fun st pe σ' K' W=>iI σ σ' /\ aZ G K' σ' W /\ K.ple K' /\ K'.obs=ob (some (.loop (rec st pe))):=⟨_,rfl⟩
 have turn:∀ {o:Obj} {st:LoopState} {pe:Option Code} {σ':AS} {K':aJ} {W:World},iI σ σ' ->aZ G K' σ' W ->K.ple K' -> (∀ i y,ob (some o) i=some y ->K'.obs i=some y) -> (aZ G {K' with obs:=ob (some (.loop (rec st pe)))} σ' (W.putObj L (.loop (rec st pe))) /\ K.ple {K' with obs:=ob (some (.loop (rec st pe)))}):=by
  intro o st pe σ' K' W ho hr hk hob2
  refine⟨?_,hk.trans (aJ.ple.obs K' _)⟩
  refine hr.reOb (D:=L) (hob2 L o (obL _)) (fun _ _ _ h=>by cases h) _ fun i x hi=> ?_
  by_cases e:i=L
  ·subst e;rw[obL]at hi;cases hi;exact .inl ⟨rfl,rfl⟩
  ·exact .inr ⟨e,hob2 i x (by rw[obO (some o) i e (some (.loop (rec st pe)))];exact hi)⟩
 refine⟨L,[mrk M],W1,{target:= .fn (.func gf) lb,args:= #[.func (.yield L) #[] #[]]},W1,gf,#[.func (.yield L) #[] #[]]++lb,W1,?_,?_,fun _ _=>trivial,?_,fun hx=> (by cases hx),?_⟩
 ·rw[<- hW1,hrec,hL,hM];exact run_enterLoop_outer _ _ _ _ _
 ·simp only[resolve,hge]
  simp[Deferred.ofValue,Act.eval]
 ·simp only[invoke]
  have:=wP hcl (#[.func (.yield L) #[] #[]]++lb) W1
  simp[this]
 have hround:=hit L (fun k W=>∃ σ' K',I k σ' /\ iI σ σ' /\ aZ G K' σ' W /\ K.ple K' /\ K'.obs=ob (some (.loop (rec .ready none))))
  (fun _ W=>∃ c σ' K',((c=Code.ret /\ Q .ret e σ') \/ ∃ i,c= .exit i /\ Q (.exit i) e σ') /\ iI σ σ' /\ aZ G K' σ' W /\ K.ple K' /\ K'.obs=ob (some (.loop (rec .done (some c)))))
  K W1 lb.toList hcaps ?_ ?_ ?_ ⟨σ,_,h0,iI.refl σ,hrel1,aJ.ple.obs K _,rfl⟩
 ·have e1:lb.toList.toArray=lb:=by simp
  rw[e1]at hround
  refine CallsIn.mono hround ?_
  rintro en W3 ⟨⟨v,rfl⟩,⟨σ',K',hI,ho,hr,hk,hoo⟩|⟨_,c,σ',K',hc,ho,hr,hk,hoo⟩⟩
  ·have hl3:=(hr.below.d L (.loop (rec .ready none)) (by rw[hoo];exact obL _)).1
   have he:=run_endLoop (P:=P) hl3 (by rw[hrec];simp)
   refine⟨_,_,he,?_⟩
   obtain⟨q1,q2⟩:=turn (o:= .loop (rec .ready none)) (st:= .exhausted) (pe:=none) ho hr hk (fun i y hy=>by rw[hoo];exact hy)
   have e2:({rec .ready none with state:= .exhausted} :Loop)=rec .exhausted none:=by rw[hrec]
   have hp:(rec .ready none).pending=none:=by rw[hrec]
   rw[e2,hp]
   refine⟨e,σ',_,h2 σ' hI ho,⟨fun t=> (hs.er t).pmono q2,q1,hs.size,hs.le.trans (q2.le (fun i y hy=>obK _ i y hy)),?_⟩,q2.le (fun i y hy=>obK _ i y hy)⟩
   obtain⟨l,m1,m2,m3⟩:=hs.defers
   refine⟨M::l,by simp[m1],List.nodup_cons.2 ⟨fun hm=> ?_,m2⟩,fun D hD=> ?_⟩
   ·have:=(m3 M hm).2;rw[hKM M (by omega)]at this;cases this
   ·rcases List.mem_cons.1 hD with rfl|hD
    ·refine⟨?_,obM _⟩
     cases hx:K0.obs D with
     |none=>rfl
     |some y=>have:=hs.le.obs _ _ hx;rw[hKM D (by omega)]at this;cases this
    ·exact⟨(m3 D hD).1,obK _ _ _ (m3 D hD).2⟩
  ·have hl3:=(hr.below.d L (.loop (rec .done (some c))) (by rw[hoo];exact obL _)).1
   have he:=run_endLoop (P:=P) hl3 (by rw[hrec];simp)
   refine⟨_,_,he,?_⟩
   obtain⟨q1,q2⟩:=turn (o:= .loop (rec .done (some c))) (st:= .exhausted) (pe:=some c) ho hr hk (fun i y hy=>by rw[hoo];exact hy)
   have e2:({rec .done (some c)with state:= .exhausted} :Loop)=rec .exhausted (some c):=by rw[hrec]
   have hp:(rec .done (some c)).pending=some c:=by rw[hrec]
   rw[e2,hp]
   have hm:yB K0 {K' with obs:=ob (some (.loop (rec .exhausted (some c))))} (mrk M::act.defers):=by
    obtain⟨l,m1,m2,m3⟩:=hs.defers
    refine⟨M::l,by simp[m1],List.nodup_cons.2 ⟨fun hm=> ?_,m2⟩,fun D hD=> ?_⟩
    ·have:=(m3 M hm).2;rw[hKM M (by omega)]at this;cases this
    ·rcases List.mem_cons.1 hD with rfl|hD
     ·refine⟨?_,obM _⟩
      cases hx:K0.obs D with
      |none=>rfl
      |some y=>have:=hs.le.obs _ _ hx;rw[hKM D (by omega)]at this;cases this
     ·exact⟨(m3 D hD).1,obK _ _ _ (m3 D hD).2⟩
   have hst:St P G {K' with obs:=ob (some (.loop (rec .exhausted (some c))))} N K0 e σ' {act with defers:=[mrk M]++act.defers} (W3.putObj L (.loop (rec .exhausted (some c)))):=
    ⟨fun t=> (hs.er t).pmono q2,q1,hs.size,hs.le.trans (q2.le (fun i y hy=>obK _ i y hy)),hm⟩
   have hle:=q2.le (fun i y hy=>obK _ i y hy)
   rcases hc with⟨rfl,hq⟩|⟨i,rfl,hq⟩
   ·exact wpIn_ret ⟨e,σ',_,hq,hst,hle⟩
   ·exact wpIn_exit ⟨e,σ',_,hq,hst,hle⟩
 ·rintro k W b' o v ⟨σ',K',hI,ho,hr,hk,hoo⟩ hv
  exact hr.imm _ _ _ (hk.imm _ _ _ hv)
 ·rintro k W ⟨σ',K',hI,ho,hr,hk,hoo⟩
  exact⟨σ',K',hI,ho,hr.drew,hk,hoo⟩
 ·rintro k hk W vs ⟨σ',K',hI,ho,hr,hkk,hoo⟩ hvs
  have hl3:=(hr.below.d L (.loop (rec .ready none)) (by rw[hoo];exact obL _)).1
  have hsz:vs.size=ps.size:=by
   have:=hvs.length
   have h3:=hlen _ (List.getElem_mem hk)
   simp at this;omega
  have hy:=run_yield (P:=P) (args:=vs) hl3 (by rw[hrec];exact hsz)
  refine⟨_,_,_,_,hy,?_⟩
  have hrt:(rec .ready none).tmps=act.tmps:=by rw[hrec]
  have hrp:(rec .ready none).params=ps:=by rw[hrec]
  have hra:(rec .ready none).assign=a:=by rw[hrec]
  have hrb:(rec .ready none).body=b:=by rw[hrec]
  rw[hrt,hrp,hra,hrb]
  have hpl:∀ t,t ∈ ps.toList ->t < act.tmps.size:=fun t ht=>Nat.lt_of_lt_of_le (by simpa using List.all_eq_true.1 hps t ht) hs.size
  have hzip:(ps.zip vs).foldl (fun(tmps:Array Value) (x:Tmp × Value)=>tmps.setIfInBounds x.1 x.2) act.tmps=(ps.toList.zip vs.toList).foldl (fun(t:Array Value) (x:Tmp × Value)=>t.setIfInBounds x.1 x.2) act.tmps:=by
   rw[<- Array.foldl_toList,Array.toList_zip]
  have hvs':iL K' items[k] vs.toList:=iL.of (hvs.length) fun j hj=> (hvs.get j hj).pmono hkk
  obtain⟨b1,b2⟩:=A4j (K:=K') ps.toList items[k] vs.toList e act.tmps [] hpl hvs' (fun t=> (hs.er t).pmono hkk)
  obtain⟨K00,hK00⟩:∃ K00,K00=({K' with obs:=fun _=>none} :aJ):=⟨_,rfl⟩
  have hle00:K00.le K':=by rw[hK00];exact⟨fun _ _ _ h=>h,fun _ _ h=>h,rfl,rfl,fun _ _ h=> (by cases h)⟩
  have hst1:St P G K' N K00 (uQ e ps.toList items[k]) σ' {tmps:=(ps.zip vs).foldl (fun(tmps:Array Value) (x:Tmp × Value)=>tmps.setIfInBounds x.1 x.2) act.tmps,defers:=[]} W:=
   ⟨by rw[hzip];exact b1,hr,by rw[hzip];show N <=_;rw[b2];exact hs.size,hle00,⟨[],rfl,List.nodup_nil,fun D hD=>by cases hD⟩⟩
  refine roundIn_of_wpIn trivial ?_
  refine wpIn_mono (iha L _ _ _ K00 K' _ W (h1 k hk σ' hI ho) hst1) ?_
  rintro x a1 w1 ⟨e1,σ1,K1',hq,hs1,hk1⟩
  cases x <;>first|exact hq.elim|skip
  have hl4:=(hs1.rel.below.d L (.loop (rec .ready none)) (hk1.obs _ _ (by rw[hoo];exact obL _))).1
  refine⟨_,run_beginRound hl4 (by rw[hrec]),?_⟩
  have e2:({rec .ready none with state:= .busy} :Loop)=rec .busy none:=by rw[hrec]
  rw[e2]
  obtain⟨K2,hK2⟩:∃ K2,K2=({K1' with obs:=fun i=>if i=L then some (.loop (rec .busy none))else K1'.obs i} :aJ):=⟨_,rfl⟩
  have hr2:aZ G K2 σ1 (w1.putObj L (.loop (rec .busy none))):=by
   rw[hK2]
   refine hs1.rel.reOb (D:=L) (hk1.obs _ _ (by rw[hoo];exact obL _)) (fun _ _ _ h=>by cases h) _ fun i y hi=> ?_
   split at hi
   ·rename_i e;cases hi;exact .inl ⟨e,rfl⟩
   ·rename_i e;exact .inr ⟨e,hi⟩
  have pk2:K1'.ple K2:=by rw[hK2];exact aJ.ple.obs K1' _
  have hK2o:∀ i,K2.obs i=if i=L then some (.loop (rec .busy none))else K1'.obs i:=fun i=>by rw[hK2]
  have hst2:St P G K2 N K00 e1 σ1 a1 (w1.putObj L (.loop (rec .busy none))):=by
   refine⟨fun t=> (hs1.er t).pmono pk2,hr2,hs1.size,(hs1.le.p.trans pk2).le (fun i y hy=>by rw[hK00]at hy;cases hy),?_⟩
   obtain⟨l,m1,m2,m3⟩:=hs1.defers
   refine⟨l,m1,m2,fun D hD=> ⟨(m3 D hD).1,?_⟩⟩
   rw[hK2o,if_neg]
   ·exact(m3 D hD).2
   ·intro e
    have h5:=(m3 D hD).2
    rw[e,hk1.obs _ _ (by rw[hoo];exact obL _)]at h5
    cases h5
  refine wpIn_mono (ihb L _ _ _ K00 K2 _ _ hq hst2) ?_
  rintro x a2 w2 ⟨e2,σ2,K3,hq2,hs2,hk3⟩
  have hl5:=(hs2.rel.below.d L (.loop (rec .busy none)) (hk3.obs _ _ (by rw[hK2o,if_pos rfl]))).1
  have hpk:K.ple K3:=((hkk.trans hk1.p).trans pk2).trans hk3.p
  have hoo3:∀ i y,ob (some (.loop (rec .busy none))) i=some y ->K3.obs i=some y:=fun i y hy=>hk3.obs _ _ (by
   rw[hK2o]
   by_cases e:i=L
   ·rw[e,obL]at hy;rw[if_pos e];exact hy
   ·rw[if_neg e];exact hk1.obs _ _ (by rw[hoo,obO _ i e (some (.loop (rec .busy none)))];exact hy))
  have e3:∀ jump:Option Code,({rec .busy none with state:=if jump.isNone then .ready else .done,pending:=jump} :Loop)=rec (if jump.isNone then .ready else .done) jump:=fun jump=>by rw[hrec]
  cases x <;>first|exact hq2.elim|skip
  ·refine⟨_,_,run_endRound none hl5, .inl ⟨rfl,?_⟩⟩
   rw[e3]
   obtain⟨q1,q2⟩:=turn (st:= .ready) (pe:=none) hq2.1 hs2.rel hpk hoo3
   exact⟨σ2,_,hq2.2,hq2.1,q1,q2,rfl⟩
  ·rename_i i
   refine⟨_,_,run_endRound (some (.exit i)) hl5, .inr ⟨rfl,?_⟩⟩
   rw[e3]
   obtain⟨q1,q2⟩:=turn (st:= .done) (pe:=some (.exit i)) hq2.1 hs2.rel hpk hoo3
   exact⟨.exit i,σ2,_, .inr ⟨i,rfl,hq2.2⟩,hq2.1,q1,q2,rfl⟩
  ·refine⟨_,_,run_endRound (some .ret) hl5, .inr ⟨rfl,?_⟩⟩
   rw[e3]
   obtain⟨q1,q2⟩:=turn (st:= .done) (pe:=some .ret) hq2.1 hs2.rel hpk hoo3
   exact⟨.ret,σ2,_, .inl ⟨rfl,hq2.2⟩,hq2.1,q1,q2,rfl⟩
theorem A6c(hm:P.follows .mixedOrders=true)(hD:rD P G D)(N:Nat)(r:Option Nat):∀ (c:Code) (Q:Exit ->aK ->AS ->Prop) (e:aK) (σ:AS) (K0 K:aJ) (a:Act) (w:World),(r=none \/ nJ c=true) ->cOK N c=true ->kQ P G D c Q e σ ->St P G K N K0 e σ a w ->
  c.wpIn (Fr r) 5 P (fun x a' w'=>∃ e' σ' K',Q x e' σ' /\ St P G K' N K0 e' σ' a' w' /\ K.le K') a w:=by
 intro c
 induction c generalizing r with
 |skip=>intro Q e σ K0 K a w _ _ h hs;exact wpIn_skip ⟨e,σ,K,h,hs,aJ.le.refl K⟩
 |label l=>intro Q e σ K0 K a w _ _ h hs;exact wpIn_label ⟨e,σ,K,h,hs,aJ.le.refl K⟩
 | region id ops d=>
  intro Q e σ K0 K a w _ hok h hs
  simp only[cOK,Bool.and_eq_true]at hok
  obtain⟨R,hR⟩:∃ R:Act ->World ->Prop,R=fun a' w'=>∃ e' σ' K',Q .normal e' σ' /\ St P G K' N K0 e' σ' a' w' /\ K.le K':=⟨_,rfl⟩
  have out:∀ x a' w',dZ R x a' w' ->∃ e' σ' K',Q x e' σ' /\ St P G K' N K0 e' σ' a' w' /\ K.le K':=fun x a' w' hx=>by obtain⟨rfl,h⟩:=hx;rw[hR]at h;exact h
  cases d with
  | false=>
   refine wpIn_mono (wpIn_region_list (xL ops.toList a w hok.2 ?_)) out
   exact dV (K0:=K) (fun e' σ' K' a' w' hq hs' hk=> ⟨rfl,by rw[hR];exact⟨e',σ',K',hq,hs',hk⟩⟩) ops.toList e σ K a w hok.1 h hs (aJ.le.refl K)
  | true=>
   refine wpIn_mono (wpIn_region_any hm (wC hok.2 _ _ _ _ ?_)) out
   exact hD.sound N K0 id ops _ _ e σ K a w hok.1 h hs (fun e' σ' K' a' w' hq hs' hk=>by rw[hR];exact⟨e',σ',K',hq,hs',hk⟩)
 | seq x y ihx ihy=>
  intro Q e σ K0 K a w hr hok h hs
  simp only[cOK,Bool.and_eq_true]at hok
  have hr':(r=none \/ nJ x=true) /\ (r=none \/ nJ y=true):=by
   rcases hr with hr|hr
   ·exact⟨.inl hr, .inl hr⟩
   ·simp only[nJ,Bool.and_eq_true]at hr;exact⟨.inr hr.1, .inr hr.2⟩
  refine wpIn_seq (wpIn_mono (ihx r _ e σ K0 K a w hr'.1 hok.1 h hs) ?_)
  intro ex a' w' ⟨e',σ',K',hq,hs',hk⟩
  cases ex with
  | normal=>
   refine wpIn_mono (ihy r Q e' σ' K0 K' a' w' hr'.2 hok.2 hq hs') ?_
   intro ex2 a2 w2 ⟨e2,σ2,K2,hq2,hs2,hk2⟩
   exact⟨e2,σ2,K2,hq2,hs2,hk.trans hk2⟩
  |_=>exact⟨e',σ',K',hq,hs',hk⟩
 | cond c x y ihx ihy=>
  intro Q e σ K0 K a w hr hok h hs
  simp only[cOK,Bool.and_eq_true]at hok
  have hr':(r=none \/ nJ x=true) /\ (r=none \/ nJ y=true):=by
   rcases hr with hr|hr
   ·exact⟨.inl hr, .inl hr⟩
   ·simp only[nJ,Bool.and_eq_true]at hr;exact⟨.inr hr.1, .inr hr.2⟩
  obtain⟨t,ht,h1,h2⟩:=h
  have hc:=hs.er.eval hs.rel c
  rw[ht,VR.bool_iff]at hc
  cases t with
  |true=>exact wpIn_cond_true hc (ihx r Q e σ K0 K a w hr'.1 hok.1 (h1 rfl) hs)
  |false=>exact wpIn_cond_false hc (ihy r Q e σ K0 K a w hr'.2 hok.2 (h2 rfl) hs)
 | block id c ih=>
  intro Q e σ K0 K a w hr hok h hs
  refine wpIn_block (wpIn_mono (ih r _ e σ K0 K a w hr hok h hs) ?_)
  intro ex a' w' ⟨e',σ',K',hq,hs',hk⟩
  cases ex <;>first|exact⟨e',σ',K',hq,hs',hk⟩|skip
  rename_i i
  simp only[Exit.inBlock]at hq ⊢
  split at hq
  ·rename_i hi;rw[if_pos hi];exact⟨e',σ',K',hq,hs',hk⟩
  ·rename_i hi;rw[if_neg hi];exact⟨e',σ',K',hq,hs',hk⟩
 | loop c ih=>
  intro Q e σ K0 K a w hr hok h hs
  obtain⟨I,⟨n0,h0⟩,h1⟩:=h
  refine A4h (fun n a' w'=>∃ e' σ' K',I n e' σ' /\ St P G K' N K0 e' σ' a' w' /\ K.le K' /\ ∀ t,t ∉ bO c ->e' t=e t) n0 ⟨e,σ,K,h0,hs,aJ.le.refl K,fun _ _=>rfl⟩ ?_
  intro n a' w' ⟨e',σ',K',hI,hs',hk,hw⟩
  have hmr:mrg (bO c) e' e=e':=by
   funext t
   unfold mrg
   split
   ·rfl
   ·rename_i ht;exact(hw t (by simpa using ht)).symm
  have h2:=h1 n e' σ' (by rw[hmr];exact hI)
  rw[hmr]at h2
  refine wpIn_mono (ih r _ e' σ' K0 K' a' w' hr hok (A6b hD c _ _ h2) hs') ?_
  intro ex a2 w2 ⟨e2,σ2,K2,⟨hq,hw2⟩,hs2,hk2⟩
  cases ex with
  | normal=>
   obtain⟨m,hm,hIm⟩:=hq
   exact⟨m,hm,e2,σ2,K2,hIm,hs2,hk.trans hk2,fun t ht=> (hw2 t ht).trans (hw t ht)⟩
  |_=>exact⟨e2,σ2,K2,hq,hs2,hk.trans hk2⟩
 |exit id=>intro Q e σ K0 K a w _ _ h hs;exact wpIn_exit ⟨e,σ,K,h,hs,aJ.le.refl K⟩
 |ret=>intro Q e σ K0 K a w _ _ h hs;exact wpIn_ret ⟨e,σ,K,h,hs,aJ.le.refl K⟩
 | rangeFunc f ps a b iha ihb=>
  intro Q e σ K0 K act w hr hok h hs
  rcases hr with rfl|hr
  ·simp only[cOK,Bool.and_eq_true]at hok
   obtain⟨⟨⟨⟨k1,k2⟩,k3⟩,k4⟩,k5⟩:=hok
   exact qU k1 (fun l Q e σ K0 K act w h hs=>A1c (iha (some l) Q e σ K0 K act w (.inr k4) k2 h hs)) (fun l Q e σ K0 K act w h hs=>A1c (ihb (some l) Q e σ K0 K act w (.inr k5) k3 h hs)) h hs
  ·cases hr
 |scope c _=>intro Q e σ K0 K a w _ _ h hs;exact h.elim
 |goto l=>intro Q e σ K0 K a w _ _ h hs;exact h.elim
 |refuse w=>intro Q e σ K0 K a w _ _ h hs;exact h.elim
end
end Go.Av
