/- Functions: from what is shown of the body to what is said of a call; and the rules by which what is to be shown is worked out. -/
import Derived.Test.YtinfbihcnonaoaaZ05
import Derived.Laws.ResultCell
set_option linter.unusedVariables false
set_option linter.unusedSimpArgs false
namespace Go.Av
open Go Go.RowKit
def uN(P:Program)(e:aK)(σ:AS):ResultVar ->Option AV
 | .tmp t=>some (e t)
 | .cell a t=>fR P σ t (e a)
def kO(P:Program)(e:aK)(σ:AS):List ResultVar ->Option (List AV)
 |[]=>some []
 | r::rs=>match uN P e σ r,kO P e σ rs with
  |some x,some xs=>some (x::xs)
  |_,_=>none
def tS:List AV ->AV
 |[r]=>r
 |rs=> .tup rs
def B1f(P:Program)(rs:List ResultVar)(Q:AV ->AS ->Prop):Exit ->aK ->AS ->Prop:=fun x e σ=>
 match x with
 | .normal=>∃ l σ',kO P e σ rs=some l /\ σ'.le σ /\ Q (tS l) σ'
 | .ret=>∃ l σ',kO P e σ rs=some l /\ σ'.le σ /\ Q (tS l) σ'
 |_=>False
def sA(args:List AV):aK:=fun j=>args.getD j .undef
theorem B3o{P:Program}{G:Nat ->AV}{K:aJ}{σ:AS}{w:World}(hr:aZ G K σ w){t:TypeId}{p r:AV}(h:fR P σ t p=some r){v:Value}(hv:VR K p v):
  ∃ u,(do loadVar t (<- asAddr v):Sem Value).run P w= .ok u w /\ VR K r u:=by
 obtain⟨u,hu,hru⟩:=qA hr h hv
 refine⟨u,?_,hru⟩
 unfold fR at h
 split at h
 ·cases h
 cases p <;>simp only at h <;>first|cases h|skip
 ·rw[VR.ptr_iff]at hv;subst hv
  simpa [Instr.loadAt,Instr.sureAddr,asAddr] using hu
 ·cases hv
  simpa [Instr.loadAt,Instr.sureAddr,asAddr] using hu
theorem rZ{P:Program}{G:Nat ->AV}{K:aJ}{N:Nat}{ds:aJ}{e:aK}{σ:AS}{a:Act}{w:World}(hs:St P G K N ds e σ a w):∀ (rs:List ResultVar) (l:List AV),kO P e σ rs=some l ->
  ∃ vs,(rs.mapM fun r=> (match r with| .tmp t=>pure (a.tmps.getD t Go.undef)| .cell b t=>do loadVar t (<- asAddr (a.tmps.getD b Go.undef)):Sem Value)).run P w= .ok vs w /\ iL K l vs
 |[],l,h=>by simp only[kO,Option.some.injEq]at h;subst h;exact⟨[],by simp,trivial⟩
 | r::rs,l,h=>by
  unfold kO at h
  split at h
  case h_2=>cases h
  rename_i x xs hx hxs
  simp only[Option.some.injEq]at h;subst h
  obtain⟨vs,h1,h2⟩:=rZ hs rs xs hxs
  cases r with
  | tmp t=>
   simp only[uN,Option.some.injEq]at hx;subst hx
   exact⟨a.tmps.getD t Go.undef::vs,by simp only[List.mapM_cons,Sem.run_bind,Sem.run_pure,Result.andThen_ok,h1],hs.er t,h2⟩
  | cell b t=>
   obtain⟨u,h3,h4⟩:=B3o hs.rel (p:=e b) hx (hs.er b)
   exact⟨u::vs,by simp only[List.mapM_cons,Sem.run_bind (x:=do loadVar t (<- asAddr (a.tmps.getD b Go.undef))),h3,Sem.run_bind,Sem.run_pure,Result.andThen_ok,h1],h4,h2⟩
theorem uH{P:Program}{G:Nat ->AV}{K:aJ}{N:Nat}{ds:aJ}{e:aK}{σ:AS}{a:Act}{w:World}(hs:St P G K N ds e σ a w){fn:Func}{l:List AV}(h:kO P e σ fn.results.toList=some l):
  ∃ v,(results fn a.tmps).run P w= .ok v w /\ VR K (tS l) v:=by
 obtain⟨vs,h1,h2⟩:=rZ hs _ l h
 have hm:(fn.results.mapM fun r=> (match r with| .tmp t=>pure (a.tmps.getD t Go.undef)| .cell b t=>do loadVar t (<- asAddr (a.tmps.getD b Go.undef)):Sem Value)).run P w= .ok vs.toArray w:=by
  rw[Array.mapM_eq_mapM_toList]
  simp only[Sem.run_map,h1]
  rfl
 have hl:=h2.length
 refine⟨if h:vs.toArray.size=1 then vs.toArray[0]else .tuple vs.toArray,?_,?_⟩
 ·unfold results
  simp only[Sem.run_bind,Sem.run_pure]
  exact(congrArg (fun r=>Result.andThen r fun(a:Array Value) w'=>Result.ok (if h:a.size=1 then a[0]else Value.tuple a) w') hm)
 ·match l,vs,h2,hl with
  |[],[],_,_=>exact .tup [] #[] rfl (fun j hj=>by cases hj)
  |[x],[v],hh,_=>exact hh.1
  | x::y::l',v::u::vs',hh,_=>
   have e1: ¬ ((v::u::vs').toArray.size=1):=by simp
   rw[dif_neg e1]
   refine .tup _ _ (by have:=hh.length;simp only[List.size_toArray];omega) (fun j hj=> ?_)
   have:=hh.get j hj
   simpa [Array.getD_eq_getD_getElem?,List.getD_eq_getElem?_getD] using this
theorem iL.env{K:aJ}{l:List AV}{vs:List Value}(h:iL K l vs)(n:Nat):ER K (sA l) {tmps:=vs.toArray++Array.replicate n Go.undef,defers:=[]} :=by
 intro t
 have hl:=h.length
 unfold sA
 by_cases ht:t < l.length
 ·have h1:=h.get t ht
  have e1:l.getD t .undef=l[t]:=by simp[ht]
  have ht2:t < vs.length:=by omega
  rw[e1]
  have e2:(vs.toArray++Array.replicate n Go.undef).getD t Go.undef=vs.getD t Go.undef:=by
   simp only[Array.getD_eq_getD_getElem?,List.getD_eq_getElem?_getD]
   rw[Array.getElem?_append_left (by simpa using ht2)]
   simp
  rw[e2]
  exact h1
 ·have e1:l.getD t .undef= .undef:=by simp[List.getElem?_eq_none (Nat.le_of_not_lt ht)]
  rw[e1]
  exact .undef _
theorem oL{P:Program}{G:Nat ->AV}{K0:aJ}{fn:Func}{e:aK}{σ:AS}{a:Act}{R:Ending ->World ->Prop} :∀ (L:List Nat) (K:aJ) (w:World),ER K e a ->aZ G K σ w ->K0.le K ->L.Nodup -> (∀ D,D ∈ L ->K0.obs D=none /\ K.obs D=some (.deferred (some []))) ->
  (∀ K w,ER K e a ->aZ G K σ w ->K0.le K ->∃ v,(results fn a.tmps).run P w= .ok v w /\ R (.returned v) w) ->LeavesInM Fence.wide 5 P fn a.tmps R (L.map mrk) .returning w
 | [],K,w,he,hr,hk,_,_,h=>by
  obtain⟨v,h1,h2⟩:=h K w he hr hk
  exact⟨v,h1,h2⟩
 | D::L,K,w,he,hr,hk,hn,hD,h=>by
  have hd:=hD D (by simp)
  have pk:=aJ.ple.obs K (fun i=>if i=D then none else K.obs i)
  refine⟨by simp, .inl ⟨D,_,rfl,run_takeDeferred (hr.below.d D _ hd.2).1,oL L _ _ (fun t=> (he t).pmono pk) (hr.reOb hd.2 (fun _ _ _ h=>by cases h) (fun i=>if i=D then none else K.obs i) fun b x hx=> ?_) ((hk.p.trans pk).le fun b o hb=> ?_) (List.nodup_cons.1 hn).2 (fun D' hD'=> ⟨(hD D' (by simp[hD'])).1,?_⟩) h⟩⟩
  ·split at hx
   ·cases hx
   ·rename_i hb;exact .inr ⟨hb,hx⟩
  ·show(if b=D then none else K.obs b)=some o
   rw[if_neg]
   ·exact hk.obs _ _ hb
   ·rintro rfl;rw[hd.1]at hb;cases hb
  ·show(if D'=D then none else K.obs D')=_
   rw[if_neg]
   ·exact(hD D' (by simp[hD'])).2
   ·rintro rfl;exact(List.nodup_cons.1 hn).1 hD'
theorem aH.of_awp {P:Program} {G:Nat ->AV} (hm:P.follows .mixedOrders=true) {f:FuncId} {fn:Func} {c:Code} (hf:P.funcs[f]? =some fn) (hb:fn.body=some c) (hcl:iP P f=true) (hok:cOK fn.ntmps c=true)
  {args:List AV} (hlen:args.length <=fn.ntmps) {σ:AS} {Q:AV ->AS ->Prop} {rs:Array ResultVar} (hrs:fn.results=rs) (h:kQ P G (eM P G) c (B1f P rs.toList Q) (sA args) σ):aH P G f args σ Q:=by
 subst hrs
 refine⟨hcl,fun K w vals hr hv=> (callsIn_wide (n:=5)).1 (callsIn_of_wp_marks hf hb trivial ?_ rfl)⟩
 have hl:=hv.length
 have hs:St P G K fn.ntmps K (sA args) σ {tmps:=vals.toArray++Array.replicate (fn.ntmps - vals.toArray.size) Go.undef,defers:=[]} w:=
  ⟨hv.env _,hr,by simp;omega,aJ.le.refl K,⟨[],rfl,List.nodup_nil,fun D hD=>by cases hD⟩⟩
 refine wpIn_mono (A6c hm (B0v hm) fn.ntmps none c _ _ σ K K _ w (.inl rfl) hok h hs) ?_
 intro x a' w' ⟨e',σ',K',hq,hs',hk⟩
 have key:(∃ l σ'',kO P e' σ' fn.results.toList=some l /\ σ''.le σ' /\ Q (tS l) σ'') ->LeavesInM Fence.wide 5 P fn a'.tmps (fun en w'=>∃ v r σ' K',en= .returned v /\ Q r σ' /\ VR K' r v /\ aZ G K' σ' w' /\ K.le K') a'.defers .returning w':=by
  rintro⟨l,σ'',h1,h2,h3⟩
  obtain⟨L,m1,m2,m3⟩:=hs'.defers
  rw[m1]
  refine oL (K0:=K) (e:=e') (σ:=σ') L K' w' hs'.er hs'.rel hk m2 m3 fun K2 w2 q1 q2 q3=> ?_
  obtain⟨v,h4,h5⟩:=uH (⟨q1,q2,hs'.size,aJ.le.refl K2,⟨[],rfl,List.nodup_nil,fun D hD=>by cases hD⟩⟩:St P G K2 fn.ntmps K2 e' σ' {tmps:=a'.tmps,defers:=[]} w2) h1
  exact⟨v,h4,v,tS l,σ'',K2,rfl,h3,h5,q2.weaken h2,q3⟩
 unfold B1f at hq
 cases x <;>first|exact hq.elim|exact key hq
structure Dum.{u}{α:Sort u}(a:α):Type where
def bo{α:Type}(x:Option α)(K:α ->Prop)(_:Dum K):Prop:=∃ r,x=some r /\ K r
def st(x:AV)(K:AV ->Prop)(_:Dum K):Prop:=K x
def slX(P:Program)(t:TypeId)(x:AV)(lo hi:Option AV)(mx:AV)(K:AV ->Prop)(_:Dum K):Prop:=∃ r,oA P t x lo hi mx=some r /\ K r
def slW(P:Program)(σ:AS)(t:TypeId)(x:AV)(lo hi:Option AV)(K:AV ->Prop)(_:Dum σ)(_:Dum K):Prop:=∃ r,fS P σ t x lo hi=some r /\ K r
def bmW(m:Bool)(P:Program)(σ:AS)(t:TypeId)(n:Nat)(ps:List (Nat × AV))(K:AV ->AS ->Prop)(_:Dum σ)(_:Dum K):Prop:=(∃ r,dG P t n ps=some r /\ K r σ) \/ (m=true /\ nW P σ t n ps K)
def cvW(P:Program)(σ:AS)(s t:TypeId)(x:AV)(K:AV ->AS ->Prop)(_:Dum σ)(_:Dum K):Prop:=(∃ r,cX P σ s t x=some r /\ K r σ) \/ vR P σ s t x K \/ A1j P σ s t x K
def cvT(t:Option TypeId)(P:Program)(σ:AS)(s d:TypeId)(l:List UInt8)(K:AV ->AS ->Prop)(_:Dum σ)(_:Dum K):Prop:=match t with
 |none=>∃ r,cX P σ s d (.str l)=some r /\ K r σ
 |some _=> (∃ r,cX P σ s d (.str l)=some r /\ K r σ) \/ vR P σ s d (.str l) K
def jY(v:AV)(A B:Prop)(_:Dum A)(_:Dum B):Prop:=∃ t,v= .bool t /\ (t=true ->A) /\ (t=false ->B)
def gW(v:Option Bool)(A B:Prop)(_:Dum A)(_:Dum B):Prop:=∃ b,v=some b /\ (b=true ->A) /\ (b=false ->B)
def qI(v:AV)(a b:AV)(K:AV ->Prop)(_:Dum a)(_:Dum b)(_:Dum K):Prop:=∃ t,v= .bool t /\ K (if t=true then a else b)
def B9o(σ:AS)(z:List AV)(K:AV ->AS ->Prop)(_:Dum σ)(_:Dum K):Prop:=∀ b,σ.fresh b ->K (.ptr b 0) (σ.setBox b z)
def C9b(σ:AS)(E:TypeId)(z:List AV)(K:AV ->AS ->Prop)(_:Dum σ)(_:Dum K):Prop:=(∀ b,σ.fresh b ->K (.ptr b 0) (σ.setBox b z)) \/ (∀ b,σ.fresh b ->K (.ptr b 0) ((σ.setBox b z).setTy b (E,z.length)))
def C2u(σ:AS)(x:AV)(K:AV ->AS ->Prop)(_:Dum σ)(_:Dum K):Prop:=isv x=true /\ B9o σ (flat x) K ⟨⟩ ⟨⟩
def zW(x:AV)(K:AV ->Prop)(_:Dum K):Prop:=(match x with| .ptr .. =>True| .rp .. =>True| .fn .. =>True|_=>False) /\ K x
def zB(P:Program)(G:Nat ->AV)(f:AV)(args:List AV)(σ:AS)(K:AV ->AS ->Prop)(_:Dum σ)(_:Dum K):Prop:=
 match f with
 | .fn k caps=>aH P G k (args++caps) σ K
 | .raw v=>∃ k b o,v= .func (.func k) #[.pointer (some ⟨b,o,none⟩)] #[] /\ aH P G k (.ptr b o::args) σ K
 |_=>False
def C5e(f:FuncId)(x:AV)(K:AV ->Prop)(_:Dum K):Prop:=∃ b o,x= .ptr b o /\ K (mfn f b o)
def A8n(P:Program)(G:Nat ->AV)(k:FuncId)(args:List AV)(σ:AS)(K:AV ->AS ->Prop)(_:Dum σ)(_:Dum K):Prop:=aH P G k args σ K
def A1x(P:Program)(σ:AS)(t tx:TypeId)(s x:AV)(K:AV ->AS ->Prop)(_:Dum σ)(_:Dum K):Prop:=gK P σ t tx s x K \/ lL P σ t tx s x K
def C8x(P:Program)(σ:AS)(t:TypeId)(l c:AV)(K:AV ->AS ->Prop)(_:Dum σ)(_:Dum K):Prop:=yS P σ t l c K \/ rQ P σ t l c K \/ rS P σ t l c K
def B6b(P:Program)(σ:AS)(pt:TypeId)(x n:AV)(K:AV ->AS ->Prop)(_:Dum σ)(_:Dum K):Prop:=qB P σ pt x n K
def rfW(P:Program)(G:Nat ->AV)(g:AV)(ps:List Tmp)(a b:Code)(Q:Exit ->aK ->AS ->Prop)(e:aK)(σ:AS)(_:Dum a)(_:Dum b)(_:Dum Q)(_:Dum e)(_:Dum σ):Prop:=
 ∃ gf caps items,g= .fn gf caps /\ C2n P gf caps items /\ (∀ x,x ∈ items ->x.length=ps.length) /\ ∃ I:Nat ->AS ->Prop,I 0 σ /\
   (∀ k (h:k < items.length) σ',I k σ' ->iI σ σ' ->kQ P G (eM P G) a (fun x e1 σ1=>match x with
     | .normal=>kQ P G (eM P G) b (fun x e2 σ2=>match x with| .normal=>iI σ σ2 /\ I (k+1) σ2| .ret=>iI σ σ2 /\ Q .ret e σ2| .exit i=>iI σ σ2 /\ Q (.exit i) e σ2|_=>False) e1 σ1
     |_=>False) (uQ e ps items[k]) σ') /\
   ∀ σ',I items.length σ' ->iI σ σ' ->Q .normal e σ'
def B3p(P:Program)(G:Nat ->AV)(c:Code)(Q:Exit ->aK ->AS ->Prop)(e:aK)(σ:AS)(_:Dum c)(_:Dum Q)(_:Dum e)(_:Dum σ):Prop:=kQ P G (eM P G) (.loop c) Q e σ
def uT(P:Program)(G:Nat ->AV)(ops:Array Oper)(Q:aK ->AS ->Prop)(e:aK)(σ:AS)(_:Dum ops)(_:Dum Q)(_:Dum e)(_:Dum σ):Prop:=eM P G ops Q e σ
def jK(l:Option (List AV))(σ:AS)(Q:AV ->AS ->Prop)(_:Dum σ)(_:Dum Q):Prop:=∃ r σ',l=some r /\ σ'.le σ /\ Q (tS r) σ'
def wX(P:Program)(G:Nat ->AV)(f:AV)(args:List AV)(σ0:AS)(K:AV ->Prop)(_:Dum σ0)(_:Dum K):Prop:=
 match f with
 | .fn k caps=>∃ v,bB P G k (args++caps) σ0 v /\ K v
 |_=>False
theorem nr{p:Prop}(h:p):p:=h
section rules
variable {P:Program} {G:Nat ->AV} {Q:Exit ->aK ->AS ->Prop} {e:aK} {σ σ0:AS} {ops rest:List Oper} {R:aK ->AS ->Prop} {K:AV ->AS ->Prop}
theorem C6o:kQ P G (eM P G) .skip Q e σ=Q .normal e σ:=nr rfl
theorem B6c{id:Nat}{l:List Oper} :kQ P G (eM P G) (.region id l.toArray false) Q e σ=cI P G l (Q .normal) l e σ:=nr rfl
theorem C6l{id:Nat}{l:Array Oper} :kQ P G (eM P G) (.region id l true) Q e σ=uT P G l (Q .normal) e σ ⟨⟩ ⟨⟩ ⟨⟩ ⟨⟩:=nr rfl
theorem D0h{a b:Code} :kQ P G (eM P G) (.seq a b) Q e σ=kQ P G (eM P G) a (fun x e σ=>match x with| .normal=>kQ P G (eM P G) b Q e σ|x=>Q x e σ) e σ:=nr rfl
theorem C6j{c:Operand}{a b:Code} :kQ P G (eM P G) (.cond c a b) Q e σ=jY (ev G e c) (kQ P G (eM P G) a Q e σ) (kQ P G (eM P G) b Q e σ) ⟨⟩ ⟨⟩:=nr rfl
theorem C1n{id:Nat}{c:Code} :kQ P G (eM P G) (.block id c) Q e σ=kQ P G (eM P G) c (fun x e σ=>match x with| .exit i=>if i=id then Q .normal e σ else Q (.exit i) e σ|x=>Q x e σ) e σ:=nr rfl
theorem C6n{c:Code} :kQ P G (eM P G) (.loop c) Q e σ=B3p P G c Q e σ ⟨⟩ ⟨⟩ ⟨⟩ ⟨⟩:=nr rfl
theorem A1a{g:Operand}{ps:Array Tmp}{a b:Code} :kQ P G (eM P G) (.rangeFunc g ps a b) Q e σ=rfW P G (ev G e g) ps.toList a b Q e σ ⟨⟩ ⟨⟩ ⟨⟩ ⟨⟩ ⟨⟩:=nr rfl
theorem C6m{id:Nat} :kQ P G (eM P G) (.exit id) Q e σ=Q (.exit id) e σ:=nr rfl
theorem D0g:kQ P G (eM P G) .ret Q e σ=Q .ret e σ:=nr rfl
theorem D0f:cI P G ops R [] e σ=R e σ:=nr rfl
theorem C6k{o:Oper} :cI P G ops R (o::rest) e σ=gW (bZ ops e o.guard) (dJ P G o e σ fun r σ'=>cI P G ops R rest (e.upd o.dst r) σ') (cI P G ops R rest (e.upd o.dst (.tup [])) σ) ⟨⟩ ⟨⟩:=nr rfl
theorem C7w{L:aK ->AS ->Prop} :iE P G ops σ0 L [] e σ=L e σ:=nr rfl
theorem C3j{L:aK ->AS ->Prop}{o:Oper} :iE P G ops σ0 L (o::rest) e σ=gW (bZ ops e o.guard) (hop P G o e σ0 σ fun r σ'=>iE P G ops σ0 L rest (e.upd o.dst r) σ') (iE P G ops σ0 L rest (e.upd o.dst (.tup [])) σ) ⟨⟩ ⟨⟩:=nr rfl
variable {d:Option Tmp} {ty:TypeId} {pos:String} {af:Array Edge} {g:Option (Nat × Bool)}
theorem C5j{x:Operand} :dJ P G ⟨d, .move x,ty,pos,af,g⟩ e σ K=st (ev G e x) (fun r=>K r σ) ⟨⟩:=nr rfl
theorem C3l{x:Operand} :hop P G ⟨d, .move x,ty,pos,af,g⟩ e σ0 σ K=st (ev G e x) (fun r=>K r σ) ⟨⟩:=nr rfl
theorem B4c{x:Operand} :dJ P G ⟨d, .assign x,ty,pos,af,g⟩ e σ K=st (ev G e x) (fun r=>K r σ) ⟨⟩:=nr rfl
theorem B1z{x:Operand} :hop P G ⟨d, .assign x,ty,pos,af,g⟩ e σ0 σ K=st (ev G e x) (fun r=>K r σ) ⟨⟩:=nr rfl
theorem C5l{c x y:Operand} :dJ P G ⟨d, .pick c x y,ty,pos,af,g⟩ e σ K=qI (ev G e c) (ev G e x) (ev G e y) (fun r=>K r σ) ⟨⟩ ⟨⟩ ⟨⟩:=nr rfl
theorem C3m{c x y:Operand} :hop P G ⟨d, .pick c x y,ty,pos,af,g⟩ e σ0 σ K=qI (ev G e c) (ev G e x) (ev G e y) (fun r=>K r σ) ⟨⟩ ⟨⟩ ⟨⟩:=nr rfl
theorem B9u{E:TypeId} :dJ P G ⟨d, .alloc E,ty,pos,af,g⟩ e σ K=bo (zc P E) (fun z=>C9b σ E z K ⟨⟩ ⟨⟩) ⟨⟩:=nr rfl
theorem B8a{E:TypeId} :hop P G ⟨d, .alloc E,ty,pos,af,g⟩ e σ0 σ K=bo (zc P E) (fun z=>B9o σ z K ⟨⟩ ⟨⟩) ⟨⟩:=nr rfl
theorem C9e{E:TypeId}{x:Operand} :dJ P G ⟨d, .box E x,ty,pos,af,g⟩ e σ K=C2u σ (ev G e x) K ⟨⟩ ⟨⟩:=nr rfl
theorem C7q{E:TypeId}{x:Operand} :hop P G ⟨d, .box E x,ty,pos,af,g⟩ e σ0 σ K=C2u σ (ev G e x) K ⟨⟩ ⟨⟩:=nr rfl
theorem B9w{t:TypeId}{ps:Array (Nat × Operand)} :dJ P G ⟨d, .build t ps,ty,pos,af,g⟩ e σ K=bo (pD P t (gE G e ps.toList)) (fun r=>K r σ) ⟨⟩:=nr rfl
theorem B8c{t:TypeId}{ps:Array (Nat × Operand)} :hop P G ⟨d, .build t ps,ty,pos,af,g⟩ e σ0 σ K=bo (pD P t (gE G e ps.toList)) (fun r=>K r σ) ⟨⟩:=nr rfl
theorem xO{t n:Nat}{ps:Array (Nat × Operand)} :dJ P G ⟨d, .buildSlice t n ps,ty,pos,af,g⟩ e σ K=bmW true P σ t n (gE G e ps.toList) K ⟨⟩ ⟨⟩:=by
 unfold bmW;simp only[true_and];rfl
theorem wW{t n:Nat}{ps:Array (Nat × Operand)} :hop P G ⟨d, .buildSlice t n ps,ty,pos,af,g⟩ e σ0 σ K=bmW false P σ t n (gE G e ps.toList) K ⟨⟩ ⟨⟩:=by
 unfold bmW;simp only[Bool.false_eq_true,false_and,or_false];rfl
theorem C5i{t:TypeId}{x:Operand} :dJ P G ⟨d, .load t x,ty,pos,af,g⟩ e σ K=bo (fR P σ t (ev G e x)) (fun r=>K r σ) ⟨⟩:=nr rfl
theorem C3k{t:TypeId}{x:Operand} :hop P G ⟨d, .load t x,ty,pos,af,g⟩ e σ0 σ K=bo (fR P σ0 t (ev G e x)) (fun r=>K r σ) ⟨⟩:=nr rfl
theorem A3s{x:Operand} :dJ P G ⟨d, .nilCheck x,ty,pos,af,g⟩ e σ K=zW (ev G e x) (fun r=>K r σ) ⟨⟩:=nr rfl
theorem A2v{x:Operand} :hop P G ⟨d, .nilCheck x,ty,pos,af,g⟩ e σ0 σ K=zW (ev G e x) (fun r=>K r σ) ⟨⟩:=nr rfl
theorem B9v{op:BinOp}{t yt:TypeId}{x y:Operand} :dJ P G ⟨d, .binOp op t x y yt,ty,pos,af,g⟩ e σ K=bo (mS P op t y (ev G e x) (ev G e y)) (fun r=>K r σ) ⟨⟩:=nr rfl
theorem B8b{op:BinOp}{t yt:TypeId}{x y:Operand} :hop P G ⟨d, .binOp op t x y yt,ty,pos,af,g⟩ e σ0 σ K=bo (mS P op t y (ev G e x) (ev G e y)) (fun r=>K r σ) ⟨⟩:=nr rfl
theorem C5m{op:UnOp}{t:TypeId}{x:Operand} :dJ P G ⟨d, .unOp op t x,ty,pos,af,g⟩ e σ K=bo (aun op (ev G e x)) (fun r=>K r σ) ⟨⟩:=nr rfl
theorem C3n{op:UnOp}{t:TypeId}{x:Operand} :hop P G ⟨d, .unOp op t x,ty,pos,af,g⟩ e σ0 σ K=bo (aun op (ev G e x)) (fun r=>K r σ) ⟨⟩:=nr rfl
theorem A7x{s t:TypeId}{x:Operand} :dJ P G ⟨d, .convert s t x,ty,pos,af,g⟩ e σ K=cvW P σ s t (ev G e x) K ⟨⟩ ⟨⟩:=nr rfl
theorem A7f{s t:TypeId}{x:Operand} :hop P G ⟨d, .convert s t x,ty,pos,af,g⟩ e σ0 σ K=bo (cX P σ0 s t (ev G e x)) (fun r=>K r σ) ⟨⟩:=nr rfl
theorem A0e{t:TypeId}{x y:Operand} :dJ P G ⟨d, .makeSlice t x y,ty,pos,af,g⟩ e σ K=C8x P σ t (ev G e x) (ev G e y) K ⟨⟩ ⟨⟩:=nr rfl
theorem A3r{f:FuncId}{caps:Array Operand} :dJ P G ⟨d, .makeFunc (.func f) #[] caps,ty,pos,af,g⟩ e σ K=st (.fn f (caps.toList.map (ev G e))) (fun r=>K r σ) ⟨⟩:=nr rfl
theorem C9i{f:FuncId}{x:Operand} :dJ P G ⟨d, .makeFunc (.func f) #[x] #[],ty,pos,af,g⟩ e σ K=C5e f (ev G e x) (fun r=>K r σ) ⟨⟩:=propext ⟨fun h=>h.2,fun h=> ⟨rfl,h⟩⟩
theorem C7u{f:FuncId}{x:Operand} :hop P G ⟨d, .makeFunc (.func f) #[x] #[],ty,pos,af,g⟩ e σ0 σ K=C5e f (ev G e x) (fun r=>K r σ) ⟨⟩:=propext ⟨fun h=>h.2,fun h=> ⟨rfl,h⟩⟩
theorem B3t{f:FuncId}{b o:Nat}{F:AV ->Prop}{d:Dum F} :C5e f (.ptr b o) F d=F (mfn f b o):=propext ⟨fun⟨_,_,e,h⟩=>by cases e;exact h,fun h=> ⟨b,o,rfl,h⟩⟩
theorem A2u{f:FuncId}{caps:Array Operand} :hop P G ⟨d, .makeFunc (.func f) #[] caps,ty,pos,af,g⟩ e σ0 σ K=st (.fn f (caps.toList.map (ev G e))) (fun r=>K r σ) ⟨⟩:=nr rfl
theorem C0a{t:TypeId}{x:Operand}{lo hi:Option Operand} :dJ P G ⟨d, .slice t x lo hi none,ty,pos,af,g⟩ e σ K=slW P σ t (ev G e x) (lo.map (ev G e)) (hi.map (ev G e)) (fun r=>K r σ) ⟨⟩ ⟨⟩:=nr rfl
theorem B4e{t:TypeId}{x m:Operand}{lo hi:Option Operand} :dJ P G ⟨d, .slice t x lo hi (some m),ty,pos,af,g⟩ e σ K=slX P t (ev G e x) (lo.map (ev G e)) (hi.map (ev G e)) (ev G e m) (fun r=>K r σ) ⟨⟩:=nr rfl
theorem B8f{t:TypeId}{x:Operand}{lo hi:Option Operand} :hop P G ⟨d, .slice t x lo hi none,ty,pos,af,g⟩ e σ0 σ K=slW P σ0 t (ev G e x) (lo.map (ev G e)) (hi.map (ev G e)) (fun r=>K r σ) ⟨⟩ ⟨⟩:=nr rfl
theorem A0c{t:TypeId}{x:Operand}{i:Nat} :dJ P G ⟨d, .fieldAddr t x i,ty,pos,af,g⟩ e σ K=bo (lO P t (ev G e x) i) (fun r=>K r σ) ⟨⟩:=nr rfl
theorem zM{t:TypeId}{x:Operand}{i:Nat} :hop P G ⟨d, .fieldAddr t x i,ty,pos,af,g⟩ e σ0 σ K=bo (lO P t (ev G e x) i) (fun r=>K r σ) ⟨⟩:=nr rfl
theorem B9x{t:TypeId}{x:Operand}{i:Nat} :dJ P G ⟨d, .field t x i,ty,pos,af,g⟩ e σ K=bo (kM P t (ev G e x) i) (fun r=>K r σ) ⟨⟩:=nr rfl
theorem B8d{t:TypeId}{x:Operand}{i:Nat} :hop P G ⟨d, .field t x i,ty,pos,af,g⟩ e σ0 σ K=bo (kM P t (ev G e x) i) (fun r=>K r σ) ⟨⟩:=nr rfl
theorem A0d{t:TypeId}{x i:Operand} :dJ P G ⟨d, .indexAddr t x i,ty,pos,af,g⟩ e σ K=bo (cR P t (ev G e x) (ev G e i)) (fun r=>K r σ) ⟨⟩:=nr rfl
theorem zN{t:TypeId}{x i:Operand} :hop P G ⟨d, .indexAddr t x i,ty,pos,af,g⟩ e σ0 σ K=bo (cR P t (ev G e x) (ev G e i)) (fun r=>K r σ) ⟨⟩:=nr rfl
theorem B9y{t:TypeId}{x i:Operand} :dJ P G ⟨d, .index t x i,ty,pos,af,g⟩ e σ K=bo (lQ P t (ev G e x) (ev G e i)) (fun r=>K r σ) ⟨⟩:=nr rfl
theorem B8e{t:TypeId}{x i:Operand} :hop P G ⟨d, .index t x i,ty,pos,af,g⟩ e σ0 σ K=bo (lQ P t (ev G e x) (ev G e i)) (fun r=>K r σ) ⟨⟩:=nr rfl
theorem A7y{x:Operand}{i:Nat} :dJ P G ⟨d, .extract x i,ty,pos,af,g⟩ e σ K=bo (jW (ev G e x) i) (fun r=>K r σ) ⟨⟩:=nr rfl
theorem A7g{x:Operand}{i:Nat} :hop P G ⟨d, .extract x i,ty,pos,af,g⟩ e σ0 σ K=bo (jW (ev G e x) i) (fun r=>K r σ) ⟨⟩:=nr rfl
theorem C9g{args:Array Operand}{ts:Array TypeId} :dJ P G ⟨d, .call ⟨.builtin .len,args,ts⟩,ty,pos,af,g⟩ e σ K=bo (eK P .len ts (args.toList.map (ev G e))) (fun r=>K r σ) ⟨⟩:=nr rfl
theorem C9f{args:Array Operand}{ts:Array TypeId} :dJ P G ⟨d, .call ⟨.builtin .cap,args,ts⟩,ty,pos,af,g⟩ e σ K=bo (eK P .cap ts (args.toList.map (ev G e))) (fun r=>K r σ) ⟨⟩:=nr rfl
theorem C9k{args:Array Operand}{ts:Array TypeId} :dJ P G ⟨d, .call ⟨.builtin .unsafeSliceData,args,ts⟩,ty,pos,af,g⟩ e σ K=bo (eK P .unsafeSliceData ts (args.toList.map (ev G e))) (fun r=>K r σ) ⟨⟩:=nr rfl
theorem C7s{args:Array Operand}{ts:Array TypeId} :hop P G ⟨d, .call ⟨.builtin .len,args,ts⟩,ty,pos,af,g⟩ e σ0 σ K=bo (eK P .len ts (args.toList.map (ev G e))) (fun r=>K r σ) ⟨⟩:=nr rfl
theorem C7r{args:Array Operand}{ts:Array TypeId} :hop P G ⟨d, .call ⟨.builtin .cap,args,ts⟩,ty,pos,af,g⟩ e σ0 σ K=bo (eK P .cap ts (args.toList.map (ev G e))) (fun r=>K r σ) ⟨⟩:=nr rfl
theorem C7x{args:Array Operand}{ts:Array TypeId} :hop P G ⟨d, .call ⟨.builtin .unsafeSliceData,args,ts⟩,ty,pos,af,g⟩ e σ0 σ K=bo (eK P .unsafeSliceData ts (args.toList.map (ev G e))) (fun r=>K r σ) ⟨⟩:=nr rfl
theorem C9h{args:Array Operand}{ts:Array TypeId} :dJ P G ⟨d, .call ⟨.builtin .max,args,ts⟩,ty,pos,af,g⟩ e σ K=bo (eK P .max ts (args.toList.map (ev G e))) (fun r=>K r σ) ⟨⟩:=nr rfl
theorem C7t{args:Array Operand}{ts:Array TypeId} :hop P G ⟨d, .call ⟨.builtin .max,args,ts⟩,ty,pos,af,g⟩ e σ0 σ K=bo (eK P .max ts (args.toList.map (ev G e))) (fun r=>K r σ) ⟨⟩:=nr rfl
theorem C9j{args:Array Operand}{ts:Array TypeId} :dJ P G ⟨d, .call ⟨.builtin .min,args,ts⟩,ty,pos,af,g⟩ e σ K=bo (eK P .min ts (args.toList.map (ev G e))) (fun r=>K r σ) ⟨⟩:=nr rfl
theorem C7v{args:Array Operand}{ts:Array TypeId} :hop P G ⟨d, .call ⟨.builtin .min,args,ts⟩,ty,pos,af,g⟩ e σ0 σ K=bo (eK P .min ts (args.toList.map (ev G e))) (fun r=>K r σ) ⟨⟩:=nr rfl
theorem C0b{t:TypeId}{p x:Operand} :dJ P G ⟨d, .store t p x,ty,pos,af,g⟩ e σ K=bo (fG P σ t (ev G e p) (ev G e x)) (fun s=>K .undef s) ⟨⟩:=nr rfl
theorem C5g{f:Operand}{args:Array Operand}{ts:Array TypeId} :dJ P G ⟨d, .call ⟨.value f,args,ts⟩,ty,pos,af,g⟩ e σ K=zB P G (ev G e f) (args.toList.map (ev G e)) σ K ⟨⟩ ⟨⟩:=nr rfl
theorem C3i{f:Operand}{args:Array Operand}{ts:Array TypeId} :hop P G ⟨d, .call ⟨.value f,args,ts⟩,ty,pos,af,g⟩ e σ0 σ K=wX P G (ev G e f) (args.toList.map (ev G e)) σ0 (fun r=>K r σ) ⟨⟩ ⟨⟩:=nr rfl
theorem B4b{s x:Operand}{t tx:TypeId} :dJ P G ⟨d, .call ⟨.builtin .append,#[s,x],#[t,tx]⟩,ty,pos,af,g⟩ e σ K=A1x P σ t tx (ev G e s) (ev G e x) K ⟨⟩ ⟨⟩:=nr rfl
def C5v(P:Program)(σ:AS)(t:TypeId)(x:AV)(K:AV ->AS ->Prop)(_:Dum σ)(_:Dum K):Prop:=rY P σ t x K
def C9c(σ:AS)(x:AV)(K:AV ->AS ->Prop)(_:Dum σ)(_:Dum K):Prop:=yV σ x K
theorem B9z{t:TypeId}{x:Operand} :dJ P G ⟨d, .range t x,ty,pos,af,g⟩ e σ K=C5v P σ t (ev G e x) K ⟨⟩ ⟨⟩:=nr rfl
theorem C5k{x:Operand} :dJ P G ⟨d, .next x true,ty,pos,af,g⟩ e σ K=C9c σ (ev G e x) K ⟨⟩ ⟨⟩:=nr rfl
def C7e(P:Program)(σ:AS)(t ts:TypeId)(x s:AV)(K:AV ->AS ->Prop)(_:Dum σ)(_:Dum K):Prop:=mY P σ t ts x s K
theorem C5h{x n:Operand}{pt it:TypeId} :dJ P G ⟨d, .call ⟨.builtin .copy,#[x,n],#[pt,it]⟩,ty,pos,af,g⟩ e σ K=C7e P σ pt it (ev G e x) (ev G e n) K ⟨⟩ ⟨⟩:=nr rfl
theorem B3e{t:TypeId}{a:Addr}{n c:Nat} :eK P .len #[t] [.raw (.slice (some a) n c)]=if(el P t).isSome then some (.int .i64 n)else none:=nr rfl
theorem B3d{t:TypeId}{a:Addr}{n c:Nat} :eK P .cap #[t] [.raw (.slice (some a) n c)]=if(el P t).isSome then some (.int .i64 c)else none:=nr rfl
theorem yQ{t:TypeId}{b o n c:Nat}{k:IntKind}{i:Int} :cR P t (.raw (.slice (some ⟨b,o,none⟩) n c)) (.int k i)=(match(el P t).bind (tk P)with|some (_,s)=>if 0 <=i /\ i < n then some (.ptr b (o+i.toNat*s))else none|none=>none):=nr rfl
def C2a(σ:AS)(K:AV ->AS ->Prop)(_:Dum σ)(_:Dum K):Prop:=yT σ none K
theorem A7z{t:TypeId} :dJ P G ⟨d, .makeMap t none,ty,pos,af,g⟩ e σ K=C2a σ K ⟨⟩ ⟨⟩:=nr rfl
theorem B4d{t:TypeId}{x k:Operand}{ok:Bool} :dJ P G ⟨d, .lookup t x k ok,ty,pos,af,g⟩ e σ K=bo (gL P σ t (ev G e x) (ev G e k) ok) (fun r=>K r σ) ⟨⟩:=nr rfl
theorem A0f{t:TypeId}{m k x:Operand} :dJ P G ⟨d, .mapUpdate t m k x,ty,pos,af,g⟩ e σ K=bo (A2e P σ t (ev G e m) (ev G e k) (ev G e x)) (fun s=>K .undef s) ⟨⟩:=nr rfl
theorem aB{d:Dum σ}{d':Dum K}(h:∀ b,σ.fresh b ->K (.raw (.map (some b))) (σ.setTy b (.ob (.map []),0))):C2a σ K d d':=⟨rfl,h⟩
theorem A3l{t kt et:TypeId}{b n:Nat}{kv:List (AV × AV)}{s:List UInt8}{z:AV}{ok:Bool}(ht:sk P t= .map kt et)(hk:sk P kt= .str)(hz:zv P et=some z)(hs:σ.ty b=some (.ob (.map kv),n)):
  gL P σ t (.raw (.map (some b))) (.str s) ok=(jJ (.str s) kv 0).map (uW z ok):=by
 simp[gL,ht,plainKey,hk,hz,B7o,hs]
theorem C4z{t kt et:TypeId}{b n:Nat}{kv:List (AV × AV)}{q q':IntKind}{s:Int}{z:AV}{ok:Bool}(ht:sk P t= .map kt et)(hk:sk P kt= .int q)(hz:zv P et=some z)(hs:σ.ty b=some (.ob (.map kv),n)):
  gL P σ t (.raw (.map (some b))) (.int q' s) ok=(jJ (.int q' s) kv 0).map (uW z ok):=by
 simp[gL,ht,plainKey,hk,hz,B7o,hs]
theorem B5x{t kt et:TypeId}{b n:Nat}{kv:List (AV × AV)}{s:List UInt8}{x:AV}(ht:sk P t= .map kt et)(hk:sk P kt= .str)(hs:σ.ty b=some (.ob (.map kv),n))(hf:jJ (.str s) kv 0=some none):
  A2e P σ t (.raw (.map (some b))) (.str s) x=some (σ.setTy b (.ob (.map (kv++[(.str s,x)])),n)):=by
 simp[A2e,ht,plainKey,hk,hs,A4w,hf]
theorem B9l{z:AV}{ok:Bool} :uW z ok none=if ok then .tup [z, .bool false]else z:=nr rfl
theorem B9m{z v:AV}{i:Nat}{ok:Bool} :uW z ok (some (i,v))=if ok then .tup [v, .bool true]else v:=nr rfl
theorem C5n{x n:Operand}{pt it:TypeId} :dJ P G ⟨d, .call ⟨.builtin .unsafeString,#[x,n],#[pt,it]⟩,ty,pos,af,g⟩ e σ K=B6b P σ pt (ev G e x) (ev G e n) K ⟨⟩ ⟨⟩:=nr rfl
theorem B6z{α:Type}{a:α}{F:α ->Prop}{d:Dum F} :bo (some a) F d=F a:=by simp[bo]
theorem B6y{α:Type}{F:α ->Prop}{d:Dum F} :bo (none:Option α) F d=False:=by simp[bo]
theorem C2t{α:Type}{c:Prop}[Decidable c]{a:α}{F:α ->Prop}{d:Dum F} :bo (if c then some a else none) F d=(c /\ F a):=by
 unfold bo;by_cases h:c <;>simp[h]
theorem B6x{α:Type}{c:Prop}[Decidable c]{a:α}{F:α ->Prop}{d:Dum F} :bo (if c then none else some a) F d=(¬ c /\ F a):=by
 unfold bo;by_cases h:c <;>simp[h]
theorem C9x{x:AV}{F:AV ->Prop}{d:Dum F} :st x F d=F x:=nr rfl
theorem A2n{A B:Prop}{d:Dum A}{d':Dum B} :jY (.bool true) A B d d'=A:=by simp[jY]
theorem zD{A B:Prop}{d:Dum A}{d':Dum B} :jY (.bool false) A B d d'=B:=by simp[jY]
theorem zE{t:Bool}{A B:Prop}{d:Dum A}{d':Dum B}(h1:t=true ->A)(h2:t=false ->B):jY (.bool t) A B d d':=⟨t,rfl,h1,h2⟩
theorem eU{p:Prop}[Decidable p]{A B:Prop}{d:Dum A}{d':Dum B}(h1:p ->A)(h2: ¬ p ->B):jY (.bool (decide p)) A B d d':=⟨_,rfl,fun h=>h1 (of_decide_eq_true h),fun h=>h2 (of_decide_eq_false h)⟩
theorem A2m{p:Prop}[Decidable p]{A B:Prop}{d:Dum A}{d':Dum B}(h1:decide p=true -> ¬ ¬ p ->A)(h2:decide p=false -> ¬ p ->B):jY (.bool (decide p)) A B d d':=⟨_,rfl,fun h=>h1 h (fun hn=>hn (of_decide_eq_true h)),fun h=>h2 h (of_decide_eq_false h)⟩
theorem B7y{A B:Prop}{d:Dum A}{d':Dum B} :gW (some true) A B d d'=A:=by simp[gW]
theorem B1t{A B:Prop}{d:Dum A}{d':Dum B} :gW (some false) A B d d'=B:=by simp[gW]
theorem C3g{b:Bool}{A B:Prop}{d:Dum A}{d':Dum B} :gW (some (!b)) A B d d'=gW (some b) B A d' d:=by cases b <;>simp[gW]
theorem A6q{b:Bool}{A B:Prop}{d:Dum A}{d':Dum B} :jY (.bool (!b)) A B d d'=jY (.bool b) B A d' d:=by cases b <;>simp[jY]
theorem B1u{t:Bool}{A B:Prop}{d:Dum A}{d':Dum B}(h1:t=true ->A)(h2:t=false ->B):gW (some t) A B d d':=⟨t,rfl,h1,h2⟩
theorem sN{p:Prop}[Decidable p]{A B:Prop}{d:Dum A}{d':Dum B}(h1:p ->A)(h2: ¬ p ->B):gW (some (decide p)) A B d d':=⟨_,rfl,fun h=>h1 (of_decide_eq_true h),fun h=>h2 (of_decide_eq_false h)⟩
theorem B7x{p:Prop}[Decidable p]{A B:Prop}{d:Dum A}{d':Dum B}(h1:decide p=true -> ¬ ¬ p ->A)(h2:decide p=false -> ¬ p ->B):gW (some (decide p)) A B d d':=⟨_,rfl,fun h=>h1 h (fun hn=>hn (of_decide_eq_true h)),fun h=>h2 h (of_decide_eq_false h)⟩
theorem A3x{a b:AV}{F:AV ->Prop}{d:Dum a}{d':Dum b}{d2:Dum F} :qI (.bool true) a b F d d' d2=st a F ⟨⟩:=by simp[qI,st]
theorem A0h{a b:AV}{F:AV ->Prop}{d:Dum a}{d':Dum b}{d2:Dum F} :qI (.bool false) a b F d d' d2=st b F ⟨⟩:=by simp[qI,st]
theorem A0i{t:Bool}{a b:AV}{F:AV ->Prop}{d:Dum a}{d':Dum b}{d2:Dum F}(h1:t=true ->F a)(h2:t=false ->F b):qI (.bool t) a b F d d' d2:=by
 refine⟨t,rfl,?_⟩;cases t
 ·exact h2 rfl
 ·exact h1 rfl
theorem bQ{E:TypeId}{z:List AV}{d:Dum σ}{d':Dum K}(h:∀ b,σ.fresh b ->K (.ptr b 0) (σ.setBox b z)):C9b σ E z K d d':= .inl h
theorem dY{z:List AV}{d:Dum σ}{d':Dum K}(h:∀ b,σ.fresh b ->K (.ptr b 0) (σ.setBox b z)):B9o σ z K d d':=h
theorem A8q{b:Nat}{x y:mR × Nat} :(σ.setTy b x).setTy b y=σ.setTy b y:=by
 unfold AS.setTy
 simp only[AS.mk.injEq,true_and]
 funext i
 split <;>rfl
theorem B7a{x:AV}{d:Dum σ}{d':Dum K} :C2u σ x K d d'=(isv x=true /\ B9o σ (flat x) K ⟨⟩ ⟨⟩):=nr rfl
theorem B4a{b o:Nat}{F:AV ->Prop}{d:Dum F} :zW (.ptr b o) F d=F (.ptr b o):=by simp[zW]
theorem B9r{l:List AV}{F:AV ->Prop}{d:Dum F} :zW (.rp l) F d=F (.rp l):=by simp[zW]
theorem B9q{f:FuncId}{l:List AV}{F:AV ->Prop}{d:Dum F} :zW (.fn f l) F d=F (.fn f l):=by simp[zW]
theorem B0k{k:FuncId}{caps l:List AV}{d:Dum σ}{d':Dum K} :zB P G (.fn k caps) l σ K d d'=A8n P G k (l++caps) σ K ⟨⟩ ⟨⟩:=nr rfl
theorem A6j{k:FuncId}{b o:Nat}{l:List AV}{d:Dum σ}{d':Dum K} :zB P G (mfn k b o) l σ K d d'=A8n P G k (.ptr b o::l) σ K ⟨⟩ ⟨⟩:=propext ⟨fun⟨k',b',o',e,h⟩=>by cases e;exact h,fun h=> ⟨k,b,o,rfl,h⟩⟩
theorem wO{k:FuncId}{l:List AV}{d:Dum σ}{d':Dum K} :zB P G (.fn k []) l σ K d d'=A8n P G k l σ K ⟨⟩ ⟨⟩:=by simp[zB,A8n]
theorem mU{k:FuncId}{l:List AV}{F:AV ->Prop}{d:Dum σ0}{d':Dum F}{v:AV}(h:bB P G k l σ0 v)(hk:F v):wX P G (.fn k []) l σ0 F d d':=⟨v,by simpa using h,hk⟩
theorem C3d{t:Tmp} :ev G e (.tmp t)=e t:=nr rfl
theorem B1d{v:Value} :ev G e (.const v)=ofConst v:=nr rfl
theorem A7a{g:Nat} :ev G e (.global g)=G g:=nr rfl
theorem B7q{f:FuncId} :ev G e (.func f)= .fn f []:=nr rfl
theorem B5z{t:Tmp}{r:AV}{j:Nat} :(e.upd (some t) r) j=if j=t then r else e j:=nr rfl
theorem B5y{r:AV} :(e.upd none r)=e:=nr rfl
theorem C5f{W:List Nat}{v:aK}{j:Nat} :mrg W v e j=if W.contains j then v j else e j:=nr rfl
theorem A5v{l:List AV}{j:Nat} :sA l j=l.getD j .undef:=nr rfl
theorem A2q{rs:List ResultVar} :B1f P rs K .normal e σ=jK (kO P e σ rs) σ K ⟨⟩ ⟨⟩:=nr rfl
theorem B7s{rs:List ResultVar} :B1f P rs K .ret e σ=jK (kO P e σ rs) σ K ⟨⟩ ⟨⟩:=nr rfl
theorem B1g{rs:List ResultVar}{i:Nat} :B1f P rs K (.exit i) e σ=False:=nr rfl
theorem dX{l:List AV}{d:Dum σ}{d':Dum K}(σ':AS)(h1:σ'.le σ)(h2:K (tS l) σ'):jK (some l) σ K d d':=⟨l,σ',rfl,h1,h2⟩
theorem aI{r v:AV}{σ':AS}{d:Dum σ}{d':Dum fun x s=>x=v /\ s=σ'}(h2:r=v)(h1:σ'.le σ):jK (some [r]) σ (fun x s=>x=v /\ s=σ') d d':=⟨[r],σ',rfl,h1,h2,rfl⟩
theorem aC{a b v:AV}{l:List AV}{σ':AS}{d:Dum σ}{d':Dum fun x s=>x=v /\ s=σ'}(h2:AV.tup (a::b::l)=v)(h1:σ'.le σ):jK (some (a::b::l)) σ (fun x s=>x=v /\ s=σ') d d':=⟨_,σ',rfl,h1,h2,rfl⟩
theorem sI{l:List Oper}{d:Dum l.toArray}{d':Dum R}{d2:Dum e}{d3:Dum σ}(n:Nat)(hn:uS l.toArray n=true){hd tl:List Oper}(h1:l.take n=hd)(h2:l.drop n=tl)(h:iE P G l σ (fun e' σ'=>cI P G l R tl e' σ') hd e σ):uT P G l.toArray R e σ d d' d2 d3:= .inl ⟨[],n,σ,[],rfl,hn,AS.le.refl σ,fun c hc=> (by cases hc),mH _ _ _ _ (by subst h1 h2;exact h)⟩
theorem C2w{b:Bool} :ofConst (.bool b)= .bool b:=nr rfl
theorem C7a{k:IntKind}{n:Int} :ofConst (.int k n)= .int k n:=nr rfl
theorem C7d{l:List UInt8} :ofConst (.string ⟨⟨l⟩⟩)= .str l:=nr rfl
theorem C7c:ofConst (.slice none 0 0)= .nil:=nr rfl
theorem B0j:ofConst (.pointer none)= .nilptr:=nr rfl
theorem B7d:ofConst .nilFunc= .nilfn:=nr rfl
theorem C7b:ofConst (.map none)= .raw (.map none):=nr rfl
theorem B7e:ofConst .nilIface= .raw .nilIface:=nr rfl
theorem A4k{b i:Nat}{cs:List AV} :(σ.setBox b cs).box i=if i=b then some cs else σ.box i:=nr rfl
theorem A4l{b i:Nat}{x:Nat × Nat} :(σ.setTip b x).box i=σ.box i:=nr rfl
theorem B7b{b i:Nat} :(σ.delTip b).box i=σ.box i:=nr rfl
theorem A5b{b i:Nat}{cs:List AV} :(σ.setBox b cs).tip i=σ.tip i:=nr rfl
theorem A5c{b i:Nat}{x:Nat × Nat} :(σ.setTip b x).tip i=if i=b then some x else σ.tip i:=nr rfl
theorem C1g{b i:Nat} :(σ.delTip b).tip i=if i=b then none else σ.tip i:=nr rfl
theorem B5u{b i:Nat}{cs:List AV} :(σ.setBox b cs).ty i=σ.ty i:=nr rfl
theorem B5w{b i:Nat}{x:Nat × Nat} :(σ.setTip b x).ty i=σ.ty i:=nr rfl
theorem C6h{b i:Nat} :(σ.delTip b).ty i=σ.ty i:=nr rfl
theorem B5v{b i:Nat}{x:mR × Nat} :(σ.setTy b x).ty i=if i=b then some x else σ.ty i:=nr rfl
theorem B0g{b i:Nat}{x:mR × Nat} :(σ.setTy b x).box i=σ.box i:=nr rfl
theorem B5q{b i:Nat}{x:mR × Nat} :(σ.setTy b x).tip i=σ.tip i:=nr rfl
theorem B0f{b i:Nat} :(σ.delBox b).box i=if i=b then none else σ.box i:=nr rfl
theorem B5p{b i:Nat} :(σ.delBox b).tip i=σ.tip i:=nr rfl
theorem C1k{b i:Nat} :(σ.delBox b).ty i=σ.ty i:=nr rfl
theorem qZ{b:Nat}{cs ds:List AV} :(σ.setBox b cs).setBox b ds=σ.setBox b ds:=by
 unfold AS.setBox;congr 1;funext i;show(if i=b then some ds else if i=b then some cs else σ.box i)=_;split <;>rfl
theorem cK{b c:Nat}{cs:List AV} :(σ.setBox c cs).fresh b=(σ.fresh b /\ ¬ b=c /\ ¬ c=b):=by
 unfold AS.fresh
 simp only[A4k,A5b,B5u,eq_iff_iff]
 by_cases h:b=c
 ·simp[h]
 ·simp[h,Ne.symm h]
theorem bH{σ':AS}{b:Nat}{cs:List AV}(hb:σ'.fresh b)(h:σ'.le σ):σ'.le (σ.setBox b cs):=h.setBox hb.1 cs
theorem B1p{b c:Nat}{x:mR × Nat} :(σ.setTy c x).fresh b=(σ.fresh b /\ ¬ b=c /\ ¬ c=b):=by
 unfold AS.fresh
 simp only[B0g,B5q,B5v,eq_iff_iff]
 by_cases h:b=c
 ·subst h;simp
 ·simp[h,Ne.symm h]
theorem C8w{σ':AS}{b:Nat}{x:mR × Nat}(hb:σ'.fresh b)(h:σ'.le σ):σ'.le (σ.setTy b x):=h.setTy hb.2.2 x
theorem A7c{b c:Nat}{x:Nat × Nat} :(σ.setTip c x).fresh b=(σ.fresh b /\ ¬ b=c /\ ¬ c=b):=by
 unfold AS.fresh
 simp only[A4l,A5c,B5w,eq_iff_iff]
 by_cases h:b=c
 ·subst h;simp
 ·simp[h,Ne.symm h]
theorem bM {c:Code} {d:Dum c} {d':Dum Q} {d2:Dum e} {d3:Dum σ} (I:Nat ->aK ->AS ->Prop) (n:Nat) (h0:I n e σ) (h1:∀ n v σ',I n (mrg (bO c) v e) σ' ->
   kQ P G (eM P G) c (fun x e' σ'=>match x with| .normal=>∃ m,m < n /\ I m e' σ'|x=>Q x e' σ') (mrg (bO c) v e) σ'):B3p P G c Q e σ d d' d2 d3:=⟨I,⟨n,h0⟩,h1⟩
theorem B1h{l:List AV} :flat (.agg l)=l:=nr rfl
theorem A7b{b:Bool} :flat (.bool b)=[.bool b]:=nr rfl
theorem B1i{k:IntKind}{n:Int} :flat (.int k n)=[.int k n]:=nr rfl
theorem B1m{l:List UInt8} :flat (.str l)=[.str l]:=nr rfl
theorem B1j:flat .nil=[.nil]:=nr rfl
theorem B7w{g:Gh}{xs sp:List AV} :flat (.sl g xs sp)=[.sl g xs sp]:=nr rfl
theorem B1k{b o:Nat} :flat (.ptr b o)=[.ptr b o]:=nr rfl
theorem B7v{l:List AV} :flat (.rp l)=[.rp l]:=nr rfl
theorem B7u{f:FuncId}{l:List AV} :flat (.fn f l)=[.fn f l]:=nr rfl
theorem zK:flat .nilptr=[.nilptr]:=nr rfl
theorem A2r:flat .nilfn=[.nilfn]:=nr rfl
theorem B8w{l:List AV} :isv (.agg l)=true:=nr rfl
theorem B2s{b:Bool} :isv (.bool b)=true:=nr rfl
theorem B8x{k:IntKind}{n:Int} :isv (.int k n)=true:=nr rfl
theorem B9a{l:List UInt8} :isv (.str l)=true:=nr rfl
theorem B8y:isv .nil=true:=nr rfl
theorem C4m{b n s:Nat}{E:TypeId} :isv (.bs b n s E)=true:=nr rfl
theorem B7t{b n s:Nat}{E:TypeId} :flat (.bs b n s E)=[.bs b n s E]:=nr rfl
theorem B2u{a:Addr}{n c:Nat} :isv (.raw (.slice (some a) n c))=true:=nr rfl
theorem B2t{a:Option Nat} :isv (.raw (.map a))=true:=nr rfl
theorem B1l{v:Value} :flat (.raw v)=[.raw v]:=nr rfl
theorem nV{op:BinOp}{t:TypeId}{a:Addr}{n c:Nat} :fQ P op t (.raw (.slice (some a) n c)) .nil=if(el P t).isSome=true then lH op false else none:=nr rfl
theorem yH{op:BinOp}{t E:TypeId}{b n s:Nat} :fQ P op t .nil (.bs b n s E)=if(el P t).isSome=true then lH op false else none:=nr rfl
theorem yF{op:BinOp}{t E:TypeId}{b n s:Nat} :fQ P op t (.bs b n s E) .nil=if(el P t).isSome=true then lH op false else none:=nr rfl
def ibk(x:Option (Bool × Nat))(b m:Nat)(i:Int):Option AV:=match x with
 |some (_,n)=>if 0 <=i /\ i < m then some (.ptr b (i.toNat*n))else none
 |none=>none
theorem A1r{t E:TypeId}{b m s:Nat}{k:IntKind}{i:Int} :cR P t (.bs b m s E) (.int k i)=ibk ((el P t).bind (tk P)) b m i:=by
 unfold cR ibk
 cases el P t with
 |none=>rfl
 |some e=>simp only[Option.bind_some];cases tk P e <;>rfl
theorem B2r{ag:Bool}{n b m:Nat}{i:Int} :ibk (some (ag,n)) b m i=if 0 <=i /\ i < m then some (.ptr b (i.toNat*n))else none:=nr rfl
def nbk(x:Option (Bool × Nat))(l h:Option Nat):Option AV:=match x,l,h with
 |some _,some l,some h=>if l <=h /\ h <=0 then some .nil else none
 |_,_,_=>none
def sbk(x:Option (Bool × Nat))(l h:Option Nat)(b n s:Nat)(E:TypeId):Option AV:=match x,l,h with
 |some _,some l,some h=>if l=0 /\ h <=n then some (.bs b h s E)else none
 |_,_,_=>none
theorem uO{t E:TypeId}{b n s:Nat}{lo hi:Option AV} :eN P t (.bs b n s E) lo hi=sbk ((el P t).bind (tk P)) (cG lo 0) (cG hi n) b n s E:=by
 unfold eN iB sbk
 cases el P t with
 |none=>rfl
 | some e=>
  simp only[Option.bind_some]
  cases cG lo 0 with
  |none=>cases tk P e <;>rfl
  | some l=>
   cases cG hi n with
   |none=>cases tk P e <;>rfl
   | some h=>
    cases htk:tk P e with
    |none=>simp[htk]
    | some x=>
     by_cases hc:l=0 /\ h <=n
     ·simp[hc,sZ,htk]
     ·have: ¬ (l=0 /\ h <=n /\ True):=fun h=>hc ⟨h.1,h.2.1⟩
      simp only[if_neg hc]
      simp[sZ,htk]
      omega
inductive Bad:AV ->Prop
 |bs (b n s:Nat) (E:TypeId):Bad (.bs b n s E)
 |raw (v:Value):Bad (.raw v)
class NotBs (x:AV):Prop where
 no:∀ (_ _ _ _:Unit),¬ Bad x
instance {g:Gh} {xs sp:List AV} :NotBs (.sl g xs sp):=⟨fun _ _ _ _ h=>by cases h⟩
instance {s:List UInt8} :NotBs (.str s):=⟨fun _ _ _ _ h=>by cases h⟩
instance:NotBs .nil:=⟨fun _ _ _ _ h=>by cases h⟩
instance {cs:List AV} :NotBs (.rp cs):=⟨fun _ _ _ _ h=>by cases h⟩
theorem A8j{σ:AS}{t:TypeId}{x:AV}[h:NotBs x]{lo hi:Option AV}{F:AV ->Prop}{d:Dum σ}{d':Dum F} :slW P σ t x lo hi F d d'=bo (eN P t x lo hi) F ⟨⟩:=by
 unfold slW bo fS kP
 apply propext
 constructor
 ·rintro⟨r,h1,h2⟩
  split at h1
  ·rename_i y hy;cases h1;exact⟨_,hy,h2⟩
  ·split at h1
   ·exact absurd (.bs _ _ _ _) (h.no () () () ())
   ·exact absurd (.raw _) (h.no () () () ())
   ·cases h1
 ·rintro⟨r,h1,h2⟩
  refine⟨r,?_,h2⟩
  rw[h1]
theorem C6a{σ:AS}{t:TypeId}{x:AV}{lo hi:Option AV}{F:AV ->Prop}{d:Dum σ}{d':Dum F}(h:bo (eN P t x lo hi) F ⟨⟩):slW P σ t x lo hi F d d':=by
 obtain⟨r,h1,h2⟩:=h
 refine⟨r,?_,h2⟩
 unfold fS
 rw[h1]
def sbx(l h:Nat)(cs:Option (List AV))(b s:Nat)(E:TypeId):Option AV:=match cs with
 |some cs=>if l=0 /\ 0 < s /\ h*s <=cs.length then some (.bs b h s E)else none
 |none=>none
def sbS(x:Option (Bool × Nat))(l h:Option Nat)(cs:Option (List AV))(b n s:Nat)(E:TypeId):Option AV:=match x,l,h with
 |some _,some l,some h=>if l=0 /\ h <=n then some (.bs b h s E)else sbx l h cs b s E
 |_,_,_=>none
theorem B5d{l h:Nat}{cs:List AV}{b s:Nat}{E:TypeId} :sbx l h (some cs) b s E=if l=0 /\ 0 < s /\ h*s <=cs.length then some (.bs b h s E)else none:=nr rfl
theorem B5b{x:Bool × Nat}{l h:Nat}{cs:Option (List AV)}{b n s:Nat}{E:TypeId} :sbS (some x) (some l) (some h) cs b n s E=if l=0 /\ h <=n then some (.bs b h s E)else sbx l h cs b s E:=nr rfl
theorem A1y{σ:AS}{t E:TypeId}{b n s:Nat}{lo hi:Option AV} :fS P σ t (.bs b n s E) lo hi=sbS ((el P t).bind (tk P)) (cG lo 0) (cG hi n) (σ.box b) b n s E:=by
 unfold fS
 rw[uO]
 unfold sbk sbS kP sbx
 cases he:el P t with
 |none=>simp
 | some e=>
  simp only[Option.bind_some]
  cases htk:tk P e with
  |none=>cases cG lo 0 <;>cases cG hi n <;>cases σ.box b <;>simp[htk]
  | some y=>
   cases cG lo 0 with
   |none=>simp
   | some l=>
    cases cG hi n with
    |none=>simp
    | some h=>
     simp only
     by_cases hc:l=0 /\ h <=n
     ·rw[if_pos hc,if_pos hc]
     ·rw[if_neg hc,if_neg hc]
      cases hb:σ.box b with
      |none=>rfl
      |some cs=>simp[htk]
theorem C6b{σ:AS}{t E:TypeId}{b n s:Nat}{lo hi:Option AV}{F:AV ->Prop}{d:Dum σ}{d':Dum F} :slW P σ t (.bs b n s E) lo hi F d d'=bo (sbS ((el P t).bind (tk P)) (cG lo 0) (cG hi n) (σ.box b) b n s E) F ⟨⟩:=by
 unfold slW bo
 rw[A1y]
theorem A1z{t:TypeId}{lo hi:Option AV} :eN P t .nil lo hi=nbk ((el P t).bind (tk P)) (cG lo 0) (cG hi 0):=by
 unfold eN iB nbk
 cases el P t with
 |none=>rfl
 | some e=>
  simp only[Option.bind_some]
  cases cG lo 0 with
  |none=>cases tk P e <;>rfl
  | some l=>
   cases cG hi 0 with
   |none=>cases tk P e <;>rfl
   | some h=>
    cases htk:tk P e with
    |none=>simp[htk]
    | some x=>
     by_cases hc:l <=h /\ h <=0
     ·simp[hc,sZ,htk]
     ·have: ¬ (l <=h /\ h <=0 /\ True):=fun h=>hc ⟨h.1,h.2.1⟩
      simp only[if_neg hc]
      simp[sZ,htk]
      omega
def rsk(x:Option (Nat × Nat))(cs:List AV):Option AV:=match x with
 |some (m,1)=>if m=cs.length /\ m <=maxLen then some (.sl .none cs [])else none
 |_=>none
theorem A5w{t:TypeId}{cs:List AV} :eN P t (.rp cs) none none=rsk (pH P t) cs:=by
 unfold eN iB rsk
 simp only
 cases h:pH P t with
 |none=>rfl
 | some x=>
  obtain⟨m,n⟩:=x
  match n with
  |0=>rfl
  |1=>simp only;split <;>rfl
  |n+2=>rfl
theorem B3x{x:Bool × Nat}{l h:Nat} :nbk (some x) (some l) (some h)=if l <=h /\ h <=0 then some .nil else none:=nr rfl
theorem B5c{x:Bool × Nat}{l h b n s:Nat}{E:TypeId} :sbk (some x) (some l) (some h) b n s E=if l=0 /\ h <=n then some (.bs b h s E)else none:=nr rfl
theorem A8r{pt:TypeId}{d:Dum σ}{d':Dum K} :B6b P σ pt .nilptr (.int .i64 0) K d d'=K (.str []) σ:=by simp[B6b,qB]
theorem C4p{g:Gh}{xs sp:List AV} :isv (.sl g xs sp)=true:=nr rfl
theorem B8z{b o:Nat} :isv (.ptr b o)=true:=nr rfl
theorem C4o{l:List AV} :isv (.rp l)=true:=nr rfl
theorem C4n{f:FuncId}{l:List AV} :isv (.fn f l)=true:=nr rfl
theorem A3e:isv .nilptr=true:=nr rfl
theorem A7m:isv .nilfn=true:=nr rfl
def ldk(k:Option (Bool × Nat))(c:Option (List AV))(o:Nat):Option AV:=match k,c with|some (ag,n),some cs=>rd ag n (cs.drop o)|_,_=>none
theorem A5s{t:TypeId}{b o:Nat} :fR P σ t (.ptr b o)=ldk (tk P t) (σ.box b) o:=by
 unfold fR ldk;cases tk P t with
 |none=>rfl
 |some x=>obtain⟨ag,n⟩:=x;simp only;cases σ.box b <;>rfl
theorem B3h{ag:Bool}{n o:Nat}{cs:List AV} :ldk (some (ag,n)) (some cs) o=rd ag n (cs.drop o):=nr rfl
def ldr(k:Option (Bool × Nat))(cs:List AV):Option AV:=match k with|some (ag,n)=>rd ag n cs|_=>none
theorem A9i{t:TypeId}{cs:List AV} :fR P σ t (.rp cs)=ldr (tk P t) cs:=by
 unfold fR ldr;cases tk P t with
 |none=>rfl
 |some x=>rfl
theorem B3i{ag:Bool}{n:Nat}{cs:List AV} :ldr (some (ag,n)) cs=rd ag n cs:=nr rfl
theorem C0l{n:Nat}{cs:List AV} :rd true n cs=if n <=cs.length then some (.agg (cs.take n))else none:=nr rfl
theorem B4q{n:Nat}{cs:List AV} :rd false n cs=cs.head? :=nr rfl
def fdk(k:Option (Nat × Bool × Nat))(p:AV):Option AV:=match k with
 |some (off,_,n)=>if n=0 then none else match p with| .ptr b o=>some (.ptr b (o+off))| .rp cs=>some (.rp (cs.drop off))|_=>none
 |none=>none
theorem A5p{t:TypeId}{p:AV}{i:Nat} :lO P t p i=fdk (qE P t i) p:=by
 unfold lO fdk;cases qE P t i with
 |none=>rfl
 |some x=>rfl
theorem B7r{off n b o:Nat}{ag:Bool} :fdk (some (off,ag,n+1)) (.ptr b o)=some (.ptr b (o+off)):=nr rfl
theorem C3e{off n:Nat}{cs:List AV}{ag:Bool} :fdk (some (off,ag,n+1)) (.rp cs)=some (.rp (cs.drop off)):=nr rfl
def fvk(k:Option (Nat × Bool × Nat))(cs:List AV):Option AV:=match k with|some (off,ag,n)=>rd ag n (cs.drop off)|none=>none
theorem yO{t:TypeId}{cs:List AV}{i:Nat} :kM P t (.agg cs) i=fvk (qE P t i) cs:=by
 unfold kM fvk;cases qE P t i with
 |none=>rfl
 |some x=>rfl
theorem B1q{off n:Nat}{ag:Bool}{cs:List AV} :fvk (some (off,ag,n)) cs=rd ag n (cs.drop off):=nr rfl
def ixk(k:Option (Bool × Nat))(a:Option AV):Option AV:=match k,a with
 |some (_,n),some a=>if(flat a).length=n then some (.rp (flat a))else none
 |_,_=>none
theorem fE{t:TypeId}{g:Gh}{xs sp:List AV}{k:IntKind}{i:Int} :cR P t (.sl g xs sp) (.int k i)=if 0 <=i then ixk ((el P t).bind (tk P)) (xs[i.toNat]?)else none:=by
 unfold cR ixk
 simp only
 cases el P t with
 |none=>simp
 | some e=>
  simp only[Option.bind_some]
  cases tk P e with
  |none=>simp
  | some x=>
   obtain⟨ag,n⟩:=x
   simp only
   split
   ·cases xs[i.toNat]? <;>rfl
   ·rfl
def iak(a:Option (Nat × Nat))(i:Int)(f:Nat ->AV):Option AV:=match a with
 |some (m,n)=>if 0 <=i /\ i < m then some (f (i.toNat*n))else none
 |none=>none
theorem A1s{t:TypeId}{cs:List AV}{k:IntKind}{i:Int} :cR P t (.rp cs) (.int k i)=iak (pH P t) i fun j=> .rp (cs.drop j):=by
 unfold cR iak;simp only;cases pH P t with
 |none=>rfl
 |some x=>rfl
theorem yP{t:TypeId}{b o:Nat}{k:IntKind}{i:Int} :cR P t (.ptr b o) (.int k i)=iak (pH P t) i fun j=> .ptr b (o+j):=by
 unfold cR iak;simp only;cases pH P t with
 |none=>rfl
 |some x=>rfl
theorem B2q{m n:Nat}{i:Int}{f:Nat ->AV} :iak (some (m,n)) i f=if 0 <=i /\ i < m then some (f (i.toNat*n))else none:=nr rfl
theorem B3c{ag:Bool}{n:Nat}{a:AV} :ixk (some (ag,n)) (some a)=if(flat a).length=n then some (.rp (flat a))else none:=nr rfl
theorem A1u{t:TypeId}{s:List UInt8}{k:IntKind}{i:Int} :lQ P t (.str s) (.int k i)=if sk P t= .str then(if 0 <=i then(s[i.toNat]?).map (fun c=>AV.int .u8 c.toNat)else none)else none:=by
 unfold lQ
 simp only
 cases s[i.toNat]? <;>rfl
theorem vW{l:List AV}{i:Nat} :jW (.tup l) i=l[i]? :=nr rfl
theorem B0e{op:BinOp}{t:TypeId}{i:Tmp}{x y:AV} :mS P op t (.tmp i) x y=fQ P op t x y:=nr rfl
theorem A6f{op:BinOp}{t:TypeId}{i:Nat}{x y:AV} :mS P op t (.global i) x y=fQ P op t x y:=nr rfl
theorem A6e{op:BinOp}{t:TypeId}{i:FuncId}{x y:AV} :mS P op t (.func i) x y=fQ P op t x y:=nr rfl
theorem A9z{op:BinOp}{t:TypeId}{k:IntKind}{n:Int}{x y:AV} :mS P op t (.const (.int k n)) x y=fQ P op t x y:=nr rfl
theorem B0d{op:BinOp}{t:TypeId}{s:ByteArray}{x y:AV} :mS P op t (.const (.string s)) x y=fQ P op t x y:=nr rfl
theorem A6d{op:BinOp}{t:TypeId}{s:Bool}{x y:AV} :mS P op t (.const (.bool s)) x y=fQ P op t x y:=nr rfl
theorem B6w{op:BinOp}{t:TypeId}{a:Option Addr}{n c:Nat}{x y:AV} :mS P op t (.const (.slice a n c)) x y=fQ P op t x y:=nr rfl
theorem B0c{op:BinOp}{t:TypeId}{a:Option Addr}{x y:AV} :mS P op t (.const (.pointer a)) x y=fQ P op t x y:=nr rfl
theorem A6g{op:BinOp}{t:TypeId}{x y:AV} :mS P op t (.const .nilFunc) x y=fQ P op t x y:=nr rfl
theorem A9y{op:BinOp}{t:TypeId}{cs:Array Value}{x y:AV} :mS P op t (.const (.agg cs)) x y=fQ P op t x y:=nr rfl
theorem B0a{op:BinOp}{t:TypeId}{x y:AV} :mS P op t (.const (.map none)) x y=nU P op t x:=nr rfl
theorem mG{op:BinOp}{t k e:TypeId}{m:Option Nat}(h:sk P t= .map k e):nU P op t (.raw (.map m))=lH op m.isNone:=by simp[nU,h]
theorem B0b{op:BinOp}{t:TypeId}{x y:AV} :mS P op t (.const .nilIface) x y=uK P op t x:=nr rfl
theorem A5i{op:BinOp}{t:TypeId} :uK P op t (.raw .nilIface)=if ifc P t then lH op true else none:=nr rfl
theorem A8y{op:BinOp}{t s:TypeId}{v:Value} :uK P op t (.raw (.iface s v))=if ifc P t then lH op false else none:=nr rfl
def axk(l:Option (Nat × Bool × Nat))(cs:List AV)(i:Int):Option AV:=match l with
 |some (m,ag,n)=>if 0 <=i /\ i < m then rd ag n (cs.drop (i.toNat*n))else none
 |none=>none
theorem A1t{t:TypeId}{cs:List AV}{k:IntKind}{i:Int} :lQ P t (.agg cs) (.int k i)=axk (C2q P t) cs i:=nr rfl
theorem A9u{m n:Nat}{ag:Bool}{cs:List AV}{i:Int} :axk (some (m,ag,n)) cs i=if 0 <=i /\ i < m then rd ag n (cs.drop (i.toNat*n))else none:=nr rfl
theorem A8z{op:BinOp}{t:TypeId}{k k':IntKind}{a b:Int} :fQ P op t (.int k a) (.int k' b)=dC op k a k' b:=nr rfl
theorem A9a{op:BinOp}{t:TypeId}{a b:List UInt8} :fQ P op t (.str a) (.str b)=mT op a b:=nr rfl
theorem A5j{op:BinOp}{t:TypeId}{a b:Bool} :fQ P op t (.bool a) (.bool b)=if sk P t= .bool then lH op (a==b)else none:=nr rfl
theorem vO{op:BinOp}{t:TypeId} :fQ P op t .nil .nil=if(el P t).isSome=true then lH op true else none:=nr rfl
theorem yI{op:BinOp}{t:TypeId}{g:Gh}{xs sp:List AV} :fQ P op t .nil (.sl g xs sp)=if(el P t).isSome=true /\ qG g xs=false then lH op false else none:=nr rfl
theorem yJ{op:BinOp}{t:TypeId}{g:Gh}{xs sp:List AV} :fQ P op t (.sl g xs sp) .nil=if(el P t).isSome=true /\ qG g xs=false then lH op false else none:=nr rfl
theorem yG{op:BinOp}{t:TypeId}{f:FuncId}{l:List AV} :fQ P op t (.fn f l) .nilfn=if sk P t= .fn then lH op false else none:=nr rfl
theorem A3c{xs:List AV} :qG .full xs=false:=nr rfl
theorem A7l{b:Nat}{xs:List AV} :qG (.own b) xs=false:=nr rfl
theorem A3b{g:Gh}{x:AV}{xs:List AV} :qG g (x::xs)=false:=by cases g <;>rfl
theorem C8a{k:IntKind}{a b:Int} :dC .add k a k b=some (.int k (k.wrap (a+b))):=by simp[dC]
theorem C8n{k:IntKind}{a b:Int} :dC .sub k a k b=some (.int k (k.wrap (a - b))):=by simp[dC]
theorem C8h{k:IntKind}{a b:Int} :dC .mul k a k b=some (.int k (k.wrap (a*b))):=by simp[dC]
theorem C8j{k:IntKind}{a b:Int} :dC .quo k a k b=if b=0 then none else some (.int k (k.wrap (a.tdiv b))):=by simp[dC]
theorem C8k{k:IntKind}{a b:Int} :dC .rem k a k b=if b=0 then none else some (.int k (a.tmod b)):=by simp[dC]
theorem C8c{k:IntKind}{a b:Int} :dC .eql k a k b=some (.bool (decide (a=b))):=by simp[dC];by_cases h:a=b <;>simp[h]
theorem C8i{k:IntKind}{a b:Int} :dC .neq k a k b=some (.bool (decide (¬ a=b))):=by simp[dC,bne];by_cases h:a=b <;>simp[h]
theorem C8g{k:IntKind}{a b:Int} :dC .lss k a k b=some (.bool (decide (a < b))):=by simp[dC]
theorem C8f{k:IntKind}{a b:Int} :dC .leq k a k b=some (.bool (decide (a <=b))):=by simp[dC]
theorem C8e{k:IntKind}{a b:Int} :dC .gtr k a k b=some (.bool (decide (b < a))):=by simp[dC]
theorem C8d{k:IntKind}{a b:Int} :dC .geq k a k b=some (.bool (decide (b <=a))):=by simp[dC]
theorem C8b{k:IntKind}{a b:Int} :dC .and k a k b=some (.int k (k.wrap ((BitVec.ofInt k.bits a &&& BitVec.ofInt k.bits b).toNat))):=by simp only[dC,ne_eq,not_true_eq_false,if_false]
theorem D1i{k:IntKind}{a b:Int} :dC .or k a k b=some (.int k (k.wrap ((BitVec.ofInt k.bits a|||BitVec.ofInt k.bits b).toNat))):=by simp only[dC,ne_eq,not_true_eq_false,if_false]
theorem C8o{k:IntKind}{a b:Int} :dC .xor k a k b=some (.int k (k.wrap ((BitVec.ofInt k.bits a ^^^ BitVec.ofInt k.bits b).toNat))):=by simp only[dC,ne_eq,not_true_eq_false,if_false]
theorem C8l{k k':IntKind}{a b:Int} :dC .shl k a k' b=if b < 0 then none else some (.int k (k.wrap (a*2 ^ (min b.toNat k.bits)))):=nr rfl
theorem C8m{k k':IntKind}{a b:Int} :dC .shr k a k' b=if b < 0 then none else some (.int k (a.fdiv (2 ^ (min b.toNat k.bits)))):=nr rfl
theorem C9r{a b:List UInt8} :mT .eql a b=some (.bool (decide (a=b))):=by simp[mT];by_cases h:a=b <;>simp[h]
theorem C9t{a b:List UInt8} :mT .neq a b=some (.bool (decide (¬ a=b))):=by simp[mT];by_cases h:a=b <;>simp[h]
theorem C9q{a b:List UInt8} :mT .add a b=if a.length+b.length <=maxLen then some (.str (a++b))else none:=nr rfl
theorem C9s{a b:List UInt8} :mT .lss a b=some (.bool (Op.bytesLess a b)):=nr rfl
theorem B6n{b:Bool} :lH .eql b=some (.bool b):=nr rfl
theorem B6o{b:Bool} :lH .neq b=some (.bool (!b)):=nr rfl
theorem B6t{b:Bool} :aun .not (.bool b)=some (.bool (!b)):=nr rfl
theorem B6s{k:IntKind}{n:Int} :aun .neg (.int k n)=some (.int k (k.wrap (0 - n))):=nr rfl
def cvk(s:SK)(n:Int)(u:Bool):Option AV:=match s with| .int k=>if u=true then some (.int k (k.wrap n))else none|_=>none
theorem A5o{s t:TypeId}{k:IntKind}{n:Int} :nY P s t (.int k n)=cvk (sk P t) n (P.underlying s).isSome:=by
 unfold nY cvk;cases sk P t <;>rfl
theorem B7k{k:IntKind}{n:Int} :cvk (.int k) n true=some (.int k (k.wrap n)):=nr rfl
theorem A1k{s t:TypeId}{k:IntKind}{n:Int} :lN P s t (.int k n)=cvk (sk P t) n (P.underlying s).isSome:=by
 show nY P s t (.int k n)=_
 exact A5o
def cvw(s:SK)(e:Option TypeId)(f:TypeId ->SK)(u:Bool)(l:List UInt8):Option AV:=
 if s= .str then(if u=true then some (.str l)else none)else if u && (e.any fun e=>decide (f e= .int .u8)) && decide (l.length <=maxLen)then some (.sl .none (l.map fun c=> .int .u8 c.toNat) [])else none
theorem A1l{s t:TypeId}{l:List UInt8} :lN P s t (.str l)=cvw (sk P t) (el P t) (sk P) (P.underlying s).isSome l:=by
 unfold lN cvw
 by_cases h:sk P t= .str
 ·simp only[if_pos h,nY,h]
 ·simp only[if_neg h]
theorem B7l{e:Option TypeId}{f:TypeId ->SK}{l:List UInt8} :cvw .str e f true l=some (.str l):=nr rfl
theorem A6s{s:SK}{e:TypeId}{f:TypeId ->SK}{l:List UInt8}(h:s ≠ .str)(h2:f e= .int .u8)(h3:l.length <=maxLen):cvw s (some e) f true l=some (.sl .none (l.map fun c=> .int .u8 c.toNat) []):=by
 simp[cvw,h,h2,h3]
theorem wQ{s t:TypeId}{x:AV}{K:AV ->AS ->Prop}(h:∀ l,x ≠ .str l)(hb:∀ b n E,x ≠ .bs b n 1 E):cvW P σ s t x K ⟨⟩ ⟨⟩=bo (cX P σ s t x) (fun r=>K r σ) ⟨⟩:=by
 unfold cvW bo
 refine propext ⟨fun h2=> ?_, .inl⟩
 rcases h2 with h2|⟨l,_,rfl,_⟩|⟨b,cs,E,_,rfl,_⟩
 ·exact h2
 ·exact absurd rfl (h l)
 ·exact absurd rfl (hb b _ E)
theorem B7h{s t:TypeId}{k:IntKind}{n:Int}{K:AV ->AS ->Prop} :cvW P σ s t (.int k n) K ⟨⟩ ⟨⟩=bo (cX P σ s t (.int k n)) (fun r=>K r σ) ⟨⟩:=wQ (fun _ h=>by cases h) (fun _ _ _ h=>by cases h)
theorem B7i{s t:TypeId}{K:AV ->AS ->Prop} :cvW P σ s t .nil K ⟨⟩ ⟨⟩=bo (cX P σ s t .nil) (fun r=>K r σ) ⟨⟩:=wQ (fun _ h=>by cases h) (fun _ _ _ h=>by cases h)
theorem C2z{s t:TypeId}{g:Gh}{xs sp:List AV}{K:AV ->AS ->Prop} :cvW P σ s t (.sl g xs sp) K ⟨⟩ ⟨⟩=bo (cX P σ s t (.sl g xs sp)) (fun r=>K r σ) ⟨⟩:=wQ (fun _ h=>by cases h) (fun _ _ _ h=>by cases h)
theorem C2y{s t E:TypeId}{b n q:Nat}{K:AV ->AS ->Prop}(ht:sk P t= .str):cvW P σ s t (.bs b n q E) K ⟨⟩ ⟨⟩=bo (cX P σ s t (.bs b n q E)) (fun r=>K r σ) ⟨⟩:=by
 unfold cvW bo
 refine propext ⟨fun h2=> ?_, .inl⟩
 rcases h2 with h2|⟨l,_,h,_⟩|⟨_,cs,_,e,_,_,rfl,he,_⟩
 ·exact h2
 ·cases h
 ·have h1:=bX he
  have h3:=jA ht
  rw[h1]at h3;cases h3
theorem B0q{s t:TypeId}{x:Bool}{K:AV ->AS ->Prop} :cvW P σ s t (.bool x) K ⟨⟩ ⟨⟩=bo (cX P σ s t (.bool x)) (fun r=>K r σ) ⟨⟩:=wQ (fun _ h=>by cases h) (fun _ _ _ h=>by cases h)
theorem B7j{s t:TypeId}{l:List UInt8}{K:AV ->AS ->Prop} :cvW P σ s t (.str l) K ⟨⟩ ⟨⟩=cvT (el P t) P σ s t l K ⟨⟩ ⟨⟩:=by
 unfold cvW cvT
 cases he:el P t with
 | none=>
  refine propext ⟨fun h2=> ?_, .inl⟩
  rcases h2 with h2|⟨_,e,_,_,h3,_⟩|⟨_,_,_,_,h3,_⟩
  ·exact h2
  ·rw[he]at h3;cases h3
  ·cases h3
 | some e=>
  refine propext ⟨fun h2=> ?_,fun h2=> ?_⟩
  ·rcases h2 with h2|h2|⟨_,_,_,_,h3,_⟩
   ·exact .inl h2
   ·exact .inr h2
   ·cases h3
  ·rcases h2 with h2|h2
   ·exact .inl h2
   ·exact .inr (.inl h2)
theorem B0p{s t:TypeId}{l:List UInt8}{K:AV ->AS ->Prop} :cvT none P σ s t l K ⟨⟩ ⟨⟩=bo (cX P σ s t (.str l)) (fun r=>K r σ) ⟨⟩:=nr rfl
theorem C3a{s t:TypeId}{x:AV}{K:AV ->AS ->Prop}{d:Dum σ}{d':Dum K}(h:bo (cX P σ s t x) (fun r=>K r σ) ⟨⟩):cvW P σ s t x K d d':= .inl h
theorem aD{e s t:TypeId}{l:List UInt8}{K:AV ->AS ->Prop}{d:Dum σ}{d':Dum K}(h:bo (cX P σ s t (.str l)) (fun r=>K r σ) ⟨⟩):cvT (some e) P σ s t l K d d':= .inl h
theorem A1m{s t:TypeId}{k:IntKind}{n:Int} :cX P σ s t (.int k n)=cvk (sk P t) n (P.underlying s).isSome:=by
 show lN P s t (.int k n)=_
 exact A1k
theorem A1o{s t:TypeId}{l:List UInt8} :cX P σ s t (.str l)=cvw (sk P t) (el P t) (sk P) (P.underlying s).isSome l:=by
 show lN P s t (.str l)=_
 exact A1l
def cvb(s:SK)(e:Option TypeId)(f:TypeId ->SK)(xs:List AV):Option AV:=
 if decide (s= .str) && (e.any fun e=>decide (f e= .int .u8))then(fD xs).map .str else none
def cvm(s:SK)(e:Option TypeId)(f:TypeId ->SK)(x:Option (List AV))(n q:Nat):Option AV:=
 if(decide (s= .str) && (e.any fun e=>decide (f e= .int .u8)))=true /\ q=1 then(match x with|some cs=>if cs.length=n then(fD cs).map .str else none|none=>none)else none
theorem A1n{s t:TypeId} :cX P σ s t .nil=cvb (sk P t) (el P s) (sk P) []:=nr rfl
theorem A5n{s t:TypeId}{g:Gh}{xs sp:List AV} :cX P σ s t (.sl g xs sp)=cvb (sk P t) (el P s) (sk P) xs:=nr rfl
theorem A5m{s t E:TypeId}{b n q:Nat} :cX P σ s t (.bs b n q E)=cvm (sk P t) (el P s) (sk P) (σ.box b) n q:=nr rfl
theorem B0r{e:TypeId}{f:TypeId ->SK}{xs:List AV}(h:f e= .int .u8):cvb .str (some e) f xs=(fD xs).map .str:=by simp[cvb,h]
theorem B0s{e:TypeId}{f:TypeId ->SK}{cs:List AV}{n:Nat}(h:f e= .int .u8)(hn:cs.length=n):cvm .str (some e) f (some cs) n 1=(fD cs).map .str:=by simp[cvm,h,hn]
def bdk(p:Option (List (Nat × Nat)))(z:Option (List AV))(ps:List (Nat × AV)):Option AV:=match p,z with|some pl,some z=> (gZ (pl[·]?) z ps).map .agg|_,_=>none
theorem A5l{t:TypeId}{ps:List (Nat × AV)} :pD P t ps=bdk (jR P t) (zc P t) ps:=nr rfl
theorem A9x{p:List (Nat × Nat)}{z:List AV}{ps:List (Nat × AV)} :bdk (some p) (some z) ps=(gZ (p[·]?) z ps).map .agg:=nr rfl
def flk(f:Nat ->Option (Nat × Nat))(p:Option (Nat × Nat))(cells:List AV)(v:AV)(rest:List (Nat × AV)):Option (List AV):=match p with
 |none=>none
 |some (off,size)=>if isv v=true /\ (flat v).length=size /\ off+size <=cells.length then gZ f (cells.take off++flat v++cells.drop (off+size)) rest else none
theorem A5q{f:Nat ->Option (Nat × Nat)}{cells:List AV} :gZ f cells []=some cells:=nr rfl
theorem A1q{f:Nat ->Option (Nat × Nat)}{cells:List AV}{i:Nat}{v:AV}{rest:List (Nat × AV)} :gZ f cells ((i,v)::rest)=flk f (f i) cells v rest:=by
 conv=>lhs;unfold gZ
 unfold flk;cases f i <;>rfl
theorem B1o{f:Nat ->Option (Nat × Nat)}{cells:List AV}{off size:Nat}{v:AV}{rest:List (Nat × AV)} :
  flk f (some (off,size)) cells v rest=if isv v=true /\ (flat v).length=size /\ off+size <=cells.length then gZ f (cells.take off++flat v++cells.drop (off+size)) rest else none:=rfl
def bsk(e:Option (TypeId × Nat × Nat))(len:Nat)(ps:List (Nat × AV)):Option AV:=match e with
 |some (_,n,_)=>if ps.map (·.1)=List.range len /\ (ps.map (·.2)).all (fun a=>isv a && decide ((flat a).length=n))=true /\ len*n <=16777216 then some (.sl .full (ps.map (·.2)) [])else none
 |none=>none
theorem lM{t len:Nat}{ps:List (Nat × AV)}{r:AV}(h:bsk (eI P t) len ps=some r):dG P t len ps=some r:=by
 unfold bsk at h
 cases ha:eI P t with
 |none=>rw[ha]at h;cases h
 | some x=>
  obtain⟨e,n,b⟩:=x
  rw[ha]at h
  simp only at h
  split at h
  ·rename_i hc
   unfold eI at ha
   unfold dG
   cases he:el P t with
   |none=>rw[he]at ha;cases ha
   | some e'=>
    rw[he]at ha
    simp only at ha ⊢
    cases htk:tk P e' with
    |none=>rw[htk]at ha;cases ha
    | some y=>
     obtain⟨ag,n'⟩:=y
     cases hb:cM P e' with
     |none=>rw[htk,hb]at ha;cases ha
     | some b'=>
      cases hz:zc P e' with
      |none=>rw[htk,hb,hz]at ha;cases ha
      | some z=>
       rw[htk,hb,hz]at ha
       simp only at ha
       split at ha
       ·rename_i hc2
        simp only[Option.some.injEq,Prod.mk.injEq]at ha
        obtain⟨rfl,rfl,rfl⟩:=ha
        simp only[Option.map_some]
        rw[if_pos ⟨hc.1,hc.2.1,hc.2.2,hc2.1,by rw[hc2.2.2]⟩]
        exact h
       ·cases ha
  ·cases h
theorem aA{m:Bool}{t len:Nat}{ps:List (Nat × AV)}{K:AV ->AS ->Prop}{d:Dum σ}{d2:Dum K}{d':Dum fun r=>K r σ}(h:bo (bsk (eI P t) len ps) (fun r=>K r σ) d'):bmW m P σ t len ps K d d2:=by
 obtain⟨r,h1,h2⟩:=h
 exact .inl ⟨r,lM h1,h2⟩
theorem A5k{d:Nat} :cG none d=some d:=nr rfl
theorem A9b{k:IntKind}{n:Int}{d:Nat} :cG (some (.int k n)) d=if 0 <=n then some n.toNat else none:=nr rfl
def C6d(l h:Option Nat)(s:List UInt8):Option AV:=match l,h with
 |some l,some h=>if l <=h /\ h <=s.length then some (.str ((s.take h).drop l))else none
 |_,_=>none
theorem A2a{t:TypeId}{s:List UInt8}{lo hi:Option AV} :eN P t (.str s) lo hi=if sk P t= .str then C6d (cG lo 0) (cG hi s.length) s else none:=by
 unfold eN iB C6d
 simp only
 by_cases h:sk P t= .str
 ·simp only[if_pos h]
  cases cG lo 0 <;>cases cG hi s.length <;>try rfl
  simp only
  split <;>rfl
 ·simp only[if_neg h];rfl
theorem A8k{l h:Nat}{s:List UInt8} :C6d (some l) (some h) s=if l <=h /\ h <=s.length then some (.str ((s.take h).drop l))else none:=nr rfl
open Classical in
noncomputable def slk(k:Option (Bool × Nat))(l h:Option Nat)(g:Gh)(xs sp:List AV):Option AV:=match k,l,h with
 | some (_,n),some l,some h=>if l <=h /\ h <=xs.length+sp.length /\ (l=0 \/ ∀ a,a ∈ xs++sp -> (flat a).length=n)then
   some (sZ (.sl g xs sp) (.sl (gN g l h xs.length) (((xs++sp).take h).drop l) ((xs++sp).drop h)))else none
 |_,_,_=>none
theorem uP{t:TypeId}{g:Gh}{xs sp:List AV}{lo hi:Option AV} :eN P t (.sl g xs sp) lo hi=slk ((el P t).bind (tk P)) (cG lo 0) (cG hi xs.length) g xs sp:=by
 unfold eN iB slk
 simp only
 cases he:el P t with
 |none=>cases cG lo 0 <;>cases cG hi xs.length <;>rfl
 | some e=>
  cases htk:tk P e with
  |none=>cases cG lo 0 <;>cases cG hi xs.length <;>simp only[Option.bind_some,htk] <;>rfl
  | some x=>
   obtain⟨ag,n⟩:=x
   cases cG lo 0 <;>cases cG hi xs.length <;>simp only[Option.bind_some,htk] <;>try rfl
   split <;>rfl
theorem B5f{ag:Bool}{n l h:Nat}{g:Gh}{xs sp:List AV} :slk (some (ag,n)) (some l) (some h) g xs sp=if l <=h /\ h <=xs.length+sp.length /\ (l=0 \/ ∀ a,a ∈ xs++sp -> (flat a).length=n)then
   some (sZ (.sl g xs sp) (.sl (gN g l h xs.length) (((xs++sp).take h).drop l) ((xs++sp).drop h)))else none:=by
 unfold slk;simp only
theorem vG{ag:Bool}{n l h:Nat}{xs:List AV}(ha:∀ a,a ∈ xs -> (flat a).length=n):slk (some (ag,n)) (some l) (some h) .none xs []=if l <=h /\ h <=xs.length then some (.sl .none ((xs.take h).drop l) [])else none:=by
 rw[B5f]
 simp only[List.append_nil,List.length_nil,Nat.add_zero]
 by_cases h1:l <=h /\ h <=xs.length
 ·rw[if_pos ⟨h1.1,h1.2, .inr ha⟩,if_pos h1];rfl
 ·rw[if_neg h1,if_neg fun h2=>h1 ⟨h2.1,h2.2.1⟩]
theorem C8u{t:TypeId}{s:List UInt8} :eK P .len #[t] [.str s]=if sk P t= .str then some (.int .i64 s.length)else none:=nr rfl
theorem A4q{t:TypeId} :eK P .len #[t] [.nil]=if(el P t).isSome then some (.int .i64 0)else none:=nr rfl
theorem C8r{t:TypeId} :eK P .cap #[t] [.nil]=if(el P t).isSome then some (.int .i64 0)else none:=nr rfl
theorem C8q{t E:TypeId}{b n s:Nat} :eK P .len #[t] [.bs b n s E]=if(el P t).isSome then some (.int .i64 n)else none:=nr rfl
theorem A7r{t:TypeId} :eK P .unsafeSliceData #[t] [.nil]=some .nilptr:=nr rfl
theorem C8v{t E:TypeId}{b n s:Nat} :eK P .unsafeSliceData #[t] [.bs b n s E]=if 0 < n then some (.bp b s E)else none:=nr rfl
theorem A7q{t:TypeId}{g:Gh}{xs sp:List AV} :eK P .len #[t] [.sl g xs sp]=if(el P t).isSome then some (.int .i64 xs.length)else none:=nr rfl
theorem C8s{ts:Array TypeId}{k k':IntKind}{a b:Int} :eK P .max ts [.int k a, .int k' b]=some (.int k (if b >a then b else a)):=by
 unfold eK;split <;>simp_all
theorem C8t{ts:Array TypeId}{k k':IntKind}{a b:Int} :eK P .min ts [.int k a, .int k' b]=some (.int k (if b < a then b else a)):=by
 unfold eK;split <;>simp_all
def stk(k:Option (Bool × Nat))(σ:AS)(c:Option (List AV))(b o:Nat)(x:AV):Option AS:=match k,c with
 |some (_,n),some cs=>if isv x=true /\ (flat x).length=n /\ o+n <=cs.length then some (σ.setBox b (cs.take o++flat x++cs.drop (o+n)))else none
 |_,_=>none
theorem nD{t:TypeId}{b o:Nat}{x:AV} :fG P σ t (.ptr b o) x=stk (tk P t) σ (σ.box b) b o x:=by
 unfold fG stk
 cases tk P t with
 |none=>rfl
 |some y=>obtain⟨ag,n⟩:=y;simp only;cases σ.box b <;>rfl
theorem B5h{ag:Bool}{n b o:Nat}{cs:List AV}{x:AV} :stk (some (ag,n)) σ (some cs) b o x=if isv x=true /\ (flat x).length=n /\ o+n <=cs.length then some (σ.setBox b (cs.take o++flat x++cs.drop (o+n)))else none:=nr rfl
theorem A8d:gE G e []=[]:=nr rfl
theorem A3v{i:Nat}{x:Operand}{l:List (Nat × Operand)} :gE G e ((i,x)::l)=(i,ev G e x)::gE G e l:=nr rfl
theorem B6u{l:List Oper} :bZ l e none=some true:=nr rfl
def awk(v:AV)(want:Bool):Option Bool:=match v with| .bool b=>some (b==want)| .tup []=>some false|_=>none
def awo(t:Option Tmp)(e:aK)(want:Bool):Option Bool:=match t with|some t=>awk (e t) want|none=>none
theorem B6v{l:List Oper}{j:Nat}{want:Bool} :bZ l e (some (j,want))=awo ((l[j]?).bind (·.dst)) e want:=by
 unfold bZ awo awk
 simp only
 cases(l[j]?).bind (·.dst) <;>rfl
theorem A9t{t:Tmp}{want:Bool} :awo (some t) e want=awk (e t) want:=nr rfl
theorem A9r{want:Bool} :awk (.tup []) want=some false:=nr rfl
theorem A9s{b:Bool} :awk (.bool b) true=some b:=by simp[awk]
theorem A6a{b:Bool} :awk (.bool b) false=some (!b):=by simp[awk]
theorem A9l:kO P e σ []=some []:=nr rfl
theorem A9m{t:Tmp} :kO P e σ [.tmp t]=some [e t]:=nr rfl
theorem A5u{t:Tmp}{ty:TypeId} :kO P e σ [.cell t ty]=(fR P σ ty (e t)).map fun x=> [x]:=by
 unfold kO uN kO;simp only;cases fR P σ ty (e t) <;>rfl
theorem A9n{t u:Tmp} :kO P e σ [.tmp t, .tmp u]=some [e t,e u]:=nr rfl
end rules
def aN(P:Program)(G:Nat ->AV)(f:FuncId)(args:List AV)(v:AV):Prop:=∀ σ,aH P G f args σ fun r σ'=>r=v /\ σ'=σ
theorem aN.use{P:Program}{G:Nat ->AV}{f:FuncId}{args:List AV}{v:AV}(h:aN P G f args v){σ:AS}{K:AV ->AS ->Prop}{d:Dum σ}{d':Dum K}(hk:K v σ):A8n P G f args σ K d d':=
 (h σ).mono fun r s ⟨hr,hs⟩=>by subst hr hs;exact hk
theorem aN.pureC{P:Program}{G:Nat ->AV}{f:FuncId}{args:List AV}{v:AV}(h:aN P G f args v)(σ0:AS):bB P G f args σ0 v:=fun σ _=>h σ
theorem aN.head{P:Program}{G:Nat ->AV}{f:FuncId}{args:List AV}{v:AV}(h:aN P G f args v){σ0:AS}{F:AV ->Prop}{d:Dum σ0}{d':Dum F}(hk:F v):wX P G (.fn f []) args σ0 F d d':=mU (h.pureC σ0) hk
theorem bB.use{P:Program}{G:Nat ->AV}{f:FuncId}{args:List AV}{v:AV}{σ0:AS}(h:bB P G f args σ0 v){σ:AS}(hl:σ0.le σ){K:AV ->AS ->Prop}{d:Dum σ}{d':Dum K}(hk:K v σ):A8n P G f args σ K d d':=
 (h σ hl).mono fun r s ⟨hr,hs⟩=>by subst hr hs;exact hk
theorem bB.mono{P:Program}{G:Nat ->AV}{f:FuncId}{args:List AV}{v:AV}{σ0 σ1:AS}(h:bB P G f args σ0 v)(hl:σ0.le σ1):bB P G f args σ1 v:=fun σ h1=>h σ (hl.trans h1)
theorem bB.head{P:Program}{G:Nat ->AV}{f:FuncId}{args:List AV}{v:AV}{σ0 σ1:AS}(h:bB P G f args σ1 v)(hl:σ1.le σ0){F:AV ->Prop}{d:Dum σ0}{d':Dum F}(hk:F v):wX P G (.fn f []) args σ0 F d d':=mU (h.mono hl) hk
theorem AS.set_get{σ:AS}{b:Nat}{cs:List AV} :(σ.setBox b cs).box b=some cs:=by simp[AS.setBox]
theorem C6c {P:Program} {t:TypeId} {g:Gh} {xs sp:List AV} {k1 k2 k3:IntKind} {l h:Int} {n:Nat} {ag:Bool} {F:AV ->Prop} {d:Dum F} (he:(el P t).bind (tk P)=some (ag,n)) (h0:0 <=l) (h1:l <=h) (h2:h <=xs.length) (h3:∀ a,a ∈ xs -> (flat a).length=n)
  (hF:F (.sl .none ((xs.take h.toNat).drop l.toNat) [])):slX P t (.sl g xs sp) (some (.int k1 l)) (some (.int k2 h)) (.int k3 h) F d:=by
 refine⟨_,?_,hF⟩
 unfold oA
 simp only[he]
 rw[if_pos ⟨h0,h1,trivial,h2,h3⟩]
end Go.Av
namespace Go.Av
open Go Go.RowKit
def Le(a b:AV):Prop:=∀ (K:aJ) (v:Value),VR K a v ->VR K b v
inductive tL:List AV ->List AV ->Prop
 |nil:tL [] []
 |cons {a b:AV} {l r:List AV} (h:Le a b) (t:tL l r):tL (a::l) (b::r)
theorem Le.refl(a:AV):Le a a:=fun _ _ h=>h
theorem tL.length{l r:List AV}(h:tL l r):l.length=r.length:=by
 induction h with
 |nil=>rfl
 |cons _ _ ih=>simp[ih]
theorem tL.get{l r:List AV}(h:tL l r):∀ (j:Nat) (hj:j < l.length) (hj':j < r.length),Le l[j] r[j]:=by
 induction h with
 |nil=>intro j hj;cases hj
 | cons h _ ih=>
  intro j hj hj'
  cases j with
  |zero=>exact h
  |succ j=>exact ih j (by simpa using hj) (by simpa using hj')
theorem tL.append{l r l' r':List AV}(h:tL l r)(k:tL l' r'):tL (l++l') (r++r'):=by
 induction h with
 |nil=>exact k
 |cons h _ ih=>exact .cons h ih
theorem iL.le{K:aJ} :∀ {l r:List AV} {vs:List Value},tL l r ->iL K l vs ->iL K r vs
 |[],_,vs, .nil,h=>h
 |a::l,_,[], .cons _ _,h=>h.elim
 |a::l,_,v::vs, .cons h t,⟨h1,h2⟩=> ⟨h K v h1,iL.le t h2⟩
theorem aH.weaken{P:Program}{G:Nat ->AV}{f:FuncId}{args args':List AV}{σ:AS}{Q:AV ->AS ->Prop}(hl:tL args args')(h:aH P G f args' σ Q):aH P G f args σ Q:=
 ⟨h.1,fun K w vals hr hv=>h.2 K w vals hr (hv.le hl)⟩
theorem aH.tell{P:Program}{G:Nat ->AV}{f:FuncId}{args:List AV}{σ:AS}{Q Q':AV ->AS ->Prop}(h:aH P G f args σ Q)(hq:∀ r s,Q r s ->∃ r',Le r r' /\ Q' r' s):aH P G f args σ Q':=
 ⟨h.1,fun K w vals hr hv=> (h.2 K w vals hr hv).mono fun e w' ⟨v,r,σ',K',he,hQ,h1,h2⟩=>by
   obtain⟨r',hle,hq'⟩:=hq r σ' hQ
   exact⟨v,r',σ',K',he,hq',hle K' v h1,h2⟩⟩
theorem Le.nil:Le .nil (.sl .none [] []):=fun K v h=>by rw[VR.nil_iff]at h;subst h;exact .sl0 none
theorem Le.agg{cs ds:List AV}(h:tL cs ds)(h1:∀ d,d ∈ ds ->one d=true):Le (.agg cs) (.agg ds):=fun K v hv=>by
 cases hv with
 | agg _ vs hl g1 hvv=>
  have hlen:=h.length
  exact .agg ds vs (by omega) h1 fun j hj=>h.get j (by omega) hj K _ (hvv j (by omega))
theorem Le.tup{cs ds:List AV}(h:tL cs ds):Le (.tup cs) (.tup ds):=fun K v hv=>by
 cases hv with
 | tup _ vs hl hvv=>
  have hlen:=h.length
  exact .tup ds vs (by omega) fun j hj=>h.get j (by omega) hj K _ (hvv j (by omega))
structure LeE(a b:AV):Prop where
 cells:tL (flat a) (flat b)
 isv:isv b=true
 one:∀ c,c ∈ flat b ->one c=true
inductive mX:List AV ->List AV ->Prop
 |nil:mX [] []
 |cons {a b:AV} {l r:List AV} (h:LeE a b) (t:mX l r):mX (a::l) (b::r)
theorem mX.length{l r:List AV}(h:mX l r):l.length=r.length:=by
 induction h with
 |nil=>rfl
 |cons _ _ ih=>simp[ih]
theorem mX.flat{l r:List AV}(h:mX l r):tL (l.flatMap flat) (r.flatMap flat):=by
 induction h with
 |nil=>exact .nil
 |cons h _ ih=>rw[List.flatMap_cons,List.flatMap_cons];exact h.cells.append ih
theorem mX.ok{l r:List AV}(h:mX l r){n:Nat}(hn:∀ a,a ∈ l -> (Av.flat a).length=n):∀ b,b ∈ r -> (Av.flat b).length=n /\ Av.isv b=true /\ ∀ c,c ∈ Av.flat b ->Av.one c=true:=by
 induction h with
 |nil=>intro b hb;cases hb
 | cons h _ ih=>
  intro b hb
  rcases List.mem_cons.1 hb with rfl|hb
  ·exact⟨by rw[<- h.cells.length];exact hn _ (by simp),h.isv,h.one⟩
  ·exact ih (fun a ha=>hn a (by simp[ha])) b hb
theorem Le.sl{g:Gh}{xs ys sp:List AV}(h:mX xs ys):Le (.sl g xs sp) (.sl .none ys []):=fun K v hv=>by
 have hlen:=h.length
 cases hv with
 |sl0 a=>cases h;exact .sl0 a
 | sl _ _ _ sz b off cap f hsz hcap hml himm hvv hg=>
  have hle:(xs.flatMap Av.flat).length <=((xs++sp).flatMap Av.flat).length:=by simp
  have hf:=h.flat
  have hfl:=hf.length
  have :=VR.sl (K:=K) .none ys [] sz b off cap f (fun e he=>h.ok (fun a ha=> (hsz a (List.mem_append_left _ ha)).1) e (by simpa using he)) (by simp;omega) hml
   (fun j hj=>himm j (by simp only[List.append_nil]at hj;omega))
   (fun j hj=>by
     simp only[List.append_nil]at hj ⊢
     have h1:=hvv j (by omega)
     have e1:((xs++sp).flatMap Av.flat)[j]'(by omega)=(xs.flatMap Av.flat)[j]'(by omega):=by
      simp only[List.flatMap_append];rw[List.getElem_append_left (by omega)]
     rw[e1]at h1
     exact hf.get j (by omega) hj K _ h1) trivial
  rw[hlen]
  exact this
theorem LeE.agg{cs ds:List AV}(h:tL cs ds)(h1:∀ d,d ∈ ds ->Av.one d=true):LeE (.agg cs) (.agg ds):=⟨h,rfl,h1⟩
theorem mX.map{α:Type}{f g:α ->AV} :∀ (l:List α),(∀ x,x ∈ l ->LeE (f x) (g x)) ->mX (l.map f) (l.map g)
 |[],_=> .nil
 |x::l,h=> .cons (h x (by simp)) (mX.map l fun y hy=>h y (by simp[hy]))
end Go.Av
namespace Go.Av
open Go Go.RowKit
theorem aN.of_le{P:Program}{G:Nat ->AV}{f:FuncId}{args:List AV}{v:AV}(h:∀ σ,aH P G f args σ fun r σ'=>Le r v /\ σ'=σ):aN P G f args v:=
 fun σ=>aH.tell (h σ) fun r s ⟨h1,h2⟩=> ⟨v,h1,rfl,h2⟩
theorem jZ{r v:AV}{σ σ':AS}{d:Dum σ}{d':Dum fun x s=>Le x v /\ s=σ'}(h2:Le r v)(h1:σ'.le σ):jK (some [r]) σ (fun x s=>Le x v /\ s=σ') d d':=⟨[r],σ',rfl,h1,h2,rfl⟩
theorem aN.lessArgs{P:Program}{G:Nat ->AV}{f:FuncId}{args args':List AV}{v:AV}(h:aN P G f args' v)(hl:tL args args'):aN P G f args v:=fun σ=>aH.weaken hl (h σ)
theorem Le.gh{g:Gh}{xs sp:List AV} :Le (.sl g xs sp) (.sl .none xs sp):=fun K v h=>by
 cases h with
 |sl0 a=>exact .sl0 a
 |sl _ _ _ sz b off cap f hsz hcap hml himm hvv hg=>exact .sl .none xs sp sz b off cap f hsz hcap hml himm hvv trivial
inductive oY(n:Nat)(σ0 σ:AS):AV ->List AV ->Prop
 |nil (h:σ0.le σ):oY n σ0 σ .nil []
 |own (b:Nat) (xs:List AV) (h:σ0.le σ) (h0:σ0.tip b=none) (ht:σ.tip b=some (xs.length,n)) (hx:∀ a,a ∈ xs -> (flat a).length=n):oY n σ0 σ (.sl (.own b) xs []) xs
theorem oY.le{n:Nat}{σ0 σ:AS}{v:AV}{xs:List AV}(h:oY n σ0 σ v xs):σ0.le σ:=by cases h <;>assumption
theorem oY.told{n:Nat}{σ0 σ:AS}{v:AV}{xs:List AV}(h:oY n σ0 σ v xs):Le v (.sl .none xs []):=by
 cases h with
 |nil _=>exact Le.nil
 |own b xs _ _ _ _=>exact Le.gh
theorem oY.setBox{n:Nat}{σ0 σ:AS}{v:AV}{xs:List AV}(h:oY n σ0 σ v xs){c:Nat}(hc:σ0.box c=none)(cs:List AV):oY n σ0 (σ.setBox c cs) v xs:=by
 cases h with
 |nil h=>exact .nil (h.setBox hc cs)
 |own b xs h h0 ht hx=>exact .own b xs (h.setBox hc cs) h0 ht hx
theorem oY.newBox{n:Nat}{σ0 σ:AS}{v:AV}{xs:List AV}(h:oY n σ0 σ v xs){c:Nat}(hc:σ.fresh c)(cs:List AV):oY n σ0 (σ.setBox c cs) v xs:=h.setBox (h.le.fresh hc).1 cs
theorem oY.len{P:Program}{n:Nat}{σ0 σ:AS}{v:AV}{xs:List AV}(h:oY n σ0 σ v xs){t:TypeId} :eK P .len #[t] [v]=if(el P t).isSome then some (.int .i64 xs.length)else none:=by
 cases h with
 |nil _=>rw[A4q];rfl
 |own b xs _ _ _ _=>rw[A7q]
theorem oY.isv{n:Nat}{σ0 σ:AS}{v:AV}{xs:List AV}(h:oY n σ0 σ v xs):isv v=true:=by cases h <;>rfl
theorem oY.flat{n:Nat}{σ0 σ:AS}{v:AV}{xs:List AV}(h:oY n σ0 σ v xs):flat v=[v]:=by cases h <;>rfl
theorem A4i {P:Program} {n cM:Nat} {σ0 σ:AS} {v x:AV} {xs ys:List AV} {t tx e:TypeId} {K:AV ->AS ->Prop} {d:Dum σ} {d':Dum K} (hB:oY n σ0 σ v xs) (he:eI P t=some (e,n,cM)) (hs:nB P tx x=some ys)
  (hys:∀ a,a ∈ ys -> (Av.flat a).length=n) (hb:(xs.length+ys.length)*cM <=140737488355328) (hK:∀ v' σ',oY n σ0 σ' v' (xs++ys) ->σ'.box=σ.box ->K v' σ'):A1x P σ t tx v x K d d':=by
 refine .inl ?_
 unfold gK
 rw[he,hs]
 refine⟨hys,?_⟩
 cases hB with
 | nil h=>
  refine⟨by simpa using hb,fun hy=> ?_,fun hy b hf=> ?_⟩
  ·subst hy;exact hK _ _ (.nil h) rfl
  ·have hf0:=h.fresh hf
   refine hK _ _ ?_ rfl
   rw[List.nil_append]
   exact .own b ys (h.setTip hf0.2.1 _) hf0.2.1 (by simp[AS.setTip]) hys
 | own b xs h h0 ht hx=>
  refine⟨ht,hx,hb,fun b' hb'=> ?_⟩
  have h0':σ0.tip b'=none:=by
   rcases hb' with rfl|hf
   ·exact h0
   ·exact(h.fresh hf).2.1
  refine hK _ _ ?_ rfl
  refine .own b' (xs++ys) ((h.delTip h0).setTip h0' _) h0' (by simp[AS.setTip]) fun a ha=> ?_
  rcases List.mem_append.1 ha with ha|ha
  ·exact hx a ha
  ·exact hys a ha
theorem A9j {P:Program} {n cM:Nat} {σ0 σ:AS} {x:AV} {xs ys:List AV} {t tx e:TypeId} {K:AV ->AS ->Prop} {d:Dum σ} {d':Dum K} (hle:σ0.le σ) (hxs:∀ a,a ∈ xs -> (Av.flat a).length=n) (he:eI P t=some (e,n,cM)) (hs:nB P tx x=some ys)
  (hys:∀ a,a ∈ ys -> (Av.flat a).length=n) (hb:(xs.length+ys.length)*cM <=140737488355328) (hK1:ys=[] ->K (.sl .full xs []) σ) (hK:∀ v' σ',oY n σ0 σ' v' (xs++ys) ->σ'.box=σ.box ->K v' σ'):A1x P σ t tx (.sl .full xs []) x K d d':=by
 refine .inl ?_
 unfold gK
 rw[he,hs]
 refine⟨hys,hxs,hb,hK1,fun hy b hf=> ?_⟩
 have hf0:=hle.fresh hf
 refine hK _ _ ?_ rfl
 refine .own b (xs++ys) (hle.setTip hf0.2.1 _) hf0.2.1 (by simp[AS.setTip]) fun a ha=> ?_
 rcases List.mem_append.1 ha with ha|ha
 ·exact hxs a ha
 ·exact hys a ha
theorem iC{P:Program}{t e:TypeId}{g:Gh}{xs sp:List AV}(h:el P t=some e):nB P t (.sl g xs sp)=some xs:=by simp[nB,h]
theorem A2i{P:Program}{m:Bool}{σ:AS}{t e:TypeId}{n cM:Nat}{K:AV ->AS ->Prop}{d:Dum σ}{d':Dum K}(he:eI P t=some (e,n,cM))(hK:K (.sl .full [] []) σ):bmW m P σ t 0 [] K d d':=by
 refine .inl ⟨_,lM (r:= .sl .full [] []) ?_,hK⟩
 unfold bsk
 rw[he]
 simp
theorem mX.get{xs ys:List AV}(h:mX xs ys):∀ (j:Nat) (h1:j < xs.length) (h2:j < ys.length),LeE xs[j] ys[j]:=by
 induction h with
 |nil=>intro j hj;cases hj
 | cons h _ ih=>
  intro j h1 h2
  cases j with
  |zero=>exact h
  |succ j=>exact ih j (by simpa using h1) (by simpa using h2)
def cW(o:Oper):Bool:=match o.op with| .store .. =>true| .makeSlice .. =>true| .call ⟨.builtin .append,_,_⟩=>true| .call ⟨.builtin .unsafeString,_,_⟩=>true|_=>false
def gM:List Oper ->Nat
 |[]=>0
 |o::r=>if cW o=true then 0 else gM r+1
def htW(w:Bool)(A B:Prop)(_:Dum A)(_:Dum B):Prop:=(w=true ->A) /\ (w=false ->B)
def oE(P:Program)(G:Nat ->AV)(ops:List Oper)(σ0:AS)(R:aK ->AS ->Prop):List Oper ->aK ->AS ->Prop
 |[],e,σ=>R e σ
 | o::rest,e,σ=>htW (cW o) (cI P G ops R (o::rest) e σ)
   (gW (bZ ops e o.guard) (hop P G o e σ0 σ fun r σ'=>oE P G ops σ0 R rest (e.upd o.dst r) σ') (oE P G ops σ0 R rest (e.upd o.dst (.tup [])) σ) ⟨⟩ ⟨⟩) ⟨⟩ ⟨⟩
theorem B2p{A B:Prop}{d:Dum A}{d':Dum B} :htW true A B d d'=A:=by simp[htW]
theorem A7k{A B:Prop}{d:Dum A}{d':Dum B} :htW false A B d d'=B:=by simp[htW]
section ht
variable {P:Program} {G:Nat ->AV} {ops rest:List Oper} {σ0 σ:AS} {R:aK ->AS ->Prop} {e:aK} {d:Option Tmp} {ty:TypeId} {pos:String} {af:Array Edge} {g:Option (Nat × Bool)}
theorem C4h:oE P G ops σ0 R [] e σ=R e σ:=nr rfl
theorem B8t{o:Oper} :oE P G ops σ0 R (o::rest) e σ=htW (cW o) (cI P G ops R (o::rest) e σ)
   (gW (bZ ops e o.guard) (hop P G o e σ0 σ fun r σ'=>oE P G ops σ0 R rest (e.upd o.dst r) σ') (oE P G ops σ0 R rest (e.upd o.dst (.tup [])) σ) ⟨⟩ ⟨⟩) ⟨⟩ ⟨⟩:=nr rfl
theorem B9d{x:Operand} :cW ⟨d, .move x,ty,pos,af,g⟩=false:=nr rfl
theorem A7p{x:Operand} :cW ⟨d, .assign x,ty,pos,af,g⟩=false:=nr rfl
theorem B9e{a b c:Operand} :cW ⟨d, .pick a b c,ty,pos,af,g⟩=false:=nr rfl
theorem B2v{E:TypeId} :cW ⟨d, .alloc E,ty,pos,af,g⟩=false:=nr rfl
theorem C4r{E:TypeId}{x:Operand} :cW ⟨d, .box E x,ty,pos,af,g⟩=false:=nr rfl
theorem B2x{t:TypeId}{ps:Array (Nat × Operand)} :cW ⟨d, .build t ps,ty,pos,af,g⟩=false:=nr rfl
theorem uG{t n:Nat}{ps:Array (Nat × Operand)} :cW ⟨d, .buildSlice t n ps,ty,pos,af,g⟩=false:=nr rfl
theorem B9c{t:TypeId}{x:Operand} :cW ⟨d, .load t x,ty,pos,af,g⟩=false:=nr rfl
theorem zU{x:Operand} :cW ⟨d, .nilCheck x,ty,pos,af,g⟩=false:=nr rfl
theorem B2w{op:BinOp}{t yt:TypeId}{x y:Operand} :cW ⟨d, .binOp op t x y yt,ty,pos,af,g⟩=false:=nr rfl
theorem B9f{op:UnOp}{t:TypeId}{x:Operand} :cW ⟨d, .unOp op t x,ty,pos,af,g⟩=false:=nr rfl
theorem A3f{s t:TypeId}{x:Operand} :cW ⟨d, .convert s t x,ty,pos,af,g⟩=false:=nr rfl
theorem zT{f:FuncId}{caps:Array Operand} :cW ⟨d, .makeFunc (.func f) #[] caps,ty,pos,af,g⟩=false:=nr rfl
theorem C4v{f:FuncId}{x:Operand} :cW ⟨d, .makeFunc (.func f) #[x] #[],ty,pos,af,g⟩=false:=nr rfl
theorem B3a{t:TypeId}{x:Operand}{lo hi:Option Operand} :cW ⟨d, .slice t x lo hi none,ty,pos,af,g⟩=false:=nr rfl
theorem xH{t:TypeId}{x:Operand}{i:Nat} :cW ⟨d, .fieldAddr t x i,ty,pos,af,g⟩=false:=nr rfl
theorem B2y{t:TypeId}{x:Operand}{i:Nat} :cW ⟨d, .field t x i,ty,pos,af,g⟩=false:=nr rfl
theorem xI{t:TypeId}{x i:Operand} :cW ⟨d, .indexAddr t x i,ty,pos,af,g⟩=false:=nr rfl
theorem B2z{t:TypeId}{x i:Operand} :cW ⟨d, .index t x i,ty,pos,af,g⟩=false:=nr rfl
theorem A3g{x:Operand}{i:Nat} :cW ⟨d, .extract x i,ty,pos,af,g⟩=false:=nr rfl
theorem B9b{f:Operand}{args:Array Operand}{ts:Array TypeId} :cW ⟨d, .call ⟨.value f,args,ts⟩,ty,pos,af,g⟩=false:=nr rfl
theorem C4t{args:Array Operand}{ts:Array TypeId} :cW ⟨d, .call ⟨.builtin .len,args,ts⟩,ty,pos,af,g⟩=false:=nr rfl
theorem C4s{args:Array Operand}{ts:Array TypeId} :cW ⟨d, .call ⟨.builtin .cap,args,ts⟩,ty,pos,af,g⟩=false:=nr rfl
theorem C4x{args:Array Operand}{ts:Array TypeId} :cW ⟨d, .call ⟨.builtin .unsafeSliceData,args,ts⟩,ty,pos,af,g⟩=false:=nr rfl
theorem B9g{args:Array Operand}{ts:Array TypeId} :cW ⟨d, .call ⟨.builtin .unsafeString,args,ts⟩,ty,pos,af,g⟩=true:=nr rfl
theorem C4u{args:Array Operand}{ts:Array TypeId} :cW ⟨d, .call ⟨.builtin .max,args,ts⟩,ty,pos,af,g⟩=false:=nr rfl
theorem C4w{args:Array Operand}{ts:Array TypeId} :cW ⟨d, .call ⟨.builtin .min,args,ts⟩,ty,pos,af,g⟩=false:=nr rfl
theorem B3b{t:TypeId}{p x:Operand} :cW ⟨d, .store t p x,ty,pos,af,g⟩=true:=nr rfl
theorem A7o{args:Array Operand}{ts:Array TypeId} :cW ⟨d, .call ⟨.builtin .append,args,ts⟩,ty,pos,af,g⟩=true:=nr rfl
theorem xJ{t:TypeId}{x y:Operand} :cW ⟨d, .makeSlice t x y,ty,pos,af,g⟩=true:=nr rfl
theorem xG:∀ (l:List Oper) (e:aK) (σ:AS),oE P G ops σ0 R l e σ ->iE P G ops σ0 (fun e' σ'=>cI P G ops R (l.drop (gM l)) e' σ') (l.take (gM l)) e σ
 |[],e,σ,h=>h
 | o::rest,e,σ,h=>by
  unfold oE htW at h
  unfold gM
  cases hw:cW o with
  | true=>
   simp only[if_true]
   exact h.1 hw
  | false=>
   simp only[Bool.false_eq_true,if_false]
   obtain⟨b,hb,h1,h2⟩:=h.2 hw
   have hl:(o::rest).take (gM rest+1)=o::rest.take (gM rest):=rfl
   have hd:(o::rest).drop (gM rest+1)=rest.drop (gM rest):=rfl
   rw[hl,hd]
   exact⟨b,hb,fun x=>oJ (fun r s hh=>xG rest _ _ hh) (h1 x),fun x=>xG rest _ _ (h2 x)⟩
end ht
theorem B0w {P:Program} {G:Nat ->AV} {l:List Oper} {R:aK ->AS ->Prop} {e:aK} {σ:AS} {d:Dum l.toArray} {d':Dum R} {d2:Dum e} {d3:Dum σ} (hn:uS l.toArray (gM l)=true)
  (h:oE P G l σ R l e σ):uT P G l.toArray R e σ d d' d2 d3:= .inl ⟨[],gM l,σ,[],rfl,hn,AS.le.refl σ,fun c hc=> (by cases hc),mH _ _ _ _ (xG l e σ h)⟩
theorem pR {P:Program} (hm:P.follows .mixedOrders=true) {G:Nat ->AV} {c:Code} {Q:Exit ->aK ->AS ->Prop} {e:aK} {σ:AS} {d:Dum c} {d':Dum Q} {d2:Dum e} {d3:Dum σ} (I:Nat ->aK ->Prop) (n:Nat) (h0:I n e)
  (h1:∀ n v,I n (mrg (bO c) v e) ->kQ P G (eM P G) c (fun x e' σ'=>match x with| .normal=> (∃ m,m < n /\ I m e') /\ σ'=σ|x=>Q x e' σ') (mrg (bO c) v e) σ):B3p P G c Q e σ d d' d2 d3:=
 bM (fun n e σ'=>I n e /\ σ'=σ) n ⟨h0,rfl⟩ fun n v σ' ⟨hI,hs⟩=>by
  subst hs
  refine fT (B0v hm) _ _ _ (fun x e s hx=> ?_) (h1 n v hI)
  cases x with
  |normal=>obtain⟨⟨m,h1,h2⟩,h3⟩:=hx;exact⟨m,h1,h2,h3⟩
  |_=>exact hx
end Go.Av
