/- Functions: from what is shown of the body to what is said of a call; and the rules by which what is to be shown is worked out. -/
import Derived.Test.YthoenjlenkpnnaaDoorY04
import Derived.Laws.ResultCell
set_option linter.unusedVariables false
set_option linter.unusedSimpArgs false
namespace Go.Av
open Go Go.RowKit
def A3k(P:Program)(e:aM)(σ:AS):ResultVar ->Option AV
 | .tmp t=>some (e t)
 | .cell a t=>hO P σ t (e a)
def jJ(P:Program)(e:aM)(σ:AS):List ResultVar ->Option (List AV)
 |[]=>some []
 | r::rs=>match A3k P e σ r,jJ P e σ rs with
  |some x,some xs=>some (x::xs)
  |_,_=>none
def pI:List AV ->AV
 |[r]=>r
 |rs=> .tup rs
def B7t(P:Program)(rs:List ResultVar)(Q:AV ->AS ->Prop):Exit ->aM ->AS ->Prop:=fun x e σ=>
 match x with
 | .normal=>∃ l σ',jJ P e σ rs=some l /\ σ'.le σ /\ Q (pI l) σ'
 | .ret=>∃ l σ',jJ P e σ rs=some l /\ σ'.le σ /\ Q (pI l) σ'
 |_=>False
def vJ(args:List AV):aM:=fun j=>args.getD j .undef
theorem C0s{P:Program}{G:Nat ->AV}{K:aT}{σ:AS}{w:World}(hr:bM G K σ w){t:TypeId}{p r:AV}(h:hO P σ t p=some r){v:Value}(hv:VR K p v):
  ∃ u,(do loadVar t (<- asAddr v):Sem Value).run P w= .ok u w /\ VR K r u:=by
 obtain⟨u,hu,hru⟩:=tC hr h hv
 refine⟨u,?_,hru⟩
 unfold hO at h
 split at h
 ·cases h
 cases p <;>simp only at h <;>first|cases h|skip
 ·rw[VR.ptr_iff]at hv;subst hv
  simpa [Instr.loadAt,Instr.sureAddr,asAddr] using hu
 ·cases hv
  simpa [Instr.loadAt,Instr.sureAddr,asAddr] using hu
theorem vI{P:Program}{G:Nat ->AV}{K:aT}{N:Nat}{ds:List Deferred}{e:aM}{σ:AS}{a:Act}{w:World}(hs:St P G K N ds e σ a w):∀ (rs:List ResultVar) (l:List AV),jJ P e σ rs=some l ->
  ∃ vs,(rs.mapM fun r=> (match r with| .tmp t=>pure (a.tmps.getD t Go.undef)| .cell b t=>do loadVar t (<- asAddr (a.tmps.getD b Go.undef)):Sem Value)).run P w= .ok vs w /\ lE K l vs
 |[],l,h=>by simp only[jJ,Option.some.injEq]at h;subst h;exact⟨[],by simp,trivial⟩
 | r::rs,l,h=>by
  unfold jJ at h
  split at h
  case h_2=>cases h
  rename_i x xs hx hxs
  simp only[Option.some.injEq]at h;subst h
  obtain⟨vs,h1,h2⟩:=vI hs rs xs hxs
  cases r with
  | tmp t=>
   simp only[A3k,Option.some.injEq]at hx;subst hx
   exact⟨a.tmps.getD t Go.undef::vs,by simp only[List.mapM_cons,Sem.run_bind,Sem.run_pure,Result.andThen_ok,h1],hs.er t,h2⟩
  | cell b t=>
   obtain⟨u,h3,h4⟩:=C0s hs.rel (p:=e b) hx (hs.er b)
   exact⟨u::vs,by simp only[List.mapM_cons,Sem.run_bind (x:=do loadVar t (<- asAddr (a.tmps.getD b Go.undef))),h3,Sem.run_bind,Sem.run_pure,Result.andThen_ok,h1],h4,h2⟩
theorem yD{P:Program}{G:Nat ->AV}{K:aT}{N:Nat}{ds:List Deferred}{e:aM}{σ:AS}{a:Act}{w:World}(hs:St P G K N ds e σ a w){fn:Func}{l:List AV}(h:jJ P e σ fn.results.toList=some l):
  ∃ v,(results fn a.tmps).run P w= .ok v w /\ VR K (pI l) v:=by
 obtain⟨vs,h1,h2⟩:=vI hs _ l h
 have hm:(fn.results.mapM fun r=> (match r with| .tmp t=>pure (a.tmps.getD t Go.undef)| .cell b t=>do loadVar t (<- asAddr (a.tmps.getD b Go.undef)):Sem Value)).run P w= .ok vs.toArray w:=by
  rw[Array.mapM_eq_mapM_toList]
  simp only[Sem.run_map,h1]
  rfl
 have hl:=h2.length
 refine⟨if h:vs.toArray.size=1 then vs.toArray[0]else .tuple vs.toArray,?_,?_⟩
 ·unfold results
  simp only[Sem.run_bind,Sem.run_pure]
  exact(congrArg (fun r=>Result.andThen r fun(a:Array Value) w'=>Result.ok (if h:a.size=1 then a[0]else Value.tuple a) w') hm)
 ·match l,vs,h2,hl with
  |[],[],_,_=>exact .tup [] #[] rfl (fun j hj=>by cases hj)
  |[x],[v],hh,_=>exact hh.1
  | x::y::l',v::u::vs',hh,_=>
   have e1: ¬ ((v::u::vs').toArray.size=1):=by simp
   rw[dif_neg e1]
   refine .tup _ _ (by have:=hh.length;simp only[List.size_toArray];omega) (fun j hj=> ?_)
   have:=hh.get j hj
   simpa [Array.getD_eq_getD_getElem?,List.getD_eq_getElem?_getD] using this
theorem lE.env{K:aT}{l:List AV}{vs:List Value}(h:lE K l vs)(n:Nat):ER K (vJ l) {tmps:=vs.toArray++Array.replicate n Go.undef,defers:=[]} :=by
 intro t
 have hl:=h.length
 unfold vJ
 by_cases ht:t < l.length
 ·have h1:=h.get t ht
  have e1:l.getD t .undef=l[t]:=by simp[ht]
  have ht2:t < vs.length:=by omega
  rw[e1]
  have e2:(vs.toArray++Array.replicate n Go.undef).getD t Go.undef=vs.getD t Go.undef:=by
   simp only[Array.getD_eq_getD_getElem?,List.getD_eq_getElem?_getD]
   rw[Array.getElem?_append_left (by simpa using ht2)]
   simp
  rw[e2]
  exact h1
 ·have e1:l.getD t .undef= .undef:=by simp[List.getElem?_eq_none (Nat.le_of_not_lt ht)]
  rw[e1]
  exact .undef _
theorem aJ.of_awp {P:Program} {G:Nat ->AV} (hm:P.follows .mixedOrders=true) {f:FuncId} {fn:Func} {c:Code} (hf:P.funcs[f]? =some fn) (hb:fn.body=some c) (hcl:oC P f=true) (hok:cOK fn.ntmps c=true)
  {args:List AV} (hlen:args.length <=fn.ntmps) {σ:AS} {Q:AV ->AS ->Prop} {rs:Array ResultVar} (hrs:fn.results=rs) (h:pU P G (hJ P G) c (B7t P rs.toList Q) (vJ args) σ):aJ P G f args σ Q:=by
 subst hrs
 refine⟨hcl,fun K w vals hr hv=> ?_⟩
 refine calls_of_wp hf hb ?_
 have hl:=hv.length
 have hs:St P G K fn.ntmps [] (vJ args) σ {tmps:=vals.toArray++Array.replicate (fn.ntmps - vals.toArray.size) Go.undef,defers:=[]} w:=
  ⟨hv.env _,hr,by simp;omega,rfl⟩
 refine wp_mono (B1q (B7d hm) fn.ntmps [] c _ _ σ K _ w hok h hs) ?_
 intro x a' w' ⟨e',σ',K',hq,hs',hk⟩
 have key:(∃ l σ'',jJ P e' σ' fn.results.toList=some l /\ σ''.le σ' /\ Q (pI l) σ'') ->a'.defers=[] /\ ∃ v,(results fn a'.tmps).run P w'= .ok v w' /\
   ∃ v' r σ'' K',Ending.returned v= .returned v' /\ Q r σ'' /\ VR K' r v' /\ bM G K' σ'' w' /\ K.le K':=by
  rintro⟨l,σ'',h1,h2,h3⟩
  obtain⟨v,h4,h5⟩:=yD hs' h1
  exact⟨hs'.defers,v,h4,v,pI l,σ'',K',rfl,h3,h5,hs'.rel.weaken h2,hk⟩
 unfold B7t at hq
 cases x <;>first|exact hq.elim|exact key hq
structure Dum.{u}{α:Sort u}(a:α):Type where
def bo{α:Type}(x:Option α)(K:α ->Prop)(_:Dum K):Prop:=∃ r,x=some r /\ K r
def st(x:AV)(K:AV ->Prop)(_:Dum K):Prop:=K x
def slW(P:Program)(σ:AS)(t:TypeId)(x:AV)(lo hi:Option AV)(K:AV ->Prop)(_:Dum σ)(_:Dum K):Prop:=∃ r,gL P σ t x lo hi=some r /\ K r
def bmW(m:Bool)(P:Program)(σ:AS)(t:TypeId)(n:Nat)(ps:List (Nat × AV))(K:AV ->AS ->Prop)(_:Dum σ)(_:Dum K):Prop:=(∃ r,cX P t n ps=some r /\ K r σ) \/ (m=true /\ mA P σ t n ps K)
def cvW(P:Program)(σ:AS)(s t:TypeId)(x:AV)(K:AV ->AS ->Prop)(_:Dum σ)(_:Dum K):Prop:=(∃ r,dP P σ s t x=some r /\ K r σ) \/ zW P σ s t x K \/ A6n P σ s t x K
def cvT(t:Option TypeId)(P:Program)(σ:AS)(s d:TypeId)(l:List UInt8)(K:AV ->AS ->Prop)(_:Dum σ)(_:Dum K):Prop:=match t with
 |none=>∃ r,dP P σ s d (.str l)=some r /\ K r σ
 |some _=> (∃ r,dP P σ s d (.str l)=some r /\ K r σ) \/ zW P σ s d (.str l) K
def lL(v:AV)(A B:Prop)(_:Dum A)(_:Dum B):Prop:=∃ t,v= .bool t /\ (t=true ->A) /\ (t=false ->B)
def gW(v:Option Bool)(A B:Prop)(_:Dum A)(_:Dum B):Prop:=∃ b,v=some b /\ (b=true ->A) /\ (b=false ->B)
def tQ(v:AV)(a b:AV)(K:AV ->Prop)(_:Dum a)(_:Dum b)(_:Dum K):Prop:=∃ t,v= .bool t /\ K (if t=true then a else b)
def C6x(σ:AS)(z:List AV)(K:AV ->AS ->Prop)(_:Dum σ)(_:Dum K):Prop:=∀ b,σ.fresh b ->K (.ptr b 0) (σ.setBox b z)
def D6c(σ:AS)(E:TypeId)(z:List AV)(K:AV ->AS ->Prop)(_:Dum σ)(_:Dum K):Prop:=(∀ b,σ.fresh b ->K (.ptr b 0) (σ.setBox b z)) \/ (∀ b,σ.fresh b ->K (.ptr b 0) ((σ.setBox b z).setTy b (E,z.length)))
def D0c(σ:AS)(x:AV)(K:AV ->AS ->Prop)(_:Dum σ)(_:Dum K):Prop:=isv x=true /\ C6x σ (flat x) K ⟨⟩ ⟨⟩
def A4x(x:AV)(K:AV ->Prop)(_:Dum K):Prop:=(match x with| .ptr .. =>True| .rp .. =>True| .fn .. =>True|_=>False) /\ K x
def A3t(P:Program)(G:Nat ->AV)(f:AV)(args:List AV)(σ:AS)(K:AV ->AS ->Prop)(_:Dum σ)(_:Dum K):Prop:=
 match f with
 | .fn k caps=>aJ P G k (args++caps) σ K
 | .raw v=>∃ k b o,v= .func (.func k) #[.pointer (some ⟨b,o,none⟩)] #[] /\ aJ P G k (.ptr b o::args) σ K
 |_=>False
def D2d(f:FuncId)(x:AV)(K:AV ->Prop)(_:Dum K):Prop:=∃ b o,x= .ptr b o /\ K (mfn f b o)
def B4o(P:Program)(G:Nat ->AV)(k:FuncId)(args:List AV)(σ:AS)(K:AV ->AS ->Prop)(_:Dum σ)(_:Dum K):Prop:=aJ P G k args σ K
def C9y(P:Program)(σ:AS)(t tx:TypeId)(s x:AV)(K:AV ->AS ->Prop)(_:Dum σ)(_:Dum K):Prop:=lZ P σ t tx s x K \/ nS P σ t tx s x K
def C9i(P:Program)(σ:AS)(t:TypeId)(l c:AV)(K:AV ->AS ->Prop)(_:Dum σ)(_:Dum K):Prop:=A3f P σ t l c K \/ vD P σ t l c K \/ rT P σ t l c K
def C3c(P:Program)(σ:AS)(pt:TypeId)(x n:AV)(K:AV ->AS ->Prop)(_:Dum σ)(_:Dum K):Prop:=tD P σ pt x n K
def C0t(P:Program)(G:Nat ->AV)(c:Code)(Q:Exit ->aM ->AS ->Prop)(e:aM)(σ:AS)(_:Dum c)(_:Dum Q)(_:Dum e)(_:Dum σ):Prop:=pU P G (hJ P G) (.loop c) Q e σ
def qP(P:Program)(G:Nat ->AV)(ops:Array Oper)(Q:aM ->AS ->Prop)(e:aM)(σ:AS)(_:Dum ops)(_:Dum Q)(_:Dum e)(_:Dum σ):Prop:=hJ P G ops Q e σ
def qS(l:Option (List AV))(σ:AS)(Q:AV ->AS ->Prop)(_:Dum σ)(_:Dum Q):Prop:=∃ r σ',l=some r /\ σ'.le σ /\ Q (pI r) σ'
def wB(P:Program)(G:Nat ->AV)(f:AV)(args:List AV)(σ0:AS)(K:AV ->Prop)(_:Dum σ0)(_:Dum K):Prop:=
 match f with
 | .fn k caps=>∃ v,bZ P G k (args++caps) σ0 v /\ K v
 |_=>False
theorem nr{p:Prop}(h:p):p:=h
section rules
variable {P:Program} {G:Nat ->AV} {Q:Exit ->aM ->AS ->Prop} {e:aM} {σ σ0:AS} {ops rest:List Oper} {R:aM ->AS ->Prop} {K:AV ->AS ->Prop}
theorem D3s:pU P G (hJ P G) .skip Q e σ=Q .normal e σ:=nr rfl
theorem C3f{id:Nat}{l:List Oper} :pU P G (hJ P G) (.region id l.toArray false) Q e σ=cF P G l (Q .normal) l e σ:=nr rfl
theorem D3p{id:Nat}{l:Array Oper} :pU P G (hJ P G) (.region id l true) Q e σ=qP P G l (Q .normal) e σ ⟨⟩ ⟨⟩ ⟨⟩ ⟨⟩:=nr rfl
theorem D7j{a b:Code} :pU P G (hJ P G) (.seq a b) Q e σ=pU P G (hJ P G) a (fun x e σ=>match x with| .normal=>pU P G (hJ P G) b Q e σ|x=>Q x e σ) e σ:=nr rfl
theorem D3n{c:Operand}{a b:Code} :pU P G (hJ P G) (.cond c a b) Q e σ=lL (ev G e c) (pU P G (hJ P G) a Q e σ) (pU P G (hJ P G) b Q e σ) ⟨⟩ ⟨⟩:=nr rfl
theorem C9a{id:Nat}{c:Code} :pU P G (hJ P G) (.block id c) Q e σ=pU P G (hJ P G) c (fun x e σ=>match x with| .exit i=>if i=id then Q .normal e σ else Q (.exit i) e σ|x=>Q x e σ) e σ:=nr rfl
theorem D3r{c:Code} :pU P G (hJ P G) (.loop c) Q e σ=C0t P G c Q e σ ⟨⟩ ⟨⟩ ⟨⟩ ⟨⟩:=nr rfl
theorem D3q{id:Nat} :pU P G (hJ P G) (.exit id) Q e σ=Q (.exit id) e σ:=nr rfl
theorem D7i:pU P G (hJ P G) .ret Q e σ=Q .ret e σ:=nr rfl
theorem D7h:cF P G ops R [] e σ=R e σ:=nr rfl
theorem D3o{o:Oper} :cF P G ops R (o::rest) e σ=gW (cE ops e o.guard) (eK P G o e σ fun r σ'=>cF P G ops R rest (e.upd o.dst r) σ') (cF P G ops R rest (e.upd o.dst (.tup [])) σ) ⟨⟩ ⟨⟩:=nr rfl
theorem D5b{L:aM ->AS ->Prop} :jM P G ops σ0 L [] e σ=L e σ:=nr rfl
theorem D0r{L:aM ->AS ->Prop}{o:Oper} :jM P G ops σ0 L (o::rest) e σ=gW (cE ops e o.guard) (hop P G o e σ0 σ fun r σ'=>jM P G ops σ0 L rest (e.upd o.dst r) σ') (jM P G ops σ0 L rest (e.upd o.dst (.tup [])) σ) ⟨⟩ ⟨⟩:=nr rfl
variable {d:Option Tmp} {ty:TypeId} {pos:String} {af:Array Edge} {g:Option (Nat × Bool)}
theorem D2k{x:Operand} :eK P G ⟨d, .move x,ty,pos,af,g⟩ e σ K=st (ev G e x) (fun r=>K r σ) ⟨⟩:=nr rfl
theorem D0t{x:Operand} :hop P G ⟨d, .move x,ty,pos,af,g⟩ e σ0 σ K=st (ev G e x) (fun r=>K r σ) ⟨⟩:=nr rfl
theorem C1e{x:Operand} :eK P G ⟨d, .assign x,ty,pos,af,g⟩ e σ K=st (ev G e x) (fun r=>K r σ) ⟨⟩:=nr rfl
theorem B8w{x:Operand} :hop P G ⟨d, .assign x,ty,pos,af,g⟩ e σ0 σ K=st (ev G e x) (fun r=>K r σ) ⟨⟩:=nr rfl
theorem D2m{c x y:Operand} :eK P G ⟨d, .pick c x y,ty,pos,af,g⟩ e σ K=tQ (ev G e c) (ev G e x) (ev G e y) (fun r=>K r σ) ⟨⟩ ⟨⟩ ⟨⟩:=nr rfl
theorem D0u{c x y:Operand} :hop P G ⟨d, .pick c x y,ty,pos,af,g⟩ e σ0 σ K=tQ (ev G e c) (ev G e x) (ev G e y) (fun r=>K r σ) ⟨⟩ ⟨⟩ ⟨⟩:=nr rfl
theorem C7a{E:TypeId} :eK P G ⟨d, .alloc E,ty,pos,af,g⟩ e σ K=bo (zc P E) (fun z=>D6c σ E z K ⟨⟩ ⟨⟩) ⟨⟩:=nr rfl
theorem C5h{E:TypeId} :hop P G ⟨d, .alloc E,ty,pos,af,g⟩ e σ0 σ K=bo (zc P E) (fun z=>C6x σ z K ⟨⟩ ⟨⟩) ⟨⟩:=nr rfl
theorem D6e{E:TypeId}{x:Operand} :eK P G ⟨d, .box E x,ty,pos,af,g⟩ e σ K=D0c σ (ev G e x) K ⟨⟩ ⟨⟩:=nr rfl
theorem D4v{E:TypeId}{x:Operand} :hop P G ⟨d, .box E x,ty,pos,af,g⟩ e σ0 σ K=D0c σ (ev G e x) K ⟨⟩ ⟨⟩:=nr rfl
theorem C7c{t:TypeId}{ps:Array (Nat × Operand)} :eK P G ⟨d, .build t ps,ty,pos,af,g⟩ e σ K=bo (rR P t (iJ G e ps.toList)) (fun r=>K r σ) ⟨⟩:=nr rfl
theorem C5j{t:TypeId}{ps:Array (Nat × Operand)} :hop P G ⟨d, .build t ps,ty,pos,af,g⟩ e σ0 σ K=bo (rR P t (iJ G e ps.toList)) (fun r=>K r σ) ⟨⟩:=nr rfl
theorem A1x{t n:Nat}{ps:Array (Nat × Operand)} :eK P G ⟨d, .buildSlice t n ps,ty,pos,af,g⟩ e σ K=bmW true P σ t n (iJ G e ps.toList) K ⟨⟩ ⟨⟩:=by
 unfold bmW;simp only[true_and];rfl
theorem A1f{t n:Nat}{ps:Array (Nat × Operand)} :hop P G ⟨d, .buildSlice t n ps,ty,pos,af,g⟩ e σ0 σ K=bmW false P σ t n (iJ G e ps.toList) K ⟨⟩ ⟨⟩:=by
 unfold bmW;simp only[Bool.false_eq_true,false_and,or_false];rfl
theorem D2j{t:TypeId}{x:Operand} :eK P G ⟨d, .load t x,ty,pos,af,g⟩ e σ K=bo (hO P σ t (ev G e x)) (fun r=>K r σ) ⟨⟩:=nr rfl
theorem D0s{t:TypeId}{x:Operand} :hop P G ⟨d, .load t x,ty,pos,af,g⟩ e σ0 σ K=bo (hO P σ0 t (ev G e x)) (fun r=>K r σ) ⟨⟩:=nr rfl
theorem A8u{x:Operand} :eK P G ⟨d, .nilCheck x,ty,pos,af,g⟩ e σ K=A4x (ev G e x) (fun r=>K r σ) ⟨⟩:=nr rfl
theorem A8g{x:Operand} :hop P G ⟨d, .nilCheck x,ty,pos,af,g⟩ e σ0 σ K=A4x (ev G e x) (fun r=>K r σ) ⟨⟩:=nr rfl
theorem C7b{op:BinOp}{t yt:TypeId}{x y:Operand} :eK P G ⟨d, .binOp op t x y yt,ty,pos,af,g⟩ e σ K=bo (pJ P op t y (ev G e x) (ev G e y)) (fun r=>K r σ) ⟨⟩:=nr rfl
theorem C5i{op:BinOp}{t yt:TypeId}{x y:Operand} :hop P G ⟨d, .binOp op t x y yt,ty,pos,af,g⟩ e σ0 σ K=bo (pJ P op t y (ev G e x) (ev G e y)) (fun r=>K r σ) ⟨⟩:=nr rfl
theorem D2n{op:UnOp}{t:TypeId}{x:Operand} :eK P G ⟨d, .unOp op t x,ty,pos,af,g⟩ e σ K=bo (aun op (ev G e x)) (fun r=>K r σ) ⟨⟩:=nr rfl
theorem D0v{op:UnOp}{t:TypeId}{x:Operand} :hop P G ⟨d, .unOp op t x,ty,pos,af,g⟩ e σ0 σ K=bo (aun op (ev G e x)) (fun r=>K r σ) ⟨⟩:=nr rfl
theorem B3u{s t:TypeId}{x:Operand} :eK P G ⟨d, .convert s t x,ty,pos,af,g⟩ e σ K=cvW P σ s t (ev G e x) K ⟨⟩ ⟨⟩:=nr rfl
theorem B2x{s t:TypeId}{x:Operand} :hop P G ⟨d, .convert s t x,ty,pos,af,g⟩ e σ0 σ K=bo (dP P σ0 s t (ev G e x)) (fun r=>K r σ) ⟨⟩:=nr rfl
theorem A5b{t:TypeId}{x y:Operand} :eK P G ⟨d, .makeSlice t x y,ty,pos,af,g⟩ e σ K=C9i P σ t (ev G e x) (ev G e y) K ⟨⟩ ⟨⟩:=nr rfl
theorem A8t{f:FuncId}{caps:Array Operand} :eK P G ⟨d, .makeFunc (.func f) #[] caps,ty,pos,af,g⟩ e σ K=st (.fn f (caps.toList.map (ev G e))) (fun r=>K r σ) ⟨⟩:=nr rfl
theorem D6i{f:FuncId}{x:Operand} :eK P G ⟨d, .makeFunc (.func f) #[x] #[],ty,pos,af,g⟩ e σ K=D2d f (ev G e x) (fun r=>K r σ) ⟨⟩:=propext ⟨fun h=>h.2,fun h=> ⟨rfl,h⟩⟩
theorem D4z{f:FuncId}{x:Operand} :hop P G ⟨d, .makeFunc (.func f) #[x] #[],ty,pos,af,g⟩ e σ0 σ K=D2d f (ev G e x) (fun r=>K r σ) ⟨⟩:=propext ⟨fun h=>h.2,fun h=> ⟨rfl,h⟩⟩
theorem C0w{f:FuncId}{b o:Nat}{F:AV ->Prop}{d:Dum F} :D2d f (.ptr b o) F d=F (mfn f b o):=propext ⟨fun⟨_,_,e,h⟩=>by cases e;exact h,fun h=> ⟨b,o,rfl,h⟩⟩
theorem A8f{f:FuncId}{caps:Array Operand} :hop P G ⟨d, .makeFunc (.func f) #[] caps,ty,pos,af,g⟩ e σ0 σ K=st (.fn f (caps.toList.map (ev G e))) (fun r=>K r σ) ⟨⟩:=nr rfl
theorem C7g{t:TypeId}{x:Operand}{lo hi:Option Operand} :eK P G ⟨d, .slice t x lo hi none,ty,pos,af,g⟩ e σ K=slW P σ t (ev G e x) (lo.map (ev G e)) (hi.map (ev G e)) (fun r=>K r σ) ⟨⟩ ⟨⟩:=nr rfl
theorem C5m{t:TypeId}{x:Operand}{lo hi:Option Operand} :hop P G ⟨d, .slice t x lo hi none,ty,pos,af,g⟩ e σ0 σ K=slW P σ0 t (ev G e x) (lo.map (ev G e)) (hi.map (ev G e)) (fun r=>K r σ) ⟨⟩ ⟨⟩:=nr rfl
theorem A4z{t:TypeId}{x:Operand}{i:Nat} :eK P G ⟨d, .fieldAddr t x i,ty,pos,af,g⟩ e σ K=bo (nV P t (ev G e x) i) (fun r=>K r σ) ⟨⟩:=nr rfl
theorem A4i{t:TypeId}{x:Operand}{i:Nat} :hop P G ⟨d, .fieldAddr t x i,ty,pos,af,g⟩ e σ0 σ K=bo (nV P t (ev G e x) i) (fun r=>K r σ) ⟨⟩:=nr rfl
theorem C7d{t:TypeId}{x:Operand}{i:Nat} :eK P G ⟨d, .field t x i,ty,pos,af,g⟩ e σ K=bo (mD P t (ev G e x) i) (fun r=>K r σ) ⟨⟩:=nr rfl
theorem C5k{t:TypeId}{x:Operand}{i:Nat} :hop P G ⟨d, .field t x i,ty,pos,af,g⟩ e σ0 σ K=bo (mD P t (ev G e x) i) (fun r=>K r σ) ⟨⟩:=nr rfl
theorem A5a{t:TypeId}{x i:Operand} :eK P G ⟨d, .indexAddr t x i,ty,pos,af,g⟩ e σ K=bo (eA P t (ev G e x) (ev G e i)) (fun r=>K r σ) ⟨⟩:=nr rfl
theorem A4j{t:TypeId}{x i:Operand} :hop P G ⟨d, .indexAddr t x i,ty,pos,af,g⟩ e σ0 σ K=bo (eA P t (ev G e x) (ev G e i)) (fun r=>K r σ) ⟨⟩:=nr rfl
theorem C7e{t:TypeId}{x i:Operand} :eK P G ⟨d, .index t x i,ty,pos,af,g⟩ e σ K=bo (nX P t (ev G e x) (ev G e i)) (fun r=>K r σ) ⟨⟩:=nr rfl
theorem C5l{t:TypeId}{x i:Operand} :hop P G ⟨d, .index t x i,ty,pos,af,g⟩ e σ0 σ K=bo (nX P t (ev G e x) (ev G e i)) (fun r=>K r σ) ⟨⟩:=nr rfl
theorem B3v{x:Operand}{i:Nat} :eK P G ⟨d, .extract x i,ty,pos,af,g⟩ e σ K=bo (lI (ev G e x) i) (fun r=>K r σ) ⟨⟩:=nr rfl
theorem B2y{x:Operand}{i:Nat} :hop P G ⟨d, .extract x i,ty,pos,af,g⟩ e σ0 σ K=bo (lI (ev G e x) i) (fun r=>K r σ) ⟨⟩:=nr rfl
theorem D6g{args:Array Operand}{ts:Array TypeId} :eK P G ⟨d, .call ⟨.builtin .len,args,ts⟩,ty,pos,af,g⟩ e σ K=bo (fS P .len ts (args.toList.map (ev G e))) (fun r=>K r σ) ⟨⟩:=nr rfl
theorem D6f{args:Array Operand}{ts:Array TypeId} :eK P G ⟨d, .call ⟨.builtin .cap,args,ts⟩,ty,pos,af,g⟩ e σ K=bo (fS P .cap ts (args.toList.map (ev G e))) (fun r=>K r σ) ⟨⟩:=nr rfl
theorem D6k{args:Array Operand}{ts:Array TypeId} :eK P G ⟨d, .call ⟨.builtin .unsafeSliceData,args,ts⟩,ty,pos,af,g⟩ e σ K=bo (fS P .unsafeSliceData ts (args.toList.map (ev G e))) (fun r=>K r σ) ⟨⟩:=nr rfl
theorem D4x{args:Array Operand}{ts:Array TypeId} :hop P G ⟨d, .call ⟨.builtin .len,args,ts⟩,ty,pos,af,g⟩ e σ0 σ K=bo (fS P .len ts (args.toList.map (ev G e))) (fun r=>K r σ) ⟨⟩:=nr rfl
theorem D4w{args:Array Operand}{ts:Array TypeId} :hop P G ⟨d, .call ⟨.builtin .cap,args,ts⟩,ty,pos,af,g⟩ e σ0 σ K=bo (fS P .cap ts (args.toList.map (ev G e))) (fun r=>K r σ) ⟨⟩:=nr rfl
theorem D5c{args:Array Operand}{ts:Array TypeId} :hop P G ⟨d, .call ⟨.builtin .unsafeSliceData,args,ts⟩,ty,pos,af,g⟩ e σ0 σ K=bo (fS P .unsafeSliceData ts (args.toList.map (ev G e))) (fun r=>K r σ) ⟨⟩:=nr rfl
theorem D6h{args:Array Operand}{ts:Array TypeId} :eK P G ⟨d, .call ⟨.builtin .max,args,ts⟩,ty,pos,af,g⟩ e σ K=bo (fS P .max ts (args.toList.map (ev G e))) (fun r=>K r σ) ⟨⟩:=nr rfl
theorem D4y{args:Array Operand}{ts:Array TypeId} :hop P G ⟨d, .call ⟨.builtin .max,args,ts⟩,ty,pos,af,g⟩ e σ0 σ K=bo (fS P .max ts (args.toList.map (ev G e))) (fun r=>K r σ) ⟨⟩:=nr rfl
theorem D6j{args:Array Operand}{ts:Array TypeId} :eK P G ⟨d, .call ⟨.builtin .min,args,ts⟩,ty,pos,af,g⟩ e σ K=bo (fS P .min ts (args.toList.map (ev G e))) (fun r=>K r σ) ⟨⟩:=nr rfl
theorem D5a{args:Array Operand}{ts:Array TypeId} :hop P G ⟨d, .call ⟨.builtin .min,args,ts⟩,ty,pos,af,g⟩ e σ0 σ K=bo (fS P .min ts (args.toList.map (ev G e))) (fun r=>K r σ) ⟨⟩:=nr rfl
theorem C7h{t:TypeId}{p x:Operand} :eK P G ⟨d, .store t p x,ty,pos,af,g⟩ e σ K=bo (gQ P σ t (ev G e p) (ev G e x)) (fun s=>K .undef s) ⟨⟩:=nr rfl
theorem D2h{f:Operand}{args:Array Operand}{ts:Array TypeId} :eK P G ⟨d, .call ⟨.value f,args,ts⟩,ty,pos,af,g⟩ e σ K=A3t P G (ev G e f) (args.toList.map (ev G e)) σ K ⟨⟩ ⟨⟩:=nr rfl
theorem D0q{f:Operand}{args:Array Operand}{ts:Array TypeId} :hop P G ⟨d, .call ⟨.value f,args,ts⟩,ty,pos,af,g⟩ e σ0 σ K=wB P G (ev G e f) (args.toList.map (ev G e)) σ0 (fun r=>K r σ) ⟨⟩ ⟨⟩:=nr rfl
theorem C1d{s x:Operand}{t tx:TypeId} :eK P G ⟨d, .call ⟨.builtin .append,#[s,x],#[t,tx]⟩,ty,pos,af,g⟩ e σ K=C9y P σ t tx (ev G e s) (ev G e x) K ⟨⟩ ⟨⟩:=nr rfl
def C1j(P:Program)(σ:AS)(t:TypeId)(x:AV)(K:AV ->AS ->Prop)(_:Dum σ)(_:Dum K):Prop:=vH P σ t x K
def A4w(σ:AS)(x:AV)(K:AV ->AS ->Prop)(_:Dum σ)(_:Dum K):Prop:=vF σ x K
theorem C7f{t:TypeId}{x:Operand} :eK P G ⟨d, .range t x,ty,pos,af,g⟩ e σ K=C1j P σ t (ev G e x) K ⟨⟩ ⟨⟩:=nr rfl
theorem D2l{x:Operand} :eK P G ⟨d, .next x true,ty,pos,af,g⟩ e σ K=A4w σ (ev G e x) K ⟨⟩ ⟨⟩:=nr rfl
def B6x(P:Program)(σ:AS)(t ts:TypeId)(x s:AV)(K:AV ->AS ->Prop)(_:Dum σ)(_:Dum K):Prop:=nU P σ t ts x s K
theorem D2i{x n:Operand}{pt it:TypeId} :eK P G ⟨d, .call ⟨.builtin .copy,#[x,n],#[pt,it]⟩,ty,pos,af,g⟩ e σ K=B6x P σ pt it (ev G e x) (ev G e n) K ⟨⟩ ⟨⟩:=nr rfl
theorem vU {t ts e dB:TypeId} {b o n c:Nat} {s:List UInt8} {cs:List AV} {d:Dum σ} {d':Dum K} (hb:σ.box b=some cs) (ht:fV P t=some (e,1,dB)) (hs:sk P ts= .str) (h1:s.length <=n) (h2:o+s.length <=cs.length)
  (hK:K (.int .i64 s.length) (σ.setBox b (cs.take o++s.map (fun c=> .int .u8 c.toNat)++cs.drop (o+s.length)))):B6x P σ t ts (.raw (.slice (some ⟨b,o,none⟩) n c)) (.str s) K d d':=by
 unfold B6x nU
 simp only[ht,hb]
 exact⟨hs,h1,h2,hK⟩
theorem C0j{t:TypeId}{a:Addr}{n c:Nat} :fS P .len #[t] [.raw (.slice (some a) n c)]=if(el P t).isSome then some (.int .i64 n)else none:=nr rfl
theorem C0i{t:TypeId}{a:Addr}{n c:Nat} :fS P .cap #[t] [.raw (.slice (some a) n c)]=if(el P t).isSome then some (.int .i64 c)else none:=nr rfl
theorem A3d{t:TypeId}{b o n c:Nat}{k:IntKind}{i:Int} :eA P t (.raw (.slice (some ⟨b,o,none⟩) n c)) (.int k i)=(match(el P t).bind (tk P)with|some (_,s)=>if 0 <=i /\ i < n then some (.ptr b (o+i.toNat*s))else none|none=>none):=nr rfl
theorem C0u {σ:AS} {t e:TypeId} {n dB:Nat} {k k':IntKind} {zz:List AV} (l c:Nat) {K:AV ->AS ->Prop} {d:Dum σ} {d':Dum K} (he:fV P t=some (e,n,dB)) (hz:(el P t).bind (zc P)=some zz) (hlc:l <=c) (hb:c*dB <=140737488355328)
  (hK:∀ b,σ.fresh b ->K (.raw (.slice (some ⟨b,0,none⟩) l c)) ((σ.setBox b (List.replicate c zz).flatten).setTy b (e,c*n))):C9i P σ t (.int k l) (.int k' c) K d d':=by
 refine .inr (.inr ?_)
 unfold rT
 rw[he,hz]
 refine⟨by omega,by omega,by rw[<- Int.natCast_mul];omega,fun b hf=> ?_⟩
 exact hK b hf
def C9j(σ:AS)(K:AV ->AS ->Prop)(_:Dum σ)(_:Dum K):Prop:=A3g σ none K
theorem B3w{t:TypeId} :eK P G ⟨d, .makeMap t none,ty,pos,af,g⟩ e σ K=C9j σ K ⟨⟩ ⟨⟩:=nr rfl
theorem C1f{t:TypeId}{x k:Operand}{ok:Bool} :eK P G ⟨d, .lookup t x k ok,ty,pos,af,g⟩ e σ K=bo (kL P σ t (ev G e x) (ev G e k) ok) (fun r=>K r σ) ⟨⟩:=nr rfl
theorem A5c{t:TypeId}{m k x:Operand} :eK P G ⟨d, .mapUpdate t m k x,ty,pos,af,g⟩ e σ K=bo (B1n P σ t (ev G e m) (ev G e k) (ev G e x)) (fun s=>K .undef s) ⟨⟩:=nr rfl
theorem aB{d:Dum σ}{d':Dum K}(h:∀ b,σ.fresh b ->K (.raw (.map (some b))) (σ.setTy b (.ob (.map []),0))):C9j σ K d d':=⟨rfl,h⟩
theorem D2b{t kt et:TypeId}{b n:Nat}{kv:List (AV × AV)}{s:List UInt8}{z:AV}{ok:Bool}(ht:sk P t= .map kt et)(hk:sk P kt= .str)(hz:zv P et=some z)(hs:σ.ty b=some (.ob (.map kv),n)):
  kL P σ t (.raw (.map (some b))) (.str s) ok=(oI (.str s) kv 0).map (zB z ok):=by
 simp[kL,ht,plainKey,hk,hz,C4q,hs]
theorem D2a{t kt et:TypeId}{b n:Nat}{kv:List (AV × AV)}{q q':IntKind}{s:Int}{z:AV}{ok:Bool}(ht:sk P t= .map kt et)(hk:sk P kt= .int q)(hz:zv P et=some z)(hs:σ.ty b=some (.ob (.map kv),n)):
  kL P σ t (.raw (.map (some b))) (.int q' s) ok=(oI (.int q' s) kv 0).map (zB z ok):=by
 simp[kL,ht,plainKey,hk,hz,C4q,hs]
theorem D3m{t kt et:TypeId}{b n:Nat}{kv:List (AV × AV)}{s:List UInt8}{x:AV}(ht:sk P t= .map kt et)(hk:sk P kt= .str)(hs:σ.ty b=some (.ob (.map kv),n))(hf:oI (.str s) kv 0=some none):
  B1n P σ t (.raw (.map (some b))) (.str s) x=some (σ.setTy b (.ob (.map (kv++[(.str s,x)])),n)):=by
 simp[B1n,ht,plainKey,hk,hs,B0h,hf]
theorem C6t{z:AV}{ok:Bool} :zB z ok none=if ok then .tup [z, .bool false]else z:=nr rfl
theorem C6u{z v:AV}{i:Nat}{ok:Bool} :zB z ok (some (i,v))=if ok then .tup [v, .bool true]else v:=nr rfl
theorem D2o{x n:Operand}{pt it:TypeId} :eK P G ⟨d, .call ⟨.builtin .unsafeString,#[x,n],#[pt,it]⟩,ty,pos,af,g⟩ e σ K=C3c P σ pt (ev G e x) (ev G e n) K ⟨⟩ ⟨⟩:=nr rfl
theorem C4a{α:Type}{a:α}{F:α ->Prop}{d:Dum F} :bo (some a) F d=F a:=by simp[bo]
theorem C3z{α:Type}{F:α ->Prop}{d:Dum F} :bo (none:Option α) F d=False:=by simp[bo]
theorem D0b{α:Type}{c:Prop}[Decidable c]{a:α}{F:α ->Prop}{d:Dum F} :bo (if c then some a else none) F d=(c /\ F a):=by
 unfold bo;by_cases h:c <;>simp[h]
theorem C3y{α:Type}{c:Prop}[Decidable c]{a:α}{F:α ->Prop}{d:Dum F} :bo (if c then none else some a) F d=(¬ c /\ F a):=by
 unfold bo;by_cases h:c <;>simp[h]
theorem D6u{x:AV}{F:AV ->Prop}{d:Dum F} :st x F d=F x:=nr rfl
theorem A7q{A B:Prop}{d:Dum A}{d':Dum B} :lL (.bool true) A B d d'=A:=by simp[lL]
theorem A3v{A B:Prop}{d:Dum A}{d':Dum B} :lL (.bool false) A B d d'=B:=by simp[lL]
theorem A3w{t:Bool}{A B:Prop}{d:Dum A}{d':Dum B}(h1:t=true ->A)(h2:t=false ->B):lL (.bool t) A B d d':=⟨t,rfl,h1,h2⟩
theorem dQ{p:Prop}[Decidable p]{A B:Prop}{d:Dum A}{d':Dum B}(h1:p ->A)(h2: ¬ p ->B):lL (.bool (decide p)) A B d d':=⟨_,rfl,fun h=>h1 (of_decide_eq_true h),fun h=>h2 (of_decide_eq_false h)⟩
theorem A7p{p:Prop}[Decidable p]{A B:Prop}{d:Dum A}{d':Dum B}(h1:decide p=true -> ¬ ¬ p ->A)(h2:decide p=false -> ¬ p ->B):lL (.bool (decide p)) A B d d':=⟨_,rfl,fun h=>h1 h (fun hn=>hn (of_decide_eq_true h)),fun h=>h2 h (of_decide_eq_false h)⟩
theorem C5e{A B:Prop}{d:Dum A}{d':Dum B} :gW (some true) A B d d'=A:=by simp[gW]
theorem B8p{A B:Prop}{d:Dum A}{d':Dum B} :gW (some false) A B d d'=B:=by simp[gW]
theorem D0o{b:Bool}{A B:Prop}{d:Dum A}{d':Dum B} :gW (some (!b)) A B d d'=gW (some b) B A d' d:=by cases b <;>simp[gW]
theorem B2g{b:Bool}{A B:Prop}{d:Dum A}{d':Dum B} :lL (.bool (!b)) A B d d'=lL (.bool b) B A d' d:=by cases b <;>simp[lL]
theorem B8q{t:Bool}{A B:Prop}{d:Dum A}{d':Dum B}(h1:t=true ->A)(h2:t=false ->B):gW (some t) A B d d':=⟨t,rfl,h1,h2⟩
theorem B8o{p:Prop}[Decidable p]{A B:Prop}{d:Dum A}{d':Dum B}(h1:p ->A)(h2: ¬ p ->B):gW (some (decide p)) A B d d':=⟨_,rfl,fun h=>h1 (of_decide_eq_true h),fun h=>h2 (of_decide_eq_false h)⟩
theorem C5d{p:Prop}[Decidable p]{A B:Prop}{d:Dum A}{d':Dum B}(h1:decide p=true -> ¬ ¬ p ->A)(h2:decide p=false -> ¬ p ->B):gW (some (decide p)) A B d d':=⟨_,rfl,fun h=>h1 h (fun hn=>hn (of_decide_eq_true h)),fun h=>h2 h (of_decide_eq_false h)⟩
theorem A8y{a b:AV}{F:AV ->Prop}{d:Dum a}{d':Dum b}{d2:Dum F} :tQ (.bool true) a b F d d' d2=st a F ⟨⟩:=by simp[tQ,st]
theorem A5g{a b:AV}{F:AV ->Prop}{d:Dum a}{d':Dum b}{d2:Dum F} :tQ (.bool false) a b F d d' d2=st b F ⟨⟩:=by simp[tQ,st]
theorem A5h{t:Bool}{a b:AV}{F:AV ->Prop}{d:Dum a}{d':Dum b}{d2:Dum F}(h1:t=true ->F a)(h2:t=false ->F b):tQ (.bool t) a b F d d' d2:=by
 refine⟨t,rfl,?_⟩;cases t
 ·exact h2 rfl
 ·exact h1 rfl
theorem bO{E:TypeId}{z:List AV}{d:Dum σ}{d':Dum K}(h:∀ b,σ.fresh b ->K (.ptr b 0) (σ.setBox b z)):D6c σ E z K d d':= .inl h
theorem eT{z:List AV}{d:Dum σ}{d':Dum K}(h:∀ b,σ.fresh b ->K (.ptr b 0) (σ.setBox b z)):C6x σ z K d d':=h
theorem pC{t:TypeId}{s:List UInt8}{d:Dum σ}{d':Dum K}(h:sk P t= .str)(hK:∀ b,σ.fresh b ->K (.ptr b 0) (σ.setTy b (.ob (.iter s 0),0))):C1j P σ t (.str s) K d d':=⟨h,hK⟩
theorem aV{b p n:Nat}{s:List UInt8}{c:UInt8}{d:Dum σ}{d':Dum K}(h:σ.ty b=some (.ob (.iter s p),n))(hc:s[p]? =some c)(h1:c.toNat < 128)(hK:K (.tup [.bool true, .int .i64 p, .int .i32 c.toNat]) (σ.setTy b (.ob (.iter s (p+1)),n))):A4w σ (.ptr b 0) K d d':=by
 unfold A4w vF
 simp only[h,A7t hc h1]
 exact⟨fun _=>hK,fun hn=>absurd (List.getElem?_eq_some_iff.1 hc).1 hn⟩
theorem pA{b p n:Nat}{s:List UInt8}{d:Dum σ}{d':Dum K}(h:σ.ty b=some (.ob (.iter s p),n))(hp:s.length <=p)(hK:K (.tup [.bool false]) σ):A4w σ (.ptr b 0) K d d':=by
 unfold A4w vF
 simp only[h]
 exact⟨fun hn=>absurd hn (by omega),fun _=>hK⟩
theorem zO{b:Nat}{x y:rQ × Nat} :(σ.setTy b x).setTy b y=σ.setTy b y:=by
 unfold AS.setTy
 simp only[AS.mk.injEq,true_and]
 funext i
 split <;>rfl
theorem C4b{x:AV}{d:Dum σ}{d':Dum K} :D0c σ x K d d'=(isv x=true /\ C6x σ (flat x) K ⟨⟩ ⟨⟩):=nr rfl
theorem C1b{b o:Nat}{F:AV ->Prop}{d:Dum F} :A4x (.ptr b o) F d=F (.ptr b o):=by simp[A4x]
theorem C6z{l:List AV}{F:AV ->Prop}{d:Dum F} :A4x (.rp l) F d=F (.rp l):=by simp[A4x]
theorem C6y{f:FuncId}{l:List AV}{F:AV ->Prop}{d:Dum F} :A4x (.fn f l) F d=F (.fn f l):=by simp[A4x]
theorem B6u{k:FuncId}{caps l:List AV}{d:Dum σ}{d':Dum K} :A3t P G (.fn k caps) l σ K d d'=B4o P G k (l++caps) σ K ⟨⟩ ⟨⟩:=nr rfl
theorem B2f{k:FuncId}{b o:Nat}{l:List AV}{d:Dum σ}{d':Dum K} :A3t P G (mfn k b o) l σ K d d'=B4o P G k (.ptr b o::l) σ K ⟨⟩ ⟨⟩:=propext ⟨fun⟨k',b',o',e,h⟩=>by cases e;exact h,fun h=> ⟨k,b,o,rfl,h⟩⟩
theorem A0t{k:FuncId}{l:List AV}{d:Dum σ}{d':Dum K} :A3t P G (.fn k []) l σ K d d'=B4o P G k l σ K ⟨⟩ ⟨⟩:=by simp[A3t,B4o]
theorem oZ{k:FuncId}{l caps:List AV}{F:AV ->Prop}{d:Dum σ0}{d':Dum F}{v:AV}(h:bZ P G k (l++caps) σ0 v)(hk:F v):wB P G (.fn k caps) l σ0 F d d':=⟨v,h,hk⟩
theorem pL{k:FuncId}{l:List AV}{F:AV ->Prop}{d:Dum σ0}{d':Dum F}{v:AV}(h:bZ P G k l σ0 v)(hk:F v):wB P G (.fn k []) l σ0 F d d':=⟨v,by simpa using h,hk⟩
theorem D0k{t:Tmp} :ev G e (.tmp t)=e t:=nr rfl
theorem B7r{v:Value} :ev G e (.const v)=ofConst v:=nr rfl
theorem B2p{g:Nat} :ev G e (.global g)=G g:=nr rfl
theorem C4v{f:FuncId} :ev G e (.func f)= .fn f []:=nr rfl
theorem C3b{t:Tmp}{r:AV}{j:Nat} :(e.upd (some t) r) j=if j=t then r else e j:=nr rfl
theorem C3a{r:AV} :(e.upd none r)=e:=nr rfl
theorem D2e{W:List Nat}{v:aM}{j:Nat} :mrg W v e j=if W.contains j then v j else e j:=nr rfl
theorem B1h{l:List AV}{j:Nat} :vJ l j=l.getD j .undef:=nr rfl
theorem A8c{rs:List ResultVar} :B7t P rs K .normal e σ=qS (jJ P e σ rs) σ K ⟨⟩ ⟨⟩:=nr rfl
theorem C4x{rs:List ResultVar} :B7t P rs K .ret e σ=qS (jJ P e σ rs) σ K ⟨⟩ ⟨⟩:=nr rfl
theorem B7u{rs:List ResultVar}{i:Nat} :B7t P rs K (.exit i) e σ=False:=nr rfl
theorem aE{l:List AV}{d:Dum σ}{d':Dum K}(σ':AS)(h1:σ'.le σ)(h2:K (pI l) σ'):qS (some l) σ K d d':=⟨l,σ',rfl,h1,h2⟩
theorem aL{r v:AV}{σ':AS}{d:Dum σ}{d':Dum fun x s=>x=v /\ s=σ'}(h2:r=v)(h1:σ'.le σ):qS (some [r]) σ (fun x s=>x=v /\ s=σ') d d':=⟨[r],σ',rfl,h1,h2,rfl⟩
theorem aC{a b v:AV}{l:List AV}{σ':AS}{d:Dum σ}{d':Dum fun x s=>x=v /\ s=σ'}(h2:AV.tup (a::b::l)=v)(h1:σ'.le σ):qS (some (a::b::l)) σ (fun x s=>x=v /\ s=σ') d d':=⟨_,σ',rfl,h1,h2,rfl⟩
theorem A7v{l:List Oper}{d:Dum l.toArray}{d':Dum R}{d2:Dum e}{d3:Dum σ}(n:Nat)(hn:vV l.toArray n=true){hd tl:List Oper}(h1:l.take n=hd)(h2:l.drop n=tl)(h:jM P G l σ (fun e' σ'=>cF P G l R tl e' σ') hd e σ):qP P G l.toArray R e σ d d' d2 d3:= .inl ⟨[],n,σ,[],rfl,hn,AS.le.refl σ,fun c hc=> (by cases hc),oW _ _ _ _ (by subst h1 h2;exact h)⟩
theorem D0e{b:Bool} :ofConst (.bool b)= .bool b:=nr rfl
theorem D4c{k:IntKind}{n:Int} :ofConst (.int k n)= .int k n:=nr rfl
theorem D4f{l:List UInt8} :ofConst (.string ⟨⟨l⟩⟩)= .str l:=nr rfl
theorem D4e:ofConst (.slice none 0 0)= .nil:=nr rfl
theorem B6t:ofConst (.pointer none)= .nilptr:=nr rfl
theorem C4g:ofConst .nilFunc= .nilfn:=nr rfl
theorem D4d:ofConst (.map none)= .raw (.map none):=nr rfl
theorem C4h:ofConst .nilIface= .raw .nilIface:=nr rfl
theorem qL{b i:Nat}{cs:List AV} :(σ.setBox b cs).box i=if i=b then some cs else σ.box i:=nr rfl
theorem A9z{b i:Nat}{x:Nat × Nat} :(σ.setTip b x).box i=σ.box i:=nr rfl
theorem C4c{b i:Nat} :(σ.delTip b).box i=σ.box i:=nr rfl
theorem B0q{b i:Nat}{cs:List AV} :(σ.setBox b cs).tip i=σ.tip i:=nr rfl
theorem B0r{b i:Nat}{x:Nat × Nat} :(σ.setTip b x).tip i=if i=b then some x else σ.tip i:=nr rfl
theorem C8w{b i:Nat} :(σ.delTip b).tip i=if i=b then none else σ.tip i:=nr rfl
theorem C2x{b i:Nat}{cs:List AV} :(σ.setBox b cs).ty i=σ.ty i:=nr rfl
theorem C2z{b i:Nat}{x:Nat × Nat} :(σ.setTip b x).ty i=σ.ty i:=nr rfl
theorem D3l{b i:Nat} :(σ.delTip b).ty i=σ.ty i:=nr rfl
theorem C2y{b i:Nat}{x:rQ × Nat} :(σ.setTy b x).ty i=if i=b then some x else σ.ty i:=nr rfl
theorem B6q{b i:Nat}{x:rQ × Nat} :(σ.setTy b x).box i=σ.box i:=nr rfl
theorem C2u{b i:Nat}{x:rQ × Nat} :(σ.setTy b x).tip i=σ.tip i:=nr rfl
theorem B6p{b i:Nat} :(σ.delBox b).box i=if i=b then none else σ.box i:=nr rfl
theorem C2t{b i:Nat} :(σ.delBox b).tip i=σ.tip i:=nr rfl
theorem C8z{b i:Nat} :(σ.delBox b).ty i=σ.ty i:=nr rfl
theorem B0l{b:Nat}{cs ds:List AV} :(σ.setBox b cs).setBox b ds=σ.setBox b ds:=by
 unfold AS.setBox;congr 1;funext i;show(if i=b then some ds else if i=b then some cs else σ.box i)=_;split <;>rfl
theorem cY{b c:Nat}{cs:List AV} :(σ.setBox c cs).fresh b=(σ.fresh b /\ ¬ b=c /\ ¬ c=b):=by
 unfold AS.fresh
 simp only[qL,B0q,C2x,eq_iff_iff]
 by_cases h:b=c
 ·simp[h]
 ·simp[h,Ne.symm h]
theorem bQ{σ':AS}{b:Nat}{cs:List AV}(hb:σ'.fresh b)(h:σ'.le σ):σ'.le (σ.setBox b cs):=h.setBox hb.1 cs
theorem B8l{b c:Nat}{x:rQ × Nat} :(σ.setTy c x).fresh b=(σ.fresh b /\ ¬ b=c /\ ¬ c=b):=by
 unfold AS.fresh
 simp only[B6q,C2u,C2y,eq_iff_iff]
 by_cases h:b=c
 ·subst h;simp
 ·simp[h,Ne.symm h]
theorem D6a{σ':AS}{b:Nat}{x:rQ × Nat}(hb:σ'.fresh b)(h:σ'.le σ):σ'.le (σ.setTy b x):=h.setTy hb.2.2 x
theorem B2s{b c:Nat}{x:Nat × Nat} :(σ.setTip c x).fresh b=(σ.fresh b /\ ¬ b=c /\ ¬ c=b):=by
 unfold AS.fresh
 simp only[A9z,B0r,C2z,eq_iff_iff]
 by_cases h:b=c
 ·subst h;simp
 ·simp[h,Ne.symm h]
theorem aY {c:Code} {d:Dum c} {d':Dum Q} {d2:Dum e} {d3:Dum σ} (I:Nat ->aM ->AS ->Prop) (n:Nat) (h0:I n e σ) (h1:∀ n v σ',I n (mrg (bP c) v e) σ' ->
   pU P G (hJ P G) c (fun x e' σ'=>match x with| .normal=>∃ m,m < n /\ I m e' σ'|x=>Q x e' σ') (mrg (bP c) v e) σ'):C0t P G c Q e σ d d' d2 d3:=⟨I,⟨n,h0⟩,h1⟩
theorem B7v{l:List AV} :flat (.agg l)=l:=nr rfl
theorem B2r{b:Bool} :flat (.bool b)=[.bool b]:=nr rfl
theorem B7x{k:IntKind}{n:Int} :flat (.int k n)=[.int k n]:=nr rfl
theorem B8b{l:List UInt8} :flat (.str l)=[.str l]:=nr rfl
theorem B7y:flat .nil=[.nil]:=nr rfl
theorem C5b{g:Gh}{xs sp:List AV} :flat (.sl g xs sp)=[.sl g xs sp]:=nr rfl
theorem B7z{b o:Nat} :flat (.ptr b o)=[.ptr b o]:=nr rfl
theorem C5a{l:List AV} :flat (.rp l)=[.rp l]:=nr rfl
theorem C4z{f:FuncId}{l:List AV} :flat (.fn f l)=[.fn f l]:=nr rfl
theorem A4c:flat .nilptr=[.nilptr]:=nr rfl
theorem A8d:flat .nilfn=[.nilfn]:=nr rfl
theorem C6d{l:List AV} :isv (.agg l)=true:=nr rfl
theorem B9v{b:Bool} :isv (.bool b)=true:=nr rfl
theorem C6e{k:IntKind}{n:Int} :isv (.int k n)=true:=nr rfl
theorem C6h{l:List UInt8} :isv (.str l)=true:=nr rfl
theorem C6f:isv .nil=true:=nr rfl
theorem D1o{b n s:Nat}{E:TypeId} :isv (.bs b n s E)=true:=nr rfl
theorem C4y{b n s:Nat}{E:TypeId} :flat (.bs b n s E)=[.bs b n s E]:=nr rfl
theorem B9x{a:Addr}{n c:Nat} :isv (.raw (.slice (some a) n c))=true:=nr rfl
theorem B9w{a:Option Nat} :isv (.raw (.map a))=true:=nr rfl
theorem B8a{v:Value} :flat (.raw v)=[.raw v]:=nr rfl
theorem zT{op:BinOp}{t:TypeId}{a:Addr}{n c:Nat} :iL P op t (.raw (.slice (some a) n c)) .nil=if(el P t).isSome=true then nM op false else none:=nr rfl
theorem A2u{op:BinOp}{t E:TypeId}{b n s:Nat} :iL P op t .nil (.bs b n s E)=if(el P t).isSome=true then nM op false else none:=nr rfl
theorem A2s{op:BinOp}{t E:TypeId}{b n s:Nat} :iL P op t (.bs b n s E) .nil=if(el P t).isSome=true then nM op false else none:=nr rfl
def ibk(x:Option (Bool × Nat))(b m:Nat)(i:Int):Option AV:=match x with
 |some (_,n)=>if 0 <=i /\ i < m then some (.ptr b (i.toNat*n))else none
 |none=>none
theorem A6v{t E:TypeId}{b m s:Nat}{k:IntKind}{i:Int} :eA P t (.bs b m s E) (.int k i)=ibk ((el P t).bind (tk P)) b m i:=by
 unfold eA ibk
 cases el P t with
 |none=>rfl
 |some e=>simp only[Option.bind_some];cases tk P e <;>rfl
theorem B9o{ag:Bool}{n b m:Nat}{i:Int} :ibk (some (ag,n)) b m i=if 0 <=i /\ i < m then some (.ptr b (i.toNat*n))else none:=nr rfl
def nbk(x:Option (Bool × Nat))(l h:Option Nat):Option AV:=match x,l,h with
 |some _,some l,some h=>if l <=h /\ h <=0 then some .nil else none
 |_,_,_=>none
def sbk(x:Option (Bool × Nat))(l h:Option Nat)(b n s:Nat)(E:TypeId):Option AV:=match x,l,h with
 |some _,some l,some h=>if l=0 /\ h <=n then some (.bs b h s E)else none
 |_,_,_=>none
theorem yO{t E:TypeId}{b n s:Nat}{lo hi:Option AV} :eL P t (.bs b n s E) lo hi=sbk ((el P t).bind (tk P)) (cM lo 0) (cM hi n) b n s E:=by
 unfold eL jK sbk
 cases el P t with
 |none=>rfl
 | some e=>
  simp only[Option.bind_some]
  cases cM lo 0 with
  |none=>cases tk P e <;>rfl
  | some l=>
   cases cM hi n with
   |none=>cases tk P e <;>rfl
   | some h=>
    cases htk:tk P e with
    |none=>simp[htk]
    | some x=>
     by_cases hc:l=0 /\ h <=n
     ·simp[hc,A2f,htk]
     ·have: ¬ (l=0 /\ h <=n /\ True):=fun h=>hc ⟨h.1,h.2.1⟩
      simp only[if_neg hc]
      simp[A2f,htk]
      omega
inductive Bad:AV ->Prop
 |bs (b n s:Nat) (E:TypeId):Bad (.bs b n s E)
 |raw (v:Value):Bad (.raw v)
class NotBs (x:AV):Prop where
 no:∀ (_ _ _ _:Unit),¬ Bad x
instance {g:Gh} {xs sp:List AV} :NotBs (.sl g xs sp):=⟨fun _ _ _ _ h=>by cases h⟩
instance {s:List UInt8} :NotBs (.str s):=⟨fun _ _ _ _ h=>by cases h⟩
instance:NotBs .nil:=⟨fun _ _ _ _ h=>by cases h⟩
instance {cs:List AV} :NotBs (.rp cs):=⟨fun _ _ _ _ h=>by cases h⟩
theorem B4e{σ:AS}{t:TypeId}{x:AV}[h:NotBs x]{lo hi:Option AV}{F:AV ->Prop}{d:Dum σ}{d':Dum F} :slW P σ t x lo hi F d d'=bo (eL P t x lo hi) F ⟨⟩:=by
 unfold slW bo gL kN
 apply propext
 constructor
 ·rintro⟨r,h1,h2⟩
  split at h1
  ·rename_i y hy;cases h1;exact⟨_,hy,h2⟩
  ·split at h1
   ·exact absurd (.bs _ _ _ _) (h.no () () () ())
   ·exact absurd (.raw _) (h.no () () () ())
   ·cases h1
 ·rintro⟨r,h1,h2⟩
  refine⟨r,?_,h2⟩
  rw[h1]
theorem D2z{σ:AS}{t:TypeId}{x:AV}{lo hi:Option AV}{F:AV ->Prop}{d:Dum σ}{d':Dum F}(h:bo (eL P t x lo hi) F ⟨⟩):slW P σ t x lo hi F d d':=by
 obtain⟨r,h1,h2⟩:=h
 refine⟨r,?_,h2⟩
 unfold gL
 rw[h1]
def sbx(l h:Nat)(cs:Option (List AV))(b s:Nat)(E:TypeId):Option AV:=match cs with
 |some cs=>if l=0 /\ 0 < s /\ h*s <=cs.length then some (.bs b h s E)else none
 |none=>none
def sbS(x:Option (Bool × Nat))(l h:Option Nat)(cs:Option (List AV))(b n s:Nat)(E:TypeId):Option AV:=match x,l,h with
 |some _,some l,some h=>if l=0 /\ h <=n then some (.bs b h s E)else sbx l h cs b s E
 |_,_,_=>none
theorem C2a{l h:Nat}{cs:List AV}{b s:Nat}{E:TypeId} :sbx l h (some cs) b s E=if l=0 /\ 0 < s /\ h*s <=cs.length then some (.bs b h s E)else none:=nr rfl
theorem C1y{x:Bool × Nat}{l h:Nat}{cs:Option (List AV)}{b n s:Nat}{E:TypeId} :sbS (some x) (some l) (some h) cs b n s E=if l=0 /\ h <=n then some (.bs b h s E)else sbx l h cs b s E:=nr rfl
theorem A7c{σ:AS}{t E:TypeId}{b n s:Nat}{lo hi:Option AV} :gL P σ t (.bs b n s E) lo hi=sbS ((el P t).bind (tk P)) (cM lo 0) (cM hi n) (σ.box b) b n s E:=by
 unfold gL
 rw[yO]
 unfold sbk sbS kN sbx
 cases he:el P t with
 |none=>simp
 | some e=>
  simp only[Option.bind_some]
  cases htk:tk P e with
  |none=>cases cM lo 0 <;>cases cM hi n <;>cases σ.box b <;>simp[htk]
  | some y=>
   cases cM lo 0 with
   |none=>simp
   | some l=>
    cases cM hi n with
    |none=>simp
    | some h=>
     simp only
     by_cases hc:l=0 /\ h <=n
     ·rw[if_pos hc,if_pos hc]
     ·rw[if_neg hc,if_neg hc]
      cases hb:σ.box b with
      |none=>rfl
      |some cs=>simp[htk]
theorem pE {σ:AS} {t:TypeId} {a:Addr} {n c l h s:Nat} {ag:Bool} {lo hi:Option AV} {F:AV ->Prop} {d:Dum σ} {d':Dum F} (he:(el P t).bind (tk P)=some (ag,s)) (hl:cM lo 0=some l) (hh:cM hi n=some h) (h1:l <=h) (h2:h <=c)
  (hF:F (.raw (.slice (some (if c=l then a else a.add (l*s))) (h - l) (c - l)))):slW P σ t (.raw (.slice (some a) n c)) lo hi F d d':=by
 refine⟨_,?_,hF⟩
 have e0:eL P t (.raw (.slice (some a) n c)) lo hi=none:=by
  unfold eL jK
  cases el P t <;>rfl
 unfold gL
 rw[e0]
 simp only[kN,he,hl,hh]
 rw[if_pos ⟨h1,h2⟩]
theorem D3a{σ:AS}{t E:TypeId}{b n s:Nat}{lo hi:Option AV}{F:AV ->Prop}{d:Dum σ}{d':Dum F} :slW P σ t (.bs b n s E) lo hi F d d'=bo (sbS ((el P t).bind (tk P)) (cM lo 0) (cM hi n) (σ.box b) b n s E) F ⟨⟩:=by
 unfold slW bo
 rw[A7c]
theorem A7d{t:TypeId}{lo hi:Option AV} :eL P t .nil lo hi=nbk ((el P t).bind (tk P)) (cM lo 0) (cM hi 0):=by
 unfold eL jK nbk
 cases el P t with
 |none=>rfl
 | some e=>
  simp only[Option.bind_some]
  cases cM lo 0 with
  |none=>cases tk P e <;>rfl
  | some l=>
   cases cM hi 0 with
   |none=>cases tk P e <;>rfl
   | some h=>
    cases htk:tk P e with
    |none=>simp[htk]
    | some x=>
     by_cases hc:l <=h /\ h <=0
     ·simp[hc,A2f,htk]
     ·have: ¬ (l <=h /\ h <=0 /\ True):=fun h=>hc ⟨h.1,h.2.1⟩
      simp only[if_neg hc]
      simp[A2f,htk]
      omega
def rsk(x:Option (Nat × Nat))(cs:List AV):Option AV:=match x with
 |some (m,1)=>if m=cs.length /\ m <=maxLen then some (.sl .none cs [])else none
 |_=>none
theorem B1j{t:TypeId}{cs:List AV} :eL P t (.rp cs) none none=rsk (nZ P t) cs:=by
 unfold eL jK rsk
 simp only
 cases h:nZ P t with
 |none=>rfl
 | some x=>
  obtain⟨m,n⟩:=x
  match n with
  |0=>rfl
  |1=>simp only;split <;>rfl
  |n+2=>rfl
theorem C1a{x:Bool × Nat}{l h:Nat} :nbk (some x) (some l) (some h)=if l <=h /\ h <=0 then some .nil else none:=nr rfl
theorem C1z{x:Bool × Nat}{l h b n s:Nat}{E:TypeId} :sbk (some x) (some l) (some h) b n s E=if l=0 /\ h <=n then some (.bs b h s E)else none:=nr rfl
theorem B4q{pt:TypeId}{d:Dum σ}{d':Dum K} :C3c P σ pt .nilptr (.int .i64 0) K d d'=K (.str []) σ:=by simp[C3c,tD]
theorem D1r{g:Gh}{xs sp:List AV} :isv (.sl g xs sp)=true:=nr rfl
theorem C6g{b o:Nat} :isv (.ptr b o)=true:=nr rfl
theorem D1q{l:List AV} :isv (.rp l)=true:=nr rfl
theorem D1p{f:FuncId}{l:List AV} :isv (.fn f l)=true:=nr rfl
theorem A8n:isv .nilptr=true:=nr rfl
theorem B3g:isv .nilfn=true:=nr rfl
def ldk(k:Option (Bool × Nat))(c:Option (List AV))(o:Nat):Option AV:=match k,c with|some (ag,n),some cs=>rd ag n (cs.drop o)|_,_=>none
theorem B1e{t:TypeId}{b o:Nat} :hO P σ t (.ptr b o)=ldk (tk P t) (σ.box b) o:=by
 unfold hO ldk;cases tk P t with
 |none=>rfl
 |some x=>obtain⟨ag,n⟩:=x;simp only;cases σ.box b <;>rfl
theorem C0n{ag:Bool}{n o:Nat}{cs:List AV} :ldk (some (ag,n)) (some cs) o=rd ag n (cs.drop o):=nr rfl
def ldr(k:Option (Bool × Nat))(cs:List AV):Option AV:=match k with|some (ag,n)=>rd ag n cs|_=>none
theorem B5v{t:TypeId}{cs:List AV} :hO P σ t (.rp cs)=ldr (tk P t) cs:=by
 unfold hO ldr;cases tk P t with
 |none=>rfl
 |some x=>rfl
theorem C0o{ag:Bool}{n:Nat}{cs:List AV} :ldr (some (ag,n)) cs=rd ag n cs:=nr rfl
theorem C7t{n:Nat}{cs:List AV} :rd true n cs=if n <=cs.length then some (.agg (cs.take n))else none:=nr rfl
theorem C1k{n:Nat}{cs:List AV} :rd false n cs=cs.head? :=nr rfl
def fdk(k:Option (Nat × Bool × Nat))(p:AV):Option AV:=match k with
 |some (off,_,n)=>if n=0 then none else match p with| .ptr b o=>some (.ptr b (o+off))| .rp cs=>some (.rp (cs.drop off))|_=>none
 |none=>none
theorem B1b{t:TypeId}{p:AV}{i:Nat} :nV P t p i=fdk (kS P t i) p:=by
 unfold nV fdk;cases kS P t i with
 |none=>rfl
 |some x=>rfl
theorem C4w{off n b o:Nat}{ag:Bool} :fdk (some (off,ag,n+1)) (.ptr b o)=some (.ptr b (o+off)):=nr rfl
theorem D0l{off n:Nat}{cs:List AV}{ag:Bool} :fdk (some (off,ag,n+1)) (.rp cs)=some (.rp (cs.drop off)):=nr rfl
def fvk(k:Option (Nat × Bool × Nat))(cs:List AV):Option AV:=match k with|some (off,ag,n)=>rd ag n (cs.drop off)|none=>none
theorem A3b{t:TypeId}{cs:List AV}{i:Nat} :mD P t (.agg cs) i=fvk (kS P t i) cs:=by
 unfold mD fvk;cases kS P t i with
 |none=>rfl
 |some x=>rfl
theorem B8n{off n:Nat}{ag:Bool}{cs:List AV} :fvk (some (off,ag,n)) cs=rd ag n (cs.drop off):=nr rfl
def ixk(k:Option (Bool × Nat))(a:Option AV):Option AV:=match k,a with
 |some (_,n),some a=>if(flat a).length=n then some (.rp (flat a))else none
 |_,_=>none
theorem iM{t:TypeId}{g:Gh}{xs sp:List AV}{k:IntKind}{i:Int} :eA P t (.sl g xs sp) (.int k i)=if 0 <=i then ixk ((el P t).bind (tk P)) (xs[i.toNat]?)else none:=by
 unfold eA ixk
 simp only
 cases el P t with
 |none=>simp
 | some e=>
  simp only[Option.bind_some]
  cases tk P e with
  |none=>simp
  | some x=>
   obtain⟨ag,n⟩:=x
   simp only
   split
   ·cases xs[i.toNat]? <;>rfl
   ·rfl
def iak(a:Option (Nat × Nat))(i:Int)(f:Nat ->AV):Option AV:=match a with
 |some (m,n)=>if 0 <=i /\ i < m then some (f (i.toNat*n))else none
 |none=>none
theorem A6w{t:TypeId}{cs:List AV}{k:IntKind}{i:Int} :eA P t (.rp cs) (.int k i)=iak (nZ P t) i fun j=> .rp (cs.drop j):=by
 unfold eA iak;simp only;cases nZ P t with
 |none=>rfl
 |some x=>rfl
theorem A3c{t:TypeId}{b o:Nat}{k:IntKind}{i:Int} :eA P t (.ptr b o) (.int k i)=iak (nZ P t) i fun j=> .ptr b (o+j):=by
 unfold eA iak;simp only;cases nZ P t with
 |none=>rfl
 |some x=>rfl
theorem B9n{m n:Nat}{i:Int}{f:Nat ->AV} :iak (some (m,n)) i f=if 0 <=i /\ i < m then some (f (i.toNat*n))else none:=nr rfl
theorem C0f{ag:Bool}{n:Nat}{a:AV} :ixk (some (ag,n)) (some a)=if(flat a).length=n then some (.rp (flat a))else none:=nr rfl
theorem A6y{t:TypeId}{s:List UInt8}{k:IntKind}{i:Int} :nX P t (.str s) (.int k i)=if sk P t= .str then(if 0 <=i then(s[i.toNat]?).map (fun c=>AV.int .u8 c.toNat)else none)else none:=by
 unfold nX
 simp only
 cases s[i.toNat]? <;>rfl
theorem A0b{l:List AV}{i:Nat} :lI (.tup l) i=l[i]? :=nr rfl
theorem B6o{op:BinOp}{t:TypeId}{i:Tmp}{x y:AV} :pJ P op t (.tmp i) x y=iL P op t x y:=nr rfl
theorem B2a{op:BinOp}{t:TypeId}{i:Nat}{x y:AV} :pJ P op t (.global i) x y=iL P op t x y:=nr rfl
theorem B1z{op:BinOp}{t:TypeId}{i:FuncId}{x y:AV} :pJ P op t (.func i) x y=iL P op t x y:=nr rfl
theorem B6j{op:BinOp}{t:TypeId}{k:IntKind}{n:Int}{x y:AV} :pJ P op t (.const (.int k n)) x y=iL P op t x y:=nr rfl
theorem B6n{op:BinOp}{t:TypeId}{s:ByteArray}{x y:AV} :pJ P op t (.const (.string s)) x y=iL P op t x y:=nr rfl
theorem B1y{op:BinOp}{t:TypeId}{s:Bool}{x y:AV} :pJ P op t (.const (.bool s)) x y=iL P op t x y:=nr rfl
theorem C3x{op:BinOp}{t:TypeId}{a:Option Addr}{n c:Nat}{x y:AV} :pJ P op t (.const (.slice a n c)) x y=iL P op t x y:=nr rfl
theorem B6m{op:BinOp}{t:TypeId}{a:Option Addr}{x y:AV} :pJ P op t (.const (.pointer a)) x y=iL P op t x y:=nr rfl
theorem B2b{op:BinOp}{t:TypeId}{x y:AV} :pJ P op t (.const .nilFunc) x y=iL P op t x y:=nr rfl
theorem B6i{op:BinOp}{t:TypeId}{cs:Array Value}{x y:AV} :pJ P op t (.const (.agg cs)) x y=iL P op t x y:=nr rfl
theorem B6k{op:BinOp}{t:TypeId}{x y:AV} :pJ P op t (.const (.map none)) x y=yK P op t x:=nr rfl
theorem B0t{op:BinOp}{t k e:TypeId}{m:Option Nat}(h:sk P t= .map k e):yK P op t (.raw (.map m))=nM op m.isNone:=by simp[yK,h]
theorem B6l{op:BinOp}{t:TypeId}{x y:AV} :pJ P op t (.const .nilIface) x y=yL P op t x:=nr rfl
theorem B0u{op:BinOp}{t:TypeId} :yL P op t (.raw .nilIface)=if ifc P t then nM op true else none:=nr rfl
theorem B5k{op:BinOp}{t s:TypeId}{v:Value} :yL P op t (.raw (.iface s v))=if ifc P t then nM op false else none:=nr rfl
def axk(l:Option (Nat × Bool × Nat))(cs:List AV)(i:Int):Option AV:=match l with
 |some (m,ag,n)=>if 0 <=i /\ i < m then rd ag n (cs.drop (i.toNat*n))else none
 |none=>none
theorem A6x{t:TypeId}{cs:List AV}{k:IntKind}{i:Int} :nX P t (.agg cs) (.int k i)=axk (A7b P t) cs i:=nr rfl
theorem B6d{m n:Nat}{ag:Bool}{cs:List AV}{i:Int} :axk (some (m,ag,n)) cs i=if 0 <=i /\ i < m then rd ag n (cs.drop (i.toNat*n))else none:=nr rfl
theorem B5m{op:BinOp}{t:TypeId}{k k':IntKind}{a b:Int} :iL P op t (.int k a) (.int k' b)=dY op k a k' b:=nr rfl
theorem B5n{op:BinOp}{t:TypeId}{a b:List UInt8} :iL P op t (.str a) (.str b)=qG op a b:=nr rfl
theorem B0v{op:BinOp}{t:TypeId}{a b:Bool} :iL P op t (.bool a) (.bool b)=if sk P t= .bool then nM op (a==b)else none:=nr rfl
theorem zS{op:BinOp}{t:TypeId} :iL P op t .nil .nil=if(el P t).isSome=true then nM op true else none:=nr rfl
theorem A2v{op:BinOp}{t:TypeId}{g:Gh}{xs sp:List AV} :iL P op t .nil (.sl g xs sp)=if(el P t).isSome=true /\ tP g xs=false then nM op false else none:=nr rfl
theorem A2w{op:BinOp}{t:TypeId}{g:Gh}{xs sp:List AV} :iL P op t (.sl g xs sp) .nil=if(el P t).isSome=true /\ tP g xs=false then nM op false else none:=nr rfl
theorem A2t{op:BinOp}{t:TypeId}{f:FuncId}{l:List AV} :iL P op t (.fn f l) .nilfn=if sk P t= .fn then nM op false else none:=nr rfl
theorem A8m{xs:List AV} :tP .full xs=false:=nr rfl
theorem B3f{b:Nat}{xs:List AV} :tP (.own b) xs=false:=nr rfl
theorem A8l{g:Gh}{x:AV}{xs:List AV} :tP g (x::xs)=false:=by cases g <;>rfl
theorem B5l{op:BinOp}{t:TypeId}{xs ys:List AV} :iL P op t (.agg xs) (.agg ys)=(eqK P t).bind fun ks=> (iZ ks xs ys).bind (nM op):=nr rfl
theorem D0m:iZ [] [] []=some true:=nr rfl
theorem D0n{ks:List SK}{a b:List UInt8}{xs ys:List AV} :iZ (.str::ks) (.str a::xs) (.str b::ys)=(iZ ks xs ys).map fun r=>decide (a=b) && r:=nr rfl
theorem A1a{ks:List SK}{k0 k:IntKind}{a b:Int}{xs ys:List AV} :iZ (.int k0::ks) (.int k a::xs) (.int k b::ys)=(iZ ks xs ys).map fun r=>decide (a=b) && r:=by simp[iZ]
theorem D5e{k:IntKind}{a b:Int} :dY .add k a k b=some (.int k (k.wrap (a+b))):=by simp[dY]
theorem D5r{k:IntKind}{a b:Int} :dY .sub k a k b=some (.int k (k.wrap (a - b))):=by simp[dY]
theorem D5l{k:IntKind}{a b:Int} :dY .mul k a k b=some (.int k (k.wrap (a*b))):=by simp[dY]
theorem D5n{k:IntKind}{a b:Int} :dY .quo k a k b=if b=0 then none else some (.int k (k.wrap (a.tdiv b))):=by simp[dY]
theorem D5o{k:IntKind}{a b:Int} :dY .rem k a k b=if b=0 then none else some (.int k (a.tmod b)):=by simp[dY]
theorem D5g{k:IntKind}{a b:Int} :dY .eql k a k b=some (.bool (decide (a=b))):=by simp[dY];by_cases h:a=b <;>simp[h]
theorem D5m{k:IntKind}{a b:Int} :dY .neq k a k b=some (.bool (decide (¬ a=b))):=by simp[dY,bne];by_cases h:a=b <;>simp[h]
theorem D5k{k:IntKind}{a b:Int} :dY .lss k a k b=some (.bool (decide (a < b))):=by simp[dY]
theorem D5j{k:IntKind}{a b:Int} :dY .leq k a k b=some (.bool (decide (a <=b))):=by simp[dY]
theorem D5i{k:IntKind}{a b:Int} :dY .gtr k a k b=some (.bool (decide (b < a))):=by simp[dY]
theorem D5h{k:IntKind}{a b:Int} :dY .geq k a k b=some (.bool (decide (b <=a))):=by simp[dY]
theorem D5f{k:IntKind}{a b:Int} :dY .and k a k b=some (.int k (k.wrap ((BitVec.ofInt k.bits a &&& BitVec.ofInt k.bits b).toNat))):=by simp only[dY,ne_eq,not_true_eq_false,if_false]
theorem D8l{k:IntKind}{a b:Int} :dY .or k a k b=some (.int k (k.wrap ((BitVec.ofInt k.bits a|||BitVec.ofInt k.bits b).toNat))):=by simp only[dY,ne_eq,not_true_eq_false,if_false]
theorem D5s{k:IntKind}{a b:Int} :dY .xor k a k b=some (.int k (k.wrap ((BitVec.ofInt k.bits a ^^^ BitVec.ofInt k.bits b).toNat))):=by simp only[dY,ne_eq,not_true_eq_false,if_false]
theorem D5p{k k':IntKind}{a b:Int} :dY .shl k a k' b=if b < 0 then none else some (.int k (k.wrap (a*2 ^ (min b.toNat k.bits)))):=nr rfl
theorem D5q{k k':IntKind}{a b:Int} :dY .shr k a k' b=if b < 0 then none else some (.int k (a.fdiv (2 ^ (min b.toNat k.bits)))):=nr rfl
theorem D6n{a b:List UInt8} :qG .eql a b=some (.bool (decide (a=b))):=by simp[qG];by_cases h:a=b <;>simp[h]
theorem D6p{a b:List UInt8} :qG .neq a b=some (.bool (decide (¬ a=b))):=by simp[qG];by_cases h:a=b <;>simp[h]
theorem D6m{a b:List UInt8} :qG .add a b=if a.length+b.length <=maxLen then some (.str (a++b))else none:=nr rfl
theorem D6o{a b:List UInt8} :qG .lss a b=some (.bool (Op.bytesLess a b)):=nr rfl
theorem C3n{b:Bool} :nM .eql b=some (.bool b):=nr rfl
theorem C3o{b:Bool} :nM .neq b=some (.bool (!b)):=nr rfl
theorem C3r{b:Bool} :aun .not (.bool b)=some (.bool (!b)):=nr rfl
theorem C3q{k:IntKind}{n:Int} :aun .neg (.int k n)=some (.int k (k.wrap (0 - n))):=nr rfl
def cvk(s:SK)(n:Int)(u:Bool):Option AV:=match s with| .int k=>if u=true then some (.int k (k.wrap n))else none|_=>none
theorem B1a{s t:TypeId}{k:IntKind}{n:Int} :qI P s t (.int k n)=cvk (sk P t) n (P.underlying s).isSome:=by
 unfold qI cvk;cases sk P t <;>rfl
theorem C4m{k:IntKind}{n:Int} :cvk (.int k) n true=some (.int k (k.wrap n)):=nr rfl
theorem A6o{s t:TypeId}{k:IntKind}{n:Int} :nT P s t (.int k n)=cvk (sk P t) n (P.underlying s).isSome:=by
 show qI P s t (.int k n)=_
 exact B1a
def cvw(s:SK)(e:Option TypeId)(f:TypeId ->SK)(u:Bool)(l:List UInt8):Option AV:=
 if s= .str then(if u=true then some (.str l)else none)else if u && (e.any fun e=>decide (f e= .int .u8)) && decide (l.length <=maxLen)then some (.sl .none (l.map fun c=> .int .u8 c.toNat) [])else none
theorem A6p{s t:TypeId}{l:List UInt8} :nT P s t (.str l)=cvw (sk P t) (el P t) (sk P) (P.underlying s).isSome l:=by
 unfold nT cvw
 by_cases h:sk P t= .str
 ·simp only[if_pos h,qI,h]
 ·simp only[if_neg h]
theorem C4n{e:Option TypeId}{f:TypeId ->SK}{l:List UInt8} :cvw .str e f true l=some (.str l):=nr rfl
theorem B2i{s:SK}{e:TypeId}{f:TypeId ->SK}{l:List UInt8}(h:s ≠ .str)(h2:f e= .int .u8)(h3:l.length <=maxLen):cvw s (some e) f true l=some (.sl .none (l.map fun c=> .int .u8 c.toNat) []):=by
 simp[cvw,h,h2,h3]
theorem A0w{s t:TypeId}{x:AV}{K:AV ->AS ->Prop}(h:∀ l,x ≠ .str l)(hb:∀ b n E,x ≠ .bs b n 1 E):cvW P σ s t x K ⟨⟩ ⟨⟩=bo (dP P σ s t x) (fun r=>K r σ) ⟨⟩:=by
 unfold cvW bo
 refine propext ⟨fun h2=> ?_, .inl⟩
 rcases h2 with h2|⟨l,_,rfl,_⟩|⟨b,cs,E,_,rfl,_⟩
 ·exact h2
 ·exact absurd rfl (h l)
 ·exact absurd rfl (hb b _ E)
theorem C4i{s t:TypeId}{k:IntKind}{n:Int}{K:AV ->AS ->Prop} :cvW P σ s t (.int k n) K ⟨⟩ ⟨⟩=bo (dP P σ s t (.int k n)) (fun r=>K r σ) ⟨⟩:=A0w (fun _ h=>by cases h) (fun _ _ _ h=>by cases h)
theorem C4j{s t:TypeId}{K:AV ->AS ->Prop} :cvW P σ s t .nil K ⟨⟩ ⟨⟩=bo (dP P σ s t .nil) (fun r=>K r σ) ⟨⟩:=A0w (fun _ h=>by cases h) (fun _ _ _ h=>by cases h)
theorem D0g{s t:TypeId}{g:Gh}{xs sp:List AV}{K:AV ->AS ->Prop} :cvW P σ s t (.sl g xs sp) K ⟨⟩ ⟨⟩=bo (dP P σ s t (.sl g xs sp)) (fun r=>K r σ) ⟨⟩:=A0w (fun _ h=>by cases h) (fun _ _ _ h=>by cases h)
theorem D0f{s t E:TypeId}{b n q:Nat}{K:AV ->AS ->Prop}(ht:sk P t= .str):cvW P σ s t (.bs b n q E) K ⟨⟩ ⟨⟩=bo (dP P σ s t (.bs b n q E)) (fun r=>K r σ) ⟨⟩:=by
 unfold cvW bo
 refine propext ⟨fun h2=> ?_, .inl⟩
 rcases h2 with h2|⟨l,_,h,_⟩|⟨_,cs,_,e,_,_,rfl,he,_⟩
 ·exact h2
 ·cases h
 ·have h1:=cG he
  have h3:=kD ht
  rw[h1]at h3;cases h3
theorem C4l{s e E:TypeId}{b:Nat}{cs:List AV}{K:AV ->AS ->Prop}{d:Dum σ}{d':Dum K}(hb:σ.box b=some cs)(he:el P s=some e)(hk:sk P e= .int .u8)(hone:∀ a,a ∈ cs ->flat a=[a] /\ isv a=true)(hK:K (.sl (.own b) cs []) ((σ.delBox b).setTip b (cs.length,1))):cvW P σ s s (.bs b cs.length 1 E) K d d':= .inr (.inr ⟨b,cs,E,e,rfl,hb,rfl,he,hk,hone,hK⟩)
theorem B6z{s t:TypeId}{x:Bool}{K:AV ->AS ->Prop} :cvW P σ s t (.bool x) K ⟨⟩ ⟨⟩=bo (dP P σ s t (.bool x)) (fun r=>K r σ) ⟨⟩:=A0w (fun _ h=>by cases h) (fun _ _ _ h=>by cases h)
theorem C4k{s t:TypeId}{l:List UInt8}{K:AV ->AS ->Prop} :cvW P σ s t (.str l) K ⟨⟩ ⟨⟩=cvT (el P t) P σ s t l K ⟨⟩ ⟨⟩:=by
 unfold cvW cvT
 cases he:el P t with
 | none=>
  refine propext ⟨fun h2=> ?_, .inl⟩
  rcases h2 with h2|⟨_,e,_,_,h3,_⟩|⟨_,_,_,_,h3,_⟩
  ·exact h2
  ·rw[he]at h3;cases h3
  ·cases h3
 | some e=>
  refine propext ⟨fun h2=> ?_,fun h2=> ?_⟩
  ·rcases h2 with h2|h2|⟨_,_,_,_,h3,_⟩
   ·exact .inl h2
   ·exact .inr h2
   ·cases h3
  ·rcases h2 with h2|h2
   ·exact .inl h2
   ·exact .inr (.inl h2)
theorem B6y{s t:TypeId}{l:List UInt8}{K:AV ->AS ->Prop} :cvT none P σ s t l K ⟨⟩ ⟨⟩=bo (dP P σ s t (.str l)) (fun r=>K r σ) ⟨⟩:=nr rfl
theorem D0h{s t:TypeId}{x:AV}{K:AV ->AS ->Prop}{d:Dum σ}{d':Dum K}(h:bo (dP P σ s t x) (fun r=>K r σ) ⟨⟩):cvW P σ s t x K d d':= .inl h
theorem aD{e s t:TypeId}{l:List UInt8}{K:AV ->AS ->Prop}{d:Dum σ}{d':Dum K}(h:bo (dP P σ s t (.str l)) (fun r=>K r σ) ⟨⟩):cvT (some e) P σ s t l K d d':= .inl h
theorem A6q{s t:TypeId}{k:IntKind}{n:Int} :dP P σ s t (.int k n)=cvk (sk P t) n (P.underlying s).isSome:=by
 show nT P s t (.int k n)=_
 exact A6o
theorem A6s{s t:TypeId}{l:List UInt8} :dP P σ s t (.str l)=cvw (sk P t) (el P t) (sk P) (P.underlying s).isSome l:=by
 show nT P s t (.str l)=_
 exact A6p
def cvb(s:SK)(e:Option TypeId)(f:TypeId ->SK)(xs:List AV):Option AV:=
 if decide (s= .str) && (e.any fun e=>decide (f e= .int .u8))then(fO xs).map .str else none
def cvm(s:SK)(e:Option TypeId)(f:TypeId ->SK)(x:Option (List AV))(n q:Nat):Option AV:=
 if(decide (s= .str) && (e.any fun e=>decide (f e= .int .u8)))=true /\ q=1 then(match x with|some cs=>if cs.length=n then(fO cs).map .str else none|none=>none)else none
theorem A6r{s t:TypeId} :dP P σ s t .nil=cvb (sk P t) (el P s) (sk P) []:=nr rfl
theorem B0z{s t:TypeId}{g:Gh}{xs sp:List AV} :dP P σ s t (.sl g xs sp)=cvb (sk P t) (el P s) (sk P) xs:=nr rfl
theorem B0y{s t E:TypeId}{b n q:Nat} :dP P σ s t (.bs b n q E)=cvm (sk P t) (el P s) (sk P) (σ.box b) n q:=nr rfl
theorem B7a{e:TypeId}{f:TypeId ->SK}{xs:List AV}(h:f e= .int .u8):cvb .str (some e) f xs=(fO xs).map .str:=by simp[cvb,h]
theorem B7b{e:TypeId}{f:TypeId ->SK}{cs:List AV}{n:Nat}(h:f e= .int .u8)(hn:cs.length=n):cvm .str (some e) f (some cs) n 1=(fO cs).map .str:=by simp[cvm,h,hn]
def bdk(p:Option (List (Nat × Nat)))(z:Option (List AV))(ps:List (Nat × AV)):Option AV:=match p,z with|some pl,some z=> (jG (pl[·]?) z ps).map .agg|_,_=>none
theorem B0x{t:TypeId}{ps:List (Nat × AV)} :rR P t ps=bdk (gV P t) (zc P t) ps:=nr rfl
theorem B6h{p:List (Nat × Nat)}{z:List AV}{ps:List (Nat × AV)} :bdk (some p) (some z) ps=(jG (p[·]?) z ps).map .agg:=nr rfl
def flk(f:Nat ->Option (Nat × Nat))(p:Option (Nat × Nat))(cells:List AV)(v:AV)(rest:List (Nat × AV)):Option (List AV):=match p with
 |none=>none
 |some (off,size)=>if isv v=true /\ (flat v).length=size /\ off+size <=cells.length then jG f (cells.take off++flat v++cells.drop (off+size)) rest else none
theorem B1c{f:Nat ->Option (Nat × Nat)}{cells:List AV} :jG f cells []=some cells:=nr rfl
theorem A6u{f:Nat ->Option (Nat × Nat)}{cells:List AV}{i:Nat}{v:AV}{rest:List (Nat × AV)} :jG f cells ((i,v)::rest)=flk f (f i) cells v rest:=by
 conv=>lhs;unfold jG
 unfold flk;cases f i <;>rfl
theorem B8d{f:Nat ->Option (Nat × Nat)}{cells:List AV}{off size:Nat}{v:AV}{rest:List (Nat × AV)} :
  flk f (some (off,size)) cells v rest=if isv v=true /\ (flat v).length=size /\ off+size <=cells.length then jG f (cells.take off++flat v++cells.drop (off+size)) rest else none:=rfl
def bsk(e:Option (TypeId × Nat × Nat))(len:Nat)(ps:List (Nat × AV)):Option AV:=match e with
 |some (_,n,_)=>if ps.map (·.1)=List.range len /\ (ps.map (·.2)).all (fun a=>isv a && decide ((flat a).length=n))=true /\ len*n <=16777216 then some (.sl .full (ps.map (·.2)) [])else none
 |none=>none
theorem jS{t len:Nat}{ps:List (Nat × AV)}{r:AV}(h:bsk (fV P t) len ps=some r):cX P t len ps=some r:=by
 unfold bsk at h
 cases ha:fV P t with
 |none=>rw[ha]at h;cases h
 | some x=>
  obtain⟨e,n,b⟩:=x
  rw[ha]at h
  simp only at h
  split at h
  ·rename_i hc
   unfold fV at ha
   unfold cX
   cases he:el P t with
   |none=>rw[he]at ha;cases ha
   | some e'=>
    rw[he]at ha
    simp only at ha ⊢
    cases htk:tk P e' with
    |none=>rw[htk]at ha;cases ha
    | some y=>
     obtain⟨ag,n'⟩:=y
     cases hb:dB P e' with
     |none=>rw[htk,hb]at ha;cases ha
     | some b'=>
      cases hz:zc P e' with
      |none=>rw[htk,hb,hz]at ha;cases ha
      | some z=>
       rw[htk,hb,hz]at ha
       simp only at ha
       split at ha
       ·rename_i hc2
        simp only[Option.some.injEq,Prod.mk.injEq]at ha
        obtain⟨rfl,rfl,rfl⟩:=ha
        simp only[Option.map_some]
        rw[if_pos ⟨hc.1,hc.2.1,hc.2.2,hc2.1,by rw[hc2.2.2]⟩]
        exact h
       ·cases ha
  ·cases h
theorem aA{m:Bool}{t len:Nat}{ps:List (Nat × AV)}{K:AV ->AS ->Prop}{d:Dum σ}{d2:Dum K}{d':Dum fun r=>K r σ}(h:bo (bsk (fV P t) len ps) (fun r=>K r σ) d'):bmW m P σ t len ps K d d2:=by
 obtain⟨r,h1,h2⟩:=h
 exact .inl ⟨r,jS h1,h2⟩
theorem B0w{d:Nat} :cM none d=some d:=nr rfl
theorem B5o{k:IntKind}{n:Int}{d:Nat} :cM (some (.int k n)) d=if 0 <=n then some n.toNat else none:=nr rfl
def D3c(l h:Option Nat)(s:List UInt8):Option AV:=match l,h with
 |some l,some h=>if l <=h /\ h <=s.length then some (.str ((s.take h).drop l))else none
 |_,_=>none
theorem A7e{t:TypeId}{s:List UInt8}{lo hi:Option AV} :eL P t (.str s) lo hi=if sk P t= .str then D3c (cM lo 0) (cM hi s.length) s else none:=by
 unfold eL jK D3c
 simp only
 by_cases h:sk P t= .str
 ·simp only[if_pos h]
  cases cM lo 0 <;>cases cM hi s.length <;>try rfl
  simp only
  split <;>rfl
 ·simp only[if_neg h];rfl
theorem B4g{l h:Nat}{s:List UInt8} :D3c (some l) (some h) s=if l <=h /\ h <=s.length then some (.str ((s.take h).drop l))else none:=nr rfl
open Classical in
noncomputable def slk(k:Option (Bool × Nat))(l h:Option Nat)(g:Gh)(xs sp:List AV):Option AV:=match k,l,h with
 | some (_,n),some l,some h=>if l <=h /\ h <=xs.length+sp.length /\ (l=0 \/ ∀ a,a ∈ xs++sp -> (flat a).length=n)then
   some (A2f (.sl g xs sp) (.sl (jO g l h xs.length) (((xs++sp).take h).drop l) ((xs++sp).drop h)))else none
 |_,_,_=>none
theorem B1k{t:TypeId}{g:Gh}{xs sp:List AV}{lo hi:Option AV} :eL P t (.sl g xs sp) lo hi=slk ((el P t).bind (tk P)) (cM lo 0) (cM hi xs.length) g xs sp:=by
 unfold eL jK slk
 simp only
 cases he:el P t with
 |none=>cases cM lo 0 <;>cases cM hi xs.length <;>rfl
 | some e=>
  cases htk:tk P e with
  |none=>cases cM lo 0 <;>cases cM hi xs.length <;>simp only[Option.bind_some,htk] <;>rfl
  | some x=>
   obtain⟨ag,n⟩:=x
   cases cM lo 0 <;>cases cM hi xs.length <;>simp only[Option.bind_some,htk] <;>try rfl
   split <;>rfl
theorem C2e{ag:Bool}{n l h:Nat}{g:Gh}{xs sp:List AV} :slk (some (ag,n)) (some l) (some h) g xs sp=if l <=h /\ h <=xs.length+sp.length /\ (l=0 \/ ∀ a,a ∈ xs++sp -> (flat a).length=n)then
   some (A2f (.sl g xs sp) (.sl (jO g l h xs.length) (((xs++sp).take h).drop l) ((xs++sp).drop h)))else none:=by
 unfold slk;simp only
theorem B4f{ag:Bool}{n l h:Nat}{xs:List AV}(ha:∀ a,a ∈ xs -> (flat a).length=n):slk (some (ag,n)) (some l) (some h) .none xs []=if l <=h /\ h <=xs.length then some (.sl .none ((xs.take h).drop l) [])else none:=by
 rw[C2e]
 simp only[List.append_nil,List.length_nil,Nat.add_zero]
 by_cases h1:l <=h /\ h <=xs.length
 ·rw[if_pos ⟨h1.1,h1.2, .inr ha⟩,if_pos h1];rfl
 ·rw[if_neg h1,if_neg fun h2=>h1 ⟨h2.1,h2.2.1⟩]
theorem D5y{t:TypeId}{s:List UInt8} :fS P .len #[t] [.str s]=if sk P t= .str then some (.int .i64 s.length)else none:=nr rfl
theorem C0h{t:TypeId} :fS P .len #[t] [.nil]=if(el P t).isSome then some (.int .i64 0)else none:=nr rfl
theorem D5v{t:TypeId} :fS P .cap #[t] [.nil]=if(el P t).isSome then some (.int .i64 0)else none:=nr rfl
theorem D5u{t E:TypeId}{b n s:Nat} :fS P .len #[t] [.bs b n s E]=if(el P t).isSome then some (.int .i64 n)else none:=nr rfl
theorem B3l{t:TypeId} :fS P .unsafeSliceData #[t] [.nil]=some .nilptr:=nr rfl
theorem D5z{t E:TypeId}{b n s:Nat} :fS P .unsafeSliceData #[t] [.bs b n s E]=if 0 < n then some (.bp b s E)else none:=nr rfl
theorem C0k{t:TypeId}{g:Gh}{xs sp:List AV} :fS P .len #[t] [.sl g xs sp]=if(el P t).isSome then some (.int .i64 xs.length)else none:=nr rfl
theorem D5w{ts:Array TypeId}{k k':IntKind}{a b:Int} :fS P .max ts [.int k a, .int k' b]=some (.int k (if b >a then b else a)):=by
 unfold fS;split <;>simp_all
theorem D5x{ts:Array TypeId}{k k':IntKind}{a b:Int} :fS P .min ts [.int k a, .int k' b]=some (.int k (if b < a then b else a)):=by
 unfold fS;split <;>simp_all
def stk(k:Option (Bool × Nat))(σ:AS)(c:Option (List AV))(b o:Nat)(x:AV):Option AS:=match k,c with
 |some (_,n),some cs=>if isv x=true /\ (flat x).length=n /\ o+n <=cs.length then some (σ.setBox b (cs.take o++flat x++cs.drop (o+n)))else none
 |_,_=>none
theorem pT{t:TypeId}{b o:Nat}{x:AV} :gQ P σ t (.ptr b o) x=stk (tk P t) σ (σ.box b) b o x:=by
 unfold gQ stk
 cases tk P t with
 |none=>rfl
 |some y=>obtain⟨ag,n⟩:=y;simp only;cases σ.box b <;>rfl
theorem C2i{ag:Bool}{n b o:Nat}{cs:List AV}{x:AV} :stk (some (ag,n)) σ (some cs) b o x=if isv x=true /\ (flat x).length=n /\ o+n <=cs.length then some (σ.setBox b (cs.take o++flat x++cs.drop (o+n)))else none:=nr rfl
theorem B3x:iJ G e []=[]:=nr rfl
theorem A8w{i:Nat}{x:Operand}{l:List (Nat × Operand)} :iJ G e ((i,x)::l)=(i,ev G e x)::iJ G e l:=nr rfl
theorem C3s{l:List Oper} :cE l e none=some true:=nr rfl
def awk(v:AV)(want:Bool):Option Bool:=match v with| .bool b=>some (b==want)| .tup []=>some false|_=>none
def awo(t:Option Tmp)(e:aM)(want:Bool):Option Bool:=match t with|some t=>awk (e t) want|none=>none
theorem C3t{l:List Oper}{j:Nat}{want:Bool} :cE l e (some (j,want))=awo ((l[j]?).bind (·.dst)) e want:=by
 unfold cE awo awk
 simp only
 cases(l[j]?).bind (·.dst) <;>rfl
theorem B6c{t:Tmp}{want:Bool} :awo (some t) e want=awk (e t) want:=nr rfl
theorem B6a{want:Bool} :awk (.tup []) want=some false:=nr rfl
theorem B6b{b:Bool} :awk (.bool b) true=some b:=by simp[awk]
theorem B1o{b:Bool} :awk (.bool b) false=some (!b):=by simp[awk]
theorem B5w:jJ P e σ []=some []:=nr rfl
theorem B5x{t:Tmp} :jJ P e σ [.tmp t]=some [e t]:=nr rfl
theorem B1g{t:Tmp}{ty:TypeId} :jJ P e σ [.cell t ty]=(hO P σ ty (e t)).map fun x=> [x]:=by
 unfold jJ A3k jJ;simp only;cases hO P σ ty (e t) <;>rfl
theorem B5y{t u:Tmp} :jJ P e σ [.tmp t, .tmp u]=some [e t,e u]:=nr rfl
end rules
def aN(P:Program)(G:Nat ->AV)(f:FuncId)(args:List AV)(v:AV):Prop:=∀ σ,aJ P G f args σ fun r σ'=>r=v /\ σ'=σ
theorem aN.use{P:Program}{G:Nat ->AV}{f:FuncId}{args:List AV}{v:AV}(h:aN P G f args v){σ:AS}{K:AV ->AS ->Prop}{d:Dum σ}{d':Dum K}(hk:K v σ):B4o P G f args σ K d d':=
 (h σ).mono fun r s ⟨hr,hs⟩=>by subst hr hs;exact hk
theorem aN.pureC{P:Program}{G:Nat ->AV}{f:FuncId}{args:List AV}{v:AV}(h:aN P G f args v)(σ0:AS):bZ P G f args σ0 v:=fun σ _=>h σ
theorem aN.head{P:Program}{G:Nat ->AV}{f:FuncId}{args:List AV}{v:AV}(h:aN P G f args v){σ0:AS}{F:AV ->Prop}{d:Dum σ0}{d':Dum F}(hk:F v):wB P G (.fn f []) args σ0 F d d':=pL (h.pureC σ0) hk
theorem bZ.use{P:Program}{G:Nat ->AV}{f:FuncId}{args:List AV}{v:AV}{σ0:AS}(h:bZ P G f args σ0 v){σ:AS}(hl:σ0.le σ){K:AV ->AS ->Prop}{d:Dum σ}{d':Dum K}(hk:K v σ):B4o P G f args σ K d d':=
 (h σ hl).mono fun r s ⟨hr,hs⟩=>by subst hr hs;exact hk
theorem bZ.mono{P:Program}{G:Nat ->AV}{f:FuncId}{args:List AV}{v:AV}{σ0 σ1:AS}(h:bZ P G f args σ0 v)(hl:σ0.le σ1):bZ P G f args σ1 v:=fun σ h1=>h σ (hl.trans h1)
theorem bZ.head{P:Program}{G:Nat ->AV}{f:FuncId}{args:List AV}{v:AV}{σ0 σ1:AS}(h:bZ P G f args σ1 v)(hl:σ1.le σ0){F:AV ->Prop}{d:Dum σ0}{d':Dum F}(hk:F v):wB P G (.fn f []) args σ0 F d d':=pL (h.mono hl) hk
theorem AS.set_get{σ:AS}{b:Nat}{cs:List AV} :(σ.setBox b cs).box b=some cs:=by simp[AS.setBox]
theorem bM.grown{G:Nat ->AV}{K:aT}{σ:AS}{w w':World}(h:bM G K σ w)(hb:Below w.heap.size w w'):bM G K σ w':=by
 refine⟨fun b o v hv=> ?_,fun b cap s E hr=> ?_,fun b cs hi=> ?_,h.tip,fun b E n ht=> ?_,h.glob,h.below.trans (hb.mono h.bs),Nat.le_trans h.bs hb.size⟩
 ·rw[World.cell?_of_block (w:=w) (hb.block b (h.imm_lt hv))];exact h.imm b o v hv
 ·obtain⟨cur,fz,hc,hs⟩:=h.row b cap s E hr
  exact⟨cur,fz,by rw[hb.block b (h.row_lt hr)];exact hc,hs⟩
 ·obtain⟨h1,h2,h3,h4,h5,c,E,hc,hs,hv⟩:=h.box b cs hi
  exact⟨h1,h2,h3,h4,h5,c,E,by rw[hb.block b (Array.getElem?_eq_some_iff.1 hc).1];exact hc,hs,hv⟩
 ·have h1:=h.ty b E n ht
  exact h1.old (hb.block b h1.lt)
theorem aN.of_calls {P:Program} {G:Nat ->AV} {f:FuncId} {args:List AV} {v:AV} {vals:List Value} {u:Value} (hcl:oC P f=true) (hargs:∀ K l,lE K args l ->l=vals) (hv:∀ K,VR K v u)
  (h:∀ K σ w,bM G K σ w ->Calls P f vals.toArray w fun e w'=>e= .returned u /\ Below w.heap.size w w'):aN P G f args v:=by
 intro σ
 refine⟨hcl,fun K w l hr hl=> ?_⟩
 have:=hargs K l hl
 subst this
 refine(h K σ w hr).mono fun e w' ⟨he,hb⟩=> ⟨u,v,σ,K,he,⟨rfl,rfl⟩,hv K,hr.grown hb,aT.le.refl K⟩
end Go.Av
namespace Go.Av
open Go Go.RowKit
def Le(a b:AV):Prop:=∀ (K:aT) (v:Value),VR K a v ->VR K b v
inductive uU:List AV ->List AV ->Prop
 |nil:uU [] []
 |cons {a b:AV} {l r:List AV} (h:Le a b) (t:uU l r):uU (a::l) (b::r)
theorem Le.refl(a:AV):Le a a:=fun _ _ h=>h
theorem Le.trans{a b c:AV}(h:Le a b)(k:Le b c):Le a c:=fun K v x=>k K v (h K v x)
theorem uU.refl:∀ (l:List AV),uU l l
 |[]=> .nil
 |a::l=> .cons (Le.refl a) (uU.refl l)
theorem uU.length{l r:List AV}(h:uU l r):l.length=r.length:=by
 induction h with
 |nil=>rfl
 |cons _ _ ih=>simp[ih]
theorem uU.get{l r:List AV}(h:uU l r):∀ (j:Nat) (hj:j < l.length) (hj':j < r.length),Le l[j] r[j]:=by
 induction h with
 |nil=>intro j hj;cases hj
 | cons h _ ih=>
  intro j hj hj'
  cases j with
  |zero=>exact h
  |succ j=>exact ih j (by simpa using hj) (by simpa using hj')
theorem uU.append{l r l' r':List AV}(h:uU l r)(k:uU l' r'):uU (l++l') (r++r'):=by
 induction h with
 |nil=>exact k
 |cons h _ ih=>exact .cons h ih
theorem lE.le{K:aT} :∀ {l r:List AV} {vs:List Value},uU l r ->lE K l vs ->lE K r vs
 |[],_,vs, .nil,h=>h
 |a::l,_,[], .cons _ _,h=>h.elim
 |a::l,_,v::vs, .cons h t,⟨h1,h2⟩=> ⟨h K v h1,lE.le t h2⟩
theorem aJ.weaken{P:Program}{G:Nat ->AV}{f:FuncId}{args args':List AV}{σ:AS}{Q:AV ->AS ->Prop}(hl:uU args args')(h:aJ P G f args' σ Q):aJ P G f args σ Q:=
 ⟨h.1,fun K w vals hr hv=>h.2 K w vals hr (hv.le hl)⟩
theorem aJ.tell{P:Program}{G:Nat ->AV}{f:FuncId}{args:List AV}{σ:AS}{Q Q':AV ->AS ->Prop}(h:aJ P G f args σ Q)(hq:∀ r s,Q r s ->∃ r',Le r r' /\ Q' r' s):aJ P G f args σ Q':=
 ⟨h.1,fun K w vals hr hv=> (h.2 K w vals hr hv).mono fun e w' ⟨v,r,σ',K',he,hQ,h1,h2⟩=>by
   obtain⟨r',hle,hq'⟩:=hq r σ' hQ
   exact⟨v,r',σ',K',he,hq',hle K' v h1,h2⟩⟩
theorem Le.nil:Le .nil (.sl .none [] []):=fun K v h=>by rw[VR.nil_iff]at h;subst h;exact .sl0 none
theorem Le.agg{cs ds:List AV}(h:uU cs ds)(h1:∀ d,d ∈ ds ->one d=true):Le (.agg cs) (.agg ds):=fun K v hv=>by
 cases hv with
 | agg _ vs hl g1 hvv=>
  have hlen:=h.length
  exact .agg ds vs (by omega) h1 fun j hj=>h.get j (by omega) hj K _ (hvv j (by omega))
theorem Le.tup{cs ds:List AV}(h:uU cs ds):Le (.tup cs) (.tup ds):=fun K v hv=>by
 cases hv with
 | tup _ vs hl hvv=>
  have hlen:=h.length
  exact .tup ds vs (by omega) fun j hj=>h.get j (by omega) hj K _ (hvv j (by omega))
structure LeE(a b:AV):Prop where
 cells:uU (flat a) (flat b)
 isv:isv b=true
 one:∀ c,c ∈ flat b ->one c=true
inductive rP:List AV ->List AV ->Prop
 |nil:rP [] []
 |cons {a b:AV} {l r:List AV} (h:LeE a b) (t:rP l r):rP (a::l) (b::r)
theorem rP.length{l r:List AV}(h:rP l r):l.length=r.length:=by
 induction h with
 |nil=>rfl
 |cons _ _ ih=>simp[ih]
theorem rP.flat{l r:List AV}(h:rP l r):uU (l.flatMap flat) (r.flatMap flat):=by
 induction h with
 |nil=>exact .nil
 |cons h _ ih=>rw[List.flatMap_cons,List.flatMap_cons];exact h.cells.append ih
theorem rP.ok{l r:List AV}(h:rP l r){n:Nat}(hn:∀ a,a ∈ l -> (Av.flat a).length=n):∀ b,b ∈ r -> (Av.flat b).length=n /\ Av.isv b=true /\ ∀ c,c ∈ Av.flat b ->Av.one c=true:=by
 induction h with
 |nil=>intro b hb;cases hb
 | cons h _ ih=>
  intro b hb
  rcases List.mem_cons.1 hb with rfl|hb
  ·exact⟨by rw[<- h.cells.length];exact hn _ (by simp),h.isv,h.one⟩
  ·exact ih (fun a ha=>hn a (by simp[ha])) b hb
theorem Le.sl{g:Gh}{xs ys sp:List AV}(h:rP xs ys):Le (.sl g xs sp) (.sl .none ys []):=fun K v hv=>by
 have hlen:=h.length
 cases hv with
 |sl0 a=>cases h;exact .sl0 a
 | sl _ _ _ sz b off cap f hsz hcap hml himm hvv hg=>
  have hle:(xs.flatMap Av.flat).length <=((xs++sp).flatMap Av.flat).length:=by simp
  have hf:=h.flat
  have hfl:=hf.length
  have :=VR.sl (K:=K) .none ys [] sz b off cap f (fun e he=>h.ok (fun a ha=> (hsz a (List.mem_append_left _ ha)).1) e (by simpa using he)) (by simp;omega) hml
   (fun j hj=>himm j (by simp only[List.append_nil]at hj;omega))
   (fun j hj=>by
     simp only[List.append_nil]at hj ⊢
     have h1:=hvv j (by omega)
     have e1:((xs++sp).flatMap Av.flat)[j]'(by omega)=(xs.flatMap Av.flat)[j]'(by omega):=by
      simp only[List.flatMap_append];rw[List.getElem_append_left (by omega)]
     rw[e1]at h1
     exact hf.get j (by omega) hj K _ h1) trivial
  rw[hlen]
  exact this
theorem LeE.agg{cs ds:List AV}(h:uU cs ds)(h1:∀ d,d ∈ ds ->Av.one d=true):LeE (.agg cs) (.agg ds):=⟨h,rfl,h1⟩
theorem rP.map{α:Type}{f g:α ->AV} :∀ (l:List α),(∀ x,x ∈ l ->LeE (f x) (g x)) ->rP (l.map f) (l.map g)
 |[],_=> .nil
 |x::l,h=> .cons (h x (by simp)) (rP.map l fun y hy=>h y (by simp[hy]))
end Go.Av
namespace Go.Av
open Go Go.RowKit
theorem aN.of_le{P:Program}{G:Nat ->AV}{f:FuncId}{args:List AV}{v:AV}(h:∀ σ,aJ P G f args σ fun r σ'=>Le r v /\ σ'=σ):aN P G f args v:=
 fun σ=>aJ.tell (h σ) fun r s ⟨h1,h2⟩=> ⟨v,h1,rfl,h2⟩
theorem aN.lessArgs{P:Program}{G:Nat ->AV}{f:FuncId}{args args':List AV}{v:AV}(h:aN P G f args' v)(hl:uU args args'):aN P G f args v:=fun σ=>aJ.weaken hl (h σ)
theorem Le.gh{g:Gh}{xs sp:List AV} :Le (.sl g xs sp) (.sl .none xs sp):=fun K v h=>by
 cases h with
 |sl0 a=>exact .sl0 a
 |sl _ _ _ sz b off cap f hsz hcap hml himm hvv hg=>exact .sl .none xs sp sz b off cap f hsz hcap hml himm hvv trivial
inductive Buf(n:Nat)(σ0 σ:AS):AV ->List AV ->Prop
 |nil (h:σ0.le σ):Buf n σ0 σ .nil []
 |own (b:Nat) (xs:List AV) (h:σ0.le σ) (h0:σ0.tip b=none) (ht:σ.tip b=some (xs.length,n)) (hx:∀ a,a ∈ xs -> (flat a).length=n):Buf n σ0 σ (.sl (.own b) xs []) xs
theorem Buf.le{n:Nat}{σ0 σ:AS}{v:AV}{xs:List AV}(h:Buf n σ0 σ v xs):σ0.le σ:=by cases h <;>assumption
theorem Buf.told{n:Nat}{σ0 σ:AS}{v:AV}{xs:List AV}(h:Buf n σ0 σ v xs):Le v (.sl .none xs []):=by
 cases h with
 |nil _=>exact Le.nil
 |own b xs _ _ _ _=>exact Le.gh
theorem Buf.setBox{n:Nat}{σ0 σ:AS}{v:AV}{xs:List AV}(h:Buf n σ0 σ v xs){c:Nat}(hc:σ0.box c=none)(cs:List AV):Buf n σ0 (σ.setBox c cs) v xs:=by
 cases h with
 |nil h=>exact .nil (h.setBox hc cs)
 |own b xs h h0 ht hx=>exact .own b xs (h.setBox hc cs) h0 ht hx
theorem Buf.len{P:Program}{n:Nat}{σ0 σ:AS}{v:AV}{xs:List AV}(h:Buf n σ0 σ v xs){t:TypeId} :fS P .len #[t] [v]=if(el P t).isSome then some (.int .i64 xs.length)else none:=by
 cases h with
 |nil _=>rw[C0h];rfl
 |own b xs _ _ _ _=>rw[C0k]
theorem Buf.isv{n:Nat}{σ0 σ:AS}{v:AV}{xs:List AV}(h:Buf n σ0 σ v xs):isv v=true:=by cases h <;>rfl
theorem Buf.flat{n:Nat}{σ0 σ:AS}{v:AV}{xs:List AV}(h:Buf n σ0 σ v xs):flat v=[v]:=by cases h <;>rfl
theorem C3p {P:Program} {n dB:Nat} {σ0 σ:AS} {v x:AV} {xs ys:List AV} {t tx e:TypeId} {K:AV ->AS ->Prop} {d:Dum σ} {d':Dum K} (hB:Buf n σ0 σ v xs) (he:fV P t=some (e,n,dB)) (hs:xO P tx x=some ys)
  (hys:∀ a,a ∈ ys -> (Av.flat a).length=n) (hb:(xs.length+ys.length)*dB <=140737488355328) (hK:∀ v' σ',Buf n σ0 σ' v' (xs++ys) ->σ'.box=σ.box ->K v' σ'):C9y P σ t tx v x K d d':=by
 refine .inl ?_
 unfold lZ
 rw[he,hs]
 refine⟨hys,?_⟩
 cases hB with
 | nil h=>
  refine⟨by simpa using hb,fun hy=> ?_,fun hy b hf=> ?_⟩
  ·subst hy;exact hK _ _ (.nil h) rfl
  ·have hf0:=h.fresh hf
   refine hK _ _ ?_ rfl
   rw[List.nil_append]
   exact .own b ys (h.setTip hf0.2.1 _) hf0.2.1 (by simp[AS.setTip]) hys
 | own b xs h h0 ht hx=>
  refine⟨ht,hx,hb,fun b' hb'=> ?_⟩
  have h0':σ0.tip b'=none:=by
   rcases hb' with rfl|hf
   ·exact h0
   ·exact(h.fresh hf).2.1
  refine hK _ _ ?_ rfl
  refine .own b' (xs++ys) ((h.delTip h0).setTip h0' _) h0' (by simp[AS.setTip]) fun a ha=> ?_
  rcases List.mem_append.1 ha with ha|ha
  ·exact hx a ha
  ·exact hys a ha
theorem kO{P:Program}{t e:TypeId}{g:Gh}{xs sp:List AV}(h:el P t=some e):xO P t (.sl g xs sp)=some xs:=by simp[xO,h]
theorem A9w{P:Program}{t e:TypeId}{n b:Nat}(h:fV P t=some (e,n,b)):el P t=some e /\ ∃ ag,(el P t).bind (tk P)=some (ag,n):=by
 unfold fV at h
 split at h
 case h_2=>cases h
 rename_i e' he
 split at h
 case h_2=>cases h
 rename_i ag n' b' z hn hb hz
 split at h
 case isFalse=>cases h
 simp only[Option.some.injEq,Prod.mk.injEq]at h
 obtain⟨rfl,rfl,rfl⟩:=h
 exact⟨he,ag,by rw[he,Option.bind_some,hn]⟩
def dX(o:Oper):Bool:=match o.op with| .store .. =>true| .makeSlice .. =>true| .call ⟨.builtin .append,_,_⟩=>true| .call ⟨.builtin .unsafeString,_,_⟩=>true|_=>false
def iX:List Oper ->Nat
 |[]=>0
 |o::r=>if dX o=true then 0 else iX r+1
def htW(w:Bool)(A B:Prop)(_:Dum A)(_:Dum B):Prop:=(w=true ->A) /\ (w=false ->B)
def qK(P:Program)(G:Nat ->AV)(ops:List Oper)(σ0:AS)(R:aM ->AS ->Prop):List Oper ->aM ->AS ->Prop
 |[],e,σ=>R e σ
 | o::rest,e,σ=>htW (dX o) (cF P G ops R (o::rest) e σ)
   (gW (cE ops e o.guard) (hop P G o e σ0 σ fun r σ'=>qK P G ops σ0 R rest (e.upd o.dst r) σ') (qK P G ops σ0 R rest (e.upd o.dst (.tup [])) σ) ⟨⟩ ⟨⟩) ⟨⟩ ⟨⟩
theorem B9m{A B:Prop}{d:Dum A}{d':Dum B} :htW true A B d d'=A:=by simp[htW]
theorem B3c{A B:Prop}{d:Dum A}{d':Dum B} :htW false A B d d'=B:=by simp[htW]
section ht
variable {P:Program} {G:Nat ->AV} {ops rest:List Oper} {σ0 σ:AS} {R:aM ->AS ->Prop} {e:aM} {d:Option Tmp} {ty:TypeId} {pos:String} {af:Array Edge} {g:Option (Nat × Bool)}
theorem D1m:qK P G ops σ0 R [] e σ=R e σ:=nr rfl
theorem C6a{o:Oper} :qK P G ops σ0 R (o::rest) e σ=htW (dX o) (cF P G ops R (o::rest) e σ)
   (gW (cE ops e o.guard) (hop P G o e σ0 σ fun r σ'=>qK P G ops σ0 R rest (e.upd o.dst r) σ') (qK P G ops σ0 R rest (e.upd o.dst (.tup [])) σ) ⟨⟩ ⟨⟩) ⟨⟩ ⟨⟩:=nr rfl
theorem C6k{x:Operand} :dX ⟨d, .move x,ty,pos,af,g⟩=false:=nr rfl
theorem B3i{x:Operand} :dX ⟨d, .assign x,ty,pos,af,g⟩=false:=nr rfl
theorem C6l{a b c:Operand} :dX ⟨d, .pick a b c,ty,pos,af,g⟩=false:=nr rfl
theorem B9y{E:TypeId} :dX ⟨d, .alloc E,ty,pos,af,g⟩=false:=nr rfl
theorem D1t{E:TypeId}{x:Operand} :dX ⟨d, .box E x,ty,pos,af,g⟩=false:=nr rfl
theorem C0a{t:TypeId}{ps:Array (Nat × Operand)} :dX ⟨d, .build t ps,ty,pos,af,g⟩=false:=nr rfl
theorem xZ{t n:Nat}{ps:Array (Nat × Operand)} :dX ⟨d, .buildSlice t n ps,ty,pos,af,g⟩=false:=nr rfl
theorem C6j{t:TypeId}{x:Operand} :dX ⟨d, .load t x,ty,pos,af,g⟩=false:=nr rfl
theorem A4r{x:Operand} :dX ⟨d, .nilCheck x,ty,pos,af,g⟩=false:=nr rfl
theorem B9z{op:BinOp}{t yt:TypeId}{x y:Operand} :dX ⟨d, .binOp op t x y yt,ty,pos,af,g⟩=false:=nr rfl
theorem C6m{op:UnOp}{t:TypeId}{x:Operand} :dX ⟨d, .unOp op t x,ty,pos,af,g⟩=false:=nr rfl
theorem A8o{s t:TypeId}{x:Operand} :dX ⟨d, .convert s t x,ty,pos,af,g⟩=false:=nr rfl
theorem A4q{f:FuncId}{caps:Array Operand} :dX ⟨d, .makeFunc (.func f) #[] caps,ty,pos,af,g⟩=false:=nr rfl
theorem D1x{f:FuncId}{x:Operand} :dX ⟨d, .makeFunc (.func f) #[x] #[],ty,pos,af,g⟩=false:=nr rfl
theorem C0d{t:TypeId}{x:Operand}{lo hi:Option Operand} :dX ⟨d, .slice t x lo hi none,ty,pos,af,g⟩=false:=nr rfl
theorem A1q{t:TypeId}{x:Operand}{i:Nat} :dX ⟨d, .fieldAddr t x i,ty,pos,af,g⟩=false:=nr rfl
theorem C0b{t:TypeId}{x:Operand}{i:Nat} :dX ⟨d, .field t x i,ty,pos,af,g⟩=false:=nr rfl
theorem A1r{t:TypeId}{x i:Operand} :dX ⟨d, .indexAddr t x i,ty,pos,af,g⟩=false:=nr rfl
theorem C0c{t:TypeId}{x i:Operand} :dX ⟨d, .index t x i,ty,pos,af,g⟩=false:=nr rfl
theorem A8p{x:Operand}{i:Nat} :dX ⟨d, .extract x i,ty,pos,af,g⟩=false:=nr rfl
theorem C6i{f:Operand}{args:Array Operand}{ts:Array TypeId} :dX ⟨d, .call ⟨.value f,args,ts⟩,ty,pos,af,g⟩=false:=nr rfl
theorem D1v{args:Array Operand}{ts:Array TypeId} :dX ⟨d, .call ⟨.builtin .len,args,ts⟩,ty,pos,af,g⟩=false:=nr rfl
theorem D1u{args:Array Operand}{ts:Array TypeId} :dX ⟨d, .call ⟨.builtin .cap,args,ts⟩,ty,pos,af,g⟩=false:=nr rfl
theorem D1z{args:Array Operand}{ts:Array TypeId} :dX ⟨d, .call ⟨.builtin .unsafeSliceData,args,ts⟩,ty,pos,af,g⟩=false:=nr rfl
theorem C6n{args:Array Operand}{ts:Array TypeId} :dX ⟨d, .call ⟨.builtin .unsafeString,args,ts⟩,ty,pos,af,g⟩=true:=nr rfl
theorem D1w{args:Array Operand}{ts:Array TypeId} :dX ⟨d, .call ⟨.builtin .max,args,ts⟩,ty,pos,af,g⟩=false:=nr rfl
theorem D1y{args:Array Operand}{ts:Array TypeId} :dX ⟨d, .call ⟨.builtin .min,args,ts⟩,ty,pos,af,g⟩=false:=nr rfl
theorem C0e{t:TypeId}{p x:Operand} :dX ⟨d, .store t p x,ty,pos,af,g⟩=true:=nr rfl
theorem B3h{args:Array Operand}{ts:Array TypeId} :dX ⟨d, .call ⟨.builtin .append,args,ts⟩,ty,pos,af,g⟩=true:=nr rfl
theorem A1s{t:TypeId}{x y:Operand} :dX ⟨d, .makeSlice t x y,ty,pos,af,g⟩=true:=nr rfl
theorem A1m:∀ (l:List Oper) (e:aM) (σ:AS),qK P G ops σ0 R l e σ ->jM P G ops σ0 (fun e' σ'=>cF P G ops R (l.drop (iX l)) e' σ') (l.take (iX l)) e σ
 |[],e,σ,h=>h
 | o::rest,e,σ,h=>by
  unfold qK htW at h
  unfold iX
  cases hw:dX o with
  | true=>
   simp only[if_true]
   exact h.1 hw
  | false=>
   simp only[Bool.false_eq_true,if_false]
   obtain⟨b,hb,h1,h2⟩:=h.2 hw
   have hl:(o::rest).take (iX rest+1)=o::rest.take (iX rest):=rfl
   have hd:(o::rest).drop (iX rest+1)=rest.drop (iX rest):=rfl
   rw[hl,hd]
   exact⟨b,hb,fun x=>qW (fun r s hh=>A1m rest _ _ hh) (h1 x),fun x=>A1m rest _ _ (h2 x)⟩
end ht
theorem B7e {P:Program} {G:Nat ->AV} {l:List Oper} {R:aM ->AS ->Prop} {e:aM} {σ:AS} {d:Dum l.toArray} {d':Dum R} {d2:Dum e} {d3:Dum σ} (hn:vV l.toArray (iX l)=true)
  (h:qK P G l σ R l e σ):qP P G l.toArray R e σ d d' d2 d3:= .inl ⟨[],iX l,σ,[],rfl,hn,AS.le.refl σ,fun c hc=> (by cases hc),oW _ _ _ _ (A1m l e σ h)⟩
theorem iT {P:Program} (hm:P.follows .mixedOrders=true) {G:Nat ->AV} {c:Code} {Q:Exit ->aM ->AS ->Prop} {e:aM} {σ:AS} {d:Dum c} {d':Dum Q} {d2:Dum e} {d3:Dum σ} (I:Nat ->aM ->Prop) (n:Nat) (h0:I n e)
  (h1:∀ n v,I n (mrg (bP c) v e) ->pU P G (hJ P G) c (fun x e' σ'=>match x with| .normal=> (∃ m,m < n /\ I m e') /\ σ'=σ|x=>Q x e' σ') (mrg (bP c) v e) σ):C0t P G c Q e σ d d' d2 d3:=
 aY (fun n e σ'=>I n e /\ σ'=σ) n ⟨h0,rfl⟩ fun n v σ' ⟨hI,hs⟩=>by
  subst hs
  refine jV (B7d hm) _ _ _ (fun x e s hx=> ?_) (h1 n v hI)
  cases x with
  |normal=>obtain⟨⟨m,h1,h2⟩,h3⟩:=hx;exact⟨m,h1,h2,h3⟩
  |_=>exact hx
end Go.Av
