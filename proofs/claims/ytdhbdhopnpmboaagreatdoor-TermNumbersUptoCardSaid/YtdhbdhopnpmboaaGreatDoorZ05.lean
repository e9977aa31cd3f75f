/- Functions: from what is shown of the body to what is said of a call; and the rules by which what is to be shown is worked out. -/
import Derived.Test.YtdhbdhopnpmboaaGreatDoorZ04
import Derived.Laws.ResultCell
set_option linter.unusedVariables false
set_option linter.unusedSimpArgs false
namespace Go.Av
open Go Go.RowKit
def A8o(P:Program)(e:bF)(σ:AS):ResultVar ->Option AV
 | .tmp t=>some (e t)
 | .cell a t=>lM P σ t (e a)
def sM(P:Program)(e:bF)(σ:AS):List ResultVar ->Option (List AV)
 |[]=>some []
 | r::rs=>match A8o P e σ r,sM P e σ rs with
  |some x,some xs=>some (x::xs)
  |_,_=>none
def A6z:List AV ->AV
 |[r]=>r
 |rs=> .tup rs
def D0a(P:Program)(rs:List ResultVar)(Q:AV ->AS ->Prop):Exit ->bF ->AS ->Prop:=fun x e σ=>
 match x with
 | .normal=>∃ l σ',sM P e σ rs=some l /\ σ'.le σ /\ Q (A6z l) σ'
 | .ret=>∃ l σ',sM P e σ rs=some l /\ σ'.le σ /\ Q (A6z l) σ'
 |_=>False
def A3x(args:List AV):bF:=fun j=>args.getD j .undef
theorem D2f{P:Program}{G:Nat ->AV}{K:bO}{σ:AS}{w:World}(hr:cV G K σ w){t:TypeId}{p r:AV}(h:lM P σ t p=some r){v:Value}(hv:VR K p v):
  ∃ u,(do loadVar t (<- asAddr v):Sem Value).run P w= .ok u w /\ VR K r u:=by
 obtain⟨u,hu,hru⟩:=A1m hr h hv
 refine⟨u,?_,hru⟩
 unfold lM at h
 split at h
 ·cases h
 cases p <;>simp only at h <;>first|cases h|skip
 ·rw[VR.ptr_iff]at hv;subst hv
  simpa [Instr.loadAt,Instr.sureAddr,asAddr] using hu
 ·cases hv
  simpa [Instr.loadAt,Instr.sureAddr,asAddr] using hu
theorem A3w{P:Program}{G:Nat ->AV}{K:bO}{N:Nat}{ds:List Deferred}{e:bF}{σ:AS}{a:Act}{w:World}(hs:St P G K N ds e σ a w):∀ (rs:List ResultVar) (l:List AV),sM P e σ rs=some l ->
  ∃ vs,(rs.mapM fun r=> (match r with| .tmp t=>pure (a.tmps.getD t Go.undef)| .cell b t=>do loadVar t (<- asAddr (a.tmps.getD b Go.undef)):Sem Value)).run P w= .ok vs w /\ qM K l vs
 |[],l,h=>by simp only[sM,Option.some.injEq]at h;subst h;exact⟨[],by simp,trivial⟩
 | r::rs,l,h=>by
  unfold sM at h
  split at h
  case h_2=>cases h
  rename_i x xs hx hxs
  simp only[Option.some.injEq]at h;subst h
  obtain⟨vs,h1,h2⟩:=A3w hs rs xs hxs
  cases r with
  | tmp t=>
   simp only[A8o,Option.some.injEq]at hx;subst hx
   exact⟨a.tmps.getD t Go.undef::vs,by simp only[List.mapM_cons,Sem.run_bind,Sem.run_pure,Result.andThen_ok,h1],hs.er t,h2⟩
  | cell b t=>
   obtain⟨u,h3,h4⟩:=D2f hs.rel (p:=e b) hx (hs.er b)
   exact⟨u::vs,by simp only[List.mapM_cons,Sem.run_bind (x:=do loadVar t (<- asAddr (a.tmps.getD b Go.undef))),h3,Sem.run_bind,Sem.run_pure,Result.andThen_ok,h1],h4,h2⟩
theorem A8a{P:Program}{G:Nat ->AV}{K:bO}{N:Nat}{ds:List Deferred}{e:bF}{σ:AS}{a:Act}{w:World}(hs:St P G K N ds e σ a w){fn:Func}{l:List AV}(h:sM P e σ fn.results.toList=some l):
  ∃ v,(results fn a.tmps).run P w= .ok v w /\ VR K (A6z l) v:=by
 obtain⟨vs,h1,h2⟩:=A3w hs _ l h
 have hm:(fn.results.mapM fun r=> (match r with| .tmp t=>pure (a.tmps.getD t Go.undef)| .cell b t=>do loadVar t (<- asAddr (a.tmps.getD b Go.undef)):Sem Value)).run P w= .ok vs.toArray w:=by
  rw[Array.mapM_eq_mapM_toList]
  simp only[Sem.run_map,h1]
  rfl
 have hl:=h2.length
 refine⟨if h:vs.toArray.size=1 then vs.toArray[0]else .tuple vs.toArray,?_,?_⟩
 ·unfold results
  simp only[Sem.run_bind,Sem.run_pure]
  exact(congrArg (fun r=>Result.andThen r fun(a:Array Value) w'=>Result.ok (if h:a.size=1 then a[0]else Value.tuple a) w') hm)
 ·match l,vs,h2,hl with
  |[],[],_,_=>exact .tup [] #[] rfl (fun j hj=>by cases hj)
  |[x],[v],hh,_=>exact hh.1
  | x::y::l',v::u::vs',hh,_=>
   have e1: ¬ ((v::u::vs').toArray.size=1):=by simp
   rw[dif_neg e1]
   refine .tup _ _ (by have:=hh.length;simp only[List.size_toArray];omega) (fun j hj=> ?_)
   have:=hh.get j hj
   simpa [Array.getD_eq_getD_getElem?,List.getD_eq_getElem?_getD] using this
theorem qM.env{K:bO}{l:List AV}{vs:List Value}(h:qM K l vs)(n:Nat):ER K (A3x l) {tmps:=vs.toArray++Array.replicate n Go.undef,defers:=[]} :=by
 intro t
 have hl:=h.length
 unfold A3x
 by_cases ht:t < l.length
 ·have h1:=h.get t ht
  have e1:l.getD t .undef=l[t]:=by simp[ht]
  have ht2:t < vs.length:=by omega
  rw[e1]
  have e2:(vs.toArray++Array.replicate n Go.undef).getD t Go.undef=vs.getD t Go.undef:=by
   simp only[Array.getD_eq_getD_getElem?,List.getD_eq_getElem?_getD]
   rw[Array.getElem?_append_left (by simpa using ht2)]
   simp
  rw[e2]
  exact h1
 ·have e1:l.getD t .undef= .undef:=by simp[List.getElem?_eq_none (Nat.le_of_not_lt ht)]
  rw[e1]
  exact .undef _
theorem aJ.of_awp {P:Program} {G:Nat ->AV} (hm:P.follows .mixedOrders=true) {f:FuncId} {fn:Func} {c:Code} (hf:P.funcs[f]? =some fn) (hb:fn.body=some c) (hcl:yJ P f=true) (hok:cOK fn.ntmps c=true)
  {args:List AV} (hlen:args.length <=fn.ntmps) {σ:AS} {Q:AV ->AS ->Prop} {rs:Array ResultVar} (hrs:fn.results=rs) (h:xA P G (kZ P G) c (D0a P rs.toList Q) (A3x args) σ):aJ P G f args σ Q:=by
 subst hrs
 refine⟨hcl,fun K w vals hr hv=> ?_⟩
 refine calls_of_wp hf hb ?_
 have hl:=hv.length
 have hs:St P G K fn.ntmps [] (A3x args) σ {tmps:=vals.toArray++Array.replicate (fn.ntmps - vals.toArray.size) Go.undef,defers:=[]} w:=
  ⟨hv.env _,hr,by simp;omega,rfl⟩
 refine wp_mono (C4b (B1o hm) fn.ntmps [] c _ _ σ K _ w hok h hs) ?_
 intro x a' w' ⟨e',σ',K',hq,hs',hk⟩
 have key:(∃ l σ'',sM P e' σ' fn.results.toList=some l /\ σ''.le σ' /\ Q (A6z l) σ'') ->a'.defers=[] /\ ∃ v,(results fn a'.tmps).run P w'= .ok v w' /\
   ∃ v' r σ'' K',Ending.returned v= .returned v' /\ Q r σ'' /\ VR K' r v' /\ cV G K' σ'' w' /\ K.le K':=by
  rintro⟨l,σ'',h1,h2,h3⟩
  obtain⟨v,h4,h5⟩:=A8a hs' h1
  exact⟨hs'.defers,v,h4,v,A6z l,σ'',K',rfl,h3,h5,hs'.rel.weaken h2,hk⟩
 unfold D0a at hq
 cases x <;>first|exact hq.elim|exact key hq
structure Dum.{u}{α:Sort u}(a:α):Type where
def bo{α:Type}(x:Option α)(K:α ->Prop)(_:Dum K):Prop:=∃ r,x=some r /\ K r
def st(x:AV)(K:AV ->Prop)(_:Dum K):Prop:=K x
def slW(P:Program)(σ:AS)(t:TypeId)(x:AV)(lo hi:Option AV)(K:AV ->Prop)(_:Dum σ)(_:Dum K):Prop:=∃ r,lN P σ t x lo hi=some r /\ K r
def bmW(m:Bool)(P:Program)(σ:AS)(t:TypeId)(n:Nat)(ps:List (Nat × AV))(K:AV ->AS ->Prop)(_:Dum σ)(_:Dum K):Prop:=(∃ r,dQ P t n ps=some r /\ K r σ) \/ (m=true /\ sI P σ t n ps K)
def cvW(P:Program)(σ:AS)(s t:TypeId)(x:AV)(K:AV ->AS ->Prop)(_:Dum σ)(_:Dum K):Prop:=(∃ r,gA P σ s t x=some r /\ K r σ) \/ B0p P σ s t x K
def cvT(t:Option TypeId)(P:Program)(σ:AS)(s d:TypeId)(l:List UInt8)(K:AV ->AS ->Prop)(_:Dum σ)(_:Dum K):Prop:=match t with
 |none=>∃ r,gA P σ s d (.str l)=some r /\ K r σ
 |some _=> (∃ r,gA P σ s d (.str l)=some r /\ K r σ) \/ B0p P σ s d (.str l) K
def rN(v:AV)(A B:Prop)(_:Dum A)(_:Dum B):Prop:=∃ t,v= .bool t /\ (t=true ->A) /\ (t=false ->B)
def gW(v:Option Bool)(A B:Prop)(_:Dum A)(_:Dum B):Prop:=∃ b,v=some b /\ (b=true ->A) /\ (b=false ->B)
def A2d(v:AV)(a b:AV)(K:AV ->Prop)(_:Dum a)(_:Dum b)(_:Dum K):Prop:=∃ t,v= .bool t /\ K (if t=true then a else b)
def D8v(σ:AS)(z:List AV)(K:AV ->AS ->Prop)(_:Dum σ)(_:Dum K):Prop:=∀ b,σ.fresh b ->K (.ptr b 0) (σ.setBox b z)
def E4o(σ:AS)(E:TypeId)(z:List AV)(K:AV ->AS ->Prop)(_:Dum σ)(_:Dum K):Prop:=(∀ b,σ.fresh b ->K (.ptr b 0) (σ.setBox b z)) \/ (∀ b,σ.fresh b ->K (.ptr b 0) ((σ.setBox b z).setTy b (E,z.length)))
def E2o(σ:AS)(x:AV)(K:AV ->AS ->Prop)(_:Dum σ)(_:Dum K):Prop:=isv x=true /\ D8v σ (flat x) K ⟨⟩ ⟨⟩
def B5e(x:AV)(K:AV ->Prop)(_:Dum K):Prop:=(match x with| .ptr .. =>True| .rp .. =>True| .fn .. =>True|_=>False) /\ K x
def C2a(P:Program)(G:Nat ->AV)(f:AV)(args:List AV)(σ:AS)(K:AV ->AS ->Prop)(_:Dum σ)(_:Dum K):Prop:=
 match f with
 | .fn k caps=>aJ P G k (args++caps) σ K
 |_=>False
def C7c(P:Program)(G:Nat ->AV)(k:FuncId)(args:List AV)(σ:AS)(K:AV ->AS ->Prop)(_:Dum σ)(_:Dum K):Prop:=aJ P G k args σ K
def B0y(P:Program)(σ:AS)(t tx:TypeId)(s x:AV)(K:AV ->AS ->Prop)(_:Dum σ)(_:Dum K):Prop:=mS P σ t tx s x K \/ uD P σ t tx s x K
def B5c(P:Program)(σ:AS)(t:TypeId)(l c:AV)(K:AV ->AS ->Prop)(_:Dum σ)(_:Dum K):Prop:=A8m P σ t l c K \/ uJ P σ t l c K
def C3c(P:Program)(σ:AS)(pt:TypeId)(x n:AV)(K:AV ->AS ->Prop)(_:Dum σ)(_:Dum K):Prop:=A1n P σ pt x n K
def D2g(P:Program)(G:Nat ->AV)(c:Code)(Q:Exit ->bF ->AS ->Prop)(e:bF)(σ:AS)(_:Dum c)(_:Dum Q)(_:Dum e)(_:Dum σ):Prop:=xA P G (kZ P G) (.loop c) Q e σ
def tP(P:Program)(G:Nat ->AV)(ops:Array Oper)(Q:bF ->AS ->Prop)(e:bF)(σ:AS)(_:Dum ops)(_:Dum Q)(_:Dum e)(_:Dum σ):Prop:=kZ P G ops Q e σ
def wA(l:Option (List AV))(σ:AS)(Q:AV ->AS ->Prop)(_:Dum σ)(_:Dum Q):Prop:=∃ r σ',l=some r /\ σ'.le σ /\ Q (A6z r) σ'
def B1v(P:Program)(G:Nat ->AV)(f:AV)(args:List AV)(σ0:AS)(K:AV ->Prop)(_:Dum σ0)(_:Dum K):Prop:=
 match f with
 | .fn k caps=>∃ v,eP P G k (args++caps) σ0 v /\ K v
 |_=>False
theorem nr{p:Prop}(h:p):p:=h
section rules
variable {P:Program} {G:Nat ->AV} {Q:Exit ->bF ->AS ->Prop} {e:bF} {σ σ0:AS} {ops rest:List Oper} {R:bF ->AS ->Prop} {K:AV ->AS ->Prop}
theorem E6q:xA P G (kZ P G) .skip Q e σ=Q .normal e σ:=nr rfl
theorem D4w{id:Nat}{l:List Oper} :xA P G (kZ P G) (.region id l.toArray false) Q e σ=dX P G l (Q .normal) l e σ:=nr rfl
theorem E6n{id:Nat}{l:Array Oper} :xA P G (kZ P G) (.region id l true) Q e σ=tP P G l (Q .normal) e σ ⟨⟩ ⟨⟩ ⟨⟩ ⟨⟩:=nr rfl
theorem E9z{a b:Code} :xA P G (kZ P G) (.seq a b) Q e σ=xA P G (kZ P G) a (fun x e σ=>match x with| .normal=>xA P G (kZ P G) b Q e σ|x=>Q x e σ) e σ:=nr rfl
theorem E6l{c:Operand}{a b:Code} :xA P G (kZ P G) (.cond c a b) Q e σ=rN (ev G e c) (xA P G (kZ P G) a Q e σ) (xA P G (kZ P G) b Q e σ) ⟨⟩ ⟨⟩:=nr rfl
theorem E1h{id:Nat}{c:Code} :xA P G (kZ P G) (.block id c) Q e σ=xA P G (kZ P G) c (fun x e σ=>match x with| .exit i=>if i=id then Q .normal e σ else Q (.exit i) e σ|x=>Q x e σ) e σ:=nr rfl
theorem E6p{c:Code} :xA P G (kZ P G) (.loop c) Q e σ=D2g P G c Q e σ ⟨⟩ ⟨⟩ ⟨⟩ ⟨⟩:=nr rfl
theorem E6o{id:Nat} :xA P G (kZ P G) (.exit id) Q e σ=Q (.exit id) e σ:=nr rfl
theorem E9y:xA P G (kZ P G) .ret Q e σ=Q .ret e σ:=nr rfl
theorem E9x:dX P G ops R [] e σ=R e σ:=nr rfl
theorem E6m{o:Oper} :dX P G ops R (o::rest) e σ=gW (dW ops e o.guard) (gY P G o e σ fun r σ'=>dX P G ops R rest (e.upd o.dst r) σ') (dX P G ops R rest (e.upd o.dst (.tup [])) σ) ⟨⟩ ⟨⟩:=nr rfl
theorem E7r{L:bF ->AS ->Prop} :oH P G ops σ0 L [] e σ=L e σ:=nr rfl
theorem E3f{L:bF ->AS ->Prop}{o:Oper} :oH P G ops σ0 L (o::rest) e σ=gW (dW ops e o.guard) (hop P G o e σ0 σ fun r σ'=>oH P G ops σ0 L rest (e.upd o.dst r) σ') (oH P G ops σ0 L rest (e.upd o.dst (.tup [])) σ) ⟨⟩ ⟨⟩:=nr rfl
variable {d:Option Tmp} {ty:TypeId} {pos:String} {af:Array Edge} {g:Option (Nat × Bool)}
theorem E4r{x:Operand} :gY P G ⟨d, .move x,ty,pos,af,g⟩ e σ K=st (ev G e x) (fun r=>K r σ) ⟨⟩:=nr rfl
theorem E3h{x:Operand} :hop P G ⟨d, .move x,ty,pos,af,g⟩ e σ0 σ K=st (ev G e x) (fun r=>K r σ) ⟨⟩:=nr rfl
theorem D2m{x:Operand} :gY P G ⟨d, .assign x,ty,pos,af,g⟩ e σ K=st (ev G e x) (fun r=>K r σ) ⟨⟩:=nr rfl
theorem D0p{x:Operand} :hop P G ⟨d, .assign x,ty,pos,af,g⟩ e σ0 σ K=st (ev G e x) (fun r=>K r σ) ⟨⟩:=nr rfl
theorem E4t{c x y:Operand} :gY P G ⟨d, .pick c x y,ty,pos,af,g⟩ e σ K=A2d (ev G e c) (ev G e x) (ev G e y) (fun r=>K r σ) ⟨⟩ ⟨⟩ ⟨⟩:=nr rfl
theorem E3i{c x y:Operand} :hop P G ⟨d, .pick c x y,ty,pos,af,g⟩ e σ0 σ K=A2d (ev G e c) (ev G e x) (ev G e y) (fun r=>K r σ) ⟨⟩ ⟨⟩ ⟨⟩:=nr rfl
theorem D8y{E:TypeId} :gY P G ⟨d, .alloc E,ty,pos,af,g⟩ e σ K=bo (zc P E) (fun z=>E4o σ E z K ⟨⟩ ⟨⟩) ⟨⟩:=nr rfl
theorem D7k{E:TypeId} :hop P G ⟨d, .alloc E,ty,pos,af,g⟩ e σ0 σ K=bo (zc P E) (fun z=>D8v σ z K ⟨⟩ ⟨⟩) ⟨⟩:=nr rfl
theorem E8u{E:TypeId}{x:Operand} :gY P G ⟨d, .box E x,ty,pos,af,g⟩ e σ K=E2o σ (ev G e x) K ⟨⟩ ⟨⟩:=nr rfl
theorem E7m{E:TypeId}{x:Operand} :hop P G ⟨d, .box E x,ty,pos,af,g⟩ e σ0 σ K=E2o σ (ev G e x) K ⟨⟩ ⟨⟩:=nr rfl
theorem D9a{t:TypeId}{ps:Array (Nat × Operand)} :gY P G ⟨d, .build t ps,ty,pos,af,g⟩ e σ K=bo (zS P t (lS G e ps.toList)) (fun r=>K r σ) ⟨⟩:=nr rfl
theorem D7m{t:TypeId}{ps:Array (Nat × Operand)} :hop P G ⟨d, .build t ps,ty,pos,af,g⟩ e σ0 σ K=bo (zS P t (lS G e ps.toList)) (fun r=>K r σ) ⟨⟩:=nr rfl
theorem B2j{t n:Nat}{ps:Array (Nat × Operand)} :gY P G ⟨d, .buildSlice t n ps,ty,pos,af,g⟩ e σ K=bmW true P σ t n (lS G e ps.toList) K ⟨⟩ ⟨⟩:=by
 unfold bmW;simp only[true_and];rfl
theorem B1u{t n:Nat}{ps:Array (Nat × Operand)} :hop P G ⟨d, .buildSlice t n ps,ty,pos,af,g⟩ e σ0 σ K=bmW false P σ t n (lS G e ps.toList) K ⟨⟩ ⟨⟩:=by
 unfold bmW;simp only[Bool.false_eq_true,false_and,or_false];rfl
theorem E4q{t:TypeId}{x:Operand} :gY P G ⟨d, .load t x,ty,pos,af,g⟩ e σ K=bo (lM P σ t (ev G e x)) (fun r=>K r σ) ⟨⟩:=nr rfl
theorem E3g{t:TypeId}{x:Operand} :hop P G ⟨d, .load t x,ty,pos,af,g⟩ e σ0 σ K=bo (lM P σ0 t (ev G e x)) (fun r=>K r σ) ⟨⟩:=nr rfl
theorem C0f{x:Operand} :gY P G ⟨d, .nilCheck x,ty,pos,af,g⟩ e σ K=B5e (ev G e x) (fun r=>K r σ) ⟨⟩:=nr rfl
theorem B9i{x:Operand} :hop P G ⟨d, .nilCheck x,ty,pos,af,g⟩ e σ0 σ K=B5e (ev G e x) (fun r=>K r σ) ⟨⟩:=nr rfl
theorem D8z{op:BinOp}{t yt:TypeId}{x y:Operand} :gY P G ⟨d, .binOp op t x y yt,ty,pos,af,g⟩ e σ K=bo (xC P op t y (ev G e x) (ev G e y)) (fun r=>K r σ) ⟨⟩:=nr rfl
theorem D7l{op:BinOp}{t yt:TypeId}{x y:Operand} :hop P G ⟨d, .binOp op t x y yt,ty,pos,af,g⟩ e σ0 σ K=bo (xC P op t y (ev G e x) (ev G e y)) (fun r=>K r σ) ⟨⟩:=nr rfl
theorem E4u{op:UnOp}{t:TypeId}{x:Operand} :gY P G ⟨d, .unOp op t x,ty,pos,af,g⟩ e σ K=bo (aun op (ev G e x)) (fun r=>K r σ) ⟨⟩:=nr rfl
theorem E3j{op:UnOp}{t:TypeId}{x:Operand} :hop P G ⟨d, .unOp op t x,ty,pos,af,g⟩ e σ0 σ K=bo (aun op (ev G e x)) (fun r=>K r σ) ⟨⟩:=nr rfl
theorem C5x{s t:TypeId}{x:Operand} :gY P G ⟨d, .convert s t x,ty,pos,af,g⟩ e σ K=cvW P σ s t (ev G e x) K ⟨⟩ ⟨⟩:=nr rfl
theorem C5c{s t:TypeId}{x:Operand} :hop P G ⟨d, .convert s t x,ty,pos,af,g⟩ e σ0 σ K=bo (gA P σ0 s t (ev G e x)) (fun r=>K r σ) ⟨⟩:=nr rfl
theorem B5j{t:TypeId}{x y:Operand} :gY P G ⟨d, .makeSlice t x y,ty,pos,af,g⟩ e σ K=B5c P σ t (ev G e x) (ev G e y) K ⟨⟩ ⟨⟩:=nr rfl
theorem C0e{f:FuncId}{caps:Array Operand} :gY P G ⟨d, .makeFunc (.func f) #[] caps,ty,pos,af,g⟩ e σ K=st (.fn f (caps.toList.map (ev G e))) (fun r=>K r σ) ⟨⟩:=nr rfl
theorem B9h{f:FuncId}{caps:Array Operand} :hop P G ⟨d, .makeFunc (.func f) #[] caps,ty,pos,af,g⟩ e σ0 σ K=st (.fn f (caps.toList.map (ev G e))) (fun r=>K r σ) ⟨⟩:=nr rfl
theorem D9e{t:TypeId}{x:Operand}{lo hi:Option Operand} :gY P G ⟨d, .slice t x lo hi none,ty,pos,af,g⟩ e σ K=slW P σ t (ev G e x) (lo.map (ev G e)) (hi.map (ev G e)) (fun r=>K r σ) ⟨⟩ ⟨⟩:=nr rfl
theorem D7p{t:TypeId}{x:Operand}{lo hi:Option Operand} :hop P G ⟨d, .slice t x lo hi none,ty,pos,af,g⟩ e σ0 σ K=slW P σ0 t (ev G e x) (lo.map (ev G e)) (hi.map (ev G e)) (fun r=>K r σ) ⟨⟩ ⟨⟩:=nr rfl
theorem B5h{t:TypeId}{x:Operand}{i:Nat} :gY P G ⟨d, .fieldAddr t x i,ty,pos,af,g⟩ e σ K=bo (uG P t (ev G e x) i) (fun r=>K r σ) ⟨⟩:=nr rfl
theorem B4n{t:TypeId}{x:Operand}{i:Nat} :hop P G ⟨d, .fieldAddr t x i,ty,pos,af,g⟩ e σ0 σ K=bo (uG P t (ev G e x) i) (fun r=>K r σ) ⟨⟩:=nr rfl
theorem D9b{t:TypeId}{x:Operand}{i:Nat} :gY P G ⟨d, .field t x i,ty,pos,af,g⟩ e σ K=bo (qP P t (ev G e x) i) (fun r=>K r σ) ⟨⟩:=nr rfl
theorem D7n{t:TypeId}{x:Operand}{i:Nat} :hop P G ⟨d, .field t x i,ty,pos,af,g⟩ e σ0 σ K=bo (qP P t (ev G e x) i) (fun r=>K r σ) ⟨⟩:=nr rfl
theorem B5i{t:TypeId}{x i:Operand} :gY P G ⟨d, .indexAddr t x i,ty,pos,af,g⟩ e σ K=bo (fV P t (ev G e x) (ev G e i)) (fun r=>K r σ) ⟨⟩:=nr rfl
theorem B4o{t:TypeId}{x i:Operand} :hop P G ⟨d, .indexAddr t x i,ty,pos,af,g⟩ e σ0 σ K=bo (fV P t (ev G e x) (ev G e i)) (fun r=>K r σ) ⟨⟩:=nr rfl
theorem D9c{t:TypeId}{x i:Operand} :gY P G ⟨d, .index t x i,ty,pos,af,g⟩ e σ K=bo (uI P t (ev G e x) (ev G e i)) (fun r=>K r σ) ⟨⟩:=nr rfl
theorem D7o{t:TypeId}{x i:Operand} :hop P G ⟨d, .index t x i,ty,pos,af,g⟩ e σ0 σ K=bo (uI P t (ev G e x) (ev G e i)) (fun r=>K r σ) ⟨⟩:=nr rfl
theorem C5y{x:Operand}{i:Nat} :gY P G ⟨d, .extract x i,ty,pos,af,g⟩ e σ K=bo (rK (ev G e x) i) (fun r=>K r σ) ⟨⟩:=nr rfl
theorem C5d{x:Operand}{i:Nat} :hop P G ⟨d, .extract x i,ty,pos,af,g⟩ e σ0 σ K=bo (rK (ev G e x) i) (fun r=>K r σ) ⟨⟩:=nr rfl
theorem E8w{args:Array Operand}{ts:Array TypeId} :gY P G ⟨d, .call ⟨.builtin .len,args,ts⟩,ty,pos,af,g⟩ e σ K=bo (jO P .len ts (args.toList.map (ev G e))) (fun r=>K r σ) ⟨⟩:=nr rfl
theorem E8v{args:Array Operand}{ts:Array TypeId} :gY P G ⟨d, .call ⟨.builtin .cap,args,ts⟩,ty,pos,af,g⟩ e σ K=bo (jO P .cap ts (args.toList.map (ev G e))) (fun r=>K r σ) ⟨⟩:=nr rfl
theorem E8z{args:Array Operand}{ts:Array TypeId} :gY P G ⟨d, .call ⟨.builtin .unsafeSliceData,args,ts⟩,ty,pos,af,g⟩ e σ K=bo (jO P .unsafeSliceData ts (args.toList.map (ev G e))) (fun r=>K r σ) ⟨⟩:=nr rfl
theorem E7o{args:Array Operand}{ts:Array TypeId} :hop P G ⟨d, .call ⟨.builtin .len,args,ts⟩,ty,pos,af,g⟩ e σ0 σ K=bo (jO P .len ts (args.toList.map (ev G e))) (fun r=>K r σ) ⟨⟩:=nr rfl
theorem E7n{args:Array Operand}{ts:Array TypeId} :hop P G ⟨d, .call ⟨.builtin .cap,args,ts⟩,ty,pos,af,g⟩ e σ0 σ K=bo (jO P .cap ts (args.toList.map (ev G e))) (fun r=>K r σ) ⟨⟩:=nr rfl
theorem E7s{args:Array Operand}{ts:Array TypeId} :hop P G ⟨d, .call ⟨.builtin .unsafeSliceData,args,ts⟩,ty,pos,af,g⟩ e σ0 σ K=bo (jO P .unsafeSliceData ts (args.toList.map (ev G e))) (fun r=>K r σ) ⟨⟩:=nr rfl
theorem E8x{args:Array Operand}{ts:Array TypeId} :gY P G ⟨d, .call ⟨.builtin .max,args,ts⟩,ty,pos,af,g⟩ e σ K=bo (jO P .max ts (args.toList.map (ev G e))) (fun r=>K r σ) ⟨⟩:=nr rfl
theorem E7p{args:Array Operand}{ts:Array TypeId} :hop P G ⟨d, .call ⟨.builtin .max,args,ts⟩,ty,pos,af,g⟩ e σ0 σ K=bo (jO P .max ts (args.toList.map (ev G e))) (fun r=>K r σ) ⟨⟩:=nr rfl
theorem E8y{args:Array Operand}{ts:Array TypeId} :gY P G ⟨d, .call ⟨.builtin .min,args,ts⟩,ty,pos,af,g⟩ e σ K=bo (jO P .min ts (args.toList.map (ev G e))) (fun r=>K r σ) ⟨⟩:=nr rfl
theorem E7q{args:Array Operand}{ts:Array TypeId} :hop P G ⟨d, .call ⟨.builtin .min,args,ts⟩,ty,pos,af,g⟩ e σ0 σ K=bo (jO P .min ts (args.toList.map (ev G e))) (fun r=>K r σ) ⟨⟩:=nr rfl
theorem D9f{t:TypeId}{p x:Operand} :gY P G ⟨d, .store t p x,ty,pos,af,g⟩ e σ K=bo (kF P σ t (ev G e p) (ev G e x)) (fun s=>K .undef s) ⟨⟩:=nr rfl
theorem E4p{f:Operand}{args:Array Operand}{ts:Array TypeId} :gY P G ⟨d, .call ⟨.value f,args,ts⟩,ty,pos,af,g⟩ e σ K=C2a P G (ev G e f) (args.toList.map (ev G e)) σ K ⟨⟩ ⟨⟩:=nr rfl
theorem E3e{f:Operand}{args:Array Operand}{ts:Array TypeId} :hop P G ⟨d, .call ⟨.value f,args,ts⟩,ty,pos,af,g⟩ e σ0 σ K=B1v P G (ev G e f) (args.toList.map (ev G e)) σ0 (fun r=>K r σ) ⟨⟩ ⟨⟩:=nr rfl
theorem D2l{s x:Operand}{t tx:TypeId} :gY P G ⟨d, .call ⟨.builtin .append,#[s,x],#[t,tx]⟩,ty,pos,af,g⟩ e σ K=B0y P σ t tx (ev G e s) (ev G e x) K ⟨⟩ ⟨⟩:=nr rfl
def E5a(P:Program)(σ:AS)(t:TypeId)(x:AV)(K:AV ->AS ->Prop)(_:Dum σ)(_:Dum K):Prop:=A3v P σ t x K
def E8t(σ:AS)(x:AV)(K:AV ->AS ->Prop)(_:Dum σ)(_:Dum K):Prop:=B3m σ x K
theorem D9d{t:TypeId}{x:Operand} :gY P G ⟨d, .range t x,ty,pos,af,g⟩ e σ K=E5a P σ t (ev G e x) K ⟨⟩ ⟨⟩:=nr rfl
theorem E4s{x:Operand} :gY P G ⟨d, .next x true,ty,pos,af,g⟩ e σ K=E8t σ (ev G e x) K ⟨⟩ ⟨⟩:=nr rfl
theorem E4v{x n:Operand}{pt it:TypeId} :gY P G ⟨d, .call ⟨.builtin .unsafeString,#[x,n],#[pt,it]⟩,ty,pos,af,g⟩ e σ K=C3c P σ pt (ev G e x) (ev G e n) K ⟨⟩ ⟨⟩:=nr rfl
theorem D6e{α:Type}{a:α}{F:α ->Prop}{d:Dum F} :bo (some a) F d=F a:=by simp[bo]
theorem D6d{α:Type}{F:α ->Prop}{d:Dum F} :bo (none:Option α) F d=False:=by simp[bo]
theorem E2n{α:Type}{c:Prop}[Decidable c]{a:α}{F:α ->Prop}{d:Dum F} :bo (if c then some a else none) F d=(c /\ F a):=by
 unfold bo;by_cases h:c <;>simp[h]
theorem D6c{α:Type}{c:Prop}[Decidable c]{a:α}{F:α ->Prop}{d:Dum F} :bo (if c then none else some a) F d=(¬ c /\ F a):=by
 unfold bo;by_cases h:c <;>simp[h]
theorem E9o{x:AV}{F:AV ->Prop}{d:Dum F} :st x F d=F x:=nr rfl
theorem B8t{A B:Prop}{d:Dum A}{d':Dum B} :rN (.bool true) A B d d'=A:=by simp[rN]
theorem B4c{A B:Prop}{d:Dum A}{d':Dum B} :rN (.bool false) A B d d'=B:=by simp[rN]
theorem B4d{t:Bool}{A B:Prop}{d:Dum A}{d':Dum B}(h1:t=true ->A)(h2:t=false ->B):rN (.bool t) A B d d':=⟨t,rfl,h1,h2⟩
theorem cG{p:Prop}[Decidable p]{A B:Prop}{d:Dum A}{d':Dum B}(h1:p ->A)(h2: ¬ p ->B):rN (.bool (decide p)) A B d d':=⟨_,rfl,fun h=>h1 (of_decide_eq_true h),fun h=>h2 (of_decide_eq_false h)⟩
theorem A4g{p:Prop}[Decidable p]{A B:Prop}{d:Dum A}{d':Dum B}(h1:decide p=true -> ¬ ¬ p ->A)(h2:decide p=false -> ¬ p ->B):rN (.bool (decide p)) A B d d':=⟨_,rfl,fun h=>h1 h (fun hn=>hn (of_decide_eq_true h)),fun h=>h2 h (of_decide_eq_false h)⟩
theorem D7j{A B:Prop}{d:Dum A}{d':Dum B} :gW (some true) A B d d'=A:=by simp[gW]
theorem D0m{A B:Prop}{d:Dum A}{d':Dum B} :gW (some false) A B d d'=B:=by simp[gW]
theorem E3c{b:Bool}{A B:Prop}{d:Dum A}{d':Dum B} :gW (some (!b)) A B d d'=gW (some b) B A d' d:=by cases b <;>simp[gW]
theorem C4n{b:Bool}{A B:Prop}{d:Dum A}{d':Dum B} :rN (.bool (!b)) A B d d'=rN (.bool b) B A d' d:=by cases b <;>simp[rN]
theorem D0n{t:Bool}{A B:Prop}{d:Dum A}{d':Dum B}(h1:t=true ->A)(h2:t=false ->B):gW (some t) A B d d':=⟨t,rfl,h1,h2⟩
theorem A0i{p:Prop}[Decidable p]{A B:Prop}{d:Dum A}{d':Dum B}(h1:p ->A)(h2: ¬ p ->B):gW (some (decide p)) A B d d':=⟨_,rfl,fun h=>h1 (of_decide_eq_true h),fun h=>h2 (of_decide_eq_false h)⟩
theorem C2e{p:Prop}[Decidable p]{A B:Prop}{d:Dum A}{d':Dum B}(h1:decide p=true -> ¬ ¬ p ->A)(h2:decide p=false -> ¬ p ->B):gW (some (decide p)) A B d d':=⟨_,rfl,fun h=>h1 h (fun hn=>hn (of_decide_eq_true h)),fun h=>h2 h (of_decide_eq_false h)⟩
theorem C0l{a b:AV}{F:AV ->Prop}{d:Dum a}{d':Dum b}{d2:Dum F} :A2d (.bool true) a b F d d' d2=st a F ⟨⟩:=by simp[A2d,st]
theorem B5v{a b:AV}{F:AV ->Prop}{d:Dum a}{d':Dum b}{d2:Dum F} :A2d (.bool false) a b F d d' d2=st b F ⟨⟩:=by simp[A2d,st]
theorem B5w{t:Bool}{a b:AV}{F:AV ->Prop}{d:Dum a}{d':Dum b}{d2:Dum F}(h1:t=true ->F a)(h2:t=false ->F b):A2d (.bool t) a b F d d' d2:=by
 refine⟨t,rfl,?_⟩;cases t
 ·exact h2 rfl
 ·exact h1 rfl
theorem aY{E:TypeId}{z:List AV}{d:Dum σ}{d':Dum K}(h:∀ b,σ.fresh b ->K (.ptr b 0) (σ.setBox b z)):E4o σ E z K d d':= .inl h
theorem C2m{E:TypeId}{z:List AV}{d:Dum σ}{d':Dum K}(h:∀ b,σ.fresh b ->K (.ptr b 0) ((σ.setBox b z).setTy b (E,z.length))):E4o σ E z K d d':= .inr h
theorem cX{z:List AV}{d:Dum σ}{d':Dum K}(h:∀ b,σ.fresh b ->K (.ptr b 0) (σ.setBox b z)):D8v σ z K d d':=h
theorem C7e{b:Nat}{x y:TyE × Nat} :(σ.setTy b x).setTy b y=σ.setTy b y:=by
 unfold AS.setTy
 simp only[AS.mk.injEq,true_and]
 funext i
 split <;>rfl
theorem D6f{x:AV}{d:Dum σ}{d':Dum K} :E2o σ x K d d'=(isv x=true /\ D8v σ (flat x) K ⟨⟩ ⟨⟩):=nr rfl
theorem D2j{b o:Nat}{F:AV ->Prop}{d:Dum F} :B5e (.ptr b o) F d=F (.ptr b o):=by simp[B5e]
theorem D8x{l:List AV}{F:AV ->Prop}{d:Dum F} :B5e (.rp l) F d=F (.rp l):=by simp[B5e]
theorem D8w{f:FuncId}{l:List AV}{F:AV ->Prop}{d:Dum F} :B5e (.fn f l) F d=F (.fn f l):=by simp[B5e]
theorem C9c{k:FuncId}{caps l:List AV}{d:Dum σ}{d':Dum K} :C2a P G (.fn k caps) l σ K d d'=C7c P G k (l++caps) σ K ⟨⟩ ⟨⟩:=nr rfl
theorem B1k{k:FuncId}{l:List AV}{d:Dum σ}{d':Dum K} :C2a P G (.fn k []) l σ K d d'=C7c P G k l σ K ⟨⟩ ⟨⟩:=by simp[C2a,C7c]
theorem wP{k:FuncId}{l:List AV}{F:AV ->Prop}{d:Dum σ0}{d':Dum F}{v:AV}(h:eP P G k l σ0 v)(hk:F v):B1v P G (.fn k []) l σ0 F d d':=⟨v,by simpa using h,hk⟩
theorem E2x{t:Tmp} :ev G e (.tmp t)=e t:=nr rfl
theorem C9s{v:Value} :ev G e (.const v)=ofConst v:=nr rfl
theorem C4x{g:Nat} :ev G e (.global g)=G g:=nr rfl
theorem D6x{f:FuncId} :ev G e (.func f)= .fn f []:=nr rfl
theorem D4u{t:Tmp}{r:AV}{j:Nat} :(e.upd (some t) r) j=if j=t then r else e j:=nr rfl
theorem D4t{r:AV} :(e.upd none r)=e:=nr rfl
theorem E4n{W:List Nat}{v:bF}{j:Nat} :mrg W v e j=if W.contains j then v j else e j:=nr rfl
theorem C3x{l:List AV}{j:Nat} :A3x l j=l.getD j .undef:=nr rfl
theorem B9b{rs:List ResultVar} :D0a P rs K .normal e σ=wA (sM P e σ rs) σ K ⟨⟩ ⟨⟩:=nr rfl
theorem D7e{rs:List ResultVar} :D0a P rs K .ret e σ=wA (sM P e σ rs) σ K ⟨⟩ ⟨⟩:=nr rfl
theorem D0b{rs:List ResultVar}{i:Nat} :D0a P rs K (.exit i) e σ=False:=nr rfl
theorem aE{l:List AV}{d:Dum σ}{d':Dum K}(σ':AS)(h1:σ'.le σ)(h2:K (A6z l) σ'):wA (some l) σ K d d':=⟨l,σ',rfl,h1,h2⟩
theorem aP{r v:AV}{σ':AS}{d:Dum σ}{d':Dum fun x s=>x=v /\ s=σ'}(h2:r=v)(h1:σ'.le σ):wA (some [r]) σ (fun x s=>x=v /\ s=σ') d d':=⟨[r],σ',rfl,h1,h2,rfl⟩
theorem A4p{a b v:AV}{l:List AV}{σ':AS}{d:Dum σ}{d':Dum fun x s=>x=v /\ s=σ'}(h2:AV.tup (a::b::l)=v)(h1:σ'.le σ):wA (some (a::b::l)) σ (fun x s=>x=v /\ s=σ') d d':=⟨_,σ',rfl,h1,h2,rfl⟩
theorem B8z{l:List Oper}{d:Dum l.toArray}{d':Dum R}{d2:Dum e}{d3:Dum σ}(n:Nat)(hn:A1u l.toArray n=true){hd tl:List Oper}(h1:l.take n=hd)(h2:l.drop n=tl)(h:oH P G l σ (fun e' σ'=>dX P G l R tl e' σ') hd e σ):tP P G l.toArray R e σ d d' d2 d3:= .inl ⟨[],n,σ,[],rfl,hn,AS.le.refl σ,fun c hc=> (by cases hc),rL _ _ _ _ (by subst h1 h2;exact h)⟩
theorem E2p{b:Bool} :ofConst (.bool b)= .bool b:=nr rfl
theorem E7a{k:IntKind}{n:Int} :ofConst (.int k n)= .int k n:=nr rfl
theorem E7c{l:List UInt8} :ofConst (.string ⟨⟨l⟩⟩)= .str l:=nr rfl
theorem E7b:ofConst (.slice none 0 0)= .nil:=nr rfl
theorem C9b:ofConst (.pointer none)= .nilptr:=nr rfl
theorem D6l:ofConst .nilFunc= .nilfn:=nr rfl
theorem D6m:ofConst .nilIface= .raw .nilIface:=nr rfl
theorem C1s{b i:Nat}{cs:List AV} :(σ.setBox b cs).box i=if i=b then some cs else σ.box i:=nr rfl
theorem C1t{b i:Nat}{x:Nat × Nat} :(σ.setTip b x).box i=σ.box i:=nr rfl
theorem D6g{b i:Nat} :(σ.delTip b).box i=σ.box i:=nr rfl
theorem C3a{b i:Nat}{cs:List AV} :(σ.setBox b cs).tip i=σ.tip i:=nr rfl
theorem C3b{b i:Nat}{x:Nat × Nat} :(σ.setTip b x).tip i=if i=b then some x else σ.tip i:=nr rfl
theorem E1a{b i:Nat} :(σ.delTip b).tip i=if i=b then none else σ.tip i:=nr rfl
theorem D4q{b i:Nat}{cs:List AV} :(σ.setBox b cs).ty i=σ.ty i:=nr rfl
theorem D4s{b i:Nat}{x:Nat × Nat} :(σ.setTip b x).ty i=σ.ty i:=nr rfl
theorem E6k{b i:Nat} :(σ.delTip b).ty i=σ.ty i:=nr rfl
theorem D4r{b i:Nat}{x:TyE × Nat} :(σ.setTy b x).ty i=if i=b then some x else σ.ty i:=nr rfl
theorem C8z{b i:Nat}{x:TyE × Nat} :(σ.setTy b x).box i=σ.box i:=nr rfl
theorem D4m{b i:Nat}{x:TyE × Nat} :(σ.setTy b x).tip i=σ.tip i:=nr rfl
theorem C8y{b i:Nat} :(σ.delBox b).box i=if i=b then none else σ.box i:=nr rfl
theorem D4l{b i:Nat} :(σ.delBox b).tip i=σ.tip i:=nr rfl
theorem E1d{b i:Nat} :(σ.delBox b).ty i=σ.ty i:=nr rfl
theorem C2t{b:Nat}{cs ds:List AV} :(σ.setBox b cs).setBox b ds=σ.setBox b ds:=by
 unfold AS.setBox;congr 1;funext i;show(if i=b then some ds else if i=b then some cs else σ.box i)=_;split <;>rfl
theorem eR{b c:Nat}{cs:List AV} :(σ.setBox c cs).fresh b=(σ.fresh b /\ ¬ b=c /\ ¬ c=b):=by
 unfold AS.fresh
 simp only[C1s,C3a,D4q,eq_iff_iff]
 by_cases h:b=c
 ·simp[h]
 ·simp[h,Ne.symm h]
theorem cE{σ':AS}{b:Nat}{cs:List AV}(hb:σ'.fresh b)(h:σ'.le σ):σ'.le (σ.setBox b cs):=h.setBox hb.1 cs
theorem D0k{b c:Nat}{x:TyE × Nat} :(σ.setTy c x).fresh b=(σ.fresh b /\ ¬ b=c /\ ¬ c=b):=by
 unfold AS.fresh
 simp only[C8z,D4m,D4r,eq_iff_iff]
 by_cases h:b=c
 ·subst h;simp
 ·simp[h,Ne.symm h]
theorem E8r{σ':AS}{b:Nat}{x:TyE × Nat}(hb:σ'.fresh b)(h:σ'.le σ):σ'.le (σ.setTy b x):=h.setTy hb.2.2 x
theorem C4z{b c:Nat}{x:Nat × Nat} :(σ.setTip c x).fresh b=(σ.fresh b /\ ¬ b=c /\ ¬ c=b):=by
 unfold AS.fresh
 simp only[C1t,C3b,D4s,eq_iff_iff]
 by_cases h:b=c
 ·subst h;simp
 ·simp[h,Ne.symm h]
theorem aI {c:Code} {d:Dum c} {d':Dum Q} {d2:Dum e} {d3:Dum σ} (I:Nat ->bF ->AS ->Prop) (n:Nat) (h0:I n e σ) (h1:∀ n v σ',I n (mrg (cY c) v e) σ' ->
   xA P G (kZ P G) c (fun x e' σ'=>match x with| .normal=>∃ m,m < n /\ I m e' σ'|x=>Q x e' σ') (mrg (cY c) v e) σ'):D2g P G c Q e σ d d' d2 d3:=⟨I,⟨n,h0⟩,h1⟩
theorem D0c{l:List AV} :flat (.agg l)=l:=nr rfl
theorem C4y{b:Bool} :flat (.bool b)=[.bool b]:=nr rfl
theorem D0d{k:IntKind}{n:Int} :flat (.int k n)=[.int k n]:=nr rfl
theorem D0h{l:List UInt8} :flat (.str l)=[.str l]:=nr rfl
theorem D0e:flat .nil=[.nil]:=nr rfl
theorem D7i{g:Gh}{xs sp:List AV} :flat (.sl g xs sp)=[.sl g xs sp]:=nr rfl
theorem D0f{b o:Nat} :flat (.ptr b o)=[.ptr b o]:=nr rfl
theorem D7h{l:List AV} :flat (.rp l)=[.rp l]:=nr rfl
theorem D7g{f:FuncId}{l:List AV} :flat (.fn f l)=[.fn f l]:=nr rfl
theorem B4l:flat .nilptr=[.nilptr]:=nr rfl
theorem B9e:flat .nilfn=[.nilfn]:=nr rfl
theorem D8e{l:List AV} :isv (.agg l)=true:=nr rfl
theorem D1j{b:Bool} :isv (.bool b)=true:=nr rfl
theorem D8f{k:IntKind}{n:Int} :isv (.int k n)=true:=nr rfl
theorem D8i{l:List UInt8} :isv (.str l)=true:=nr rfl
theorem D8g:isv .nil=true:=nr rfl
theorem E4a{b n s:Nat}{E:TypeId} :isv (.bs b n s E)=true:=nr rfl
theorem D7f{b n s:Nat}{E:TypeId} :flat (.bs b n s E)=[.bs b n s E]:=nr rfl
theorem D1k{a:Addr}{n c:Nat} :isv (.raw (.slice (some a) n c))=true:=nr rfl
theorem D0g{v:Value} :flat (.raw v)=[.raw v]:=nr rfl
theorem sH{op:BinOp}{t:TypeId}{a:Addr}{n c:Nat} :lV P op t (.raw (.slice (some a) n c)) .nil=if(el P t).isSome=true then vS op false else none:=nr rfl
theorem B3c{op:BinOp}{t E:TypeId}{b n s:Nat} :lV P op t .nil (.bs b n s E)=if(el P t).isSome=true then vS op false else none:=nr rfl
theorem B3a{op:BinOp}{t E:TypeId}{b n s:Nat} :lV P op t (.bs b n s E) .nil=if(el P t).isSome=true then vS op false else none:=nr rfl
def ibk(x:Option (Bool × Nat))(b m:Nat)(i:Int):Option AV:=match x with
 |some (_,n)=>if 0 <=i /\ i < m then some (.ptr b (i.toNat*n))else none
 |none=>none
theorem B7y{t E:TypeId}{b m s:Nat}{k:IntKind}{i:Int} :fV P t (.bs b m s E) (.int k i)=ibk ((el P t).bind (tk P)) b m i:=by
 unfold fV ibk
 cases el P t with
 |none=>rfl
 |some e=>simp only[Option.bind_some];cases tk P e <;>rfl
theorem D1i{ag:Bool}{n b m:Nat}{i:Int} :ibk (some (ag,n)) b m i=if 0 <=i /\ i < m then some (.ptr b (i.toNat*n))else none:=nr rfl
def nbk(x:Option (Bool × Nat))(l h:Option Nat):Option AV:=match x,l,h with
 |some _,some l,some h=>if l <=h /\ h <=0 then some .nil else none
 |_,_,_=>none
def sbk(x:Option (Bool × Nat))(l h:Option Nat)(b n s:Nat)(E:TypeId):Option AV:=match x,l,h with
 |some _,some l,some h=>if l=0 /\ h <=n then some (.bs b h s E)else none
 |_,_,_=>none
theorem A8p{t E:TypeId}{b n s:Nat}{lo hi:Option AV} :iC P t (.bs b n s E) lo hi=sbk ((el P t).bind (tk P)) (eL lo 0) (eL hi n) b n s E:=by
 unfold iC oF sbk
 cases el P t with
 |none=>rfl
 | some e=>
  simp only[Option.bind_some]
  cases eL lo 0 with
  |none=>cases tk P e <;>rfl
  | some l=>
   cases eL hi n with
   |none=>cases tk P e <;>rfl
   | some h=>
    cases htk:tk P e with
    |none=>simp[htk]
    | some x=>
     by_cases hc:l=0 /\ h <=n
     ·simp[hc,zI,htk]
     ·have: ¬ (l=0 /\ h <=n /\ True):=fun h=>hc ⟨h.1,h.2.1⟩
      simp only[if_neg hc]
      simp[zI,htk]
      omega
class NotBs (x:AV):Prop where
 no:∀ b n s E,x ≠ .bs b n s E
instance {g:Gh} {xs sp:List AV} :NotBs (.sl g xs sp):=⟨fun _ _ _ _ h=>by cases h⟩
instance {s:List UInt8} :NotBs (.str s):=⟨fun _ _ _ _ h=>by cases h⟩
instance:NotBs .nil:=⟨fun _ _ _ _ h=>by cases h⟩
instance {cs:List AV} :NotBs (.rp cs):=⟨fun _ _ _ _ h=>by cases h⟩
theorem C6q{σ:AS}{t:TypeId}{x:AV}[h:NotBs x]{lo hi:Option AV}{F:AV ->Prop}{d:Dum σ}{d':Dum F} :slW P σ t x lo hi F d d'=bo (iC P t x lo hi) F ⟨⟩:=by
 unfold slW bo lN sN
 apply propext
 constructor
 ·rintro⟨r,h1,h2⟩
  split at h1
  ·rename_i y hy;cases h1;exact⟨_,hy,h2⟩
  ·split at h1
   ·exact absurd rfl (h.no _ _ _ _)
   ·cases h1
 ·rintro⟨r,h1,h2⟩
  refine⟨r,?_,h2⟩
  rw[h1]
theorem xQ{σ:AS}{t:TypeId}{x:AV}{lo hi:Option AV}{F:AV ->Prop}{d:Dum σ}{d':Dum F}(h:bo (iC P t x lo hi) F ⟨⟩):slW P σ t x lo hi F d d':=by
 obtain⟨r,h1,h2⟩:=h
 refine⟨r,?_,h2⟩
 unfold lN
 rw[h1]
def sbx(l h:Nat)(cs:Option (List AV))(b s:Nat)(E:TypeId):Option AV:=match cs with
 |some cs=>if l=0 /\ 0 < s /\ h*s <=cs.length then some (.bs b h s E)else none
 |none=>none
def sbS(x:Option (Bool × Nat))(l h:Option Nat)(cs:Option (List AV))(b n s:Nat)(E:TypeId):Option AV:=match x,l,h with
 |some _,some l,some h=>if l=0 /\ h <=n then some (.bs b h s E)else sbx l h cs b s E
 |_,_,_=>none
theorem D3u{l h:Nat}{cs:List AV}{b s:Nat}{E:TypeId} :sbx l h (some cs) b s E=if l=0 /\ 0 < s /\ h*s <=cs.length then some (.bs b h s E)else none:=nr rfl
theorem D3s{x:Bool × Nat}{l h:Nat}{cs:Option (List AV)}{b n s:Nat}{E:TypeId} :sbS (some x) (some l) (some h) cs b n s E=if l=0 /\ h <=n then some (.bs b h s E)else sbx l h cs b s E:=nr rfl
theorem B8f{σ:AS}{t E:TypeId}{b n s:Nat}{lo hi:Option AV} :lN P σ t (.bs b n s E) lo hi=sbS ((el P t).bind (tk P)) (eL lo 0) (eL hi n) (σ.box b) b n s E:=by
 unfold lN
 rw[A8p]
 unfold sbk sbS sN sbx
 cases he:el P t with
 |none=>simp
 | some e=>
  simp only[Option.bind_some]
  cases htk:tk P e with
  |none=>cases eL lo 0 <;>cases eL hi n <;>cases σ.box b <;>simp[htk]
  | some y=>
   cases eL lo 0 with
   |none=>simp
   | some l=>
    cases eL hi n with
    |none=>simp
    | some h=>
     simp only
     by_cases hc:l=0 /\ h <=n
     ·rw[if_pos hc,if_pos hc]
     ·rw[if_neg hc,if_neg hc]
      cases hb:σ.box b with
      |none=>rfl
      |some cs=>simp[htk]
theorem E5i{σ:AS}{t E:TypeId}{b n s:Nat}{lo hi:Option AV}{F:AV ->Prop}{d:Dum σ}{d':Dum F} :slW P σ t (.bs b n s E) lo hi F d d'=bo (sbS ((el P t).bind (tk P)) (eL lo 0) (eL hi n) (σ.box b) b n s E) F ⟨⟩:=by
 unfold slW bo
 rw[B8f]
theorem B8g{t:TypeId}{lo hi:Option AV} :iC P t .nil lo hi=nbk ((el P t).bind (tk P)) (eL lo 0) (eL hi 0):=by
 unfold iC oF nbk
 cases el P t with
 |none=>rfl
 | some e=>
  simp only[Option.bind_some]
  cases eL lo 0 with
  |none=>cases tk P e <;>rfl
  | some l=>
   cases eL hi 0 with
   |none=>cases tk P e <;>rfl
   | some h=>
    cases htk:tk P e with
    |none=>simp[htk]
    | some x=>
     by_cases hc:l <=h /\ h <=0
     ·simp[hc,zI,htk]
     ·have: ¬ (l <=h /\ h <=0 /\ True):=fun h=>hc ⟨h.1,h.2.1⟩
      simp only[if_neg hc]
      simp[zI,htk]
      omega
def rsk(x:Option (Nat × Nat))(cs:List AV):Option AV:=match x with
 |some (m,1)=>if m=cs.length /\ m <=maxLen then some (.sl .none cs [])else none
 |_=>none
theorem A8q{t:TypeId}{cs:List AV} :iC P t (.rp cs) none none=rsk (wX P t) cs:=by
 unfold iC oF rsk
 simp only
 cases h:wX P t with
 |none=>rfl
 | some x=>
  obtain⟨m,n⟩:=x
  match n with
  |0=>rfl
  |1=>simp only;split <;>rfl
  |n+2=>rfl
theorem D2i{x:Bool × Nat}{l h:Nat} :nbk (some x) (some l) (some h)=if l <=h /\ h <=0 then some .nil else none:=nr rfl
theorem D3t{x:Bool × Nat}{l h b n s:Nat}{E:TypeId} :sbk (some x) (some l) (some h) b n s E=if l=0 /\ h <=n then some (.bs b h s E)else none:=nr rfl
theorem C7g{pt:TypeId}{d:Dum σ}{d':Dum K} :C3c P σ pt .nilptr (.int .i64 0) K d d'=K (.str []) σ:=by simp[C3c,A1n]
theorem C7h{pt E:TypeId}{b:Nat}{l:List UInt8}{n:Int}{d:Dum σ}{d':Dum K}(h1:sk P pt= .ptr E)(h2:P.cellsOf E=1)(h3:σ.box b=some (l.map fun c=> .int .u8 c.toNat))(h4:l ≠ [])(h5:n=l.length)(h6:K (.str l) (σ.delBox b)):C3c P σ pt (.bp b 1 E) (.int .i64 n) K d d':=⟨rfl,rfl,h1,h2,l,h3,h4,h5,h6⟩
theorem E4d{g:Gh}{xs sp:List AV} :isv (.sl g xs sp)=true:=nr rfl
theorem D8h{b o:Nat} :isv (.ptr b o)=true:=nr rfl
theorem E4c{l:List AV} :isv (.rp l)=true:=nr rfl
theorem E4b{f:FuncId}{l:List AV} :isv (.fn f l)=true:=nr rfl
theorem B9t:isv .nilptr=true:=nr rfl
theorem C5j:isv .nilfn=true:=nr rfl
def ldk(k:Option (Bool × Nat))(c:Option (List AV))(o:Nat):Option AV:=match k,c with|some (ag,n),some cs=>rd ag n (cs.drop o)|_,_=>none
theorem C3u{t:TypeId}{b o:Nat} :lM P σ t (.ptr b o)=ldk (tk P t) (σ.box b) o:=by
 unfold lM ldk;cases tk P t with
 |none=>rfl
 |some x=>obtain⟨ag,n⟩:=x;simp only;cases σ.box b <;>rfl
theorem D1x{ag:Bool}{n o:Nat}{cs:List AV} :ldk (some (ag,n)) (some cs) o=rd ag n (cs.drop o):=nr rfl
def ldr(k:Option (Bool × Nat))(cs:List AV):Option AV:=match k with|some (ag,n)=>rd ag n cs|_=>none
theorem C8a{t:TypeId}{cs:List AV} :lM P σ t (.rp cs)=ldr (tk P t) cs:=by
 unfold lM ldr;cases tk P t with
 |none=>rfl
 |some x=>rfl
theorem D1y{ag:Bool}{n:Nat}{cs:List AV} :ldr (some (ag,n)) cs=rd ag n cs:=nr rfl
theorem D9s{n:Nat}{cs:List AV} :rd true n cs=if n <=cs.length then some (.agg (cs.take n))else none:=nr rfl
theorem D3a{n:Nat}{cs:List AV} :rd false n cs=cs.head? :=nr rfl
def fdk(k:Option (Nat × Bool × Nat))(p:AV):Option AV:=match k with
 |some (off,_,n)=>if n=0 then none else match p with| .ptr b o=>some (.ptr b (o+off))| .rp cs=>some (.rp (cs.drop off))|_=>none
 |none=>none
theorem C3r{t:TypeId}{p:AV}{i:Nat} :uG P t p i=fdk (tZ P t i) p:=by
 unfold uG fdk;cases tZ P t i with
 |none=>rfl
 |some x=>rfl
theorem D7d{off n b o:Nat}{ag:Bool} :fdk (some (off,ag,n+1)) (.ptr b o)=some (.ptr b (o+off)):=nr rfl
theorem E2z{off n:Nat}{cs:List AV}{ag:Bool} :fdk (some (off,ag,n+1)) (.rp cs)=some (.rp (cs.drop off)):=nr rfl
def fvk(k:Option (Nat × Bool × Nat))(cs:List AV):Option AV:=match k with|some (off,ag,n)=>rd ag n (cs.drop off)|none=>none
theorem B3i{t:TypeId}{cs:List AV}{i:Nat} :qP P t (.agg cs) i=fvk (tZ P t i) cs:=by
 unfold qP fvk;cases tZ P t i with
 |none=>rfl
 |some x=>rfl
theorem D0l{off n:Nat}{ag:Bool}{cs:List AV} :fvk (some (off,ag,n)) cs=rd ag n (cs.drop off):=nr rfl
def ixk(k:Option (Bool × Nat))(a:Option AV):Option AV:=match k,a with
 |some (_,n),some a=>if(flat a).length=n then some (.rp (flat a))else none
 |_,_=>none
theorem jQ{t:TypeId}{g:Gh}{xs sp:List AV}{k:IntKind}{i:Int} :fV P t (.sl g xs sp) (.int k i)=if 0 <=i then ixk ((el P t).bind (tk P)) (xs[i.toNat]?)else none:=by
 unfold fV ixk
 simp only
 cases el P t with
 |none=>simp
 | some e=>
  simp only[Option.bind_some]
  cases tk P e with
  |none=>simp
  | some x=>
   obtain⟨ag,n⟩:=x
   simp only
   split
   ·cases xs[i.toNat]? <;>rfl
   ·rfl
def iak(a:Option (Nat × Nat))(i:Int)(f:Nat ->AV):Option AV:=match a with
 |some (m,n)=>if 0 <=i /\ i < m then some (f (i.toNat*n))else none
 |none=>none
theorem B7z{t:TypeId}{cs:List AV}{k:IntKind}{i:Int} :fV P t (.rp cs) (.int k i)=iak (wX P t) i fun j=> .rp (cs.drop j):=by
 unfold fV iak;simp only;cases wX P t with
 |none=>rfl
 |some x=>rfl
theorem B3j{t:TypeId}{b o:Nat}{k:IntKind}{i:Int} :fV P t (.ptr b o) (.int k i)=iak (wX P t) i fun j=> .ptr b (o+j):=by
 unfold fV iak;simp only;cases wX P t with
 |none=>rfl
 |some x=>rfl
theorem D1h{m n:Nat}{i:Int}{f:Nat ->AV} :iak (some (m,n)) i f=if 0 <=i /\ i < m then some (f (i.toNat*n))else none:=nr rfl
theorem D1s{ag:Bool}{n:Nat}{a:AV} :ixk (some (ag,n)) (some a)=if(flat a).length=n then some (.rp (flat a))else none:=nr rfl
theorem B8b{t:TypeId}{s:List UInt8}{k:IntKind}{i:Int} :uI P t (.str s) (.int k i)=if sk P t= .str then(if 0 <=i then(s[i.toNat]?).map (fun c=>AV.int .u8 c.toNat)else none)else none:=by
 unfold uI
 simp only
 cases s[i.toNat]? <;>rfl
theorem B0t{l:List AV}{i:Nat} :rK (.tup l) i=l[i]? :=nr rfl
theorem C8w{op:BinOp}{t:TypeId}{i:Tmp}{x y:AV} :xC P op t (.tmp i) x y=lV P op t x y:=nr rfl
theorem C4e{op:BinOp}{t:TypeId}{i:Nat}{x y:AV} :xC P op t (.global i) x y=lV P op t x y:=nr rfl
theorem C4d{op:BinOp}{t:TypeId}{i:FuncId}{x y:AV} :xC P op t (.func i) x y=lV P op t x y:=nr rfl
theorem C8s{op:BinOp}{t:TypeId}{k:IntKind}{n:Int}{x y:AV} :xC P op t (.const (.int k n)) x y=lV P op t x y:=nr rfl
theorem C8v{op:BinOp}{t:TypeId}{s:ByteArray}{x y:AV} :xC P op t (.const (.string s)) x y=lV P op t x y:=nr rfl
theorem C4c{op:BinOp}{t:TypeId}{s:Bool}{x y:AV} :xC P op t (.const (.bool s)) x y=lV P op t x y:=nr rfl
theorem D6a{op:BinOp}{t:TypeId}{a:Option Addr}{n c:Nat}{x y:AV} :xC P op t (.const (.slice a n c)) x y=lV P op t x y:=nr rfl
theorem C8u{op:BinOp}{t:TypeId}{a:Option Addr}{x y:AV} :xC P op t (.const (.pointer a)) x y=lV P op t x y:=nr rfl
theorem C4f{op:BinOp}{t:TypeId}{x y:AV} :xC P op t (.const .nilFunc) x y=lV P op t x y:=nr rfl
theorem C8r{op:BinOp}{t:TypeId}{cs:Array Value}{x y:AV} :xC P op t (.const (.agg cs)) x y=lV P op t x y:=nr rfl
theorem C8t{op:BinOp}{t:TypeId}{x y:AV} :xC P op t (.const .nilIface) x y=A8k P op t x:=nr rfl
theorem C3k{op:BinOp}{t:TypeId} :A8k P op t (.raw .nilIface)=if ifc P t then vS op true else none:=nr rfl
theorem C7q{op:BinOp}{t s:TypeId}{v:Value} :A8k P op t (.raw (.iface s v))=if ifc P t then vS op false else none:=nr rfl
def axk(l:Option (Nat × Bool × Nat))(cs:List AV)(i:Int):Option AV:=match l with
 |some (m,ag,n)=>if 0 <=i /\ i < m then rd ag n (cs.drop (i.toNat*n))else none
 |none=>none
theorem B8a{t:TypeId}{cs:List AV}{k:IntKind}{i:Int} :uI P t (.agg cs) (.int k i)=axk (D5n P t) cs i:=nr rfl
theorem C8n{m n:Nat}{ag:Bool}{cs:List AV}{i:Int} :axk (some (m,ag,n)) cs i=if 0 <=i /\ i < m then rd ag n (cs.drop (i.toNat*n))else none:=nr rfl
theorem C7r{op:BinOp}{t:TypeId}{k k':IntKind}{a b:Int} :lV P op t (.int k a) (.int k' b)=gF op k a k' b:=nr rfl
theorem C7s{op:BinOp}{t:TypeId}{a b:List UInt8} :lV P op t (.str a) (.str b)=wM op a b:=nr rfl
theorem C3l{op:BinOp}{t:TypeId}{a b:Bool} :lV P op t (.bool a) (.bool b)=if sk P t= .bool then vS op (a==b)else none:=nr rfl
theorem B0n{op:BinOp}{t:TypeId} :lV P op t .nil .nil=if(el P t).isSome=true then vS op true else none:=nr rfl
theorem B3d{op:BinOp}{t:TypeId}{g:Gh}{xs sp:List AV} :lV P op t .nil (.sl g xs sp)=if(el P t).isSome=true /\ isNil g xs=false then vS op false else none:=nr rfl
theorem B3e{op:BinOp}{t:TypeId}{g:Gh}{xs sp:List AV} :lV P op t (.sl g xs sp) .nil=if(el P t).isSome=true /\ isNil g xs=false then vS op false else none:=nr rfl
theorem B3b{op:BinOp}{t:TypeId}{f:FuncId}{l:List AV} :lV P op t (.fn f l) .nilfn=if sk P t= .fn then vS op false else none:=nr rfl
theorem B9s{xs:List AV} :isNil .full xs=false:=nr rfl
theorem C5i{b:Nat}{xs:List AV} :isNil (.own b) xs=false:=nr rfl
theorem B9r{g:Gh}{x:AV}{xs:List AV} :isNil g (x::xs)=false:=by cases g <;>rfl
theorem E7u{k:IntKind}{a b:Int} :gF .add k a k b=some (.int k (k.wrap (a+b))):=by simp[gF]
theorem E8h{k:IntKind}{a b:Int} :gF .sub k a k b=some (.int k (k.wrap (a - b))):=by simp[gF]
theorem E8b{k:IntKind}{a b:Int} :gF .mul k a k b=some (.int k (k.wrap (a*b))):=by simp[gF]
theorem E8d{k:IntKind}{a b:Int} :gF .quo k a k b=if b=0 then none else some (.int k (k.wrap (a.tdiv b))):=by simp[gF]
theorem E8e{k:IntKind}{a b:Int} :gF .rem k a k b=if b=0 then none else some (.int k (a.tmod b)):=by simp[gF]
theorem E7w{k:IntKind}{a b:Int} :gF .eql k a k b=some (.bool (decide (a=b))):=by simp[gF];by_cases h:a=b <;>simp[h]
theorem E8c{k:IntKind}{a b:Int} :gF .neq k a k b=some (.bool (decide (¬ a=b))):=by simp[gF,bne];by_cases h:a=b <;>simp[h]
theorem E8a{k:IntKind}{a b:Int} :gF .lss k a k b=some (.bool (decide (a < b))):=by simp[gF]
theorem E7z{k:IntKind}{a b:Int} :gF .leq k a k b=some (.bool (decide (a <=b))):=by simp[gF]
theorem E7y{k:IntKind}{a b:Int} :gF .gtr k a k b=some (.bool (decide (b < a))):=by simp[gF]
theorem E7x{k:IntKind}{a b:Int} :gF .geq k a k b=some (.bool (decide (b <=a))):=by simp[gF]
theorem E7v{k:IntKind}{a b:Int} :gF .and k a k b=some (.int k (k.wrap ((BitVec.ofInt k.bits a &&& BitVec.ofInt k.bits b).toNat))):=by simp only[gF,ne_eq,not_true_eq_false,if_false]
theorem F0z{k:IntKind}{a b:Int} :gF .or k a k b=some (.int k (k.wrap ((BitVec.ofInt k.bits a|||BitVec.ofInt k.bits b).toNat))):=by simp only[gF,ne_eq,not_true_eq_false,if_false]
theorem E8i{k:IntKind}{a b:Int} :gF .xor k a k b=some (.int k (k.wrap ((BitVec.ofInt k.bits a ^^^ BitVec.ofInt k.bits b).toNat))):=by simp only[gF,ne_eq,not_true_eq_false,if_false]
theorem E8f{k k':IntKind}{a b:Int} :gF .shl k a k' b=if b < 0 then none else some (.int k (k.wrap (a*2 ^ (min b.toNat k.bits)))):=nr rfl
theorem E8g{k k':IntKind}{a b:Int} :gF .shr k a k' b=if b < 0 then none else some (.int k (a.fdiv (2 ^ (min b.toNat k.bits)))):=nr rfl
theorem E9k{a b:List UInt8} :wM .eql a b=some (.bool (decide (a=b))):=by simp[wM];by_cases h:a=b <;>simp[h]
theorem E9m{a b:List UInt8} :wM .neq a b=some (.bool (decide (¬ a=b))):=by simp[wM];by_cases h:a=b <;>simp[h]
theorem E9j{a b:List UInt8} :wM .add a b=if a.length+b.length <=maxLen then some (.str (a++b))else none:=nr rfl
theorem E9l{a b:List UInt8} :wM .lss a b=some (.bool (Op.bytesLess a b)):=nr rfl
theorem D5k{b:Bool} :vS .eql b=some (.bool b):=nr rfl
theorem D5l{b:Bool} :vS .neq b=some (.bool (!b)):=nr rfl
theorem D5p{b:Bool} :aun .not (.bool b)=some (.bool (!b)):=nr rfl
theorem D5o{k:IntKind}{n:Int} :aun .neg (.int k n)=some (.int k (k.wrap (0 - n))):=nr rfl
def cvk(s:SK)(n:Int)(u:Bool):Option AV:=match s with| .int k=>if u=true then some (.int k (k.wrap n))else none|_=>none
theorem C3q{s t:TypeId}{k:IntKind}{n:Int} :yD P s t (.int k n)=cvk (sk P t) n (P.underlying s).isSome:=by
 unfold yD cvk;cases sk P t <;>rfl
theorem D6r{k:IntKind}{n:Int} :cvk (.int k) n true=some (.int k (k.wrap n)):=nr rfl
theorem B7s{s t:TypeId}{k:IntKind}{n:Int} :uF P s t (.int k n)=cvk (sk P t) n (P.underlying s).isSome:=by
 show yD P s t (.int k n)=_
 exact C3q
def cvw(s:SK)(e:Option TypeId)(f:TypeId ->SK)(u:Bool)(l:List UInt8):Option AV:=
 if s= .str then(if u=true then some (.str l)else none)else if u && (e.any fun e=>decide (f e= .int .u8)) && decide (l.length <=maxLen)then some (.sl .none (l.map fun c=> .int .u8 c.toNat) [])else none
theorem B7t{s t:TypeId}{l:List UInt8} :uF P s t (.str l)=cvw (sk P t) (el P t) (sk P) (P.underlying s).isSome l:=by
 unfold uF cvw
 by_cases h:sk P t= .str
 ·simp only[if_pos h,yD,h]
 ·simp only[if_neg h]
theorem D6s{e:Option TypeId}{f:TypeId ->SK}{l:List UInt8} :cvw .str e f true l=some (.str l):=nr rfl
theorem C4q{s:SK}{e:TypeId}{f:TypeId ->SK}{l:List UInt8}(h:s ≠ .str)(h2:f e= .int .u8)(h3:l.length <=maxLen):cvw s (some e) f true l=some (.sl .none (l.map fun c=> .int .u8 c.toNat) []):=by
 simp[cvw,h,h2,h3]
theorem A4k{s t:TypeId}{x:AV}{K:AV ->AS ->Prop}(h:∀ l,x ≠ .str l):cvW P σ s t x K ⟨⟩ ⟨⟩=bo (gA P σ s t x) (fun r=>K r σ) ⟨⟩:=by
 unfold cvW bo
 refine propext ⟨fun h2=> ?_, .inl⟩
 rcases h2 with h2|⟨l,_,rfl,_⟩
 ·exact h2
 ·exact absurd rfl (h l)
theorem D6o{s t:TypeId}{k:IntKind}{n:Int}{K:AV ->AS ->Prop} :cvW P σ s t (.int k n) K ⟨⟩ ⟨⟩=bo (gA P σ s t (.int k n)) (fun r=>K r σ) ⟨⟩:=A4k fun _ h=>by cases h
theorem D6p{s t:TypeId}{K:AV ->AS ->Prop} :cvW P σ s t .nil K ⟨⟩ ⟨⟩=bo (gA P σ s t .nil) (fun r=>K r σ) ⟨⟩:=A4k fun _ h=>by cases h
theorem E2t{s t:TypeId}{g:Gh}{xs sp:List AV}{K:AV ->AS ->Prop} :cvW P σ s t (.sl g xs sp) K ⟨⟩ ⟨⟩=bo (gA P σ s t (.sl g xs sp)) (fun r=>K r σ) ⟨⟩:=A4k fun _ h=>by cases h
theorem E2s{s t E:TypeId}{b n q:Nat}{K:AV ->AS ->Prop} :cvW P σ s t (.bs b n q E) K ⟨⟩ ⟨⟩=bo (gA P σ s t (.bs b n q E)) (fun r=>K r σ) ⟨⟩:=A4k fun _ h=>by cases h
theorem C9j{s t:TypeId}{x:Bool}{K:AV ->AS ->Prop} :cvW P σ s t (.bool x) K ⟨⟩ ⟨⟩=bo (gA P σ s t (.bool x)) (fun r=>K r σ) ⟨⟩:=A4k fun _ h=>by cases h
theorem D6q{s t:TypeId}{l:List UInt8}{K:AV ->AS ->Prop} :cvW P σ s t (.str l) K ⟨⟩ ⟨⟩=cvT (el P t) P σ s t l K ⟨⟩ ⟨⟩:=by
 unfold cvW cvT
 cases he:el P t with
 | none=>
  refine propext ⟨fun h2=> ?_, .inl⟩
  rcases h2 with h2|⟨_,e,_,_,h3,_⟩
  ·exact h2
  ·rw[he]at h3;cases h3
 |some e=>rfl
theorem C9h{s t:TypeId}{l:List UInt8}{K:AV ->AS ->Prop} :cvT none P σ s t l K ⟨⟩ ⟨⟩=bo (gA P σ s t (.str l)) (fun r=>K r σ) ⟨⟩:=nr rfl
theorem E2u{s t:TypeId}{x:AV}{K:AV ->AS ->Prop}{d:Dum σ}{d':Dum K}(h:bo (gA P σ s t x) (fun r=>K r σ) ⟨⟩):cvW P σ s t x K d d':= .inl h
theorem B4h{e s t:TypeId}{l:List UInt8}{K:AV ->AS ->Prop}{d:Dum σ}{d':Dum K}(h:bo (gA P σ s t (.str l)) (fun r=>K r σ) ⟨⟩):cvT (some e) P σ s t l K d d':= .inl h
theorem B7u{s t:TypeId}{k:IntKind}{n:Int} :gA P σ s t (.int k n)=cvk (sk P t) n (P.underlying s).isSome:=by
 show uF P s t (.int k n)=_
 exact B7s
theorem B7w{s t:TypeId}{l:List UInt8} :gA P σ s t (.str l)=cvw (sk P t) (el P t) (sk P) (P.underlying s).isSome l:=by
 show uF P s t (.str l)=_
 exact B7t
def cvb(s:SK)(e:Option TypeId)(f:TypeId ->SK)(xs:List AV):Option AV:=
 if decide (s= .str) && (e.any fun e=>decide (f e= .int .u8))then(iI xs).map .str else none
def cvm(s:SK)(e:Option TypeId)(f:TypeId ->SK)(x:Option (List AV))(n q:Nat):Option AV:=
 if(decide (s= .str) && (e.any fun e=>decide (f e= .int .u8)))=true /\ q=1 then(match x with|some cs=>if cs.length=n then(iI cs).map .str else none|none=>none)else none
theorem B7v{s t:TypeId} :gA P σ s t .nil=cvb (sk P t) (el P s) (sk P) []:=nr rfl
theorem C3p{s t:TypeId}{g:Gh}{xs sp:List AV} :gA P σ s t (.sl g xs sp)=cvb (sk P t) (el P s) (sk P) xs:=nr rfl
theorem C3o{s t E:TypeId}{b n q:Nat} :gA P σ s t (.bs b n q E)=cvm (sk P t) (el P s) (sk P) (σ.box b) n q:=nr rfl
theorem C9k{e:TypeId}{f:TypeId ->SK}{xs:List AV}(h:f e= .int .u8):cvb .str (some e) f xs=(iI xs).map .str:=by simp[cvb,h]
theorem B4i{e:TypeId}{f:TypeId ->SK}{cs:List AV}{n:Nat}(h:f e= .int .u8)(hn:cs.length=n):cvm .str (some e) f (some cs) n 1=(iI cs).map .str:=by simp[cvm,h,hn]
def bdk(p:Option (List (Nat × Nat)))(z:Option (List AV))(ps:List (Nat × AV)):Option AV:=match p,z with|some pl,some z=> (nV (pl[·]?) z ps).map .agg|_,_=>none
theorem C3n{t:TypeId}{ps:List (Nat × AV)} :zS P t ps=bdk (tH P t) (zc P t) ps:=nr rfl
theorem C8o{p:List (Nat × Nat)}{z:List AV}{ps:List (Nat × AV)} :bdk (some p) (some z) ps=(nV (p[·]?) z ps).map .agg:=nr rfl
def flk(f:Nat ->Option (Nat × Nat))(p:Option (Nat × Nat))(cells:List AV)(v:AV)(rest:List (Nat × AV)):Option (List AV):=match p with
 |none=>none
 |some (off,size)=>if isv v=true /\ (flat v).length=size /\ off+size <=cells.length then nV f (cells.take off++flat v++cells.drop (off+size)) rest else none
theorem C3s{f:Nat ->Option (Nat × Nat)}{cells:List AV} :nV f cells []=some cells:=nr rfl
theorem B7x{f:Nat ->Option (Nat × Nat)}{cells:List AV}{i:Nat}{v:AV}{rest:List (Nat × AV)} :nV f cells ((i,v)::rest)=flk f (f i) cells v rest:=by
 conv=>lhs;unfold nV
 unfold flk;cases f i <;>rfl
theorem D0j{f:Nat ->Option (Nat × Nat)}{cells:List AV}{off size:Nat}{v:AV}{rest:List (Nat × AV)} :
  flk f (some (off,size)) cells v rest=if isv v=true /\ (flat v).length=size /\ off+size <=cells.length then nV f (cells.take off++flat v++cells.drop (off+size)) rest else none:=rfl
def bsk(e:Option (TypeId × Nat × Nat))(len:Nat)(ps:List (Nat × AV)):Option AV:=match e with
 |some (_,n,_)=>if ps.map (·.1)=List.range len /\ (ps.map (·.2)).all (fun a=>isv a && decide ((flat a).length=n))=true /\ len*n <=16777216 then some (.sl .full (ps.map (·.2)) [])else none
 |none=>none
theorem gN{t len:Nat}{ps:List (Nat × AV)}{r:AV}(h:bsk (dU P t) len ps=some r):dQ P t len ps=some r:=by
 unfold bsk at h
 cases ha:dU P t with
 |none=>rw[ha]at h;cases h
 | some x=>
  obtain⟨e,n,b⟩:=x
  rw[ha]at h
  simp only at h
  split at h
  ·rename_i hc
   unfold dU at ha
   unfold dQ
   cases he:el P t with
   |none=>rw[he]at ha;cases ha
   | some e'=>
    rw[he]at ha
    simp only at ha ⊢
    cases htk:tk P e' with
    |none=>rw[htk]at ha;cases ha
    | some y=>
     obtain⟨ag,n'⟩:=y
     cases hb:bZ P e' with
     |none=>rw[htk,hb]at ha;cases ha
     | some b'=>
      cases hz:zc P e' with
      |none=>rw[htk,hb,hz]at ha;cases ha
      | some z=>
       rw[htk,hb,hz]at ha
       simp only at ha
       split at ha
       ·rename_i hc2
        simp only[Option.some.injEq,Prod.mk.injEq]at ha
        obtain⟨rfl,rfl,rfl⟩:=ha
        simp only[Option.map_some]
        rw[if_pos ⟨hc.1,hc.2.1,hc.2.2,hc2.1,by rw[hc2.2.2]⟩]
        exact h
       ·cases ha
  ·cases h
theorem wO{m:Bool}{t len:Nat}{ps:List (Nat × AV)}{K:AV ->AS ->Prop}{d:Dum σ}{d2:Dum K}{d':Dum fun r=>K r σ}(h:bo (bsk (dU P t) len ps) (fun r=>K r σ) d'):bmW m P σ t len ps K d d2:=by
 obtain⟨r,h1,h2⟩:=h
 exact .inl ⟨r,gN h1,h2⟩
theorem C3m{d:Nat} :eL none d=some d:=nr rfl
theorem C7t{k:IntKind}{n:Int}{d:Nat} :eL (some (.int k n)) d=if 0 <=n then some n.toNat else none:=nr rfl
def E5j(l h:Option Nat)(s:List UInt8):Option AV:=match l,h with
 |some l,some h=>if l <=h /\ h <=s.length then some (.str ((s.take h).drop l))else none
 |_,_=>none
theorem B8h{t:TypeId}{s:List UInt8}{lo hi:Option AV} :iC P t (.str s) lo hi=if sk P t= .str then E5j (eL lo 0) (eL hi s.length) s else none:=by
 unfold iC oF E5j
 simp only
 by_cases h:sk P t= .str
 ·simp only[if_pos h]
  cases eL lo 0 <;>cases eL hi s.length <;>try rfl
  simp only
  split <;>rfl
 ·simp only[if_neg h];rfl
theorem C6r{l h:Nat}{s:List UInt8} :E5j (some l) (some h) s=if l <=h /\ h <=s.length then some (.str ((s.take h).drop l))else none:=nr rfl
open Classical in
noncomputable def slk(k:Option (Bool × Nat))(l h:Option Nat)(g:Gh)(xs sp:List AV):Option AV:=match k,l,h with
 | some (_,n),some l,some h=>if l <=h /\ h <=xs.length+sp.length /\ (l=0 \/ ∀ a,a ∈ xs++sp -> (flat a).length=n)then
   some (zI (.sl g xs sp) (.sl (mU g l h xs.length) (((xs++sp).take h).drop l) ((xs++sp).drop h)))else none
 |_,_,_=>none
theorem A8r{t:TypeId}{g:Gh}{xs sp:List AV}{lo hi:Option AV} :iC P t (.sl g xs sp) lo hi=slk ((el P t).bind (tk P)) (eL lo 0) (eL hi xs.length) g xs sp:=by
 unfold iC oF slk
 simp only
 cases he:el P t with
 |none=>cases eL lo 0 <;>cases eL hi xs.length <;>rfl
 | some e=>
  cases htk:tk P e with
  |none=>cases eL lo 0 <;>cases eL hi xs.length <;>simp only[Option.bind_some,htk] <;>rfl
  | some x=>
   obtain⟨ag,n⟩:=x
   cases eL lo 0 <;>cases eL hi xs.length <;>simp only[Option.bind_some,htk] <;>try rfl
   split <;>rfl
theorem D3z{ag:Bool}{n l h:Nat}{g:Gh}{xs sp:List AV} :slk (some (ag,n)) (some l) (some h) g xs sp=if l <=h /\ h <=xs.length+sp.length /\ (l=0 \/ ∀ a,a ∈ xs++sp -> (flat a).length=n)then
   some (zI (.sl g xs sp) (.sl (mU g l h xs.length) (((xs++sp).take h).drop l) ((xs++sp).drop h)))else none:=by
 unfold slk;simp only
theorem B0c{ag:Bool}{n l h:Nat}{xs:List AV}(ha:∀ a,a ∈ xs -> (flat a).length=n):slk (some (ag,n)) (some l) (some h) .none xs []=if l <=h /\ h <=xs.length then some (.sl .none ((xs.take h).drop l) [])else none:=by
 rw[D3z]
 simp only[List.append_nil,List.length_nil,Nat.add_zero]
 by_cases h1:l <=h /\ h <=xs.length
 ·rw[if_pos ⟨h1.1,h1.2, .inr ha⟩,if_pos h1];rfl
 ·rw[if_neg h1,if_neg fun h2=>h1 ⟨h2.1,h2.2.1⟩]
theorem E8n{t:TypeId}{s:List UInt8} :jO P .len #[t] [.str s]=if sk P t= .str then some (.int .i64 s.length)else none:=nr rfl
theorem C2h{t:TypeId} :jO P .len #[t] [.nil]=if(el P t).isSome then some (.int .i64 0)else none:=nr rfl
theorem E8k{t:TypeId} :jO P .cap #[t] [.nil]=if(el P t).isSome then some (.int .i64 0)else none:=nr rfl
theorem E4k{t E:TypeId}{b n s:Nat} :jO P .len #[t] [.bs b n s E]=if(el P t).isSome then some (.int .i64 n)else none:=nr rfl
theorem C5n{t:TypeId} :jO P .unsafeSliceData #[t] [.nil]=some .nilptr:=nr rfl
theorem E8o{t E:TypeId}{b n s:Nat} :jO P .unsafeSliceData #[t] [.bs b n s E]=if 0 < n then some (.bp b s E)else none:=nr rfl
theorem B2h{t:TypeId}{g:Gh}{xs sp:List AV} :jO P .len #[t] [.sl g xs sp]=if(el P t).isSome then some (.int .i64 xs.length)else none:=nr rfl
theorem E8l{ts:Array TypeId}{k k':IntKind}{a b:Int} :jO P .max ts [.int k a, .int k' b]=some (.int k (if b >a then b else a)):=by
 unfold jO;split <;>simp_all
theorem E8m{ts:Array TypeId}{k k':IntKind}{a b:Int} :jO P .min ts [.int k a, .int k' b]=some (.int k (if b < a then b else a)):=by
 unfold jO;split <;>simp_all
def stk(k:Option (Bool × Nat))(σ:AS)(c:Option (List AV))(b o:Nat)(x:AV):Option AS:=match k,c with
 |some (_,n),some cs=>if isv x=true /\ (flat x).length=n /\ o+n <=cs.length then some (σ.setBox b (cs.take o++flat x++cs.drop (o+n)))else none
 |_,_=>none
theorem wZ{t:TypeId}{b o:Nat}{x:AV} :kF P σ t (.ptr b o) x=stk (tk P t) σ (σ.box b) b o x:=by
 unfold kF stk
 cases tk P t with
 |none=>rfl
 |some y=>obtain⟨ag,n⟩:=y;simp only;cases σ.box b <;>rfl
theorem D4c{ag:Bool}{n b o:Nat}{cs:List AV}{x:AV} :stk (some (ag,n)) σ (some cs) b o x=if isv x=true /\ (flat x).length=n /\ o+n <=cs.length then some (σ.setBox b (cs.take o++flat x++cs.drop (o+n)))else none:=nr rfl
theorem C6f:lS G e []=[]:=nr rfl
theorem C0i{i:Nat}{x:Operand}{l:List (Nat × Operand)} :lS G e ((i,x)::l)=(i,ev G e x)::lS G e l:=nr rfl
theorem D5q{l:List Oper} :dW l e none=some true:=nr rfl
def awk(v:AV)(want:Bool):Option Bool:=match v with| .bool b=>some (b==want)| .tup []=>some false|_=>none
def awo(t:Option Tmp)(e:bF)(want:Bool):Option Bool:=match t with|some t=>awk (e t) want|none=>none
theorem D5r{l:List Oper}{j:Nat}{want:Bool} :dW l e (some (j,want))=awo ((l[j]?).bind (·.dst)) e want:=by
 unfold dW awo awk
 simp only
 cases(l[j]?).bind (·.dst) <;>rfl
theorem C8m{t:Tmp}{want:Bool} :awo (some t) e want=awk (e t) want:=nr rfl
theorem C8k{want:Bool} :awk (.tup []) want=some false:=nr rfl
theorem C8l{b:Bool} :awk (.bool b) true=some b:=by simp[awk]
theorem C3z{b:Bool} :awk (.bool b) false=some (!b):=by simp[awk]
theorem C8c:sM P e σ []=some []:=nr rfl
theorem C8d{t:Tmp} :sM P e σ [.tmp t]=some [e t]:=nr rfl
theorem C3w{t:Tmp}{ty:TypeId} :sM P e σ [.cell t ty]=(lM P σ ty (e t)).map fun x=> [x]:=by
 unfold sM A8o sM;simp only;cases lM P σ ty (e t) <;>rfl
theorem C8e{t u:Tmp} :sM P e σ [.tmp t, .tmp u]=some [e t,e u]:=nr rfl
end rules
def aB(P:Program)(G:Nat ->AV)(f:FuncId)(args:List AV)(v:AV):Prop:=∀ σ,aJ P G f args σ fun r σ'=>r=v /\ σ'=σ
theorem aB.use{P:Program}{G:Nat ->AV}{f:FuncId}{args:List AV}{v:AV}(h:aB P G f args v){σ:AS}{K:AV ->AS ->Prop}{d:Dum σ}{d':Dum K}(hk:K v σ):C7c P G f args σ K d d':=
 (h σ).mono fun r s ⟨hr,hs⟩=>by subst hr hs;exact hk
theorem aB.pureC{P:Program}{G:Nat ->AV}{f:FuncId}{args:List AV}{v:AV}(h:aB P G f args v)(σ0:AS):eP P G f args σ0 v:=fun σ _=>h σ
theorem aB.head{P:Program}{G:Nat ->AV}{f:FuncId}{args:List AV}{v:AV}(h:aB P G f args v){σ0:AS}{F:AV ->Prop}{d:Dum σ0}{d':Dum F}(hk:F v):B1v P G (.fn f []) args σ0 F d d':=wP (h.pureC σ0) hk
theorem eP.use{P:Program}{G:Nat ->AV}{f:FuncId}{args:List AV}{v:AV}{σ0:AS}(h:eP P G f args σ0 v){σ:AS}(hl:σ0.le σ){K:AV ->AS ->Prop}{d:Dum σ}{d':Dum K}(hk:K v σ):C7c P G f args σ K d d':=
 (h σ hl).mono fun r s ⟨hr,hs⟩=>by subst hr hs;exact hk
theorem eP.mono{P:Program}{G:Nat ->AV}{f:FuncId}{args:List AV}{v:AV}{σ0 σ1:AS}(h:eP P G f args σ0 v)(hl:σ0.le σ1):eP P G f args σ1 v:=fun σ h1=>h σ (hl.trans h1)
theorem eP.head{P:Program}{G:Nat ->AV}{f:FuncId}{args:List AV}{v:AV}{σ0 σ1:AS}(h:eP P G f args σ1 v)(hl:σ1.le σ0){F:AV ->Prop}{d:Dum σ0}{d':Dum F}(hk:F v):B1v P G (.fn f []) args σ0 F d d':=wP (h.mono hl) hk
theorem AS.set_get{σ:AS}{b:Nat}{cs:List AV} :(σ.setBox b cs).box b=some cs:=by simp[AS.setBox]
theorem cV.grown{G:Nat ->AV}{K:bO}{σ:AS}{w w':World}(h:cV G K σ w)(hb:Below w.heap.size w w'):cV G K σ w':=by
 refine⟨fun b o v hv=> ?_,fun b cap s E hr=> ?_,fun b cs hi=> ?_,h.tip,fun b E n ht=> ?_,h.glob,h.below.trans (hb.mono h.bs),Nat.le_trans h.bs hb.size⟩
 ·rw[World.cell?_of_block (w:=w) (hb.block b (h.imm_lt hv))];exact h.imm b o v hv
 ·obtain⟨cur,fz,hc,hs⟩:=h.row b cap s E hr
  exact⟨cur,fz,by rw[hb.block b (h.row_lt hr)];exact hc,hs⟩
 ·obtain⟨h1,h2,h3,h4,h5,c,E,hc,hs,hv⟩:=h.box b cs hi
  exact⟨h1,h2,h3,h4,h5,c,E,by rw[hb.block b (Array.getElem?_eq_some_iff.1 hc).1];exact hc,hs,hv⟩
 ·have h1:=h.ty b E n ht
  exact h1.old (hb.block b h1.lt)
theorem aB.of_calls {P:Program} {G:Nat ->AV} {f:FuncId} {args:List AV} {v:AV} {vals:List Value} {u:Value} (hcl:yJ P f=true) (hargs:∀ K l,qM K args l ->l=vals) (hv:∀ K,VR K v u)
  (h:∀ K σ w,cV G K σ w ->Calls P f vals.toArray w fun e w'=>e= .returned u /\ Below w.heap.size w w'):aB P G f args v:=by
 intro σ
 refine⟨hcl,fun K w l hr hl=> ?_⟩
 have:=hargs K l hl
 subst this
 refine(h K σ w hr).mono fun e w' ⟨he,hb⟩=> ⟨u,v,σ,K,he,⟨rfl,rfl⟩,hv K,hr.grown hb,bO.le.refl K⟩
end Go.Av
namespace Go.Av
open Go Go.RowKit
def Le(a b:AV):Prop:=∀ (K:bO) (v:Value),VR K a v ->VR K b v
inductive xZ:List AV ->List AV ->Prop
 |nil:xZ [] []
 |cons {a b:AV} {l r:List AV} (h:Le a b) (t:xZ l r):xZ (a::l) (b::r)
theorem Le.refl(a:AV):Le a a:=fun _ _ h=>h
theorem Le.trans{a b c:AV}(h:Le a b)(k:Le b c):Le a c:=fun K v x=>k K v (h K v x)
theorem xZ.refl:∀ (l:List AV),xZ l l
 |[]=> .nil
 |a::l=> .cons (Le.refl a) (xZ.refl l)
theorem xZ.length{l r:List AV}(h:xZ l r):l.length=r.length:=by
 induction h with
 |nil=>rfl
 |cons _ _ ih=>simp[ih]
theorem xZ.get{l r:List AV}(h:xZ l r):∀ (j:Nat) (hj:j < l.length) (hj':j < r.length),Le l[j] r[j]:=by
 induction h with
 |nil=>intro j hj;cases hj
 | cons h _ ih=>
  intro j hj hj'
  cases j with
  |zero=>exact h
  |succ j=>exact ih j (by simpa using hj) (by simpa using hj')
theorem xZ.append{l r l' r':List AV}(h:xZ l r)(k:xZ l' r'):xZ (l++l') (r++r'):=by
 induction h with
 |nil=>exact k
 |cons h _ ih=>exact .cons h ih
theorem qM.le{K:bO} :∀ {l r:List AV} {vs:List Value},xZ l r ->qM K l vs ->qM K r vs
 |[],_,vs, .nil,h=>h
 |a::l,_,[], .cons _ _,h=>h.elim
 |a::l,_,v::vs, .cons h t,⟨h1,h2⟩=> ⟨h K v h1,qM.le t h2⟩
theorem aJ.weaken{P:Program}{G:Nat ->AV}{f:FuncId}{args args':List AV}{σ:AS}{Q:AV ->AS ->Prop}(hl:xZ args args')(h:aJ P G f args' σ Q):aJ P G f args σ Q:=
 ⟨h.1,fun K w vals hr hv=>h.2 K w vals hr (hv.le hl)⟩
theorem aJ.tell{P:Program}{G:Nat ->AV}{f:FuncId}{args:List AV}{σ:AS}{Q Q':AV ->AS ->Prop}(h:aJ P G f args σ Q)(hq:∀ r s,Q r s ->∃ r',Le r r' /\ Q' r' s):aJ P G f args σ Q':=
 ⟨h.1,fun K w vals hr hv=> (h.2 K w vals hr hv).mono fun e w' ⟨v,r,σ',K',he,hQ,h1,h2⟩=>by
   obtain⟨r',hle,hq'⟩:=hq r σ' hQ
   exact⟨v,r',σ',K',he,hq',hle K' v h1,h2⟩⟩
theorem Le.nil:Le .nil (.sl .none [] []):=fun K v h=>by rw[VR.nil_iff]at h;subst h;exact .sl0 none
theorem Le.agg{cs ds:List AV}(h:xZ cs ds)(h1:∀ d,d ∈ ds ->one d=true):Le (.agg cs) (.agg ds):=fun K v hv=>by
 cases hv with
 | agg _ vs hl g1 hvv=>
  have hlen:=h.length
  exact .agg ds vs (by omega) h1 fun j hj=>h.get j (by omega) hj K _ (hvv j (by omega))
theorem Le.tup{cs ds:List AV}(h:xZ cs ds):Le (.tup cs) (.tup ds):=fun K v hv=>by
 cases hv with
 | tup _ vs hl hvv=>
  have hlen:=h.length
  exact .tup ds vs (by omega) fun j hj=>h.get j (by omega) hj K _ (hvv j (by omega))
structure LeE(a b:AV):Prop where
 cells:xZ (flat a) (flat b)
 isv:isv b=true
 one:∀ c,c ∈ flat b ->one c=true
inductive uA:List AV ->List AV ->Prop
 |nil:uA [] []
 |cons {a b:AV} {l r:List AV} (h:LeE a b) (t:uA l r):uA (a::l) (b::r)
theorem uA.length{l r:List AV}(h:uA l r):l.length=r.length:=by
 induction h with
 |nil=>rfl
 |cons _ _ ih=>simp[ih]
theorem uA.flat{l r:List AV}(h:uA l r):xZ (l.flatMap flat) (r.flatMap flat):=by
 induction h with
 |nil=>exact .nil
 |cons h _ ih=>rw[List.flatMap_cons,List.flatMap_cons];exact h.cells.append ih
theorem uA.ok{l r:List AV}(h:uA l r){n:Nat}(hn:∀ a,a ∈ l -> (Av.flat a).length=n):∀ b,b ∈ r -> (Av.flat b).length=n /\ Av.isv b=true /\ ∀ c,c ∈ Av.flat b ->Av.one c=true:=by
 induction h with
 |nil=>intro b hb;cases hb
 | cons h _ ih=>
  intro b hb
  rcases List.mem_cons.1 hb with rfl|hb
  ·exact⟨by rw[<- h.cells.length];exact hn _ (by simp),h.isv,h.one⟩
  ·exact ih (fun a ha=>hn a (by simp[ha])) b hb
theorem Le.sl{g:Gh}{xs ys sp:List AV}(h:uA xs ys):Le (.sl g xs sp) (.sl .none ys []):=fun K v hv=>by
 have hlen:=h.length
 cases hv with
 |sl0 a=>cases h;exact .sl0 a
 | sl _ _ _ sz b off cap f hsz hcap hml himm hvv hg=>
  have hle:(xs.flatMap Av.flat).length <=((xs++sp).flatMap Av.flat).length:=by simp
  have hf:=h.flat
  have hfl:=hf.length
  have :=VR.sl (K:=K) .none ys [] sz b off cap f (fun e he=>h.ok (fun a ha=> (hsz a (List.mem_append_left _ ha)).1) e (by simpa using he)) (by simp;omega) hml
   (fun j hj=>himm j (by simp only[List.append_nil]at hj;omega))
   (fun j hj=>by
     simp only[List.append_nil]at hj ⊢
     have h1:=hvv j (by omega)
     have e1:((xs++sp).flatMap Av.flat)[j]'(by omega)=(xs.flatMap Av.flat)[j]'(by omega):=by
      simp only[List.flatMap_append];rw[List.getElem_append_left (by omega)]
     rw[e1]at h1
     exact hf.get j (by omega) hj K _ h1) trivial
  rw[hlen]
  exact this
theorem LeE.of{a b:AV}(h:Le a b)(h0:flat a=[a])(h1:flat b=[b])(hb:Av.one b=true):LeE a b:=
 ⟨by rw[h0,h1];exact .cons h .nil,by cases b <;>first|exact hb|rfl,fun c hc=>by rw[h1]at hc;simp at hc;subst hc;exact hb⟩
theorem LeE.agg{cs ds:List AV}(h:xZ cs ds)(h1:∀ d,d ∈ ds ->Av.one d=true):LeE (.agg cs) (.agg ds):=⟨h,rfl,h1⟩
theorem uA.map{α:Type}{f g:α ->AV} :∀ (l:List α),(∀ x,x ∈ l ->LeE (f x) (g x)) ->uA (l.map f) (l.map g)
 |[],_=> .nil
 |x::l,h=> .cons (h x (by simp)) (uA.map l fun y hy=>h y (by simp[hy]))
end Go.Av
namespace Go.Av
open Go Go.RowKit
theorem aB.of_le{P:Program}{G:Nat ->AV}{f:FuncId}{args:List AV}{v:AV}(h:∀ σ,aJ P G f args σ fun r σ'=>Le r v /\ σ'=σ):aB P G f args v:=
 fun σ=>aJ.tell (h σ) fun r s ⟨h1,h2⟩=> ⟨v,h1,rfl,h2⟩
theorem aL{r v:AV}{σ σ':AS}{d:Dum σ}{d':Dum fun x s=>Le x v /\ s=σ'}(h2:Le r v)(h1:σ'.le σ):wA (some [r]) σ (fun x s=>Le x v /\ s=σ') d d':=⟨[r],σ',rfl,h1,h2,rfl⟩
theorem aB.lessArgs{P:Program}{G:Nat ->AV}{f:FuncId}{args args':List AV}{v:AV}(h:aB P G f args' v)(hl:xZ args args'):aB P G f args v:=fun σ=>aJ.weaken hl (h σ)
theorem aB.tellLess{P:Program}{G:Nat ->AV}{f:FuncId}{args:List AV}{v v':AV}(h:aB P G f args v)(hl:Le v v'):aB P G f args v':=
 aB.of_le fun σ=> (h σ).mono fun r s ⟨hr,hs⟩=> ⟨hr ▸ hl,hs⟩
theorem Le.gh{g:Gh}{xs sp:List AV} :Le (.sl g xs sp) (.sl .none xs sp):=fun K v h=>by
 cases h with
 |sl0 a=>exact .sl0 a
 |sl _ _ _ sz b off cap f hsz hcap hml himm hvv hg=>exact .sl .none xs sp sz b off cap f hsz hcap hml himm hvv trivial
theorem Le.spare{g:Gh}{xs sp:List AV} :Le (.sl g xs sp) (.sl .none xs []):=Le.trans Le.gh (fun K v h=>h.spareless)
inductive kL(n:Nat)(σ0 σ:AS):AV ->List AV ->Prop
 |nil (h:σ0.le σ):kL n σ0 σ .nil []
 |own (b:Nat) (xs:List AV) (h:σ0.le σ) (h0:σ0.tip b=none) (ht:σ.tip b=some (xs.length,n)) (hx:∀ a,a ∈ xs -> (flat a).length=n):kL n σ0 σ (.sl (.own b) xs []) xs
theorem kL.le{n:Nat}{σ0 σ:AS}{v:AV}{xs:List AV}(h:kL n σ0 σ v xs):σ0.le σ:=by cases h <;>assumption
theorem kL.told{n:Nat}{σ0 σ:AS}{v:AV}{xs:List AV}(h:kL n σ0 σ v xs):Le v (.sl .none xs []):=by
 cases h with
 |nil _=>exact Le.nil
 |own b xs _ _ _ _=>exact Le.gh
theorem kL.setBox{n:Nat}{σ0 σ:AS}{v:AV}{xs:List AV}(h:kL n σ0 σ v xs){c:Nat}(hc:σ0.box c=none)(cs:List AV):kL n σ0 (σ.setBox c cs) v xs:=by
 cases h with
 |nil h=>exact .nil (h.setBox hc cs)
 |own b xs h h0 ht hx=>exact .own b xs (h.setBox hc cs) h0 ht hx
theorem kL.newBox{n:Nat}{σ0 σ:AS}{v:AV}{xs:List AV}(h:kL n σ0 σ v xs){c:Nat}(hc:σ.fresh c)(cs:List AV):kL n σ0 (σ.setBox c cs) v xs:=h.setBox (h.le.fresh hc).1 cs
theorem kL.isNil{n:Nat}{σ0 σ:AS}{v:AV}{xs:List AV}(h:kL n σ0 σ v xs):(xs=[] /\ v= .nil) \/ ∃ b,v= .sl (.own b) xs []:=by
 cases h with
 |nil _=>exact .inl ⟨rfl,rfl⟩
 |own b xs _ _ _ _=>exact .inr ⟨b,rfl⟩
theorem kL.len{P:Program}{n:Nat}{σ0 σ:AS}{v:AV}{xs:List AV}(h:kL n σ0 σ v xs){t:TypeId} :jO P .len #[t] [v]=if(el P t).isSome then some (.int .i64 xs.length)else none:=by
 cases h with
 |nil _=>rw[C2h];rfl
 |own b xs _ _ _ _=>rw[B2h]
theorem kL.isv{n:Nat}{σ0 σ:AS}{v:AV}{xs:List AV}(h:kL n σ0 σ v xs):isv v=true:=by cases h <;>rfl
theorem kL.flat{n:Nat}{σ0 σ:AS}{v:AV}{xs:List AV}(h:kL n σ0 σ v xs):flat v=[v]:=by cases h <;>rfl
theorem iH {P:Program} {n bZ:Nat} {σ0 σ:AS} {v x:AV} {xs ys:List AV} {t tx e:TypeId} {K:AV ->AS ->Prop} {d:Dum σ} {d':Dum K} (hB:kL n σ0 σ v xs) (he:dU P t=some (e,n,bZ)) (hs:lJ P tx x=some ys)
  (hys:∀ a,a ∈ ys -> (Av.flat a).length=n) (hb:(xs.length+ys.length)*bZ <=140737488355328) (hK:∀ v' σ',kL n σ0 σ' v' (xs++ys) ->σ'.box=σ.box ->K v' σ'):B0y P σ t tx v x K d d':=by
 refine .inl ?_
 unfold mS
 rw[he,hs]
 refine⟨hys,?_⟩
 cases hB with
 | nil h=>
  refine⟨by simpa using hb,fun hy=> ?_,fun hy b hf=> ?_⟩
  ·subst hy;exact hK _ _ (.nil h) rfl
  ·have hf0:=h.fresh hf
   refine hK _ _ ?_ rfl
   rw[List.nil_append]
   exact .own b ys (h.setTip hf0.2.1 _) hf0.2.1 (by simp[AS.setTip]) hys
 | own b xs h h0 ht hx=>
  refine⟨ht,hx,hb,fun b' hb'=> ?_⟩
  have h0':σ0.tip b'=none:=by
   rcases hb' with rfl|hf
   ·exact h0
   ·exact(h.fresh hf).2.1
  refine hK _ _ ?_ rfl
  refine .own b' (xs++ys) ((h.delTip h0).setTip h0' _) h0' (by simp[AS.setTip]) fun a ha=> ?_
  rcases List.mem_append.1 ha with ha|ha
  ·exact hx a ha
  ·exact hys a ha
theorem A3u {P:Program} {n bZ:Nat} {σ0 σ:AS} {x:AV} {xs ys:List AV} {t tx e:TypeId} {K:AV ->AS ->Prop} {d:Dum σ} {d':Dum K} (hle:σ0.le σ) (hxs:∀ a,a ∈ xs -> (Av.flat a).length=n) (he:dU P t=some (e,n,bZ)) (hs:lJ P tx x=some ys)
  (hys:∀ a,a ∈ ys -> (Av.flat a).length=n) (hb:(xs.length+ys.length)*bZ <=140737488355328) (hK1:ys=[] ->K (.sl .full xs []) σ) (hK:∀ v' σ',kL n σ0 σ' v' (xs++ys) ->σ'.box=σ.box ->K v' σ'):B0y P σ t tx (.sl .full xs []) x K d d':=by
 refine .inl ?_
 unfold mS
 rw[he,hs]
 refine⟨hys,hxs,hb,hK1,fun hy b hf=> ?_⟩
 have hf0:=hle.fresh hf
 refine hK _ _ ?_ rfl
 refine .own b (xs++ys) (hle.setTip hf0.2.1 _) hf0.2.1 (by simp[AS.setTip]) fun a ha=> ?_
 rcases List.mem_append.1 ha with ha|ha
 ·exact hxs a ha
 ·exact hys a ha
theorem bJ{P:Program}{t e:TypeId}{g:Gh}{xs sp:List AV}(h:el P t=some e):lJ P t (.sl g xs sp)=some xs:=by simp[lJ,h]
theorem C8g{P:Program}{t:TypeId}{s:List UInt8}(h:sk P t= .str):lJ P t (.str s)=some (s.map fun c=> .int .u8 c.toNat):=by simp[lJ,h]
theorem eS {P:Program} {n bZ:Nat} {σ0 σ:AS} {t e:TypeId} {k k':IntKind} {c:Int} {K:AV ->AS ->Prop} {d:Dum σ} {d':Dum K} (he:dU P t=some (e,n,bZ)) (h0:0 <=c) (hc:c*bZ <=140737488355328) (hle:σ0.le σ)
  (hK:∀ v σ',kL n σ0 σ' v [] ->σ'.box=σ.box ->K v σ'):B5c P σ t (.int k 0) (.int k' c) K d d':=by
 refine .inl ?_
 unfold A8m
 rw[he]
 refine⟨rfl,h0,hc,fun b hf=> ?_⟩
 have hf0:=hle.fresh hf
 exact hK _ _ (.own b [] (hle.setTip hf0.2.1 _) hf0.2.1 (by simp[AS.setTip]) (fun a ha=>by cases ha)) rfl
theorem A9s {P:Program} {t e:TypeId} {ag:Bool} {n l h:Nat} {g:Gh} {xs sp:List AV} {lo hi:Option AV} {K:AV ->Prop} {d:Dum K} (he:el P t=some e) (hn:tk P e=some (ag,n)) (h1:eL lo 0=some l) (h2:eL hi xs.length=some h)
  (hl:l <=h) (hh:h <=xs.length+sp.length) (hx:∀ a,a ∈ xs++sp -> (Av.flat a).length=n) (hK:∀ g',K (zI (.sl g xs sp) (.sl g' (((xs++sp).take h).drop l) ((xs++sp).drop h)))):bo (iC P t (.sl g xs sp) lo hi) K d:=by
 refine⟨zI (.sl g xs sp) (.sl (mU g l h xs.length) (((xs++sp).take h).drop l) ((xs++sp).drop h)),?_,hK _⟩
 unfold iC oF
 simp only[he,h1,h2,hn]
 rw[if_pos ⟨hl,hh, .inr hx⟩]
 rfl
theorem eK{P:Program}{m:Bool}{σ:AS}{t e:TypeId}{n bZ:Nat}{a:AV}{K:AV ->AS ->Prop}{d:Dum σ}{d':Dum K}(he:dU P t=some (e,n,bZ))(hi:isv a=true)(hf:(Av.flat a).length=n)(hn:n <=16777216)(hK:K (.sl .full [a] []) σ):bmW m P σ t 1 [(0,a)] K d d':=by
 refine .inl ⟨_,gN (r:= .sl .full [a] []) ?_,hK⟩
 unfold bsk
 rw[he]
 simp[List.range_succ,hi,hf,hn]
theorem B8n{P:Program}{m:Bool}{σ:AS}{t e:TypeId}{n bZ:Nat}{K:AV ->AS ->Prop}{d:Dum σ}{d':Dum K}(he:dU P t=some (e,n,bZ))(hK:K (.sl .full [] []) σ):bmW m P σ t 0 [] K d d':=by
 refine .inl ⟨_,gN (r:= .sl .full [] []) ?_,hK⟩
 unfold bsk
 rw[he]
 simp
theorem C1q{P:Program}{t e:TypeId}{n b:Nat}(h:dU P t=some (e,n,b)):el P t=some e /\ ∃ ag,(el P t).bind (tk P)=some (ag,n):=by
 unfold dU at h
 split at h
 case h_2=>cases h
 rename_i e' he
 split at h
 case h_2=>cases h
 rename_i ag n' b' z hn hb hz
 split at h
 case isFalse=>cases h
 simp only[Option.some.injEq,Prod.mk.injEq]at h
 obtain⟨rfl,rfl,rfl⟩:=h
 exact⟨he,ag,by rw[he,Option.bind_some,hn]⟩
theorem A4b{P:Program}{σ:AS}{t e:TypeId}{n bZ:Nat}{a:AV}{K:AV ->AS ->Prop}{d:Dum σ}{d':Dum K}(he:dU P t=some (e,n,bZ))(hi:isv a=true)(hf:(Av.flat a).length=n)(hn:n <=16777216)(hK:∀ b,σ.fresh b ->K (.bs b 1 n e) (σ.setBox b (Av.flat a))):bmW true P σ t 1 [(0,a)] K d d':=by
 refine .inr ⟨rfl,?_⟩
 have h1:dQ P t 1 [(0,a)]=some (.sl .full [a] []):=by
  refine gN ?_
  unfold bsk
  rw[he]
  simp[List.range_succ,hi,hf,hn]
 obtain⟨h2,ag,h3⟩:=C1q he
 unfold sI
 rw[h1,h3,h2]
 simpa using hK
def gH(o:Oper):Bool:=match o.op with| .store .. =>true| .makeSlice .. =>true| .call ⟨.builtin .append,_,_⟩=>true| .call ⟨.builtin .unsafeString,_,_⟩=>true|_=>false
def kJ:List Oper ->Nat
 |[]=>0
 |o::r=>if gH o=true then 0 else kJ r+1
def htW(w:Bool)(A B:Prop)(_:Dum A)(_:Dum B):Prop:=(w=true ->A) /\ (w=false ->B)
def wN(P:Program)(G:Nat ->AV)(ops:List Oper)(σ0:AS)(R:bF ->AS ->Prop):List Oper ->bF ->AS ->Prop
 |[],e,σ=>R e σ
 | o::rest,e,σ=>htW (gH o) (dX P G ops R (o::rest) e σ)
   (gW (dW ops e o.guard) (hop P G o e σ0 σ fun r σ'=>wN P G ops σ0 R rest (e.upd o.dst r) σ') (wN P G ops σ0 R rest (e.upd o.dst (.tup [])) σ) ⟨⟩ ⟨⟩) ⟨⟩ ⟨⟩
theorem D1g{A B:Prop}{d:Dum A}{d':Dum B} :htW true A B d d'=A:=by simp[htW]
theorem C5h{A B:Prop}{d:Dum A}{d':Dum B} :htW false A B d d'=B:=by simp[htW]
section ht
variable {P:Program} {G:Nat ->AV} {ops rest:List Oper} {σ0 σ:AS} {R:bF ->AS ->Prop} {e:bF} {d:Option Tmp} {ty:TypeId} {pos:String} {af:Array Edge} {g:Option (Nat × Bool)}
theorem E3y:wN P G ops σ0 R [] e σ=R e σ:=nr rfl
theorem D8c{o:Oper} :wN P G ops σ0 R (o::rest) e σ=htW (gH o) (dX P G ops R (o::rest) e σ)
   (gW (dW ops e o.guard) (hop P G o e σ0 σ fun r σ'=>wN P G ops σ0 R rest (e.upd o.dst r) σ') (wN P G ops σ0 R rest (e.upd o.dst (.tup [])) σ) ⟨⟩ ⟨⟩) ⟨⟩ ⟨⟩:=nr rfl
theorem D8l{x:Operand} :gH ⟨d, .move x,ty,pos,af,g⟩=false:=nr rfl
theorem C5l{x:Operand} :gH ⟨d, .assign x,ty,pos,af,g⟩=false:=nr rfl
theorem D8m{a b c:Operand} :gH ⟨d, .pick a b c,ty,pos,af,g⟩=false:=nr rfl
theorem D1l{E:TypeId} :gH ⟨d, .alloc E,ty,pos,af,g⟩=false:=nr rfl
theorem E4e{E:TypeId}{x:Operand} :gH ⟨d, .box E x,ty,pos,af,g⟩=false:=nr rfl
theorem D1n{t:TypeId}{ps:Array (Nat × Operand)} :gH ⟨d, .build t ps,ty,pos,af,g⟩=false:=nr rfl
theorem A7w{t n:Nat}{ps:Array (Nat × Operand)} :gH ⟨d, .buildSlice t n ps,ty,pos,af,g⟩=false:=nr rfl
theorem D8k{t:TypeId}{x:Operand} :gH ⟨d, .load t x,ty,pos,af,g⟩=false:=nr rfl
theorem B4x{x:Operand} :gH ⟨d, .nilCheck x,ty,pos,af,g⟩=false:=nr rfl
theorem D1m{op:BinOp}{t yt:TypeId}{x y:Operand} :gH ⟨d, .binOp op t x y yt,ty,pos,af,g⟩=false:=nr rfl
theorem D8n{op:UnOp}{t:TypeId}{x:Operand} :gH ⟨d, .unOp op t x,ty,pos,af,g⟩=false:=nr rfl
theorem B9u{s t:TypeId}{x:Operand} :gH ⟨d, .convert s t x,ty,pos,af,g⟩=false:=nr rfl
theorem B4w{f:FuncId}{caps:Array Operand} :gH ⟨d, .makeFunc (.func f) #[] caps,ty,pos,af,g⟩=false:=nr rfl
theorem D1q{t:TypeId}{x:Operand}{lo hi:Option Operand} :gH ⟨d, .slice t x lo hi none,ty,pos,af,g⟩=false:=nr rfl
theorem B2e{t:TypeId}{x:Operand}{i:Nat} :gH ⟨d, .fieldAddr t x i,ty,pos,af,g⟩=false:=nr rfl
theorem D1o{t:TypeId}{x:Operand}{i:Nat} :gH ⟨d, .field t x i,ty,pos,af,g⟩=false:=nr rfl
theorem B2f{t:TypeId}{x i:Operand} :gH ⟨d, .indexAddr t x i,ty,pos,af,g⟩=false:=nr rfl
theorem D1p{t:TypeId}{x i:Operand} :gH ⟨d, .index t x i,ty,pos,af,g⟩=false:=nr rfl
theorem B9v{x:Operand}{i:Nat} :gH ⟨d, .extract x i,ty,pos,af,g⟩=false:=nr rfl
theorem D8j{f:Operand}{args:Array Operand}{ts:Array TypeId} :gH ⟨d, .call ⟨.value f,args,ts⟩,ty,pos,af,g⟩=false:=nr rfl
theorem E4g{args:Array Operand}{ts:Array TypeId} :gH ⟨d, .call ⟨.builtin .len,args,ts⟩,ty,pos,af,g⟩=false:=nr rfl
theorem E4f{args:Array Operand}{ts:Array TypeId} :gH ⟨d, .call ⟨.builtin .cap,args,ts⟩,ty,pos,af,g⟩=false:=nr rfl
theorem E4j{args:Array Operand}{ts:Array TypeId} :gH ⟨d, .call ⟨.builtin .unsafeSliceData,args,ts⟩,ty,pos,af,g⟩=false:=nr rfl
theorem D8o{args:Array Operand}{ts:Array TypeId} :gH ⟨d, .call ⟨.builtin .unsafeString,args,ts⟩,ty,pos,af,g⟩=true:=nr rfl
theorem E4h{args:Array Operand}{ts:Array TypeId} :gH ⟨d, .call ⟨.builtin .max,args,ts⟩,ty,pos,af,g⟩=false:=nr rfl
theorem E4i{args:Array Operand}{ts:Array TypeId} :gH ⟨d, .call ⟨.builtin .min,args,ts⟩,ty,pos,af,g⟩=false:=nr rfl
theorem D1r{t:TypeId}{p x:Operand} :gH ⟨d, .store t p x,ty,pos,af,g⟩=true:=nr rfl
theorem C5k{args:Array Operand}{ts:Array TypeId} :gH ⟨d, .call ⟨.builtin .append,args,ts⟩,ty,pos,af,g⟩=true:=nr rfl
theorem B2g{t:TypeId}{x y:Operand} :gH ⟨d, .makeSlice t x y,ty,pos,af,g⟩=true:=nr rfl
theorem A2v:∀ (l:List Oper) (e:bF) (σ:AS),wN P G ops σ0 R l e σ ->oH P G ops σ0 (fun e' σ'=>dX P G ops R (l.drop (kJ l)) e' σ') (l.take (kJ l)) e σ
 |[],e,σ,h=>h
 | o::rest,e,σ,h=>by
  unfold wN htW at h
  unfold kJ
  cases hw:gH o with
  | true=>
   simp only[if_true]
   exact h.1 hw
  | false=>
   simp only[Bool.false_eq_true,if_false]
   obtain⟨b,hb,h1,h2⟩:=h.2 hw
   have hl:(o::rest).take (kJ rest+1)=o::rest.take (kJ rest):=rfl
   have hd:(o::rest).drop (kJ rest+1)=rest.drop (kJ rest):=rfl
   rw[hl,hd]
   exact⟨b,hb,fun x=>yR (fun r s hh=>A2v rest _ _ hh) (h1 x),fun x=>A2v rest _ _ (h2 x)⟩
end ht
theorem A4m {P:Program} {G:Nat ->AV} {l:List Oper} {R:bF ->AS ->Prop} {e:bF} {σ:AS} {d:Dum l.toArray} {d':Dum R} {d2:Dum e} {d3:Dum σ} (hn:A1u l.toArray (kJ l)=true)
  (h:wN P G l σ R l e σ):tP P G l.toArray R e σ d d' d2 d3:= .inl ⟨[],kJ l,σ,[],rfl,hn,AS.le.refl σ,fun c hc=> (by cases hc),rL _ _ _ _ (A2v l e σ h)⟩
theorem B8y {P:Program} {G:Nat ->AV} {l:List Oper} {R:bF ->AS ->Prop} {e:bF} {σ:AS} {d:Dum l.toArray} {d':Dum R} {d2:Dum e} {d3:Dum σ} (fs:List (Nat × Nat)) (hf:yO l.toArray fs=true) (hn:A1u (edged l.toArray fs) (kJ l)=true)
  (h:wN P G l σ R l e σ):tP P G l.toArray R e σ d d' d2 d3:= .inl ⟨fs,kJ l,σ,[],hf,hn,AS.le.refl σ,fun c hc=> (by cases hc),rL _ _ _ _ (A2v l e σ h)⟩
theorem aD {P:Program} (hm:P.follows .mixedOrders=true) {G:Nat ->AV} {c:Code} {Q:Exit ->bF ->AS ->Prop} {e:bF} {σ:AS} {d:Dum c} {d':Dum Q} {d2:Dum e} {d3:Dum σ} (I:Nat ->bF ->Prop) (n:Nat) (h0:I n e)
  (h1:∀ n v,I n (mrg (cY c) v e) ->xA P G (kZ P G) c (fun x e' σ'=>match x with| .normal=> (∃ m,m < n /\ I m e') /\ σ'=σ|x=>Q x e' σ') (mrg (cY c) v e) σ):D2g P G c Q e σ d d' d2 d3:=
 aI (fun n e σ'=>I n e /\ σ'=σ) n ⟨h0,rfl⟩ fun n v σ' ⟨hI,hs⟩=>by
  subst hs
  refine pG (B1o hm) _ _ _ (fun x e s hx=> ?_) (h1 n v hI)
  cases x with
  |normal=>obtain⟨⟨m,h1,h2⟩,h3⟩:=hx;exact⟨m,h1,h2,h3⟩
  |_=>exact hx
end Go.Av
