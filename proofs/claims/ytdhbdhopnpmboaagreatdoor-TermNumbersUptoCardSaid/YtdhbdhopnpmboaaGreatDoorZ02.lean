/- What a call is said to do, on abstract values; one operation; a row of operations. -/
import Derived.Test.YtdhbdhopnpmboaaGreatDoorZ01
import Derived.Orders
set_option linter.unusedVariables false
set_option linter.unusedSimpArgs false
namespace Go.Av
open Go Go.RowKit
def yJ(P:Program)(k:FuncId):Bool:=
 match P.funcs[k]? with
 |some fn=> !(fn.name== "runtime.NumGoroutine") && fn.body.isSome
 |none=>false
def aJ(P:Program)(G:Nat ->AV)(f:FuncId)(args:List AV)(σ:AS)(Q:AV ->AS ->Prop):Prop:=
 yJ P f=true /\ ∀ (K:bO) (w:World) (vals:List Value),cV G K σ w ->qM K args vals ->
  Calls P f vals.toArray w fun e w'=>∃ v r σ' K',e= .returned v /\ Q r σ' /\ VR K' r v /\ cV G K' σ' w' /\ K.le K'
theorem aJ.mono{P:Program}{G:Nat ->AV}{f:FuncId}{args:List AV}{σ:AS}{Q Q':AV ->AS ->Prop}(h:aJ P G f args σ Q)(hq:∀ r σ',Q r σ' ->Q' r σ'):aJ P G f args σ Q':=
 ⟨h.1,fun K w vals hr hv=> (h.2 K w vals hr hv).mono fun e w' ⟨v,r,σ',K',he,hQ,h1⟩=> ⟨v,r,σ',K',he,hq _ _ hQ,h1⟩⟩
def lS(G:Nat ->AV)(e:bF)(ps:List (Nat × Operand)):List (Nat × AV):=ps.map fun p=> (p.1,ev G e p.2)
def A1k(P:Program)(G:Nat ->AV)(e:bF)(σ:AS)(Kc:AV ->AS ->Prop)(c:Callee)(args:List Operand)(ts:List TypeId):Prop:=
 match c with
 | .value f=> (match ev G e f with
   | .fn k caps=>aJ P G k (args.map (ev G e)++caps) σ Kc
   |_=>False)
 | .builtin b=>if b= .append then(match args,ts with
   |[s,x],[t,tx]=>mS P σ t tx (ev G e s) (ev G e x) Kc \/ uD P σ t tx (ev G e s) (ev G e x) Kc
   |_,_=>False)
  else if b= .unsafeString then(match args,ts with
   |[x,n],[pt,it]=>A1n P σ pt (ev G e x) (ev G e n) Kc
   |_,_=>False)
  else ∃ r,jO P b ts.toArray (args.map (ev G e))=some r /\ Kc r σ
 | .invoke _ _=>False
noncomputable def sN(P:Program)(σ:AS)(t:TypeId)(x:AV)(lo hi:Option AV):Option AV:=
 match x with
 | .bs b n s E=>match el P t,eL lo 0,eL hi n,σ.box b with
  |some e,some l,some h,some cs=>if l=0 /\ 0 < s /\ h*s <=cs.length /\ (tk P e).isSome then some (.bs b h s E)else none
  |_,_,_,_=>none
 |_=>none
noncomputable def lN(P:Program)(σ:AS)(t:TypeId)(x:AV)(lo hi:Option AV):Option AV:=
 match iC P t x lo hi with
 |some r=>some r
 |none=>sN P σ t x lo hi
theorem B1a{P:Program}{σ0 σ:AS}(hl:σ0.le σ){t:TypeId}{x r:AV}{lo hi:Option AV}(h:sN P σ0 t x lo hi=some r):sN P σ t x lo hi=some r:=by
 unfold sN at h ⊢
 split at h
 ·split at h
  ·rename_i e l hh cs he hl0 hhh hcs
   rw[he,hl0,hhh,hl.box _ _ hcs];exact h
  ·cases h
 ·cases h
theorem B1b{P:Program}{σ0 σ:AS}(hl:σ0.le σ){t:TypeId}{x r:AV}{lo hi:Option AV}(h:lN P σ0 t x lo hi=some r):lN P σ t x lo hi=some r:=by
 unfold lN at h ⊢
 split at h
 ·exact h
 ·exact B1a hl h
theorem A7c {P:Program} {G:Nat ->AV} {K:bO} {σ:AS} {w:World} (hr:cV G K σ w) {t:TypeId} {x r:AV} {lo hi:Option AV} (h:lN P σ t x lo hi=some r) {v:Value} (hv:VR K x v)
  {vlo vhi:Option Value} (hvl:∀ a,lo=some a ->∃ v,vlo=some v /\ VR K a v) (hvln:lo=none ->vlo=none) (hvh:∀ a,hi=some a ->∃ v,vhi=some v /\ VR K a v) (hvhn:hi=none ->vhi=none):
  ∃ z,(Instr.sliceAt t v vlo vhi none).run P w= .ok z w /\ VR K r z:=by
 unfold lN at h
 split at h
 ·rename_i y hy
  cases h
  exact B1c hy hv hvl hvln hvh hvhn
 ·unfold sN at h
  cases x with
  | bs b n s E0=>
   simp only at h
   split at h
   ·rename_i e l hh cs he hl hhh hcs
    split at h
    ·rename_i hc
     simp only[Option.some.injEq]at h;subst h
     obtain⟨rfl,hs0,hc2,hc3⟩:=hc
     obtain⟨x,hx⟩:=Option.isSome_iff_exists.1 hc3
     obtain⟨_,hsz,_⟩:=nQ (b:=x.1) (n:=x.2) hx w
     cases hv with
     | bs _ _ _ cap E hrow hnn hm=>
      obtain⟨_,_,_,_,_,c,F,g1,g2,_⟩:=hr.box b cs hcs
      obtain⟨cur,fz,q1,q2,_,_⟩:=hr.row b cap s _ hrow
      rw[g1]at q1
      simp only[Option.some.injEq,Obj.cells.injEq]at q1
      obtain⟨rfl,_,_⟩:=q1
      have hcap:hh <=cap:=by
       have h1:hh*s <=cap*s:=by omega
       exact Nat.le_of_mul_le_mul_right h1 hs0
      have hb:=gE (P:=P) (w:=w) (len:=n) (cap:=cap) hl hhh (Nat.zero_le _) hcap hvl hvln hvh hvhn true
      refine⟨.slice (some ⟨b,0,none⟩) hh cap,?_, .bs b hh s cap _ hrow hcap hm⟩
      unfold Instr.sliceAt Instr.slice
      simp[run_underlying (fA he),hb,hsz,Addr.add_lit]
    ·cases h
   ·cases h
  |_=>simp only at h;cases h
def gY(P:Program)(G:Nat ->AV)(o:Oper)(e:bF)(σ:AS)(Kc:AV ->AS ->Prop):Prop:=
 match o.op with
 | .move x=>Kc (ev G e x) σ
 | .assign x=>Kc (ev G e x) σ
 | .pick c a b=>∃ t,ev G e c= .bool t /\ Kc (if t=true then ev G e a else ev G e b) σ
 | .alloc E=>∃ z,zc P E=some z /\ ((∀ b,σ.fresh b ->Kc (.ptr b 0) (σ.setBox b z)) \/ (∀ b,σ.fresh b ->Kc (.ptr b 0) ((σ.setBox b z).setTy b (E,z.length))))
 | .box E x=>isv (ev G e x)=true /\ ∀ b,σ.fresh b ->Kc (.ptr b 0) (σ.setBox b (flat (ev G e x)))
 | .build t ps=>∃ r,zS P t (lS G e ps.toList)=some r /\ Kc r σ
 | .buildSlice t n ps=> (∃ r,dQ P t n (lS G e ps.toList)=some r /\ Kc r σ) \/ sI P σ t n (lS G e ps.toList) Kc
 | .load t x=>∃ r,lM P σ t (ev G e x)=some r /\ Kc r σ
 | .store t p x=>∃ σ',kF P σ t (ev G e p) (ev G e x)=some σ' /\ Kc .undef σ'
 | .nilCheck x=> (match ev G e x with| .ptr .. =>True| .rp .. =>True| .fn .. =>True|_=>False) /\ Kc (ev G e x) σ
 | .binOp op t x y _=>∃ r,xC P op t y (ev G e x) (ev G e y)=some r /\ Kc r σ
 | .unOp op _ x=>∃ r,aun op (ev G e x)=some r /\ Kc r σ
 | .convert s d x=> (∃ r,gA P σ s d (ev G e x)=some r /\ Kc r σ) \/ B0p P σ s d (ev G e x) Kc
 | .makeFunc fn first caps=> (match fn,first.toList with
   | .func f,[]=>Kc (.fn f (caps.toList.map (ev G e))) σ
   |_,_=>False)
 | .slice t x lo hi none=>∃ r,lN P σ t (ev G e x) (lo.map (ev G e)) (hi.map (ev G e))=some r /\ Kc r σ
 | .fieldAddr t x i=>∃ r,uG P t (ev G e x) i=some r /\ Kc r σ
 | .field t x i=>∃ r,qP P t (ev G e x) i=some r /\ Kc r σ
 | .indexAddr t x i=>∃ r,fV P t (ev G e x) (ev G e i)=some r /\ Kc r σ
 | .index t x i=>∃ r,uI P t (ev G e x) (ev G e i)=some r /\ Kc r σ
 | .extract x i=>∃ r,rK (ev G e x) i=some r /\ Kc r σ
 | .call c=>A1k P G e σ Kc c.callee c.args.toList c.argTypes.toList
 | .makeSlice t l c=>A8m P σ t (ev G e l) (ev G e c) Kc \/ uJ P σ t (ev G e l) (ev G e c) Kc
 | .range t x=>A3v P σ t (ev G e x) Kc
 | .next it true=>B3m σ (ev G e it) Kc
 |_=>False
def kM(P:Program)(G:Nat ->AV)(K:bO)(Kc:AV ->AS ->Prop):Result Next ->Prop
 | .ok (.value v) w'=>∃ r σ' K',Kc r σ' /\ VR K' r v /\ cV G K' σ' w' /\ K.le K'
 | .ok .skip w'=>∃ σ' K',Kc .undef σ' /\ cV G K' σ' w' /\ K.le K'
 | .ok (.enter f args) w'=>Calls P f args w' fun e w''=>∃ v r σ' K',e= .returned v /\ Kc r σ' /\ VR K' r v /\ cV G K' σ' w'' /\ K.le K'
 |_=>False
theorem kM.value {P:Program} {G:Nat ->AV} {K:bO} {Kc:AV ->AS ->Prop} {s:Sem Value} {w:World} {σ:AS} {r:AV} (hr:cV G K σ w) (hK:Kc r σ)
  (h:∃ z,s.run P w= .ok z w /\ VR K r z):kM P G K Kc ((do pure (.value (<- s)):Sem Next).run P w):=by
 obtain⟨z,h1,h2⟩:=h
 simp only[Sem.run_bind,h1,Result.andThen_ok,Sem.run_pure]
 exact⟨r,σ,K,hK,h2,hr,bO.le.refl K⟩
theorem kM.value' {P:Program} {G:Nat ->AV} {K:bO} {Kc:AV ->AS ->Prop} {s:Sem Value} {w w':World} {z:Value} (h1:s.run P w= .ok z w')
  (h:∃ r σ' K',Kc r σ' /\ VR K' r z /\ cV G K' σ' w' /\ K.le K'):kM P G K Kc ((do pure (.value (<- s)):Sem Next).run P w):=by
 simp only[Sem.run_bind,h1,Result.andThen_ok,Sem.run_pure]
 exact h
theorem VRp.map{K:bO}{G:Nat ->AV}{σ:AS}{w:World}{e:bF}{a:Act}(h:ER K e a)(hr:cV G K σ w):∀ (l:List (Nat × Operand)),VRp K (lS G e l) (l.map fun p=> (p.1,a.eval p.2))
 |[]=>trivial
 |(i,x)::l=> ⟨rfl,h.eval hr x,VRp.map h hr l⟩
theorem mD{P:Program}{G:Nat ->AV}{K:bO}{σ:AS}{w:World}{e:bF}{a:Act}{o:Oper}{Kc:AV ->AS ->Prop}(h:gY P G o e σ Kc)(he:ER K e a)(hr:cV G K σ w):
  kM P G K Kc ((execOp a.eval o).run P w):=by
 unfold gY at h
 unfold execOp
 split at h
 ·rename_i x hop;rw[hop]
  exact⟨_,σ,K,h,he.eval hr x,hr,bO.le.refl K⟩
 ·rename_i x hop;rw[hop]
  exact⟨_,σ,K,h,he.eval hr x,hr,bO.le.refl K⟩
 ·rename_i c x y hop;rw[hop]
  obtain⟨t,ht,hK⟩:=h
  have hc:=he.eval hr c
  rw[ht,VR.bool_iff]at hc
  simp only[hc,asBool,Sem.run_bind,Sem.run_pure,Result.andThen_ok]
  refine⟨_,σ,K,hK,?_,hr,bO.le.refl K⟩
  cases t
  ·exact he.eval hr y
  ·exact he.eval hr x
 ·rename_i E hop;rw[hop]
  obtain⟨z,hz,hK⟩:=h
  obtain⟨h1,h2⟩:=B3k hr hz
  rcases hK with hK|hK
  ·exact kM.value' h1 ⟨_,_,K,hK _ (hr.fresh (Nat.le_refl _)), .ptr _ _,h2,bO.le.refl K⟩
  ·refine kM.value' h1 ⟨_,_,K,hK _ (hr.fresh (Nat.le_refl _)), .ptr _ _,?_,bO.le.refl K⟩
   refine h2.typed (heap_alloc_new w _) ?_
   obtain⟨i,zv,hi,hzv,hcr⟩:=zN (K:=K) hz
   have e:((P.info? E).bind (·.zero)).getD default=zv:=by simp[hi,hzv]
   rw[e];exact hcr.size
 ·rename_i E x hop;rw[hop]
  obtain⟨h1,hK⟩:=h
  obtain⟨h2,h3⟩:=C4g (P:=P) hr E (he.eval hr x) h1
  exact kM.value' h2 ⟨_,_,K,hK _ (hr.fresh (Nat.le_refl _)), .ptr _ _,h3,bO.le.refl K⟩
 ·rename_i t ps hop;rw[hop]
  obtain⟨r,h1,hK⟩:=h
  have:=B0o (w:=w) h1 (VRp.map he hr ps.toList)
  have e1:(ps.toList.map fun p=> (p.1,a.eval p.2)).toArray=ps.map fun(x:Nat × Operand)=>match x with|(i,x)=> (i,a.eval x):=by
   apply Array.ext';simp
  rw[e1]at this
  exact kM.value hr hK this
 ·rename_i t n ps hop;rw[hop]
  have e1:(ps.toList.map fun p=> (p.1,a.eval p.2)).toArray=ps.map fun(x:Nat × Operand)=>match x with|(i,x)=> (i,a.eval x):=by
   apply Array.ext';simp
  rcases h with⟨r,h1,hK⟩|h
  ·obtain⟨z,w',K',h2,h3,h4,h5⟩:=yC hr h1 (VRp.map he hr ps.toList)
   rw[e1]at h2
   exact kM.value' h2 ⟨r,σ,K',hK,h5,h4,h3⟩
  ·obtain⟨z,w',K',r,σ',h2,h3,h4,h5,hK⟩:=A6x hr h (VRp.map he hr ps.toList)
   rw[e1]at h2
   exact kM.value' h2 ⟨r,σ',K',hK,h5,h4,h3⟩
 ·rename_i t x hop;rw[hop]
  obtain⟨r,h1,hK⟩:=h
  exact kM.value hr hK (A1m hr h1 (he.eval hr x))
 ·rename_i t p x hop;rw[hop]
  obtain⟨σ',h1,hK⟩:=h
  obtain⟨w',h2,h3⟩:=B1d hr h1 (he.eval hr p) (he.eval hr x)
  simp only[Sem.run_bind,h2,Result.andThen_ok,Sem.run_pure]
  exact⟨σ',K,hK,h3,bO.le.refl K⟩
 ·rename_i x hop;rw[hop]
  obtain⟨h1,hK⟩:=h
  have hv:=he.eval hr x
  have hx:∀ v,a.eval x=v -> (∃ p,v= .pointer (some p)) \/ (∃ f vs,v= .func (.func f) #[] vs) ->VR K (ev G e x) v ->kM P G K Kc (Result.ok (Next.value v) w):=fun v _ _ hv=> ⟨_,σ,K,hK,hv,hr,bO.le.refl K⟩
  generalize hy:ev G e x=y at h1 hv
  generalize hz:a.eval x=v at hv
  cases y <;>simp only at h1
  case ptr b o=>
   rw[VR.ptr_iff]at hv;subst hv
   simp only[hz]
   exact hx _ hz (.inl ⟨_,rfl⟩) (hy ▸ .ptr b o)
  case rp cs=>
   have hv':=hv
   cases hv with
   | rp _ b off f h2 h3 h4=>
    simp only[hz]
    exact hx _ hz (.inl ⟨_,rfl⟩) (hy ▸ hv')
  case fn f caps=>
   have hv':=hv
   cases hv with
   | fn _ _ vs h2 h3=>
    simp only[hz]
    exact hx _ hz (.inr ⟨_,_,rfl⟩) (hy ▸ hv')
 ·rename_i op t x y yt hop;rw[hop]
  obtain⟨r,h1,hK⟩:=h
  refine kM.value hr hK ?_
  unfold xC at h1
  split at h1
  ·exact B2z h1 (he.eval hr x) x
  ·exact B7q h1 (he.eval hr x) (he.eval hr y) x y
 ·rename_i op t x hop;rw[hop]
  obtain⟨r,h1,hK⟩:=h
  exact kM.value hr hK (C3y h1 (he.eval hr x))
 ·rename_i s d x hop;rw[hop]
  rcases h with⟨r,h1,hK⟩|h
  ·obtain⟨z,w',K',h2,h3,h4,h5⟩:=B0s hr h1 (he.eval hr x)
   exact kM.value' h2 ⟨r,σ,K',hK,h5,h4,h3⟩
  ·obtain⟨z,w',K',r,σ',h2,h3,h4,h5,hK⟩:=B0q hr h (he.eval hr x)
   exact kM.value' h2 ⟨r,σ',K',hK,h5,h4,h3⟩
 ·rename_i fn first caps hop;rw[hop]
  split at h
  case h_2=>exact h.elim
  rename_i f hfirst
  have hl:=qM.map he hr caps.toList
  have hf0:first= #[]:=by apply Array.ext';simpa using hfirst
  subst hf0
  refine kM.value' (z:= .func (.func f) #[] (caps.map a.eval)) (w':=w) (by simp[Instr.makeFunc]) ⟨_,σ,K,h, .fn f _ _ (by simp) (fun j hj=> ?_),hr,bO.le.refl K⟩
  have:=hl.get j hj
  simpa [Array.getD_eq_getD_getElem?,List.getD_eq_getElem?_getD] using this
 ·rename_i t x lo hi hop;rw[hop]
  obtain⟨r,h1,hK⟩:=h
  refine kM.value hr hK (A7c hr h1 (he.eval hr x) (vlo:=lo.map a.eval) (vhi:=hi.map a.eval) ?_ ?_ ?_ ?_)
  ·intro b hb;cases lo with
   |none=>cases hb
   |some l=>simp only[Option.map_some,Option.some.injEq]at hb;subst hb;exact⟨_,rfl,he.eval hr l⟩
  ·intro hb;cases lo with|none=>rfl|some l=>cases hb
  ·intro b hb;cases hi with
   |none=>cases hb
   |some l=>simp only[Option.map_some,Option.some.injEq]at hb;subst hb;exact⟨_,rfl,he.eval hr l⟩
  ·intro hb;cases hi with|none=>rfl|some l=>cases hb
 ·rename_i t x i hop;rw[hop]
  obtain⟨r,h1,hK⟩:=h
  exact kM.value hr hK (B0u h1 (he.eval hr x))
 ·rename_i t x i hop;rw[hop]
  obtain⟨r,h1,hK⟩:=h
  exact kM.value hr hK (A6y h1 (he.eval hr x))
 ·rename_i t x i hop;rw[hop]
  obtain⟨r,h1,hK⟩:=h
  exact kM.value hr hK (A7a hr.imm h1 (he.eval hr x) (he.eval hr i))
 ·rename_i t x i hop;rw[hop]
  obtain⟨r,h1,hK⟩:=h
  exact kM.value hr hK (B0v h1 (he.eval hr x) (he.eval hr i))
 ·rename_i x i hop;rw[hop]
  obtain⟨r,h1,hK⟩:=h
  exact kM.value hr hK (A3q h1 (he.eval hr x))
 ·rename_i c hop;rw[hop]
  obtain⟨callee,args,ts⟩:=c
  change kM P G K Kc (Sem.run P (do let d <- resolve a.eval {callee:=callee,args:=args,argTypes:=ts} o.type;invoke d.target d.args) w)
  cases callee with
  | value f=>
   simp only[A1k]at h
   split at h
   case h_2=>exact h.elim
   rename_i k caps hf
   have hv:=he.eval hr f
   rw[hf]at hv
   generalize hfe:a.eval f=fv at hv
   cases hv with
   | fn _ _ vs hl hvv=>
    obtain⟨hc,hT⟩:=h
    have hargs:qM K (args.toList.map (ev G e)++caps) (args.toList.map a.eval++vs.toList):=by
     refine qM.append (qM.map he hr args.toList) (qM.of (by simpa using hl.symm) (fun j hj=> ?_))
     have:=hvv j hj
     simpa [Array.getD_eq_getD_getElem?,List.getD_eq_getElem?_getD] using this
    have A9a:=hT K w _ hr hargs
    have e1:(args.toList.map a.eval++vs.toList).toArray=args.map a.eval++vs:=by apply Array.ext';simp
    rw[e1]at A9a
    unfold yJ at hc
    split at hc
    case h_2=>cases hc
    rename_i fn hfn
    simp only[Bool.and_eq_true,Bool.not_eq_true']at hc
    have hb:fn.body.isNone=false:=by cases hx:fn.body with|none=>rw[hx]at hc;simp at hc|some _=>rfl
    have hrun:((do let d <- resolve a.eval {callee:= .value f,args:=args,argTypes:=ts} o.type;invoke d.target d.args:Sem Next)).run P w= .ok (.enter k (args.map a.eval++vs)) w:=by
     have hn1: ¬ (fn.name= "runtime.NumGoroutine"):=by have:=hc.1;simpa using this
     have hn2: ¬ (fn.body=none):=by intro hx;rw[hx]at hb;cases hb
     simp[resolve,hfe,Deferred.ofValue,invoke,callFunc,hfn,hn1,hn2]
    rw[hrun]
    exact A9a
  | builtin b=>
   simp only[A1k]at h
   by_cases hb:b= .append
   ·rw[if_pos hb]at h
    subst hb
    split at h
    case h_2=>exact h.elim
    rename_i s x t tx hargs hts
    have hboth:∃ z w' K' r σ',(Builtin.append_ #[t,tx] o.type #[a.eval s,a.eval x]).run P w= .ok z w' /\ K.le K' /\ cV G K' σ' w' /\ VR K' r z /\ Kc r σ':=by
     rcases h with h|h
     ·exact A6w (ty:=o.type) hr h (he.eval hr s) (he.eval hr x)
     ·exact A3m (ty:=o.type) hr h (he.eval hr s) (he.eval hr x)
    obtain⟨z,w',K',r,σ',h1,h2,h3,h4,h5⟩:=hboth
    have ea:args= #[s,x]:=by apply Array.ext';simpa using hargs
    have et:ts= #[t,tx]:=by apply Array.ext';simpa using hts
    subst ea et
    have hrun:((do let d <- resolve a.eval {callee:= .builtin .append,args:= #[s,x],argTypes:= #[t,tx]} o.type;invoke d.target d.args:Sem Next)).run P w= .ok (.value z) w':=by
     simp[resolve,invoke,builtin,h1]
    rw[hrun]
    exact⟨r,σ',K',h5,h4,h3,h2⟩
   ·rw [if_neg hb]at h
    by_cases hb2:b= .unsafeString
    ·rw[if_pos hb2]at h
     subst hb2
     split at h
     case h_2=>exact h.elim
     rename_i x n pt it hargs hts
     obtain⟨z,w',r,σ',h1,h3,h4,h5⟩:=B3q (it:=it) (ty:=o.type) hr h (he.eval hr x) (he.eval hr n)
     have ea:args= #[x,n]:=by apply Array.ext';simpa using hargs
     have et:ts= #[pt,it]:=by apply Array.ext';simpa using hts
     subst ea et
     have hrun:((do let d <- resolve a.eval {callee:= .builtin .unsafeString,args:= #[x,n],argTypes:= #[pt,it]} o.type;invoke d.target d.args:Sem Next)).run P w= .ok (.value z) w':=by
      simp[resolve,invoke,builtin,h1]
     rw[hrun]
     exact⟨r,σ',K,h5,h4,h3,bO.le.refl K⟩
    rw[if_neg hb2]at h
    obtain⟨r,h1,hK⟩:=h
    obtain⟨z,h2,h3⟩:=B7r (P:=P) (w:=w) (ty:=o.type) (cn:=args.map fun| .const _=>true|_=>false) h1 (qM.map he hr args.toList)
    have e1:(args.toList.map a.eval).toArray=args.map a.eval:=by apply Array.ext';simp
    have e2:ts.toList.toArray=ts:=by simp
    rw[e1,e2]at h2
    have hrun:((do let d <- resolve a.eval {callee:= .builtin b,args:=args,argTypes:=ts} o.type;invoke d.target d.args:Sem Next)).run P w= .ok (.value z) w:=by
     simp only[resolve,invoke,Sem.run_bind,Sem.run_pure,Result.andThen_ok]
     exact h2
    rw[hrun]
    exact⟨r,σ,K,hK,h3,hr,bO.le.refl K⟩
  |invoke r m=>exact h.elim
 ·rename_i t l c hop;rw[hop]
  have hboth:∃ z w' K' r σ',(Instr.makeSlice t (a.eval l) (a.eval c)).run P w= .ok z w' /\ K.le K' /\ cV G K' σ' w' /\ VR K' r z /\ Kc r σ':=by
   rcases h with h|h
   ·exact B3l hr h (he.eval hr l) (he.eval hr c)
   ·exact B0w hr h (he.eval hr l) (he.eval hr c)
  obtain⟨z,w',K',r,σ',h1,h2,h3,h4,h5⟩:=hboth
  exact kM.value' h1 ⟨r,σ',K',h5,h4,h3,h2⟩
 ·rename_i t x hop;rw[hop]
  obtain⟨z,w',r,σ',h1,h2,h3,h4⟩:=B0z (P:=P) hr h (he.eval hr x)
  exact kM.value' h1 ⟨r,σ',K,h4,h3,h2,bO.le.refl K⟩
 ·rename_i it hop;rw[hop]
  obtain⟨z,w',r,σ',h1,h2,h3,h4⟩:=B3n (P:=P) (ty:=o.type) hr h (he.eval hr it)
  exact kM.value' h1 ⟨r,σ',K,h4,h3,h2,bO.le.refl K⟩
 ·exact h.elim
end Go.Av
namespace Go.Av
open Go Go.RowKit
def dW(ops:List Oper)(e:bF)(g:Option (Nat × Bool)):Option Bool:=
 match g with
 |none=>some true
 | some (j,want)=>match(ops[j]?).bind (·.dst)with
  | some t=>match e t with
   | .bool b=>some (b==want)
   | .tup []=>some false
   |_=>none
  |none=>none
theorem VR.skipped{K:bO} :VR K (.tup []) Go.undef:= .tup [] #[] rfl (fun j h=>by cases h)
theorem iD{ops:Array Oper}{K:bO}{e:bF}{a:Act}{o:Oper}{b:Bool}(h:dW ops.toList e o.guard=some b)(he:ER K e a):Region.wanted o (yielded ops a.tmps)=b:=by
 unfold dW at h
 unfold Region.wanted
 split at h
 ·rename_i hg;rw[hg];simpa using h
 ·rename_i j want hg
  rw[hg]
  simp only
  split at h
  ·rename_i t ht
   split at h
   ·rename_i b' hb
    simp only[Option.some.injEq]at h
    have ht':(ops[j]?).bind (·.dst)=some t:=by simpa using ht
    have hv:=he t
    rw[hb,VR.bool_iff]at hv
    have hget:a.tmps[t]? =some (.bool b'):=by
     cases hx:a.tmps[t]? with
     |none=>simp[hx]at hv;cases hv
     |some v=>simp[hx]at hv;rw[hv]
    have hy:yielded ops a.tmps j=some b':=by
     unfold yielded
     rw[ht']
     simp[hget]
    rw[hy,<- h]
    simp
   ·rename_i hb
    simp only[Option.some.injEq]at h;subst h
    have ht':(ops[j]?).bind (·.dst)=some t:=by simpa using ht
    have hv:=he t
    rw[hb]at hv
    have hget:∀ b',a.tmps[t]? ≠ some (.bool b'):=fun b' hx=>by
     have:a.tmps.getD t Go.undef= .bool b':=by simp[Array.getD_eq_getD_getElem?,hx]
     rw[this]at hv;cases hv
    have hy:yielded ops a.tmps j=none:=by
     unfold yielded
     rw[ht']
     cases hx:a.tmps[t]? with
     |none=>simp[hx]
     |some v=>cases v <;>first|(simp[hx];done)|exact absurd hx (hget _)
    rw[hy]
    rfl
   ·cases h
  ·cases h
def dX(P:Program)(G:Nat ->AV)(ops:List Oper)(Q:bF ->AS ->Prop):List Oper ->bF ->AS ->Prop
 |[],e,σ=>Q e σ
 | o::rest,e,σ=>∃ b,dW ops e o.guard=some b /\ (b=true ->gY P G o e σ fun r σ'=>dX P G ops Q rest (e.upd o.dst r) σ') /\
   (b=false ->dX P G ops Q rest (e.upd o.dst (.tup [])) σ)
structure St(P:Program)(G:Nat ->AV)(K:bO)(N:Nat)(ds:List Deferred)(e:bF)(σ:AS)(a:Act)(w:World):Prop where
 er:ER K e a
 rel:cV G K σ w
 size:N <=a.tmps.size
 defers:a.defers=ds
theorem St.put {P:Program} {G:Nat ->AV} {K K':bO} {N:Nat} {ds:List Deferred} {e:bF} {σ σ':AS} {a:Act} {w w':World} (h:St P G K N ds e σ a w) (hK:K.le K') {d:Option Tmp} (hd:∀ t,d=some t ->t < N)
  {r:AV} {v:Value} (hv:VR K' r v) (hr:cV G K' σ' w'):St P G K' N ds (e.upd d r) σ' (a.put d v) w':=by
 refine⟨(h.er.mono hK).put (fun t ht=>Nat.lt_of_lt_of_le (hd t ht) h.size) hv,hr,?_,?_⟩
 ·cases d with
  |none=>exact h.size
  |some t=>simpa [Act.put] using h.size
 ·cases d with
  |none=>exact h.defers
  |some t=>exact h.defers
theorem kM.wp {P:Program} {G:Nat ->AV} {K:bO} {Kc:AV ->AS ->Prop} {o:Oper} {a:Act} {w:World} (h:kM P G K Kc ((execOp a.eval o).run P w)) {next:Act ->World ->Prop} {Q:Exit ->Act ->World ->Prop}
  (hn:∀ r σ' K' v w',Kc r σ' ->VR K' r v ->cV G K' σ' w' ->K.le K' ->next (a.put o.dst v) w'):o.wp P a w next Q:=by
 unfold Oper.wp
 generalize(execOp a.eval o).run P w=res at h
 unfold kM at h
 split at h
 ·obtain⟨r,σ',K',h1,h2,h3,h4⟩:=h
  exact hn r σ' K' _ _ h1 h2 h3 h4
 ·obtain⟨σ',K',h1,h2,h3⟩:=h
  exact hn .undef σ' K' _ _ h1 (.undef _) h2 h3
 ·simp only[Oper.upon]
  refine h.mono ?_
  rintro e w' ⟨v,r,σ',K',rfl,h1,h2,h3,h4⟩
  exact hn r σ' K' _ _ h1 h2 h3 h4
 ·exact h.elim
def jK(N:Nat)(o:Oper):Bool:=match o.dst with|some t=>decide (t < N)|none=>true
theorem iF{N:Nat}{o:Oper}(h:jK N o=true):∀ t,o.dst=some t ->t < N:=by
 intro t ht
 unfold jK at h
 rw[ht]at h
 simpa using h
theorem iS {P:Program} {G:Nat ->AV} {N:Nat} {ds:List Deferred} {ops:Array Oper} {Q:bF ->AS ->Prop} {R:Exit ->Act ->World ->Prop} {K0:bO}
  (hR:∀ e σ K a w,Q e σ ->St P G K N ds e σ a w ->K0.le K ->R .normal a w):
  ∀ (l:List Oper) (e:bF) (σ:AS) (K:bO) (a:Act) (w:World),l.all (jK N)=true ->dX P G ops.toList Q l e σ ->St P G K N ds e σ a w ->K0.le K ->wpList P ops R l a w
 |[],e,σ,K,a,w,_,h,hs,hk=>hR e σ K a w h hs hk
 | o::rest,e,σ,K,a,w,hd,h,hs,hk=>by
  simp only[List.all_cons,Bool.and_eq_true]at hd
  obtain⟨b,hb,h1,h2⟩:=h
  have hw:=iD hb hs.er
  unfold wpList
  cases b with
  | true=>
   rw[if_pos hw]
   refine .inl ((mD (h1 rfl) hs.er hs.rel).wp fun r σ' K' v w' hq hv hr hle=> ?_)
   exact iS hR rest _ _ K' _ _ hd.2 hq (hs.put hle (iF hd.1) hv hr) (hk.trans hle)
  | false=>
   rw[if_neg (by rw[hw];simp)]
   exact iS hR rest _ _ K _ _ hd.2 (h2 rfl) (hs.put (bO.le.refl K) (iF hd.1) VR.skipped hs.rel) hk
def cB(l:List Oper):List Nat:=l.filterMap (·.dst)
def cY:Code ->List Nat
 | .region _ ops _=>cB ops.toList
 | .seq a b=>cY a++cY b
 | .cond _ a b=>cY a++cY b
 | .block _ c=>cY c
 | .loop c=>cY c
 |_=> []
def cOK(N:Nat):Code ->Bool
 | .region _ ops _=>ops.toList.all (jK N)
 | .seq a b=>cOK N a && cOK N b
 | .cond _ a b=>cOK N a && cOK N b
 | .block _ c=>cOK N c
 | .loop c=>cOK N c
 |_=>true
def mrg(W:List Nat)(v e:bF):bF:=fun t=>if W.contains t then v t else e t
section xA
variable (P:Program) (G:Nat ->AV) (D:Array Oper -> (bF ->AS ->Prop) ->bF ->AS ->Prop)
def xA:Code -> (Exit ->bF ->AS ->Prop) ->bF ->AS ->Prop
 | .skip,Q,e,σ=>Q .normal e σ
 | .label _,Q,e,σ=>Q .normal e σ
 | .region _ ops false,Q,e,σ=>dX P G ops.toList (Q .normal) ops.toList e σ
 | .region _ ops true,Q,e,σ=>D ops (Q .normal) e σ
 | .seq a b,Q,e,σ=>xA a (fun x e σ=>match x with| .normal=>xA b Q e σ|x=>Q x e σ) e σ
 | .cond c a b,Q,e,σ=>∃ t,ev G e c= .bool t /\ (t=true ->xA a Q e σ) /\ (t=false ->xA b Q e σ)
 | .block id c,Q,e,σ=>xA c (fun x e σ=>match x with| .exit i=>if i=id then Q .normal e σ else Q (.exit i) e σ|x=>Q x e σ) e σ
 | .loop c,Q,e,σ=>∃ I:Nat ->bF ->AS ->Prop,(∃ n,I n e σ) /\ ∀ n v σ',I n (mrg (cY c) v e) σ' ->
   xA c (fun x e' σ'=>match x with| .normal=>∃ m,m < n /\ I m e' σ'|x=>Q x e' σ') (mrg (cY c) v e) σ'
 | .exit id,Q,e,σ=>Q (.exit id) e σ
 | .ret,Q,e,σ=>Q .ret e σ
 |_,_,_,_=>False
end xA
theorem bF.upd_other{e:bF}{d:Option Tmp}{r:AV}{t:Nat}(h:∀ x,d=some x ->x ≠ t):e.upd d r t=e t:=by
 cases d with
 |none=>rfl
 | some x=>
  show(if t=x then r else e t)=e t
  rw[if_neg (Ne.symm (h x rfl))]
theorem gZ{P:Program}{G:Nat ->AV}{o:Oper}{e:bF}{σ:AS}{K K':AV ->AS ->Prop}(hk:∀ r s,K r s ->K' r s)(h:gY P G o e σ K):gY P G o e σ K':=by
 unfold gY at h ⊢
 generalize o.op=op at h ⊢
 cases op <;>first|exact h.elim|exact hk _ _ h|(obtain⟨x,h1,h2⟩:=h;exact⟨x,h1,hk _ _ h2⟩)|skip
 case alloc E=>
  obtain⟨z,h1,h2⟩:=h
  rcases h2 with h2|h2
  ·exact⟨z,h1, .inl fun b hb=>hk _ _ (h2 b hb)⟩
  ·exact⟨z,h1, .inr fun b hb=>hk _ _ (h2 b hb)⟩
 case box E x=>exact⟨h.1,fun b hb=>hk _ _ (h.2 b hb)⟩
 case buildSlice t n ps=>
  rcases h with⟨r,h1,h2⟩|h
  ·exact .inl ⟨r,h1,hk _ _ h2⟩
  ·refine .inr ?_
   unfold sI at h ⊢
   split at h
   ·exact fun b hb=>hk _ _ (h b hb)
   ·exact h.elim
 case nilCheck x=>exact⟨h.1,hk _ _ h.2⟩
 case convert s d x=>
  rcases h with⟨r,h1,h2⟩|⟨l,e,h1,h2,h3,h4,h5,h6⟩
  ·exact .inl ⟨r,h1,hk _ _ h2⟩
  ·exact .inr ⟨l,e,h1,h2,h3,h4,h5,fun b hb=>hk _ _ (h6 b hb)⟩
 case makeSlice t l c=>
  simp only at h ⊢
  rcases h with h|h
  ·refine .inl ?_
   unfold A8m at h ⊢
   split at h
   ·exact⟨h.1,h.2.1,h.2.2.1,fun b hb=>hk _ _ (h.2.2.2 b hb)⟩
   ·exact h.elim
  ·refine .inr ?_
   unfold uJ at h ⊢
   split at h
   ·exact⟨h.1,h.2.1,h.2.2.1,fun b hb=>hk _ _ (h.2.2.2 b hb)⟩
   ·exact h.elim
 case makeFunc fn first caps=>
  simp only at h ⊢
  split at h
  ·exact hk _ _ h
  ·exact h.elim
 case range t x=>
  simp only at h ⊢
  unfold A3v at h ⊢
  split at h
  ·exact⟨h.1,fun b hb=>hk _ _ (h.2 b hb)⟩
  ·exact h.elim
 case next it s=>
  cases s with
  |false=>exact h.elim
  | true=>
   simp only at h ⊢
   unfold B3m at h ⊢
   split at h
   case h_2=>exact h.elim
   split at h
   case h_2=>exact h.elim
   exact⟨fun x=>hk _ _ (h.1 x),fun x=>hk _ _ (h.2 x)⟩
 case slice t x lo hi mx=>
  cases mx with
  |none=>obtain⟨x,h1,h2⟩:=h;exact⟨x,h1,hk _ _ h2⟩
  |some m=>exact h.elim
 case call c=>
  simp only at h ⊢
  unfold A1k at h ⊢
  split at h
  ·split at h
   ·exact h.mono hk
   ·exact h.elim
  ·split at h
   ·rename_i hb
    simp only[if_pos hb]
    split at h
    ·rcases h with h|h
     ·refine .inl ?_
      unfold mS at h ⊢
      split at h
      ·refine⟨h.1,?_⟩
       have h2:=h.2
       split at h2
       ·exact⟨h2.1,fun x=>hk _ _ (h2.2.1 x),fun x b hb=>hk _ _ (h2.2.2 x b hb)⟩
       ·exact⟨h2.1,h2.2.1,fun x=>hk _ _ (h2.2.2.1 x),fun x b hb=>hk _ _ (h2.2.2.2 x b hb)⟩
       ·exact⟨h2.1,h2.2.1,h2.2.2.1,fun b hb=>hk _ _ (h2.2.2.2 b hb)⟩
       ·exact h2.elim
      ·exact h.elim
     ·exact .inr (A6v hk h)
    ·exact h.elim
   ·rename_i hb
    simp only[if_neg hb]
    split at h
    ·rename_i hb2
     simp only[if_pos hb2]
     split at h
     ·exact B8j hk h
     ·exact h.elim
    ·rename_i hb2
     simp only[if_neg hb2]
     obtain⟨r,h1,h2⟩:=h
     exact⟨r,h1,hk _ _ h2⟩
  ·exact h.elim
theorem jY{P:Program}{G:Nat ->AV}{ops:List Oper}{Q:bF ->AS ->Prop} :∀ (l:List Oper) (e:bF) (σ:AS),dX P G ops Q l e σ ->
  dX P G ops (fun e' σ'=>Q e' σ' /\ ∀ t,t ∉ cB l ->e' t=e t) l e σ
 |[],e,σ,h=> ⟨h,fun _ _=>rfl⟩
 | o ::rest,e,σ,h=>by
  obtain⟨b,hb,h1,h2⟩:=h
  have key:∀ r σ',dX P G ops Q rest (e.upd o.dst r) σ' ->dX P G ops (fun e' σ'=>Q e' σ' /\ ∀ t,t ∉ cB (o::rest) ->e' t=e t) rest (e.upd o.dst r) σ':=by
   intro r σ' hh
   have h3:=jY rest _ _ hh
   have mono:∀ (l:List Oper) (Q Q':bF ->AS ->Prop),(∀ e s,Q e s ->Q' e s) ->∀ e s,dX P G ops Q l e s ->dX P G ops Q' l e s:=by
    intro l
    induction l with
    |nil=>intro Q Q' hq e s h;exact hq _ _ h
    | cons o' l ih=>
     intro Q Q' hq e s h
     obtain⟨b,hb,h1,h2⟩:=h
     exact⟨b,hb,fun x=>gZ (fun r s' h=>ih Q Q' hq _ _ h) (h1 x),fun x=>ih Q Q' hq _ _ (h2 x)⟩
   refine mono rest _ _ (fun e' s' hq=> ⟨hq.1,fun t ht=> ?_⟩) _ _ h3
   have ht1:t ∉ cB rest:=fun hm=>ht (by
    unfold cB at*
    rw[List.filterMap_cons]
    split
    ·exact hm
    ·exact List.mem_cons_of_mem _ hm)
   rw[hq.2 t ht1]
   refine bF.upd_other fun x hx hxt=>ht ?_
   unfold cB
   rw[List.filterMap_cons,hx]
   subst hxt
   exact List.mem_cons_self
  exact⟨b,hb,fun x=>gZ (fun r s' hh=>key r s' hh) (h1 x),fun x=>key _ _ (h2 x)⟩
structure A3e(P:Program)(G:Nat ->AV)(D:Array Oper -> (bF ->AS ->Prop) ->bF ->AS ->Prop):Prop where
 sound:∀ (N:Nat) (ds:List Deferred) (id:Nat) (ops:Array Oper) (Q:bF ->AS ->Prop) (R:Exit ->Act ->World ->Prop) (e:bF) (σ:AS) (K:bO) (a:Act) (w:World),
  ops.toList.all (jK N)=true ->D ops Q e σ ->St P G K N ds e σ a w -> (∀ e σ K' a w,Q e σ ->St P G K' N ds e σ a w ->K.le K' ->R .normal a w) -> (Code.region id ops true).wp P R a w
 frame:∀ (ops:Array Oper) (Q:bF ->AS ->Prop) (e:bF) (σ:AS),D ops Q e σ ->D ops (fun e' σ'=>Q e' σ' /\ ∀ t,t ∉ cB ops.toList ->e' t=e t) e σ
 mono:∀ (ops:Array Oper) (Q Q':bF ->AS ->Prop) (e:bF) (σ:AS),(∀ e s,Q e s ->Q' e s) ->D ops Q e σ ->D ops Q' e σ
section
variable {P:Program} {G:Nat ->AV} {D:Array Oper -> (bF ->AS ->Prop) ->bF ->AS ->Prop}
theorem fQ{ops:List Oper} :∀ (l:List Oper) {Q Q':bF ->AS ->Prop},(∀ e s,Q e s ->Q' e s) ->∀ e s,dX P G ops Q l e s ->dX P G ops Q' l e s
 |[],_,_,hq,e,s,h=>hq _ _ h
 |o::l,_,_,hq,e,s,⟨b,hb,h1,h2⟩=> ⟨b,hb,fun x=>gZ (fun r s' h=>fQ l hq _ _ h) (h1 x),fun x=>fQ l hq _ _ (h2 x)⟩
theorem pG(hD:A3e P G D):∀ (c:Code) {Q Q':Exit ->bF ->AS ->Prop} (e:bF) (σ:AS),(∀ x e s,Q x e s ->Q' x e s) ->xA P G D c Q e σ ->xA P G D c Q' e σ:=by
 intro c
 induction c with
 |skip=>intro Q Q' e σ hq h;exact hq _ _ _ h
 |label l=>intro Q Q' e σ hq h;exact hq _ _ _ h
 | region id ops d=>
  intro Q Q' e σ hq h
  cases d with
  |false=>exact fQ _ (fun e s h=>hq _ _ _ h) _ _ h
  |true=>exact hD.mono _ _ _ _ _ (fun e s h=>hq _ _ _ h) h
 | seq a b iha ihb=>
  intro Q Q' e σ hq h
  refine iha e σ (fun x e s hx=> ?_) h
  cases x <;>first|exact ihb _ _ hq hx|exact hq _ _ _ hx
 | cond c a b iha ihb=>
  intro Q Q' e σ hq h
  obtain⟨t,ht,h1,h2⟩:=h
  exact⟨t,ht,fun x=>iha _ _ hq (h1 x),fun x=>ihb _ _ hq (h2 x)⟩
 | block id c ih=>
  intro Q Q' e σ hq h
  refine ih e σ (fun x e s hx=> ?_) h
  cases x <;>first|exact hq _ _ _ hx|skip
  simp only at hx ⊢
  split at hx
  ·rename_i hi;rw[if_pos hi];exact hq _ _ _ hx
  ·rename_i hi;rw[if_neg hi];exact hq _ _ _ hx
 | loop c ih=>
  intro Q Q' e σ hq h
  obtain⟨I,h0,h1⟩:=h
  refine⟨I,h0,fun n v σ' hI=>ih _ _ (fun x e s hx=> ?_) (h1 n v σ' hI)⟩
  cases x <;>first|exact hx|exact hq _ _ _ hx
 |exit id=>intro Q Q' e σ hq h;exact hq _ _ _ h
 |ret=>intro Q Q' e σ hq h;exact hq _ _ _ h
 |rangeFunc f ps a b _ _=>intro Q Q' e σ hq h;exact h.elim
 |scope c _=>intro Q Q' e σ hq h;exact h.elim
 |goto l=>intro Q Q' e σ hq h;exact h.elim
 |refuse w=>intro Q Q' e σ hq h;exact h.elim
theorem C4a(hD:A3e P G D):∀ (c:Code) {Q:Exit ->bF ->AS ->Prop} (e:bF) (σ:AS),xA P G D c Q e σ ->
  xA P G D c (fun x e' σ'=>Q x e' σ' /\ ∀ t,t ∉ cY c ->e' t=e t) e σ:=by
 intro c
 induction c with
 |skip=>intro Q e σ h;exact⟨h,fun _ _=>rfl⟩
 |label l=>intro Q e σ h;exact⟨h,fun _ _=>rfl⟩
 | region id ops d=>
  intro Q e σ h
  cases d with
  |false=>exact jY _ _ _ h
  |true=>exact hD.frame _ _ _ _ h
 | seq a b iha ihb=>
  intro Q e σ h
  refine pG hD a e σ (fun x e' s hx=> ?_) (iha e σ h)
  obtain⟨hx,hw⟩:=hx
  cases x with
  | normal=>
   refine pG hD b e' s (fun y e'' s' hy=> ⟨hy.1,fun t ht=> ?_⟩) (ihb e' s hx)
   simp only[cY,List.mem_append,not_or]at ht
   rw[hy.2 t ht.2,hw t ht.1]
  |_=>exact⟨hx,fun t ht=>hw t (fun hm=>ht (by simp only[cY,List.mem_append];exact .inl hm))⟩
 | cond c a b iha ihb=>
  intro Q e σ h
  obtain⟨t,ht,h1,h2⟩:=h
  refine⟨t,ht,fun x=>pG hD a e σ (fun y e' s hy=> ⟨hy.1,fun t ht=>hy.2 t (fun hm=>ht (by simp only[cY,List.mem_append];exact .inl hm))⟩) (iha _ _ (h1 x)),
   fun x=>pG hD b e σ (fun y e' s hy=> ⟨hy.1,fun t ht=>hy.2 t (fun hm=>ht (by simp only[cY,List.mem_append];exact .inr hm))⟩) (ihb _ _ (h2 x))⟩
 | block id c ih=>
  intro Q e σ h
  refine pG hD c e σ (fun x e' s hx=> ?_) (ih e σ h)
  obtain⟨hx,hw⟩:=hx
  cases x <;>first|exact⟨hx,hw⟩|skip
  simp only at hx ⊢
  split at hx
  ·rename_i hi;rw[if_pos hi];exact⟨hx,hw⟩
  ·rename_i hi;rw[if_neg hi];exact⟨hx,hw⟩
 | loop c ih=>
  intro Q e σ h
  obtain⟨I,h0,h1⟩:=h
  have hmrg:∀ v t,t ∉ cY c ->mrg (cY c) v e t=e t:=by
   intro v t ht
   unfold mrg
   rw[if_neg (by simpa using ht)]
  refine⟨I,h0,fun n v σ' hI=> ?_⟩
  refine pG hD c _ _ (fun x e' s hx=> ?_) (ih _ _ (h1 n v σ' hI))
  obtain⟨hx,hw⟩:=hx
  have hx2:∀ t,t ∉ cY (Code.loop c) ->e' t=e t:=fun t ht=> (hw t ht).trans (hmrg v t ht)
  cases x <;>first|exact hx|exact⟨hx,hx2⟩
 |exit id=>intro Q e σ h;exact⟨h,fun _ _=>rfl⟩
 |ret=>intro Q e σ h;exact⟨h,fun _ _=>rfl⟩
 |rangeFunc f ps a b _ _=>intro Q e σ h;exact h.elim
 |scope c _=>intro Q e σ h;exact h.elim
 |goto l=>intro Q e σ h;exact h.elim
 |refuse w=>intro Q e σ h;exact h.elim
theorem C4b(hD:A3e P G D)(N:Nat)(ds:List Deferred):∀ (c:Code) (Q:Exit ->bF ->AS ->Prop) (e:bF) (σ:AS) (K:bO) (a:Act) (w:World),cOK N c=true ->xA P G D c Q e σ ->St P G K N ds e σ a w ->
  c.wp P (fun x a' w'=>∃ e' σ' K',Q x e' σ' /\ St P G K' N ds e' σ' a' w' /\ K.le K') a w:=by
 intro c
 induction c with
 |skip=>intro Q e σ K a w _ h hs;exact wp_skip ⟨e,σ,K,h,hs,bO.le.refl K⟩
 |label l=>intro Q e σ K a w _ h hs;exact wp_label ⟨e,σ,K,h,hs,bO.le.refl K⟩
 | region id ops d=>
  intro Q e σ K a w hok h hs
  cases d with
  | false=>
   refine wp_region_list ?_
   exact iS (K0:=K) (fun e' σ' K' a' w' hq hs' hk=> ⟨e',σ',K',hq,hs',hk⟩) ops.toList e σ K a w hok h hs (bO.le.refl K)
  |true=>exact hD.sound N ds id ops _ _ e σ K a w hok h hs (fun e' σ' K' a' w' hq hs' hk=> ⟨e',σ',K',hq,hs',hk⟩)
 | seq x y ihx ihy=>
  intro Q e σ K a w hok h hs
  simp only[cOK,Bool.and_eq_true]at hok
  refine wp_seq (wp_mono (ihx _ e σ K a w hok.1 h hs) ?_)
  intro ex a' w' ⟨e',σ',K',hq,hs',hk⟩
  cases ex with
  | normal=>
   refine wp_mono (ihy Q e' σ' K' a' w' hok.2 hq hs') ?_
   intro ex2 a2 w2 ⟨e2,σ2,K2,hq2,hs2,hk2⟩
   exact⟨e2,σ2,K2,hq2,hs2,hk.trans hk2⟩
  |_=>exact⟨e',σ',K',hq,hs',hk⟩
 | cond c x y ihx ihy=>
  intro Q e σ K a w hok h hs
  simp only[cOK,Bool.and_eq_true]at hok
  obtain⟨t,ht,h1,h2⟩:=h
  have hc:=hs.er.eval hs.rel c
  rw[ht,VR.bool_iff]at hc
  cases t with
  |true=>exact wp_cond_true hc (ihx Q e σ K a w hok.1 (h1 rfl) hs)
  |false=>exact wp_cond_false hc (ihy Q e σ K a w hok.2 (h2 rfl) hs)
 | block id c ih=>
  intro Q e σ K a w hok h hs
  refine wp_block (wp_mono (ih _ e σ K a w hok h hs) ?_)
  intro ex a' w' ⟨e',σ',K',hq,hs',hk⟩
  cases ex <;>first|exact⟨e',σ',K',hq,hs',hk⟩|skip
  rename_i i
  simp only[Exit.inBlock]at hq ⊢
  split at hq
  ·rename_i hi;rw[if_pos hi];exact⟨e',σ',K',hq,hs',hk⟩
  ·rename_i hi;rw[if_neg hi];exact⟨e',σ',K',hq,hs',hk⟩
 | loop c ih=>
  intro Q e σ K a w hok h hs
  obtain⟨I,⟨n0,h0⟩,h1⟩:=h
  refine wp_loop_ghost (fun n a' w'=>∃ e' σ' K',I n e' σ' /\ St P G K' N ds e' σ' a' w' /\ K.le K' /\ ∀ t,t ∉ cY c ->e' t=e t) n0 ⟨e,σ,K,h0,hs,bO.le.refl K,fun _ _=>rfl⟩ ?_
  intro n a' w' ⟨e',σ',K',hI,hs',hk,hw⟩
  have hm:mrg (cY c) e' e=e':=by
   funext t
   unfold mrg
   split
   ·rfl
   ·rename_i ht;exact(hw t (by simpa using ht)).symm
  have h2:=h1 n e' σ' (by rw[hm];exact hI)
  rw[hm]at h2
  refine wp_mono (ih _ e' σ' K' a' w' hok (C4a hD c _ _ h2) hs') ?_
  intro ex a2 w2 ⟨e2,σ2,K2,⟨hq,hw2⟩,hs2,hk2⟩
  cases ex with
  | normal=>
   obtain⟨m,hm,hIm⟩:=hq
   exact⟨m,hm,e2,σ2,K2,hIm,hs2,hk.trans hk2,fun t ht=> (hw2 t ht).trans (hw t ht)⟩
  |_=>exact⟨e2,σ2,K2,hq,hs2,hk.trans hk2⟩
 |exit id=>intro Q e σ K a w _ h hs;exact wp_exit ⟨e,σ,K,h,hs,bO.le.refl K⟩
 |ret=>intro Q e σ K a w _ h hs;exact wp_ret ⟨e,σ,K,h,hs,bO.le.refl K⟩
 |rangeFunc f ps a b _ _=>intro Q e σ K a w _ h hs;exact h.elim
 |scope c _=>intro Q e σ K a w _ h hs;exact h.elim
 |goto l=>intro Q e σ K a w _ h hs;exact h.elim
 |refuse w=>intro Q e σ K a w _ h hs;exact h.elim
end
end Go.Av
