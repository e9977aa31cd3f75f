/- Rows of operations whose order is drawn: one walk in the text's order serves every order. -/
import Derived.Test.YtinfbihcnonaoaaZ03
import Derived.StillTail
set_option linter.unusedVariables false
set_option linter.unusedSimpArgs false
namespace Go.Av
open Go Go.RowKit
def bB(P:Program)(G:Nat ->AV)(f:FuncId)(args:List AV)(σ0:AS)(v:AV):Prop:=
 ∀ σ,σ0.le σ ->aH P G f args σ fun r σ'=>r=v /\ σ'=σ
def cU(o:Oper):Bool:=match o.op with| .alloc _=>true| .box _ _=>true|_=>false
def iS(P:Program)(G:Nat ->AV)(e:aK)(σ0 σ:AS)(Kc:AV ->AS ->Prop)(c:Callee)(args:List Operand)(ts:List TypeId):Prop:=
 match c with
 | .value f=> (match ev G e f with
   | .fn k caps=>∃ v,bB P G k (args.map (ev G e)++caps) σ0 v /\ Kc v σ
   |_=>False)
 | .builtin b=>if b= .append then False else ∃ r,eK P b ts.toArray (args.map (ev G e))=some r /\ Kc r σ
 | .invoke _ _=>False
theorem pI{P:Program}{σ σ':AS}{t:TypeId}{b off:Nat}{x:AV}{z:List AV}(h:fG P σ t (.ptr b off) x=some (σ.setBox b z))(hb:σ'.box b=σ.box b):fG P σ' t (.ptr b off) x=some (σ'.setBox b z):=by
 have inj:∀ xs ys:List AV,σ.setBox b xs=σ.setBox b ys ->xs=ys:=fun xs ys h=>by
  have h1:(σ.setBox b xs).box b=(σ.setBox b ys).box b:=by rw[h]
  simpa [AS.setBox] using h1
 unfold fG at h ⊢
 cases htk:tk P t with
 |none=>simp only[htk]at h;cases h
 | some y=>
  obtain⟨ag,n⟩:=y
  simp only[htk]at h ⊢
  cases hbx:σ.box b with
  |none=>simp only[hbx]at h;cases h
  | some cs=>
   rw[hbx]at hb
   simp only[hbx]at h
   simp only[hb]
   split at h
   ·rename_i hc
    simp only[Option.some.injEq]at h
    have:=inj _ _ h
    rw[if_pos hc,this]
   ·cases h
def nN(P:Program)(σ0:AS)(t:TypeId)(p x:AV):Prop:=∃ b off z,p= .ptr b off /\ σ0.box b=some z /\ fG P σ0 t (.ptr b off) x=some (σ0.setBox b z)
theorem A8g{σ:AS}{b:Nat}{z:List AV}(h:σ.box b=some z):σ.setBox b z=σ:=by
 unfold AS.setBox;cases σ with
 | mk box tip ty=>
  simp only[AS.mk.injEq,and_true]
  funext i
  split
  ·rename_i e;subst e;exact h.symm
  ·rfl
theorem mN{P:Program}{σ0 σ:AS}(hl:σ0.le σ){t:TypeId}{p x:AV}(h:nN P σ0 t p x):fG P σ t p x=some σ:=by
 obtain⟨b,off,z,rfl,hb,ha⟩:=h
 have hb':=hl.box _ _ hb
 rw[pI ha (by rw[hb,hb']),A8g hb']
def hop(P:Program)(G:Nat ->AV)(o:Oper)(e:aK)(σ0 σ:AS)(Kc:AV ->AS ->Prop):Prop:=
 match o.op with
 | .store t p x=>nN P σ0 t (ev G e p) (ev G e x) /\ Kc .undef σ
 | .makeSlice .. =>False
 | .range .. =>False
 | .next .. =>False
 | .makeMap .. =>False
 | .lookup .. =>False
 | .mapUpdate .. =>False
 | .call c=>iS P G e σ0 σ Kc c.callee c.args.toList c.argTypes.toList
 | .alloc E=>∃ z,zc P E=some z /\ ∀ b,σ.fresh b ->Kc (.ptr b 0) (σ.setBox b z)
 | .box E x=>isv (ev G e x)=true /\ ∀ b,σ.fresh b ->Kc (.ptr b 0) (σ.setBox b (flat (ev G e x)))
 | .convert s d x=>∃ r,cX P σ0 s d (ev G e x)=some r /\ Kc r σ
 | .buildSlice t n ps=>∃ r,dG P t n (gE G e ps.toList)=some r /\ Kc r σ
 |_=>dJ P G o e σ0 fun r _=>Kc r σ
inductive jB where
 |quiet (v:AV)
 |alloc (z:List AV)
 |write (b:Nat) (z0 z:List AV)
def jB.out:jB ->AS ->AV ->AS ->Prop
 | .quiet v,σ,r,σ'=>r=v /\ σ'=σ
 | .alloc z,σ,r,σ'=>∃ b,σ.fresh b /\ r= .ptr b 0 /\ σ'=σ.setBox b z
 | .write b _ z,σ,r,σ'=>r= .undef /\ σ'=σ.setBox b z
def jB.pre:jB ->AS ->Prop
 | .write b z0 _,σ=>σ.box b=some z0
 |_,_=>True
def jB.isW:jB ->Bool
 | .write .. =>true
 |_=>false
def jB.ok(σi:AS)(av:List Nat):jB ->Prop
 | .write b z0 _=>b ∈ av /\ σi.box b=some z0
 |_=>True
def jB.rest(av:List Nat):jB ->List Nat
 | .write b _ _=>av.filter fun c=>decide (c ≠ b)
 |_=>av
theorem jB.pre_of{k:jB}(h:k.isW=false)(σ:AS):k.pre σ:=by cases k <;>first|trivial|cases h
theorem jB.ok_of{k:jB}(h:k.isW=false){σi:AS}{av:List Nat} :k.ok σi av:=by cases k <;>first|trivial|cases h
theorem jB.rest_of{k:jB}(h:k.isW=false){av:List Nat} :k.rest av=av:=by cases k <;>first|rfl|cases h
def iF(o:Oper):Bool:=match o.op with| .store .. =>true|_=>false
def oZ(P:Program)(G:Nat ->AV)(o:Oper)(e:aK)(σ0:AS)(k:jB):Prop:=
 ∀ σ,σ0.le σ ->k.pre σ ->∀ Kc:AV ->AS ->Prop,(∀ r σ',k.out σ r σ' ->Kc r σ') ->dJ P G o e σ Kc
theorem rP{P:Program}{σ0 σ:AS}(h:σ0.le σ){t:TypeId}{p r:AV}(k:fR P σ0 t p=some r):fR P σ t p=some r:=by
 unfold fR at k ⊢
 split at k
 ·cases k
 ·cases p <;>simp only at k ⊢ <;>first|exact k|skip
  split at k
  ·rename_i cs hb;rw[h.box _ _ hb];exact k
  ·cases k
theorem yK{P:Program}{σ0 σ:AS}(h:σ0.le σ){s d:TypeId}{x r:AV}(k:cX P σ0 s d x=some r):cX P σ s d x=some r:=by
 unfold cX at k ⊢
 split at k
 ·exact k
 ·exact k
 ·rename_i b n q F0
  split at k
  ·rename_i hc
   rw[if_pos hc]
   cases hb:σ0.box b with
   |none=>rw[hb]at k;cases k
   |some cs=>rw[hb]at k;rw[h.box _ _ hb];exact k
  ·cases k
 ·exact k
theorem sO{P:Program}{G:Nat ->AV}{o:Oper}{e:aK}{σ0 σ:AS}{Kc:AV ->AS ->Prop}(h:hop P G o e σ0 σ Kc):
  ∃ k,oZ P G o e σ0 k /\ k.isW=false /\ (cU o=false ->∃ v,k= .quiet v) /\ ∀ r σ',k.out σ r σ' ->Kc r σ':=by
 have q:∀ v,(∀ σ',σ0.le σ' ->∀ Kc:AV ->AS ->Prop,Kc v σ' ->dJ P G o e σ' Kc) ->Kc v σ ->∃ k,oZ P G o e σ0 k /\ k.isW=false /\ (cU o=false ->∃ v,k= .quiet v) /\ ∀ r σ',k.out σ r σ' ->Kc r σ':=
  fun v h1 h2=> ⟨.quiet v,fun σ' hl _ Kc hk=>h1 σ' hl Kc (hk _ _ ⟨rfl,rfl⟩),rfl,fun _=> ⟨v,rfl⟩,fun r σ' ⟨hr,hs⟩=>by subst hr hs;exact h2⟩
 unfold hop at h
 split at h
 ·rename_i t p x hop
  refine q .undef (fun σ' hl Kc hK=> ?_) h.2
  unfold dJ;rw[hop]
  exact⟨σ',mN hl h.1,hK⟩
 ·exact h.elim
 ·exact h.elim
 ·exact h.elim
 ·exact h.elim
 ·exact h.elim
 ·exact h.elim
 ·rename_i c hop
  unfold iS at h
  split at h
  ·rename_i f hf
   split at h
   ·rename_i k caps hk
    obtain⟨v,h1,h2⟩:=h
    refine q v (fun σ' hl Kc hK=> ?_) h2
    unfold dJ;rw[hop]
    simp only[pZ,hf,hk]
    exact(h1 σ' hl).mono fun r s ⟨hr,hs⟩=>by subst hr hs;exact hK
   ·exact h.elim
  ·rename_i b hb
   split at h
   ·exact h.elim
   ·rename_i hne
    obtain⟨r,h1,h2⟩:=h
    refine q r (fun σ' hl Kc hK=> ?_) h2
    unfold dJ;rw[hop]
    have hne2: ¬ b= .unsafeString:=fun e=>by subst e;simp[eK]at h1
    have hne3: ¬ b= .copy:=fun e=>by subst e;simp[eK]at h1
    simp only[pZ,hb,if_neg hne,if_neg hne2,if_neg hne3]
    exact⟨r,h1,hK⟩
  ·exact h.elim
 ·rename_i E hop
  obtain⟨z,hz,h1⟩:=h
  refine⟨.alloc z,fun σ' hl _ Kc hk=> ?_,rfl,(fun hi=>by unfold cU at hi;rw[hop]at hi;cases hi),fun r σ' ⟨b,hb,hr,hs⟩=>by subst hr hs;exact h1 b hb⟩
  unfold dJ;rw[hop]
  exact⟨z,hz, .inl fun b hb=>hk _ _ ⟨b,hb,rfl,rfl⟩⟩
 ·rename_i E x hop
  obtain⟨hx,h1⟩:=h
  refine⟨.alloc (flat (ev G e x)),fun σ' hl _ Kc hk=> ?_,rfl,(fun hi=>by unfold cU at hi;rw[hop]at hi;cases hi),fun r σ' ⟨b,hb,hr,hs⟩=>by subst hr hs;exact h1 b hb⟩
  unfold dJ;rw[hop]
  exact⟨hx,fun b hb=>hk _ _ ⟨b,hb,rfl,rfl⟩⟩
 ·rename_i s d x hop
  obtain⟨r,h1,h2⟩:=h
  exact q r (fun σ' hl Kc hK=>by unfold dJ;rw[hop];exact .inl ⟨r,yK hl h1,hK⟩) h2
 ·rename_i t n ps hop
  obtain⟨r,h1,h2⟩:=h
  exact q r (fun σ' hl Kc hK=>by unfold dJ;rw[hop];exact .inl ⟨r,h1,hK⟩) h2
 ·rename_i _ n1 n0 n5 n6 m1 m2 m3 n2 n3 n4 n7 n8
  unfold dJ at h
  split at h
  case h_4 x hop=>exact absurd hop (n3 _)
  case h_5 x y hop=>exact absurd hop (n4 _ _)
  case h_9 x y z hop=>exact absurd hop (n1 _ _ _)
  case h_22 x hop=>exact absurd hop (n2 _)
  case h_1 x hop=>exact q _ (fun σ' hl Kc hK=>by unfold dJ;rw[hop];exact hK) h
  case h_2 x hop=>exact q _ (fun σ' hl Kc hK=>by unfold dJ;rw[hop];exact hK) h
  case h_3 c x y hop=>
   obtain⟨t,ht,h1⟩:=h
   exact q _ (fun σ' hl Kc hK=>by unfold dJ;rw[hop];exact⟨t,ht,hK⟩) h1
  case h_8 t x hop=>
   obtain⟨r,h1,h2⟩:=h
   exact q r (fun σ' hl Kc hK=>by unfold dJ;rw[hop];exact⟨r,rP hl h1,hK⟩) h2
  case h_10 x hop=>
   obtain⟨h1,h2⟩:=h
   exact q _ (fun σ' hl Kc hK=>by unfold dJ;rw[hop];exact⟨h1,hK⟩) h2
  case h_14 fn first caps hop=>
   split at h
   ·rename_i f hf
    exact q _ (fun σ' hl Kc hK=>by unfold dJ;rw[hop];simp only[hf];exact hK) h
   ·rename_i f x hf
    obtain⟨h1,b,j,h2,h3⟩:=h
    exact q _ (fun σ' hl Kc hK=>by unfold dJ;rw[hop];simp only[hf];exact⟨h1,b,j,h2,hK⟩) h3
   ·exact h.elim
  case h_23 x y z hop=>exact absurd hop (n0 _ _ _)
  case h_13 s d x hop=>exact absurd hop (n7 _ _ _)
  case h_7 t n ps hop=>exact absurd hop (n8 _ _ _)
  case h_15 t x lo hi hop=>
   obtain⟨r,h1,h2⟩:=h
   exact q r (fun σ' hl Kc hK=>by unfold dJ;rw[hop];exact⟨r,wG hl h1,hK⟩) h2
  case h_24 x y hop=>exact absurd hop (n5 _ _)
  case h_25 x hop=>exact absurd hop (n6 _ _)
  case h_26 x y hop=>exact absurd hop (m1 _ _)
  case h_27 x y z u hop=>exact absurd hop (m2 _ _ _ _)
  case h_28 x y z u hop=>exact absurd hop (m3 _ _ _ _)
  case h_29=>exact h.elim
  all_goals
   (rename_i hop
    obtain⟨r,h1,h2⟩:=h
    exact q r (fun σ' hl Kc hK=>by unfold dJ;rw[hop];exact⟨r,h1,hK⟩) h2)
def iE(P:Program)(G:Nat ->AV)(ops:List Oper)(σ0:AS)(L:aK ->AS ->Prop):List Oper ->aK ->AS ->Prop
 |[],e,σ=>L e σ
 | o::rest,e,σ=>∃ b,bZ ops e o.guard=some b /\ (b=true ->hop P G o e σ0 σ fun r σ'=>iE P G ops σ0 L rest (e.upd o.dst r) σ') /\
   (b=false ->iE P G ops σ0 L rest (e.upd o.dst (.tup [])) σ)
def eE(P:Program)(G:Nat ->AV)(o:Oper)(e:aK)(σ0 σ:AS)(av:List Nat)(Kc:AV ->AS ->List Nat ->Prop):Prop:=
 match o.op with
 | .store t p x=> (∃ b off z0 z,ev G e p= .ptr b off /\ b ∈ av /\ σ.box b=some z0 /\ fG P σ t (.ptr b off) (ev G e x)=some (σ.setBox b z) /\ Kc .undef (σ.setBox b z) (av.filter fun c=>decide (c ≠ b))) \/
   (nN P σ0 t (ev G e p) (ev G e x) /\ Kc .undef σ av)
 |_=>hop P G o e σ0 σ fun r σ'=>Kc r σ' av
def bW(P:Program)(G:Nat ->AV)(ops:List Oper)(σ0:AS)(L:aK ->AS ->Prop):List Oper ->aK ->AS ->List Nat ->Prop
 |[],e,σ,_=>L e σ
 | o::rest,e,σ,av=>∃ b,bZ ops e o.guard=some b /\ (b=true ->eE P G o e σ0 σ av fun r σ' av'=>bW P G ops σ0 L rest (e.upd o.dst r) σ' av') /\
   (b=false ->bW P G ops σ0 L rest (e.upd o.dst (.tup [])) σ av)
section any
variable {P:Program} {G:Nat ->AV} {ops:Array Oper} {σ0 σi:AS} {md:Region.Mode}
def rG(P:Program)(G:Nat ->AV)(ops:Array Oper)(σ0:AS)(o:Oper)(e:aK)(k:jB):Prop:=
 (bZ ops.toList e o.guard=some true /\ oZ P G o e σ0 k /\ (iF o=false ->k.isW=false)) \/ (bZ ops.toList e o.guard=some false /\ k= .quiet (.tup []))
def tOp(P:Program)(G:Nat ->AV)(ops:Array Oper)(σ0 σi:AS)(i:Nat)(K:aK ->AS ->List Nat ->Prop)(e:aK)(σ:AS)(av:List Nat):Prop:=
 ∃ o k,ops[i]? =some o /\ rG P G ops σ0 o e k /\ k.ok σi av /\ ∀ r σ',k.out σ r σ' ->K (e.upd o.dst r) σ' (k.rest av)
theorem B1e{e:aK}{d:Option Tmp}{r:AV}{x:Operand}(h:∀ t,d=some t ->x ≠ .tmp t):ev G (e.upd d r) x=ev G e x:=by
 cases x with
 |tmp t=>exact aK.upd_other fun y hy hyt=>h y hy (by rw[hyt])
 |_=>rfl
theorem aK.upd_comm{e:aK}{x y:Option Tmp}(v u:AV)(h:∀ d,x=some d ->y ≠ some d):(e.upd x v).upd y u=(e.upd y u).upd x v:=by
 cases x with
 |none=>rfl
 | some d=>
  cases y with
  |none=>rfl
  | some c=>
   have hne:d ≠ c:=fun he=>h d rfl (by rw[he])
   funext j
   show(if j=c then u else if j=d then v else e j)=(if j=d then v else if j=c then u else e j)
   by_cases h1:j=c
   ·rw[if_pos h1,if_neg (by rw[h1];exact Ne.symm hne),if_pos h1]
   ·rw[if_neg h1,if_neg h1]
theorem        gH {o : Oper} {e e' :  aK} {σ : AS} {K : AV -> AS ->Prop}(h:∀ x,x ∈ o.op.operands ->ev G e x=ev G e' x)(hh:dJ P G o e σ K):dJ P G o e' σ K:=by
 have pr:∀ ps:List (Nat × Operand),(∀ x,x ∈ ps.map (·.2) ->ev G e x=ev G e' x) ->gE G e ps=gE G e' ps:=fun ps hp=>
  List.map_congr_left fun p hm=>by rw[hp p.2 (List.mem_map.2 ⟨p,hm,rfl⟩)]
 unfold dJ at hh ⊢
 generalize o.op=op at h hh ⊢
 cases op <;>simp only[Op.operands]at h <;>first|exact hh.elim|skip
 case build t ps=>simp only at hh ⊢;rw[<- pr ps.toList fun x hx=>h x (by simpa using hx)];exact hh
 case buildSlice t n ps=>simp only at hh ⊢;rw[<- pr ps.toList fun x hx=>h x (by simpa using hx)];exact hh
 case move x=>simp only at hh ⊢;rw[<- h x (by simp)];exact hh
 case assign x=>simp only at hh ⊢;rw[<- h x (by simp)];exact hh
 case pick c x y=>simp only at hh ⊢;rw[<- h c (by simp),<- h x (by simp),<- h y (by simp)];exact hh
 case alloc E=>exact hh
 case box E x=>simp only at hh ⊢;rw[<- h x (by simp)];exact hh
 case load t x=>simp only at hh ⊢;rw[<- h x (by simp)];exact hh
 case store t p x=>simp only at hh ⊢;rw[<- h p (by simp),<- h x (by simp)];exact hh
 case nilCheck x=>simp only at hh ⊢;rw[<- h x (by simp)];exact hh
 case range t x=>simp only at hh ⊢;rw[<- h x (by simp)];exact hh
 case makeMap t r=>exact hh
 case lookup t x k ok=>simp only at hh ⊢;rw[<- h x (by simp),<- h k (by simp)];exact hh
 case mapUpdate t m k x=>simp only at hh ⊢;rw[<- h m (by simp),<- h k (by simp),<- h x (by simp)];exact hh
 case next x s=>
  cases s with
  |false=>exact hh.elim
  |true=>simp only at hh ⊢;rw[<- h x (by simp)];exact hh
 case binOp op t x y yt=>simp only at hh ⊢;rw[<- h x (by simp),<- h y (by simp)];exact hh
 case unOp op t x=>simp only at hh ⊢;rw[<- h x (by simp)];exact hh
 case convert s d x=>simp only at hh ⊢;rw[<- h x (by simp)];exact hh
 case fieldAddr t x i=>simp only at hh ⊢;rw[<- h x (by simp)];exact hh
 case field t x i=>simp only at hh ⊢;rw[<- h x (by simp)];exact hh
 case indexAddr t x y=>simp only at hh ⊢;rw[<- h x (by simp),<- h y (by simp)];exact hh
 case index t x y=>simp only at hh ⊢;rw[<- h x (by simp),<- h y (by simp)];exact hh
 case extract x i=>simp only at hh ⊢;rw[<- h x (by simp)];exact hh
 case makeSlice t x y=>simp only at hh ⊢;rw[<- h x (by simp),<- h y (by simp)];exact hh
 case makeFunc fn first caps=>
  have e1:caps.toList.map (ev G e)=caps.toList.map (ev G e'):=List.map_congr_left fun x hx=>h x (by simp at hx ⊢;exact .inr hx)
  simp only[<- e1]at hh ⊢
  split at hh
  ·exact hh
  ·rename_i f x hfirst
   obtain⟨h1,b,o,h2,h3⟩:=hh
   exact⟨h1,b,o,by rw[<- h x (by
    have:x ∈ first.toList:=by rw[hfirst];simp
    simp at this ⊢;exact .inl this)];exact h2,h3⟩
  ·exact hh.elim
 case slice t x lo hi mx=>
  cases mx with
  | some m=>
   have hx:=h x (by simp)
   have hlo:lo.map (ev G e)=lo.map (ev G e'):=by cases lo with|none=>rfl|some l=>simp only[Option.map_some];rw[h l (by simp)]
   have hhi:hi.map (ev G e)=hi.map (ev G e'):=by cases hi with|none=>rfl|some l=>simp only[Option.map_some];rw[h l (by simp)]
   have hm:=h m (by simp)
   simp only at hh ⊢
   rw[<- hx,<- hlo,<- hhi,<- hm]
   exact hh
  | none=>
   have hx:=h x (by simp)
   have hlo:lo.map (ev G e)=lo.map (ev G e'):=by cases lo with|none=>rfl|some l=>simp only[Option.map_some];rw[h l (by simp)]
   have hhi:hi.map (ev G e)=hi.map (ev G e'):=by cases hi with|none=>rfl|some l=>simp only[Option.map_some];rw[h l (by simp)]
   simp only[<- hx,<- hlo,<- hhi]
   exact hh
 case call c =>
  obtain⟨callee,args,ts⟩:=c
  simp only[Call.operands]at h
  have e1:args.toList.map (ev G e)=args.toList.map (ev G e'):=List.map_congr_left fun x hx=>h x (by simp at hx ⊢;exact .inr hx)
  cases callee with
  | value f=>
   have hf:=h f (by simp)
   simp only[pZ]at hh ⊢
   rw[<- hf,<- e1]
   exact hh
  | builtin b =>
   simp only[pZ]at hh ⊢
   split at hh
   ·rename_i hb
    rw[if_pos hb]
    split at hh
    ·rename_i s x t tx hargs hts
     rw [<- h s (by have : s ∈ args.toList := by rw [hargs]; simp
                    simp at this ⊢; exact this), <- h x (by have:x ∈ args.toList:=by rw[hargs];simp
                                                            simp at this ⊢;exact this)]
     exact hh
    ·exact hh.elim
   ·rename_i hb
    rw[if_neg hb,<- e1]
    split at hh
    ·rename_i hb2
     rw[if_pos hb2]
     split at hh
     ·rename_i s x t tx hargs hts
      rw [<- h s (by have : s ∈ args.toList := by rw [hargs]; simp
                     simp at this ⊢; exact this), <- h x (by have:x ∈ args.toList:=by rw[hargs];simp
                                                             simp at this ⊢;exact this)]
      exact hh
     ·exact hh.elim
    ·rename_i hb2
     rw[if_neg hb2]
     split at hh
     ·rename_i hb3
      rw[if_pos hb3]
      split at hh
      ·rename_i s x t tx hargs hts
       rw [<- h s (by have : s ∈ args.toList := by rw [hargs]; simp
                      simp at this ⊢; exact this), <- h x (by have:x ∈ args.toList:=by rw[hargs];simp
                                                              simp at this ⊢;exact this)]
       exact hh
      ·exact hh.elim
     ·rename_i hb3
      rw[if_neg hb3]
      exact hh
  |invoke r m=>exact hh.elim
theorem oZ.put{o:Oper}{e:aK}{k:jB}{d:Option Tmp}{r:AV}(h:∀ t,d=some t ->t ∉ o.looksAt ops):oZ P G o (e.upd d r) σ0 k ↔ oZ P G o e σ0 k:=by
 have key:∀ x,x ∈ o.op.operands ->ev G (e.upd d r) x=ev G e x:=fun x hx=>B1e fun t ht hxt=>h t ht (by
  subst hxt
  exact List.mem_append_left _ (List.mem_filterMap.2 ⟨.tmp t,by simpa using hx,rfl⟩))
 exact⟨fun hd σ hl hp Kc hk=>gH key (hd σ hl hp Kc hk),fun hd σ hl hp Kc hk=>gH (fun x hx=> (key x hx).symm) (hd σ hl hp Kc hk)⟩
theorem yZ{o:Oper}{e:aK}{d:Option Tmp}{r:AV}(h:∀ t,d=some t ->t ∉ o.looksAt ops):bZ ops.toList (e.upd d r) o.guard=bZ ops.toList e o.guard:=by
 unfold bZ
 cases hg:o.guard with
 |none=>rfl
 | some gw=>
  obtain⟨j,want⟩:=gw
  simp only
  cases ht:(ops.toList[j]?).bind (·.dst)with
  |none=>rfl
  | some t=>
   have:e.upd d r t=e t:=aK.upd_other fun x hx hxt=>h x hx (by
    subst hxt
    unfold Oper.looksAt
    refine List.mem_append_right _ ?_
    rw[hg]
    have ht':(ops[j]?).bind (·.dst)=some x:=by simpa using ht
    simp[ht'])
   simp only[this]
theorem rG.put{o:Oper}{e:aK}{k:jB}{d:Option Tmp}{r:AV}(h:∀ t,d=some t ->t ∉ o.looksAt ops):rG P G ops σ0 o (e.upd d r) k ↔ rG P G ops σ0 o e k:=by
 unfold rG
 rw[yZ h,oZ.put h]
def iD(P:Program)(G:Nat ->AV)(md:Region.Mode)(ops:Array Oper)(σ0 σi:AS)(L:Array Bool ->aK ->AS ->Prop):Nat ->Array Bool ->aK ->AS ->List Nat ->Prop
 |0,listed,e,σ,_=>L listed e σ
 |f+1,listed,e,σ,av=>Region.ready md ops listed ≠ [] /\ ∀ i ∈ Region.ready md ops listed,tOp P G ops σ0 σi i (iD P G md ops σ0 σi L f (listed.setIfInBounds i true)) e σ av
def rC(σ0 σi σ:AS)(av:List Nat):Prop:=∀ c,c ∈ av ->σ.box c=σi.box c /\ (σi.box c).isSome=true /\ σ0.box c=none
theorem rC.fresh_ne{σ:AS}{av:List Nat}(h:rC σ0 σi σ av){b c:Nat}(hb:b ∈ av)(hc:σ.fresh c):c ≠ b:=fun e=>by
 subst e
 obtain⟨h1,h2,_⟩:=h c hb
 rw[<- h1,hc.1]at h2;cases h2
theorem rC.out{k:jB}{σ σ':AS}{r:AV}{av:List Nat}(h:rC σ0 σi σ av)(hk:k.out σ r σ'):rC σ0 σi σ' (k.rest av):=by
 cases k with
 |quiet v=>obtain⟨_,rfl⟩:=hk;exact h
 | alloc z=>
  obtain⟨b,hb,_,rfl⟩:=hk
  intro c hc
  obtain⟨h1,h2,h3⟩:=h c hc
  refine⟨?_,h2,h3⟩
  have:=h.fresh_ne hc hb
  simp only[AS.setBox,if_neg (Ne.symm this)];exact h1
 | write b z0 z=>
  obtain⟨_,rfl⟩:=hk
  intro c hc
  simp only[jB.rest,List.mem_filter,decide_eq_true_eq]at hc
  obtain⟨h1,h2,h3⟩:=h c hc.1
  exact⟨by simp only[AS.setBox,if_neg hc.2];exact h1,h2,h3⟩
theorem tY {n i:Nat} {oi:Oper} {v:AV} {L:Array Bool ->aK ->AS ->Prop} (hi:ops[i]? =some oi)
  (hdone:∀ listed e s,L listed e s ->∀ j ∈ Region.ready md ops listed,n <=j)
  (htw:∀ listed,HeadInv md ops n listed ->listed.getD i true=false ->∀ t,n <=t ->t ∉ Region.ready md ops listed) (hin:i < n):
  ∀ (f:Nat) (listed:Array Bool) (e:aK) (σ:AS) (av:List Nat),HeadInv md ops n listed ->
   (∀ j oj,ops[j]? =some oj ->j ≠ i ->listed.getD j true=false -> (∀ e ∈ oj.after,Region.binds md e=true ->e.on ≠ i) ->oi.apart ops oj=true) ->
   i ∈ Region.ready md ops listed ->rG P G ops σ0 oi e (.quiet v) ->
   iD P G md ops σ0 σi L f (listed.setIfInBounds i true) (e.upd oi.dst v) σ av ->iD P G md ops σ0 σi L (f+1) listed e σ av:=by
 intro f
 induction f with
 | zero=>
  intro listed e σ av inv _ hr hy H
  have hun:=(mem_ready.1 hr).1
  refine⟨fun h=> (by rw[h]at hr;cases hr),fun j hj=> ?_⟩
  by_cases hji:j=i
  ·subst hji;exact⟨oi,_,hi,hy,trivial,fun r s ⟨h1,h2⟩=>by subst h1 h2;exact H⟩
  ·have h1:=hdone _ _ _ H j (ready_mono hj hji)
   exact absurd hj (htw listed inv hun j h1)
 | succ f ih=>
  intro listed e σ av inv hfree hr hy H
  have hun:=(mem_ready.1 hr).1
  refine⟨fun h=> (by rw[h]at hr;cases hr),fun j hj=> ?_⟩
  have hjn:j < n:=by
   rcases Nat.lt_or_ge j n with h|h
   ·exact h
   ·exact absurd hj (htw listed inv hun j h)
  by_cases hji:j=i
  ·subst hji;exact⟨oi,_,hi,hy,trivial,fun r s ⟨h1,h2⟩=>by subst h1 h2;exact H⟩
  ·obtain⟨oj,kj,hoj,hyj,hokj,hnext⟩:=H.2 j (ready_mono hj hji)
   obtain⟨hjun,oj',hoj',hall⟩:=mem_ready.1 hj
   have:oj'=oj:=Option.some.inj (hoj'.symm.trans hoj)
   subst this
   have hnot:∀ e ∈ oj'.after,Region.binds md e=true ->e.on ≠ i:=fun e he hb heq=>by
    have h1:=hall e he hb
    rw[heq,getD_both hun]at h1
    cases h1
   have hap:=hfree j oj' hoj hji hjun hnot
   obtain⟨a1,a2,a3⟩:=Oper.apart_spec hap
   have hfree':∀ k ok,ops[k]? =some ok ->k ≠ i -> (listed.setIfInBounds j true).getD k true=false ->
     (∀ e ∈ ok.after,Region.binds md e=true ->e.on ≠ i) ->oi.apart ops ok=true:=fun k ok hk hki hun hno=>by
    refine hfree k ok hk hki ?_ hno
    by_cases hjk:j=k
    ·subst hjk;exact hjun
    ·rw[getD_set_ne true hjk]at hun;exact hun
   refine⟨oj',kj,hoj,(rG.put a1).1 hyj,hokj,fun r s hrs=> ?_⟩
   refine ih (listed.setIfInBounds j true) _ _ _ (inv.set hj hjn) hfree' (ready_mono hr (Ne.symm hji)) ((rG.put a3).2 hy) ?_
   rw[Array.setIfInBounds_comm _ _ hji,<- aK.upd_comm v r a2]
   exact hnext r s hrs
theorem jB.out_le{k:jB}{σ σ':AS}{r:AV}{av:List Nat}(h:σ0.le σ)(hav:rC σ0 σi σ av)(hok:k.ok σi av)(hk:k.out σ r σ'):σ0.le σ':=by
 cases k with
 |write b z0 z=>rw[hk.2];exact h.setBox (hav b hok.1).2.2 z
 |quiet v=>rw[hk.2];exact h
 |alloc z=>obtain⟨b,hb,_,rfl⟩:=hk;exact h.setBox (h.fresh hb).1 z
def yA(σ:AS):Prop:=∃ n,∀ b,n <=b ->σ.fresh b
theorem yA.setBox{σ:AS}(h:yA σ)(b:Nat)(cs:List AV):yA (σ.setBox b cs):=by
 obtain⟨n,hn⟩:=h
 refine⟨max n (b+1),fun c hc=> ?_⟩
 have h1:=hn c (by omega)
 have hne:c ≠ b:=by omega
 exact⟨by simp only[AS.setBox,if_neg hne];exact h1.1,h1.2.1,h1.2.2⟩
theorem yA.out{σ σ':AS}{k:jB}{r:AV}(h:yA σ)(ho:k.out σ r σ'):yA σ':=by
 cases k with
 |quiet v=>obtain⟨_,rfl⟩:=ho;exact h
 |alloc z=>obtain⟨b,_,_,rfl⟩:=ho;exact h.setBox b z
 |write b z0 z=>obtain⟨_,rfl⟩:=ho;exact h.setBox b z
theorem dE{σ:AS}{b c:Nat}{cs:List AV} :(σ.setBox c cs).fresh b ↔ σ.fresh b /\ b ≠ c:=by
 unfold AS.fresh AS.setBox
 simp only
 by_cases h:b=c
 ·simp[h]
 ·simp[h]
theorem AS.setBox_comm{σ:AS}{b c:Nat}(h:b ≠ c)(xs ys:List AV):(σ.setBox b xs).setBox c ys=(σ.setBox c ys).setBox b xs:=by
 unfold AS.setBox
 congr 1
 funext i
 show(if i=c then some ys else if i=b then some xs else σ.box i)=(if i=b then some xs else if i=c then some ys else σ.box i)
 by_cases h1:i=c
 ·rw[if_pos h1,if_neg (by rw[h1];exact Ne.symm h),if_pos h1]
 ·rw[if_neg h1,if_neg h1]
theorem vB{σ:AS}{k:jB}{b:Nat}{z:List AV}{x:mR × Nat}{r:AV}(hb:σ.fresh b): ¬ k.out σ r ((σ.setBox b z).setTy b x):=by
 intro h
 have hty:((σ.setBox b z).setTy b x).ty b=some x:=by simp[AS.setTy]
 cases k with
 | quiet v=>
  obtain⟨_,h2⟩:=h
  rw[h2,hb.2.2]at hty
  cases hty
 | alloc z'=>
  obtain⟨c,_,_,h2⟩:=h
  rw[h2]at hty
  have:(σ.setBox c z').ty b=σ.ty b:=rfl
  rw[this,hb.2.2]at hty
  cases hty
 | write c z0 z'=>
  obtain⟨_,h2⟩:=h
  rw[h2]at hty
  have:(σ.setBox c z').ty b=σ.ty b:=rfl
  rw[this,hb.2.2]at hty
  cases hty
theorem A1v{o:Oper}{e:aK}{k:jB}(ha:cU o=true)(hw:k.isW=false)(hd:oZ P G o e σ0 k):∃ z,oZ P G o e σ0 (.alloc z) /\ ∀ σ r σ',σ0.le σ -> (jB.alloc z).out σ r σ' ->k.out σ r σ':=by
 unfold cU at ha
 split at ha
 ·rename_i E hop
  have h0:=hd σ0 (AS.le.refl σ0) (k.pre_of hw _) (fun r s=>True) (fun _ _ _=>trivial)
  unfold dJ at h0
  rw[hop]at h0
  obtain⟨z,hz,_⟩:=h0
  refine⟨z,fun σ hl _ Kc hk=> ?_,fun σ r σ' hl ⟨b,hb,hr,hs⟩=> ?_⟩
  ·unfold dJ;rw[hop]
   exact⟨z,hz, .inl fun b hb=>hk _ _ ⟨b,hb,rfl,rfl⟩⟩
  ·have h1:=hd σ hl (k.pre_of hw _) (fun r s=>k.out σ r s) (fun r s h=>h)
   unfold dJ at h1
   rw[hop]at h1
   obtain⟨z',hz',h2⟩:=h1
   rw[hz]at hz'
   obtain rfl:=Option.some.inj hz'
   subst hr hs
   rcases h2 with h2|h2
   ·exact h2 b hb
   ·exact absurd (h2 b hb) (vB hb)
 ·rename_i E x hop
  have h0:=hd σ0 (AS.le.refl σ0) (k.pre_of hw _) (fun r s=>True) (fun _ _ _=>trivial)
  unfold dJ at h0
  rw[hop]at h0
  refine⟨flat (ev G e x),fun σ hl _ Kc hk=> ?_,fun σ r σ' hl ⟨b,hb,hr,hs⟩=> ?_⟩
  ·unfold dJ;rw[hop]
   exact⟨h0.1,fun b hb=>hk _ _ ⟨b,hb,rfl,rfl⟩⟩
  ·have h1:=hd σ hl (k.pre_of hw _) (fun r s=>k.out σ r s) (fun r s h=>h)
   unfold dJ at h1
   rw[hop]at h1
   subst hr hs
   exact h1.2 b hb
 ·cases ha
theorem pG{o:Oper}{e:aK}{k:jB}(ha:cU o=true)(hg:o.guard=none)(hd:rG P G ops σ0 o e k):∃ z,rG P G ops σ0 o e (.alloc z) /\ ∀ σ r σ',σ0.le σ -> (jB.alloc z).out σ r σ' ->k.out σ r σ':=by
 have hns:iF o=false:=by
  unfold cU at ha
  unfold iF
  split at ha <;>simp_all
 rcases hd with⟨h1,h2,h5⟩|⟨h1,_⟩
 ·obtain⟨z,h3,h4⟩:=A1v ha (h5 hns) h2
  exact⟨z, .inl ⟨h1,h3,fun _=>rfl⟩,h4⟩
 ·rw[hg]at h1;cases h1
theorem nO{σ:AS}{b:Nat}{xs ys:List AV}(h:σ.setBox b xs=σ.setBox b ys):xs=ys:=by
 have h1:(σ.setBox b xs).box b=(σ.setBox b ys).box b:=by rw[h]
 simpa [AS.setBox] using h1
theorem A1w{o:Oper}{e:aK}{b:Nat}{z1 z2:List AV}(hb:σ0.fresh b)(ha:cU o=true)(h1:oZ P G o e σ0 (.alloc z1))(h2:oZ P G o e σ0 (.alloc z2)):z1=z2:=by
 have key:∀ z,oZ P G o e σ0 (.alloc z) ->∀ z',(∀ Kc:AV ->AS ->Prop,dJ P G o e σ0 Kc ->∀ b,σ0.fresh b ->Kc (.ptr b 0) (σ0.setBox b z')) ->z=z':=by
  intro z hd z' hz'
  have h3:=hz' _ (hd σ0 (AS.le.refl σ0) trivial (fun r s=> (jB.alloc z).out σ0 r s) (fun r s h=>h)) b hb
  obtain⟨c,_,h4,h5⟩:=h3
  have:b=c:=by injection h4
  subst this
  exact(nO h5).symm
 unfold cU at ha
 split at ha
 ·rename_i E hop
  have h0:=h1 σ0 (AS.le.refl σ0) trivial (fun r s=>True) (fun _ _ _=>trivial)
  unfold dJ at h0
  rw[hop]at h0
  obtain⟨z,hz,_⟩:=h0
  have hk:∀ Kc:AV ->AS ->Prop,dJ P G o e σ0 Kc -> (∀ b,σ0.fresh b ->Kc (.ptr b 0) (σ0.setBox b z)) \/ (∀ b,σ0.fresh b ->Kc (.ptr b 0) ((σ0.setBox b z).setTy b (E,z.length))):=fun Kc hh=>by
   unfold dJ at hh;rw[hop]at hh
   obtain⟨z',hz',h6⟩:=hh
   rw[hz]at hz'
   obtain rfl:=Option.some.inj hz'
   exact h6
  have hk2:∀ z',oZ P G o e σ0 (.alloc z') ->z'=z:=fun z' hd=>by
   rcases hk _ (hd σ0 (AS.le.refl σ0) trivial (fun r s=> (jB.alloc z').out σ0 r s) (fun r s h=>h))with h6|h6
   ·obtain⟨c,_,h4,h5⟩:=h6 b hb
    have:b=c:=by injection h4
    subst this
    exact(nO h5).symm
   ·exact absurd (h6 b hb) (vB (k:= .alloc z') hb)
  rw[hk2 z1 h1,hk2 z2 h2]
 ·rename_i E x hop
  have hk:∀ Kc:AV ->AS ->Prop,dJ P G o e σ0 Kc ->∀ b,σ0.fresh b ->Kc (.ptr b 0) (σ0.setBox b (flat (ev G e x))):=fun Kc hh b hb=>by
   unfold dJ at hh;rw[hop]at hh
   exact hh.2 b hb
  rw[key z1 h1 _ hk,key z2 h2 _ hk]
 ·cases ha
theorem tZ {n i:Nat} {oi:Oper} {b:Nat} {z0 z:List AV} {L:Array Bool ->aK ->AS ->Prop} (hi:ops[i]? =some oi)
  (hdone:∀ listed e s,L listed e s ->∀ j ∈ Region.ready md ops listed,n <=j)
  (htw:∀ listed,HeadInv md ops n listed ->listed.getD i true=false ->∀ t,n <=t ->t ∉ Region.ready md ops listed) (hin:i < n) (hz0:σi.box b=some z0):
  ∀ (f:Nat) (listed:Array Bool) (e:aK) (σ:AS) (av:List Nat),HeadInv md ops n listed ->rC σ0 σi σ av ->b ∈ av ->
   (∀ j oj,ops[j]? =some oj ->j ≠ i ->listed.getD j true=false -> (∀ e ∈ oj.after,Region.binds md e=true ->e.on ≠ i) ->oi.apart ops oj=true) ->
   i ∈ Region.ready md ops listed ->rG P G ops σ0 oi e (.write b z0 z) ->
   iD P G md ops σ0 σi L f (listed.setIfInBounds i true) (e.upd oi.dst .undef) (σ.setBox b z) (av.filter fun c=>decide (c ≠ b)) ->iD P G md ops σ0 σi L (f+1) listed e σ av:=by
 intro f
 induction f with
 | zero=>
  intro listed e σ av inv hav hb _ hr hy H
  have hun:=(mem_ready.1 hr).1
  refine⟨fun h=> (by rw[h]at hr;cases hr),fun j hj=> ?_⟩
  by_cases hji:j=i
  ·subst hji;exact⟨oi,_,hi,hy,⟨hb,hz0⟩,fun r s ⟨h1,h2⟩=>by subst h1 h2;exact H⟩
  ·have h1:=hdone _ _ _ H j (ready_mono hj hji)
   exact absurd hj (htw listed inv hun j h1)
 | succ f ih=>
  intro listed e σ av inv hav hb hfree hr hy H
  have hun:=(mem_ready.1 hr).1
  refine⟨fun h=> (by rw[h]at hr;cases hr),fun j hj=> ?_⟩
  have hjn:j < n:=by
   rcases Nat.lt_or_ge j n with h|h
   ·exact h
   ·exact absurd hj (htw listed inv hun j h)
  by_cases hji:j=i
  ·subst hji;exact⟨oi,_,hi,hy,⟨hb,hz0⟩,fun r s ⟨h1,h2⟩=>by subst h1 h2;exact H⟩
  ·obtain⟨oj,kj,hoj,hyj,hokj,hnext⟩:=H.2 j (ready_mono hj hji)
   obtain⟨hjun,oj',hoj',hall⟩:=mem_ready.1 hj
   have:oj'=oj:=Option.some.inj (hoj'.symm.trans hoj)
   subst this
   have hnot:∀ e ∈ oj'.after,Region.binds md e=true ->e.on ≠ i:=fun e he hb heq=>by
    have h1:=hall e he hb
    rw[heq,getD_both hun]at h1
    cases h1
   have hap:=hfree j oj' hoj hji hjun hnot
   obtain⟨a1,a2,a3⟩:=Oper.apart_spec hap
   have hfree':∀ k ok,ops[k]? =some ok ->k ≠ i -> (listed.setIfInBounds j true).getD k true=false ->
     (∀ e ∈ ok.after,Region.binds md e=true ->e.on ≠ i) ->oi.apart ops ok=true:=fun k ok hk hki hun hno=>by
    refine hfree k ok hk hki ?_ hno
    by_cases hjk:j=k
    ·subst hjk;exact hjun
    ·rw[getD_set_ne true hjk]at hun;exact hun
   have hokj':kj.ok σi av:=by
    cases kj with
    |write b' y0 y=>exact⟨(List.mem_filter.1 hokj.1).1,hokj.2⟩
    |_=>trivial
   have hbr:b ∈ kj.rest av:=by
    cases kj with
    | write b' y0 y=>
     have:=(List.mem_filter.1 hokj.1).2
     simp only[decide_eq_true_eq]at this
     simp only[jB.rest,List.mem_filter,decide_eq_true_eq]
     exact⟨hb,Ne.symm this⟩
    |_=>exact hb
   refine⟨oj',kj,hoj,(rG.put a1).1 hyj,hokj',fun r s hrs=> ?_⟩
   refine ih (listed.setIfInBounds j true) _ _ _ (inv.set hj hjn) (hav.out hrs) hbr hfree' (ready_mono hr (Ne.symm hji)) ((rG.put a3).2 hy) ?_
   have hcomm:kj.rest (av.filter fun c=>decide (c ≠ b))=(kj.rest av).filter fun c=>decide (c ≠ b):=by
    cases kj with
    |write b' y0 y=>simp only[jB.rest,List.filter_filter,Bool.and_comm]
    |_=>rfl
   have hout:kj.out (σ.setBox b z) r (s.setBox b z):=by
    cases kj with
    |quiet v=>exact⟨hrs.1,by rw[hrs.2]⟩
    | alloc y=>
     obtain⟨c,hc,h1,h2⟩:=hrs
     have hcb:=hav.fresh_ne hb hc
     exact⟨c,dE.2 ⟨hc,hcb⟩,h1,by rw[h2,AS.setBox_comm hcb]⟩
    | write b' y0 y=>
     have:=(List.mem_filter.1 hokj.1).2
     simp only[decide_eq_true_eq]at this
     exact⟨hrs.1,by rw[hrs.2,AS.setBox_comm this]⟩
   rw[Array.setIfInBounds_comm _ _ hji,<- aK.upd_comm .undef r a2,<- hcomm]
   exact hnext r _ hout
theorem wI {n i:Nat} {oi:Oper} {z:List AV} {L:Array Bool ->aK ->AS ->Prop} (hi:ops[i]? =some oi)
  (hdone:∀ listed e s,L listed e s ->∀ j ∈ Region.ready md ops listed,n <=j)
  (htw:∀ listed,HeadInv md ops n listed ->listed.getD i true=false ->∀ t,n <=t ->t ∉ Region.ready md ops listed) (hin:i < n):
  ∀ (f:Nat) (listed:Array Bool) (e:aK) (σ:AS) (av:List Nat),HeadInv md ops n listed ->yA σ ->σ0.le σ ->
   (∀ j oj,ops[j]? =some oj ->j < n ->listed.getD j true=false ->cU oj=true /\ oj.guard=none) ->
   (∀ j oj,ops[j]? =some oj ->j ≠ i ->listed.getD j true=false -> (∀ e ∈ oj.after,Region.binds md e=true ->e.on ≠ i) ->oi.apart ops oj=true) ->
   i ∈ Region.ready md ops listed ->rG P G ops σ0 oi e (.alloc z) ->
   (∀ r σ',(jB.alloc z).out σ r σ' ->iD P G md ops σ0 σi L f (listed.setIfInBounds i true) (e.upd oi.dst r) σ' av) ->iD P G md ops σ0 σi L (f+1) listed e σ av:=by
 intro f
 induction f with
 | zero=>
  intro listed e σ av inv hinf hle hall hfree hr hy H
  have hun:=(mem_ready.1 hr).1
  obtain⟨m,hm⟩:=hinf
  have H0:=H _ _ ⟨m,hm m (Nat.le_refl m),rfl,rfl⟩
  refine⟨fun h=> (by rw[h]at hr;cases hr),fun j hj=> ?_⟩
  by_cases hji:j=i
  ·subst hji;exact⟨oi,_,hi,hy,trivial,fun r s hrs=>H r s hrs⟩
  ·have h1:=hdone _ _ _ H0 j (ready_mono hj hji)
   exact absurd hj (htw listed inv hun j h1)
 | succ f ih=>
  intro listed e σ av inv hinf hle hall hfree hr hy H
  have hun:=(mem_ready.1 hr).1
  obtain⟨m,hm⟩:=id hinf
  refine⟨fun h=> (by rw[h]at hr;cases hr),fun j hj=> ?_⟩
  have hjn:j < n:=by
   rcases Nat.lt_or_ge j n with h|h
   ·exact h
   ·exact absurd hj (htw listed inv hun j h)
  by_cases hji:j=i
  ·subst hji;exact⟨oi,_,hi,hy,trivial,fun r s hrs=>H r s hrs⟩
  ·obtain⟨oj,kj,hoj,hyj,_⟩:=(H _ _ ⟨m,hm m (Nat.le_refl m),rfl,rfl⟩).2 j (ready_mono hj hji)
   obtain⟨hjun,oj',hoj',hafter⟩:=mem_ready.1 hj
   have:oj'=oj:=Option.some.inj (hoj'.symm.trans hoj)
   subst this
   have hnot:∀ e ∈ oj'.after,Region.binds md e=true ->e.on ≠ i:=fun e he hb heq=>by
    have h1:=hafter e he hb
    rw[heq,getD_both hun]at h1
    cases h1
   have hap:=hfree j oj' hoj hji hjun hnot
   obtain⟨a1,a2,a3⟩:=Oper.apart_spec hap
   obtain⟨haj,hgj⟩:=hall j oj' hoj hjn hjun
   obtain⟨zj,hyz,_⟩:=pG haj hgj ((rG.put a1).1 hyj)
   have hfree':∀ k ok,ops[k]? =some ok ->k ≠ i -> (listed.setIfInBounds j true).getD k true=false ->
     (∀ e ∈ ok.after,Region.binds md e=true ->e.on ≠ i) ->oi.apart ops ok=true:=fun k ok hk hki hun hno=>by
    refine hfree k ok hk hki ?_ hno
    by_cases hjk:j=k
    ·subst hjk;exact hjun
    ·rw[getD_set_ne true hjk]at hun;exact hun
   have hall':∀ k ok,ops[k]? =some ok ->k < n -> (listed.setIfInBounds j true).getD k true=false ->cU ok=true /\ ok.guard=none:=fun k ok hk hkn hun=>by
    refine hall k ok hk hkn ?_
    by_cases hjk:j=k
    ·subst hjk;exact hjun
    ·rw[getD_set_ne true hjk]at hun;exact hun
   refine⟨oj', .alloc zj,hoj,hyz,trivial,fun r s hrs=> ?_⟩
   obtain⟨c,hc,rfl,rfl⟩:=hrs
   refine ih (listed.setIfInBounds j true) _ _ _ (inv.set hj hjn) (hinf.setBox c zj) (hle.setBox (hle.fresh hc).1 zj) hall' hfree' (ready_mono hr (Ne.symm hji)) ((rG.put a3).2 hy) fun r s hrs=> ?_
   obtain⟨b,hb,rfl,rfl⟩:=hrs
   obtain⟨hb1,hbc⟩:=dE.1 hb
   obtain⟨oj2,kj2,hoj2,hyj2,hokj2,hnext2⟩:=(H _ _ ⟨b,hb1,rfl,rfl⟩).2 j (ready_mono hj hji)
   have:oj2=oj':=Option.some.inj (hoj2.symm.trans hoj)
   subst this
   obtain⟨zj2,hyz2,hout2⟩:=pG haj hgj ((rG.put a1).1 hyj2)
   have hzz:zj2=zj:=by
    rcases hyz with⟨g1,g2,_⟩|⟨_,g2⟩
    ·rcases hyz2 with⟨_,g3,_⟩|⟨_,g3⟩
     ·exact A1w (hle.fresh hb1) haj g3 g2
     ·cases g3
    ·cases g2
   subst hzz
   have hlb:σ0.le (σ.setBox b z):=hle.setBox (hle.fresh hb1).1 z
   have hrest:kj2.rest av=av:=by
    have hns:iF oj2=false:=by
     have:=haj
     unfold cU at this
     unfold iF
     split at this <;>simp_all
    rcases hyj2 with⟨_,_,g⟩|⟨_,g⟩
    ·exact jB.rest_of (g hns)
    ·subst g;rfl
   rw[hrest]at hnext2
   have:=hnext2 _ _ (hout2 _ _ _ hlb ⟨c,dE.2 ⟨hc,Ne.symm hbc⟩,rfl,rfl⟩)
   rw[Array.setIfInBounds_comm _ _ hji,aK.upd_comm _ _ (fun d hd he=>a2 d he hd),AS.setBox_comm (Ne.symm hbc)]
   exact this
def kW(ops:Array Oper):Nat ->Nat ->Bool
 |0,_=>true
 |f+1,k=> (match ops[k]? with|some o=>cU o && o.guard.isNone|none=>false) && kW ops f (k+1)
def rH(md:Region.Mode)(ops:Array Oper)(T:Array Bool ->Bool):Nat ->Nat ->Array Bool ->Bool
 |0,k,listed=>T listed
 | f+1,k,listed=> (match ops[k]? with
   |some o=>if cU o then decide (Region.ready md ops listed=[k])||(o.guard.isNone && kW ops (f+1) k && (Region.ready md ops listed).contains k && Region.free md ops listed k)else(Region.ready md ops listed).contains k && Region.free md ops listed k
   |none=>false) && rH md ops T f (k+1) (listed.setIfInBounds k true)
theorem lF{ops:Array Oper} :∀ (f k:Nat),kW ops f k=true ->∀ j oj,ops[j]? =some oj ->k <=j ->j < k+f ->cU oj=true /\ oj.guard=none
 |0,k,_,j,oj,_,h1,h2=>by omega
 | f+1,k,h,j,oj,hj,h1,h2=>by
  simp only[kW,Bool.and_eq_true]at h
  by_cases hjk:j=k
  ·subst hjk
   have h3:=h.1
   rw[hj]at h3
   simp only[Bool.and_eq_true]at h3
   exact⟨h3.1,by simpa using h3.2⟩
  ·exact lF f (k+1) h.2 j oj hj (by omega) (by omega)
theorem fM {n:Nat} {T:Array Bool ->Bool} {Lq:aK ->AS ->Prop}
  (hdone:∀ listed,T listed=true ->∀ j ∈ Region.ready md ops listed,n <=j)
  (htw:∀ i,i < n ->∀ listed,HeadInv md ops n listed ->listed.getD i true=false ->∀ t,n <=t ->t ∉ Region.ready md ops listed):
  ∀ (l:List Oper) (k:Nat) (listed:Array Bool) (e:aK) (σ:AS) (av:List Nat),(∀ j,j < l.length ->l[j]? =ops[k+j]?) ->k+l.length=n ->HeadInv md ops n listed -> (∀ j,j < k ->listed.getD j true=true) ->yA σ ->σ0.le σ ->rC σ0 σi σ av ->
  rH md ops T l.length k listed=true ->bW P G ops.toList σ0 Lq l e σ av ->
  iD P G md ops σ0 σi (fun listed' e' s'=>T listed'=true /\ Lq e' s') l.length listed e σ av
 |[],k,listed,e,σ,av,_,hk,_,_,_,_,_,hB,h=> ⟨hB,h⟩
 | o :: l,k,listed,e,σ,av,hl,hk,inv,hld,hinf,hle,hav,hB,h=>by
  have h0:ops[k]? =some o:=by simpa using(hl 0 (by simp)).symm
  simp only[List.length_cons,rH,h0,Bool.and_eq_true]at hB
  obtain⟨hA,hB'⟩:=hB
  have hkn:k < n:=by simp only[List.length_cons]at hk;omega
  have hl':∀ j,j < l.length ->l[j]? =ops[k+1+j]? :=fun j hj=>by have:=hl (j+1) (by simp;omega);simpa [Nat.add_assoc,Nat.add_comm 1 j] using this
  have hk':k+1+l.length=n:=by simp only[List.length_cons]at hk;omega
  have hld':∀ j,j < k+1 -> (listed.setIfInBounds k true).getD j true=true:=fun j hj=>by
   by_cases hjk:k=j
   ·subst hjk
    by_cases hb:k < listed.size
    ·simp[hb]
    ·simp[hb]
   ·rw[getD_set_ne true hjk];exact hld j (by omega)
  obtain⟨b,hb,h1,h2⟩:=h
  have hkk:∃ kd,rG P G ops σ0 o e kd /\ kd.ok σi av /\ (cU o=false -> (∃ v,kd= .quiet v) \/ ∃ b z0 z,kd= .write b z0 z) /\ ∀ r σ',kd.out σ r σ' ->bW P G ops.toList σ0 Lq l (e.upd o.dst r) σ' (kd.rest av):=by
   cases b with
   | true=>
    have h3:=h1 rfl
    unfold eE at h3
    split at h3
    ·rename_i t p x hop
     rcases h3 with h3|h3
     rotate_left
     ·exact⟨.quiet .undef, .inl ⟨hb,fun σ' hl hp Kc hk=>by
       unfold dJ;rw[hop]
       exact⟨σ',mN hl h3.1,hk _ _ ⟨rfl,rfl⟩⟩,fun _=>rfl⟩,trivial,fun _=> .inl ⟨_,rfl⟩,fun r s ⟨hr,hs⟩=>by subst hr hs;exact h3.2⟩
     obtain⟨bb,off,z0,z,g1,g2,g3,g4,g5⟩:=h3
     refine⟨.write bb z0 z, .inl ⟨hb,fun σ' hl hp Kc hk=> ?_,fun hns=> ?_⟩,⟨g2,by rw[<- (hav bb g2).1];exact g3⟩,fun _=> .inr ⟨_,_,_,rfl⟩,fun r s ⟨hr,hs⟩=>by subst hr hs;exact g5⟩
     ·unfold dJ;rw[hop]
      simp only[g1]
      exact⟨_,pI g4 (by rw[g3];exact hp),hk _ _ ⟨rfl,rfl⟩⟩
     ·unfold iF at hns;rw[hop]at hns;cases hns
    ·obtain⟨kd,g1,g2,g3,g4⟩:=sO h3
     exact⟨kd, .inl ⟨hb,g1,fun _=>g2⟩,jB.ok_of g2,fun ha=> .inl (g3 ha),fun r s hrs=>by rw[jB.rest_of g2];exact g4 r s hrs⟩
   |false=>exact⟨.quiet (.tup []), .inr ⟨hb,rfl⟩,trivial,fun _=> .inl ⟨_,rfl⟩,fun r s ⟨hr,hs⟩=>by subst hr hs;exact h2 rfl⟩
  obtain⟨kd,g1,gok,g2,g3⟩:=hkk
  cases hal:cU o with
  | true=>
   rw[if_pos hal]at hA
   simp only[Bool.or_eq_true]at hA
   rcases hA with hA|hA
   ·have hr1:Region.ready md ops listed=[k]:=by simpa using hA
    have hrk:k ∈ Region.ready md ops listed:=by rw[hr1];simp
    refine⟨by rw[hr1];simp,fun i hi=> ?_⟩
    rw[hr1]at hi
    have:i=k:=by simpa using hi
    subst this
    exact⟨o,kd,h0,g1,gok,fun r s hrs=>fM hdone htw l (i+1) _ _ _ _ hl' hk' (inv.set hrk hkn) hld' (hinf.out hrs) (jB.out_le hle hav gok hrs) (hav.out hrs) hB' (g3 r s hrs)⟩
   ·simp only[Bool.and_eq_true]at hA
    obtain⟨⟨⟨hgd,honly⟩,hrc⟩,hfree⟩:=hA
    have hrk:k ∈ Region.ready md ops listed:=by simpa using hrc
    obtain⟨z,g4,g5⟩:=pG hal (by simpa using hgd) g1
    have hrest:kd.rest av=av:=by
     have hns:iF o=false:=by
      have:=hal
      unfold cU at this
      unfold iF
      split at this <;>simp_all
     rcases g1 with⟨_,_,g⟩|⟨_,g⟩
     ·exact jB.rest_of (g hns)
     ·subst g;rfl
    rw[hrest]at g3
    refine wI h0 (fun listed' e' s' hL=>hdone listed' hL.1) (htw k hkn) hkn l.length listed e σ av inv hinf hle (fun j oj hj hjn hun=> ?_) (Region.free_spec h0 hfree) hrk g4
     (fun r s hrs=>fM hdone htw l (k+1) _ _ _ _ hl' hk' (inv.set hrk hkn) hld' (hinf.out hrs) (jB.out_le (k:= .alloc z) hle hav trivial hrs) (rC.out (k:= .alloc z) hav hrs) hB' (g3 r s (g5 σ r s hle hrs)))
    refine lF _ k honly j oj hj ?_ (by omega)
    rcases Nat.lt_or_ge j k with hlt|hge
    ·rw[hld j hlt]at hun;cases hun
    ·exact hge
  | false=>
   rw[if_neg (by rw[hal];simp)]at hA
   simp only[Bool.and_eq_true]at hA
   have hr':k ∈ Region.ready md ops listed:=by simpa using hA.1
   rcases g2 hal with⟨v,rfl⟩|⟨b',z0,z,rfl⟩
   ·exact tY h0 (fun listed' e' s' hL=>hdone listed' hL.1) (htw k hkn) hkn l.length listed e σ av inv (Region.free_spec h0 hA.2) hr' g1
     (fM hdone htw l (k+1) _ _ _ _ hl' hk' (inv.set hr' hkn) hld' hinf hle hav hB' (g3 v σ ⟨rfl,rfl⟩))
   ·have ho:(jB.write b' z0 z).out σ .undef (σ.setBox b' z):=⟨rfl,rfl⟩
    exact tZ h0 (fun listed' e' s' hL=>hdone listed' hL.1) (htw k hkn) hkn gok.2 l.length listed e σ av inv hav gok.1 (Region.free_spec h0 hA.2) hr' g1
     (fM hdone htw l (k+1) _ _ _ _ hl' hk' (inv.set hr' hkn) hld' (hinf.out ho) (jB.out_le hle hav gok ho) (hav.out ho) hB' (g3 _ _ ho))
theorem kN {N:Nat} {ds:aJ} {g:Nat} {L:Array Bool ->aK ->AS ->Prop} {R:Exit ->Act ->World ->Prop} {K0:aJ} (hdst:ops.toList.all (eG N)=true)
  (hL:∀ listed e σ K a w,L listed e σ ->St P G K N ds e σ a w ->K0.le K ->wpAny P md ops R g listed a w):
  ∀ (f:Nat) (listed:Array Bool) (e:aK) (σ:AS) (av:List Nat) (K:aJ) (a:Act) (w:World),σ0.le σ ->rC σ0 σi σ av ->iD P G md ops σ0 σi L f listed e σ av ->St P G K N ds e σ a w ->K0.le K ->wpAny P md ops R (f+g) listed a w
 |0,listed,e,σ,av,K,a,w,_,_,h,hs,hk=>by rw[Nat.zero_add];exact hL _ _ _ _ _ _ h hs hk
 | f+1,listed,e,σ,av,K,a,w,hle,hav,h,hs,hk=>by
  rw[show f+1+g=(f+g)+1 by omega]
  refine⟨fun h0=>absurd h0 h.1,fun i hi=> ?_⟩
  obtain⟨o,k,ho,hy,hok,hn⟩:=h.2 i hi
  have hpre:k.pre σ:=by
   cases k with
   |write b z0 z=>exact(hav b hok.1).1.trans hok.2
   |_=>trivial
  have hd:eG N o=true:=by
   have:o ∈ ops.toList:=Array.mem_toList_iff.2 (Array.mem_of_getElem? ho)
   exact List.all_eq_true.1 hdst o this
  unfold wpOp
  rw[ho]
  simp only
  rcases hy with⟨hw,hdo,_⟩|⟨hw,rfl⟩
  ·have hw':=dO hw hs.er
   rw[if_pos hw']
   refine .inl ((gI (hdo σ hle hpre (fun r s=>k.out σ r s) (fun r s h=>h)) hs.er hs.rel).wp fun r σ' K' v w' hq hv hr hle'=> ?_)
   exact kN hdst hL f _ _ _ _ K' _ _ (jB.out_le hle hav hok hq) (hav.out hq) (hn r σ' hq) (hs.put hle' (dP hd) hv hr) (hk.trans hle')
  ·have hw':=dO hw hs.er
   rw[if_neg (by rw[hw'];simp)]
   exact kN hdst hL f _ _ _ _ K _ _ hle hav (hn _ _ ⟨rfl,rfl⟩) (hs.put (aJ.le.refl K) (dP hd) VR.skipped hs.rel) hk
end any
def uS(ops:Array Oper)(n:Nat):Bool:=
 if n=ops.size then rH .any ops (fun listed=> (Region.ready .any ops listed).isEmpty) n 0 (Array.replicate ops.size false)
 else decide (n < ops.size) && Region.sinkB .any ops n && Region.chainB .any ops n && rH .any ops (fun listed=>Region.seqB .any ops (ops.size - n) n listed) n 0 (Array.replicate ops.size false)
def dM(ops:Array Oper)(m k:Nat):Array Oper:=ops.modify m fun o=> {o with after:=o.after.push ⟨k, .data⟩}
def edged:Array Oper ->List (Nat × Nat) ->Array Oper
 |ops,[]=>ops
 |ops,(m,k)::r=>edged (dM ops m k) r
def A2s(ops:Array Oper)(m k:Nat):Bool:=
 decide (m ≠ k) && match ops[k]? with
 | some o=> (match o.op with| .move _=>true|_=>false) && o.guard.isNone && (o.after.all fun e=> !(Region.binds .any e)) &&
   (List.range ops.size).all fun j=>decide (j=k)||Region.waitsFor .any ops j k||(match ops[j]? with|some oj=>o.apart ops oj && (match oj.op with| .select .. =>false|_=>true)|none=>true)
 |none=>false
def qV:Array Oper ->List (Nat × Nat) ->Bool
 |_,[]=>true
 |ops,(m,k)::r=>A2s ops m k && qV (dM ops m k) r
def A9c(P:Program)(G:Nat ->AV)(ops:Array Oper)(Q:aK ->AS ->Prop)(e:aK)(σ:AS):Prop:=
 ∃ fs n σ0 av,qV ops fs=true /\ uS (edged ops fs) n=true /\ σ0.le σ /\ (∀ c,c ∈ av -> (σ.box c).isSome=true /\ σ0.box c=none) /\ bW P G ops.toList σ0 (fun e' σ'=>cI P G ops.toList Q (ops.toList.drop n) e' σ') (ops.toList.take n) e σ av
theorem oJ{P:Program}{G:Nat ->AV}{o:Oper}{e:aK}{σ0 σ:AS}{K K':AV ->AS ->Prop}(hk:∀ r s,K r s ->K' r s)(h:hop P G o e σ0 σ K):hop P G o e σ0 σ K':=by
 unfold hop at h ⊢
 split at h
 ·exact⟨h.1,hk _ _ h.2⟩
 ·exact h.elim
 ·exact h.elim
 ·exact h.elim
 ·exact h.elim
 ·exact h.elim
 ·exact h.elim
 ·unfold iS at h ⊢
  split at h
  ·split at h
   ·obtain⟨v,g1,g2⟩:=h;exact⟨v,g1,hk _ _ g2⟩
   ·exact h.elim
  ·split at h
   ·exact h.elim
   ·rename_i hb;rw[if_neg hb];obtain⟨r,g1,g2⟩:=h;exact⟨r,g1,hk _ _ g2⟩
  ·exact h.elim
 ·obtain⟨z,g1,g2⟩:=h;exact⟨z,g1,fun b hb=>hk _ _ (g2 b hb)⟩
 ·exact⟨h.1,fun b hb=>hk _ _ (h.2 b hb)⟩
 ·obtain⟨r,g1,g2⟩:=h;exact⟨r,g1,hk _ _ g2⟩
 ·obtain⟨r,g1,g2⟩:=h;exact⟨r,g1,hk _ _ g2⟩
 ·exact eB (fun r _ hh=>hk _ _ hh) h
theorem pO{P:Program}{G:Nat ->AV}{o:Oper}{e:aK}{σ0 σ:AS}{av:List Nat}{K K':AV ->AS ->List Nat ->Prop}(hk:∀ r s a,K r s a ->K' r s a)(h:eE P G o e σ0 σ av K):eE P G o e σ0 σ av K':=by
 unfold eE at h ⊢
 split at h
 ·rcases h with⟨b,off,z0,z,g1,g2,g3,g4,g5⟩|⟨g1,g2⟩
  ·exact .inl ⟨b,off,z0,z,g1,g2,g3,g4,hk _ _ _ g5⟩
  ·exact .inr ⟨g1,hk _ _ _ g2⟩
 ·exact oJ (fun r s h=>hk _ _ _ h) h
theorem B2a{P:Program}{G:Nat ->AV}{o:Oper}{e:aK}{σ0 σ:AS}{av:List Nat}{K:AV ->AS ->List Nat ->Prop}(h:hop P G o e σ0 σ fun r s=>K r s av):eE P G o e σ0 σ av K:=by
 unfold eE
 split
 ·rename_i t p x hop
  unfold Go.Av.hop at h
  rw[hop]at h
  exact .inr h
 ·exact h
theorem mH{P:Program}{G:Nat ->AV}{ops:List Oper}{σ0:AS}{L:aK ->AS ->Prop} :∀ (l:List Oper) (e:aK) (σ:AS) (av:List Nat),iE P G ops σ0 L l e σ ->bW P G ops σ0 L l e σ av
 |[],e,σ,_,h=>h
 |o::l,e,σ,av,⟨b,hb,h1,h2⟩=> ⟨b,hb,fun x=>B2a (oJ (fun r s h=>mH l _ _ _ h) (h1 x)),fun x=>mH l _ _ _ (h2 x)⟩
theorem dH{P:Program}{G:Nat ->AV}{ops:List Oper}{σ0:AS}{L L':aK ->AS ->Prop}(hL:∀ e s,L e s ->L' e s):∀ (l:List Oper) (e:aK) (σ:AS) (av:List Nat),bW P G ops σ0 L l e σ av ->bW P G ops σ0 L' l e σ av
 |[],e,σ,_,h=>hL _ _ h
 |o::l,e,σ,av,⟨b,hb,h1,h2⟩=> ⟨b,hb,fun x=>pO (fun r s a h=>dH hL l _ _ _ h) (h1 x),fun x=>dH hL l _ _ _ (h2 x)⟩
theorem kD(l r:List Oper):bC (l++r)=bC l++bC r:=List.filterMap_append
theorem iU{o:Oper}{l:List Oper}{t:Nat}(h:t ∉ bC (o::l)):t ∉ bC l /\ ∀ x,o.dst=some x ->x ≠ t:=by
 unfold bC at*
 rw[List.filterMap_cons]at h
 split at h
 ·rename_i hd;exact⟨h,fun x hx=>by rw[hd]at hx;cases hx⟩
 ·rename_i d hd
  simp only[List.mem_cons,not_or]at h
  exact⟨h.2,fun x hx=>by rw[hd]at hx;cases hx;exact Ne.symm h.1⟩
theorem iM{P:Program}{G:Nat ->AV}{ops:List Oper}{σ0:AS}{L:aK ->AS ->Prop} :∀ (l:List Oper) (e:aK) (σ:AS) (av:List Nat),bW P G ops σ0 L l e σ av ->
  bW P G ops σ0 (fun e' σ'=>L e' σ' /\ ∀ t,t ∉ bC l ->e' t=e t) l e σ av
 |[],e,σ,_,h=> ⟨h,fun _ _=>rfl⟩
 | o ::l,e,σ,av,⟨b,hb,h1,h2⟩=>by
  have key:∀ r s a,bW P G ops σ0 L l (e.upd o.dst r) s a ->bW P G ops σ0 (fun e' σ'=>L e' σ' /\ ∀ t,t ∉ bC (o::l) ->e' t=e t) l (e.upd o.dst r) s a:=fun r s a h=>
   dH (fun e' s' hq=> ⟨hq.1,fun t ht=>by
    obtain⟨g1,g2⟩:=iU ht
    rw[hq.2 t g1];exact aK.upd_other g2⟩) l _ _ _ (iM l _ _ _ h)
  exact⟨b,hb,fun x=>pO (fun r s a h=>key r s a h) (h1 x),fun x=>key _ _ _ (h2 x)⟩
theorem oK{G:Nat ->AV}{K:aJ}{σ:AS}{w:World}(h:aZ G K σ w):yA σ:=⟨w.heap.size,fun b hb=>h.fresh hb⟩
section floats
variable {P:Program} {md:Region.Mode}
theorem kL{ops:Array Oper}{m k:Nat} :(dM ops m k).size=ops.size:=by simp[dM]
theorem jG{ops:Array Oper}{m k j:Nat}{o:Oper}(h:ops[j]? =some o):∃ af,(dM ops m k)[j]? =some {o with after:=af} /\ (j ≠ m ->af=o.after) /\ (j=m ->af=o.after.push ⟨k, .data⟩):=by
 unfold dM
 rw[Array.getElem?_modify]
 by_cases hjm:m=j
 ·subst hjm
  rw[if_pos rfl,h]
  exact⟨_,rfl,fun e=>absurd rfl e,fun _=>rfl⟩
 ·rw[if_neg hjm,h]
  exact⟨o.after,rfl,fun _=>rfl,fun e=>absurd e.symm hjm⟩
theorem kK{ops:Array Oper}{m k j:Nat}(h:ops[j]? =none):(dM ops m k)[j]? =none:=by
 have:=Array.getElem?_eq_none_iff.1 h
 exact Array.getElem?_eq_none_iff.2 (by rw[kL];exact this)
theorem sV{ops:Array Oper}{m k j:Nat}{listed:Array Bool}(hk:listed.getD k false=true):j ∈ Region.ready md (dM ops m k) listed ↔ j ∈ Region.ready md ops listed:=by
 rw[mem_ready,mem_ready]
 refine and_congr_right fun _=> ?_
 cases hj:ops[j]? with
 |none=>rw[kK hj]
 | some o=>
  obtain⟨af,h1,h2,h3⟩:=jG (m:=m) (k:=k) hj
  rw[h1]
  simp only[Option.some.injEq,exists_eq_left']
  by_cases hjm:j=m
  ·rw[h3 hjm]
   constructor
   ·exact fun h e he hb=>h e (Array.mem_push.2 (.inl he)) hb
   ·intro h e he hb
    rcases Array.mem_push.1 he with he|rfl
    ·exact h e he hb
    ·exact hk
  ·rw[h2 hjm]
theorem mC{ops:Array Oper}{m k:Nat}{listed:Array Bool}(hk:listed.getD k false=true):Region.ready md (dM ops m k) listed=[] ↔ Region.ready md ops listed=[]:=by
 rw[List.eq_nil_iff_forall_not_mem,List.eq_nil_iff_forall_not_mem]
 exact forall_congr' fun j=>not_congr (sV hk)
theorem xY{ops:Array Oper}{m k:Nat}(tmps:Array Value):yielded (dM ops m k) tmps=yielded ops tmps:=by
 funext j
 unfold yielded
 cases hj:ops[j]? with
 |none=>rw[kK hj]
 |some o=>obtain⟨af,h1,_⟩:=jG (m:=m) (k:=k) hj;rw[h1];simp only[Option.bind_some]
theorem vN{ops:Array Oper}{m k i:Nat}{Q:Exit ->Act ->World ->Prop}{K:Act ->World ->Prop}{a:Act}{w:World} :wpOp P (dM ops m k) Q i K a w ↔ wpOp P ops Q i K a w:=by
 unfold wpOp
 cases hj:ops[i]? with
 |none=>rw[kK hj]
 | some o=>
  obtain⟨af,h1,_⟩:=jG (m:=m) (k:=k) hj
  rw[h1,xY]
  exact Iff.rfl
theorem uC{l:Array Bool}{i k:Nat}(h:l.getD k false=true):(l.setIfInBounds i true).getD k false=true:=getD_set_true h
theorem tK{ops:Array Oper}{m k:Nat}{Q:Exit ->Act ->World ->Prop} :∀ (fuel:Nat) (listed:Array Bool) (a:Act) (w:World),listed.getD k false=true ->wpAny P md (dM ops m k) Q fuel listed a w ->wpAny P md ops Q fuel listed a w
 |0,listed,a,w,hk,h=> ⟨(mC hk).1 h.1,h.2⟩
 | fuel+1,listed,a,w,hk,h=> ⟨fun hr=>h.1 ((mC hk).2 hr),fun i hi=>
   wpOp_mono (fun a w hh=>tK fuel _ a w (uC hk) hh) (vN.1 (h.2 i ((sV hk).2 hi)))⟩
theorem zV{ops:Array Oper}{o:Oper}{x:Operand}(ho:o.op= .move x)(hg:o.guard=none)(a:Act):Yields P ops o (a.eval x) a:=by
 refine .inl ⟨by simp[Region.wanted,hg],fun w=> ?_⟩
 unfold execOp;rw[ho];rfl
theorem A7v{ops:Array Oper}{o:Oper}{x:Operand}{k:Nat}(hk:ops[k]? =some o)(ho:o.op= .move x)(hg:o.guard=none){R:Act ->World ->Prop}{K:Act ->World ->Prop}{a:Act}{w:World}(h:wpOp P ops (dZ R) k K a w):K (a.put o.dst (a.eval x)) w:=by
 unfold wpOp at h
 rw[hk]at h
 simp only[Region.wanted,hg,if_true]at h
 rcases h with h|⟨_,h⟩
 ·unfold Oper.wp execOp at h
  rw[ho]at h
  exact h
 ·exact absurd h (by unfold LetsOut dZ;simp)
theorem A8t {ops:Array Oper} {k:Nat} {o:Oper} {x:Operand} (hk:ops[k]? =some o) (ho:o.op= .move x) (hg:o.guard=none)
  (hap:∀ j oj,ops[j]? =some oj ->j ≠ k ->Region.waitsFor md ops j k=true \/ (o.apart ops oj=true /\ ∀ cs b,oj.op ≠ .select cs b)) {R:Act ->World ->Prop} :
  ∀ (fuel:Nat) (listed:Array Bool) (a:Act) (w:World) (v:Value),Yields P ops o v a ->listed.getD k true=false -> (k ∈ Region.ready md ops listed) ->wpAny P md ops (dZ R) fuel (listed.setIfInBounds k true) (a.put o.dst v) w ->wpAny P md ops (dZ R) (fuel+1) listed a w:=by
 have sub:∀ (listed:Array Bool) j,j ∈ Region.ready md ops listed ->j ≠ k ->j ∈ Region.ready md ops (listed.setIfInBounds k true):=fun listed j hj hjk=>by
  rw[mem_ready]at hj ⊢
  obtain⟨h1,oj,h2,h3⟩:=hj
  exact⟨by rw[getD_set_ne true (Ne.symm hjk)];exact h1,oj,h2,fun e he hb=>getD_set_true (h3 e he hb)⟩
 have apart:∀ (listed:Array Bool) j oj,listed.getD k true=false ->j ∈ Region.ready md ops listed ->j ≠ k ->ops[j]? =some oj ->o.apart ops oj=true /\ ∀ cs b,oj.op ≠ .select cs b:=fun listed j oj hlk hj hjk hoj=>by
  rcases hap j oj hoj hjk with hw|hh
  ·obtain⟨oj',h1,e,he,hb,hon⟩:=Region.waitsFor_spec hw
   obtain⟨_,oj2,h2,h3⟩:=mem_ready.1 hj
   have e1:oj'=oj2:=Option.some.inj (h1.symm.trans h2)
   subst e1
   have:=h3 e he hb
   rw[hon,getD_both hlk]at this
   cases this
  ·exact hh
 have hsi:∀ cs b,o.op ≠ .select cs b:=fun cs b e=>by rw[ho]at e;cases e
 intro fuel
 induction fuel with
 | zero=>
  intro listed a w v hy hlk hrk h
  refine⟨fun hr=> (by rw[hr]at hrk;cases hrk),fun i hi=> ?_⟩
  by_cases hik:i=k
  ·subst hik
   exact hy.wpOp hk h
  ·have:=sub listed i hi hik
   rw[h.1]at this
   cases this
 | succ fuel ih=>
  intro listed a w v hy hlk hrk h
  refine⟨fun hr=> (by rw[hr]at hrk;cases hrk),fun i hi=> ?_⟩
  by_cases hik:i=k
  ·subst hik
   exact hy.wpOp hk h
  ·obtain⟨_,oi,hoi,_⟩:=mem_ready.1 hi
   obtain⟨ap,hsj⟩:=apart listed i oi hlk hi hik hoi
   have h1:=h.2 i (sub listed i hi hik)
   refine wpOp_mono (fun a' w' hh=> ?_) (wpOp_put hoi ap hsi hsj (fun c a w hq=>by cases hq.1) hy h1)
   refine ih _ a' w' v hh.1 (by rw[getD_set_ne true hik];exact hlk) ?_ (by rw[Array.setIfInBounds_comm _ _ hik];exact hh.2)
   obtain⟨g1,ok,g2,g3⟩:=mem_ready.1 hrk
   exact mem_ready.2 ⟨by rw[getD_set_ne true hik];exact hlk,ok,g2,fun e he hb=>getD_set_true (g3 e he hb)⟩
theorem A1b {ops:Array Oper} {m k:Nat} (hf:A2s ops m k=true) {R:Act ->World ->Prop} {a:Act} {w:World}
  (h:wpAny P .any (dM ops m k) (dZ R) ops.size (Array.replicate ops.size false) a w):wpAny P .any ops (dZ R) ops.size (Array.replicate ops.size false) a w:=by
 unfold A2s at hf
 simp only[Bool.and_eq_true,decide_eq_true_eq]at hf
 obtain⟨wZ,hf⟩:=hf
 split at hf
 ·rename_i o hk
  simp only[Bool.and_eq_true,Option.isNone_iff_eq_none]at hf
  obtain⟨⟨⟨h1,hg⟩,h2⟩,h3⟩:=hf
  split at h1
  ·rename_i x ho
   have hlt:k < ops.size:=(Array.getElem?_eq_some_iff.1 hk).1
   obtain⟨s,hs⟩:∃ s,ops.size=s+1:=⟨ops.size - 1,by omega⟩
   have hlk:(Array.replicate ops.size false).getD k true=false:=by simp[hlt]
   have hnb:∀ e ∈ o.after,Region.binds .any e=true -> (Array.replicate ops.size false).getD e.on false=true:=fun e he hb=>by
    have:=Array.all_eq_true_iff_forall_mem.1 h2 e he
    rw[hb]at this;cases this
   have hrk:k ∈ Region.ready .any ops (Array.replicate ops.size false):=mem_ready.2 ⟨hlk,o,hk,hnb⟩
   obtain⟨af,g1,g2,_⟩:=jG (m:=m) (k:=k) hk
   have hrk':k ∈ Region.ready .any (dM ops m k) (Array.replicate ops.size false):=mem_ready.2 ⟨hlk,_,g1,by rw[g2 (Ne.symm wZ)];exact hnb⟩
   have hap:∀ j oj,ops[j]? =some oj ->j ≠ k ->Region.waitsFor .any ops j k=true \/ (o.apart ops oj=true /\ ∀ cs b,oj.op ≠ .select cs b):=fun j oj hj hjk=>by
    have:=List.all_eq_true.1 h3 j (by simpa using(Array.getElem?_eq_some_iff.1 hj).1)
    simp only[Bool.or_eq_true,decide_eq_true_eq,hj,Bool.and_eq_true]at this
    rcases this with(h|h)|⟨h,h'⟩
    ·exact absurd h hjk
    ·exact .inl h
    ·refine .inr ⟨h,fun cs b e=> ?_⟩
     rw[e]at h';cases h'
   have hset:((Array.replicate ops.size false).setIfInBounds k true).getD k false=true:=by simp[hlt]
   generalize hl:Array.replicate ops.size false=listed at*
   rw[hs]at h ⊢
   have h4:=vN.1 (h.2 k hrk')
   have h5:=A7v hk ho hg h4
   exact A8t hk ho hg hap s _ a w _ (zV ho hg a) hlk hrk (tK s _ _ w hset h5)
  ·cases h1
 ·cases hf
theorem sJ:∀ (fs:List (Nat × Nat)) (ops:Array Oper),(edged ops fs).size=ops.size
 |[],_=>rfl
 |(m,k)::r,ops=>by rw[edged,sJ r,kL]
theorem oU{R:Act ->World ->Prop}{a:Act}{w:World} :∀ (fs:List (Nat × Nat)) (ops:Array Oper),qV ops fs=true ->wpAny P .any (edged ops fs) (dZ R) ops.size (Array.replicate ops.size false) a w ->
  wpAny P .any ops (dZ R) ops.size (Array.replicate ops.size false) a w
 |[],_,_,h=>h
 | (m,k)::r,ops,hf,h=>by
  simp only[qV,Bool.and_eq_true]at hf
  refine A1b hf.1 ?_
  have:=oU (R:=R) (a:=a) (w:=w) r (dM ops m k) hf.2
  rw[kL]at this
  exact this h
inductive cN:List Oper ->List Oper ->Prop
 |nil:cN [] []
 |cons {o:Oper} {af:Array Edge} {l l':List Oper} (h:cN l l'):cN (o::l) ({o with after:=af} ::l')
theorem cN.refl:∀ (l:List Oper),cN l l
 |[]=> .nil
 |o::l=> .cons (o:=o) (af:=o.after) (cN.refl l)
theorem cN.trans{a b c:List Oper}(h:cN a b)(k:cN b c):cN a c:=by
 induction h generalizing c with
 |nil=>exact k
 |cons h ih=>cases k with|cons k=>exact .cons (ih k)
theorem cN.modify(m:Nat)(f:Oper ->Array Edge):∀ (l:List Oper),cN l (l.modify m fun o=> {o with after:=f o})
 |[]=>by simp;exact .nil
 | o::l=>by
  cases m with
  |zero=>exact .cons (cN.refl l)
  |succ m=>exact .cons (o:=o) (af:=o.after) (cN.modify m f l)
theorem cN.edged:∀ (fs:List (Nat × Nat)) (ops:Array Oper),cN ops.toList (Av.edged ops fs).toList
 |[],ops=>cN.refl _
 | (m,k)::r,ops=>by
  refine cN.trans ?_ (cN.edged r (dM ops m k))
  unfold dM
  rw[Array.toList_modify]
  exact cN.modify m (fun o=>o.after.push ⟨k, .data⟩) ops.toList
theorem cN.take{l l':List Oper}(h:cN l l'):∀ n,cN (l.take n) (l'.take n):=by
 induction h with
 |nil=>intro n;simp;exact .nil
 | cons h ih=>intro n;cases n with
  |zero=>exact .nil
  |succ n=>exact .cons (ih n)
theorem cN.drop{l l':List Oper}(h:cN l l'):∀ n,cN (l.drop n) (l'.drop n):=by
 induction h with
 |nil=>intro n;simp;exact .nil
 | cons h ih=>intro n;cases n with
  |zero=>exact .cons h
  |succ n=>exact ih n
theorem cN.dst{l l':List Oper}(h:cN l l'):∀ j:Nat,(l[j]?).bind (·.dst)=(l'[j]?).bind (·.dst):=by
 induction h with
 |nil=>intro j;rfl
 | cons h ih=>intro j;cases j with
  |zero=>rfl
  |succ j=>exact ih j
theorem cN.wanted{l l':List Oper}(h:cN l l')(e:aK)(g:Option (Nat × Bool)):bZ l' e g=bZ l e g:=by
 unfold bZ
 split
 ·rfl
 ·rename_i j want
  rw[<- h.dst j]
theorem cN.ops{G:Nat ->AV}{l l':List Oper}(hl:cN l l'){Q:aK ->AS ->Prop} :∀ {r r':List Oper},cN r r' ->∀ (e:aK) (σ:AS),cI P G l Q r e σ ->cI P G l' Q r' e σ:=by
 intro r r' h
 induction h with
 |nil=>intro e σ h;exact h
 | cons h ih=>
  intro e σ ⟨b,hb,h1,h2⟩
  refine⟨b,by rw[hl.wanted];exact hb,fun x=> ?_,fun x=>ih _ _ (h2 x)⟩
  exact eB (fun r s hh=>ih _ _ hh) (h1 x)
theorem cN.heads{G:Nat ->AV}{l l':List Oper}(hl:cN l l'){σ0:AS}{L L':aK ->AS ->Prop}(hL:∀ e s,L e s ->L' e s):∀ {r r':List Oper},cN r r' ->∀ (e:aK) (σ:AS) (av:List Nat),bW P G l σ0 L r e σ av ->bW P G l' σ0 L' r' e σ av:=by
 intro r r' h
 induction h with
 |nil=>intro e σ av h;exact hL _ _ h
 | cons h ih=>
  intro e σ av ⟨b,hb,h1,h2⟩
  refine⟨b,by rw[hl.wanted];exact hb,fun x=> ?_,fun x=>ih _ _ _ (h2 x)⟩
  exact pO (fun r s a hh=>ih _ _ _ hh) (h1 x)
theorem cN.dsts{N:Nat}{l l':List Oper}(h:cN l l'):l'.all (eG N)=l.all (eG N):=by
 induction h with
 |nil=>rfl
 |cons h ih=>simp only[List.all_cons,ih];rfl
end floats
theorem B0x {P:Program} {G:Nat ->AV} {N:Nat} {ds:aJ} {ops:Array Oper} {Q:aK ->AS ->Prop} {R:Exit ->Act ->World ->Prop} {e:aK} {σ:AS} {K:aJ} {a:Act} {w:World} {n:Nat} {σ0:AS} {av:List Nat}
  (hok:ops.toList.all (eG N)=true) (hn:uS ops n=true) (hle0:σ0.le σ) (hav0:∀ c,c ∈ av -> (σ.box c).isSome=true /\ σ0.box c=none) (h1:bW P G ops.toList σ0 (fun e' σ'=>cI P G ops.toList Q (ops.toList.drop n) e' σ') (ops.toList.take n) e σ av)
  (hs:St P G K N ds e σ a w) (hR:∀ e σ K' a w,Q e σ ->St P G K' N ds e σ a w ->K.le K' ->R .normal a w):wpAny P .any ops R ops.size (Array.replicate ops.size false) a {w with drawn:=w.drawn+1} :=by
 have hav:rC σ0 σ σ av:=fun c hc=> ⟨rfl,(hav0 c hc).1,(hav0 c hc).2⟩
 have hs':St P G K N ds e σ a {w with drawn:=w.drawn+1} :=⟨hs.er,hs.rel.drew,hs.size,hs.le,hs.defers⟩
 have inv0:∀ m,HeadInv .any ops m (Array.replicate ops.size false):=fun m=>
  ⟨by simp,fun j oj _ hl=> (by rw[getD_replicate_false]at hl;cases hl),fun t _ ht=>getD_in (by simpa using ht) (getD_replicate_false _ _)⟩
 unfold uS at hn
 split at hn
 ·rename_i hns
  subst hns
  have htake:ops.toList.take ops.size=ops.toList:=List.take_of_length_le (by simp)
  have hdrop:ops.toList.drop ops.size=[]:=List.drop_eq_nil_of_le (by simp)
  rw[htake,hdrop]at h1
  have hlen:ops.toList.length=ops.size:=by simp
  have hlex:=fM (md:= .any) (n:=ops.size) (T:=fun listed=> (Region.ready .any ops listed).isEmpty) (σ0:=σ0) (σi:=σ)
   (fun listed hT j hj=>by rw[List.isEmpty_iff.1 hT]at hj;cases hj)
   (fun i hi listed inv hun t ht hr=>by
     obtain⟨_,o,ho,_⟩:=mem_ready.1 hr
     have:=(Array.getElem?_eq_some_iff.1 ho).1
     omega)
   ops.toList 0 (Array.replicate ops.size false) e σ av (fun j hj=>by simp) (by simp) (inv0 _) (fun j hj=>by omega) (oK hs.rel) hle0 hav (by rw[hlen];exact hn) h1
  rw[hlen]at hlex
  have:=kN (g:=0) (R:=R) (K0:=K) hok (fun listed e' σ' K' a' w' hL hst hk=>by
   refine⟨List.isEmpty_iff.1 hL.1,?_⟩
   exact hR e' σ' K' a' w' hL.2 hst hk) ops.size _ e σ av K a _ hle0 hav hlex hs' (aJ.le.refl K)
  simpa using this
 ·simp only[Bool.and_eq_true,decide_eq_true_eq]at hn
  obtain⟨⟨⟨hlt,hsink⟩,hchain⟩,hB⟩:=hn
  have htl:(ops.toList.take n).length=n:=by simp;omega
  have hdl:(ops.toList.drop n).length=ops.size - n:=by simp
  have hlex:=fM (md:= .any) (n:=n) (T:=fun listed=>Region.seqB .any ops (ops.size - n) n listed) (σ0:=σ0) (σi:=σ)
   (fun listed hT j hj=>seqB_ready hT j hj)
   (fun i hi listed inv hun t ht=>tail_waits hsink hchain hlt inv _ i rfl hi hun t ht)
   (ops.toList.take n) 0 (Array.replicate ops.size false) e σ av (fun j hj=>by
     rw[htl]at hj
     simp[hj]) (by omega) (inv0 _) (fun j hj=>by omega) (oK hs.rel) hle0 hav (by rw[htl];exact hB) h1
  rw[htl]at hlex
  have:=kN (g:=ops.size - n) (R:=R) (K0:=K) hok (fun listed e' σ' K' a' w' hL hst hk=>by
   have hd:(ops.toList.drop n).all (eG N)=true:=List.all_eq_true.2 fun o ho=>List.all_eq_true.1 hok o (List.mem_of_mem_drop ho)
   have hwl:=dV (K0:=K) hR (ops.toList.drop n) e' σ' K' a' w' hd hL.2 hst hk
   have:=wpAny_of_seq (md:= .any) (Q':=R) (ops.toList.drop n) n listed a' w' (fun j=>by simp) (by rw[hdl];exact hL.1) hwl
   rw[hdl]at this
   exact this) n _ e σ av K a _ hle0 hav hlex hs' (aJ.le.refl K)
  rw[show n+(ops.size - n)=ops.size by omega]at this
  exact this
theorem wR{P:Program}{G:Nat ->AV}(hm:P.follows .mixedOrders=true):rD P G (A9c P G) where
 mono ops Q Q' e σ hq h:=by
  obtain⟨fs,n,σ0,av,hf,hn,g1,g2,h1⟩:=h
  exact⟨fs,n,σ0,av,hf,hn,g1,g2,dH (fun e s hh=>cT _ hq _ _ hh) _ _ _ _ h1⟩
 frame ops Q e σ h:=by
  obtain⟨fs,n,σ0,av,hf,hn,g1,g2,h1⟩:=h
  refine⟨fs,n,σ0,av,hf,hn,g1,g2,dH (fun e' s hh=> ?_) _ _ _ _ (iM _ _ _ _ h1)⟩
  obtain⟨g1,g2⟩:=hh
  refine cT _ (fun e2 s2 hh2=> ⟨hh2.1,fun t ht=> ?_⟩) _ _ (eT _ _ _ g1)
  have hsp:bC ops.toList=bC (ops.toList.take n)++bC (ops.toList.drop n):=by rw[<- kD,List.take_append_drop]
  rw[hsp,List.mem_append,not_or]at ht
  rw[hh2.2 t ht.2,g2 t ht.1]
 sound N ds id ops Q R e σ K a w hok h hs hR:=by
  obtain⟨fs,n,σ0,av,hf,hn,hle0,hav0,h1⟩:=h
  refine oU fs ops hf ?_
  have hE:=cN.edged fs ops
  have:=B0x (R:=dZ R) (ops:=edged ops fs) (by rw[hE.dsts];exact hok) hn hle0 hav0 (hE.heads (fun e s hh=>hE.ops (hE.drop n) e s hh) (hE.take n) e σ av h1) hs (fun e σ K' a w hq hst hk=> ⟨rfl,hR e σ K' a w hq hst hk⟩)
  rw[sJ]at this
  exact this
end Go.Av
