/- Rows of operations, code, functions: what is to be shown on abstract values, and that it is enough. -/
import Derived.Test.YthoenjlenkpnnaaDoorY02
import Derived.Orders
import Derived.StillTail
set_option linter.unusedVariables false
set_option linter.unusedSimpArgs false
namespace Go.Av
open Go Go.RowKit
def cE(ops:List Oper)(e:aM)(g:Option (Nat × Bool)):Option Bool:=
 match g with
 |none=>some true
 | some (j,want)=>match(ops[j]?).bind (·.dst)with
  | some t=>match e t with
   | .bool b=>some (b==want)
   | .tup []=>some false
   |_=>none
  |none=>none
theorem VR.skipped{K:aT} :VR K (.tup []) Go.undef:= .tup [] #[] rfl (fun j h=>by cases h)
theorem eR{ops:Array Oper}{K:aT}{e:aM}{a:Act}{o:Oper}{b:Bool}(h:cE ops.toList e o.guard=some b)(he:ER K e a):Region.wanted o (yielded ops a.tmps)=b:=by
 unfold cE at h
 unfold Region.wanted
 split at h
 ·rename_i hg;rw[hg];simpa using h
 ·rename_i j want hg
  rw[hg]
  simp only
  split at h
  ·rename_i t ht
   split at h
   ·rename_i b' hb
    simp only[Option.some.injEq]at h
    have ht':(ops[j]?).bind (·.dst)=some t:=by simpa using ht
    have hv:=he t
    rw[hb,VR.bool_iff]at hv
    have hget:a.tmps[t]? =some (.bool b'):=by
     cases hx:a.tmps[t]? with
     |none=>simp[hx]at hv;cases hv
     |some v=>simp[hx]at hv;rw[hv]
    have hy:yielded ops a.tmps j=some b':=by
     unfold yielded
     rw[ht']
     simp[hget]
    rw[hy,<- h]
    simp
   ·rename_i hb
    simp only[Option.some.injEq]at h;subst h
    have ht':(ops[j]?).bind (·.dst)=some t:=by simpa using ht
    have hv:=he t
    rw[hb]at hv
    have hget:∀ b',a.tmps[t]? ≠ some (.bool b'):=fun b' hx=>by
     have:a.tmps.getD t Go.undef= .bool b':=by simp[Array.getD_eq_getD_getElem?,hx]
     rw[this]at hv;cases hv
    have hy:yielded ops a.tmps j=none:=by
     unfold yielded
     rw[ht']
     cases hx:a.tmps[t]? with
     |none=>simp[hx]
     |some v=>cases v <;>first|(simp[hx];done)|exact absurd hx (hget _)
    rw[hy]
    rfl
   ·cases h
  ·cases h
def cF(P:Program)(G:Nat ->AV)(ops:List Oper)(Q:aM ->AS ->Prop):List Oper ->aM ->AS ->Prop
 |[],e,σ=>Q e σ
 | o::rest,e,σ=>∃ b,cE ops e o.guard=some b /\ (b=true ->eK P G o e σ fun r σ'=>cF P G ops Q rest (e.upd o.dst r) σ') /\
   (b=false ->cF P G ops Q rest (e.upd o.dst (.tup [])) σ)
structure St(P:Program)(G:Nat ->AV)(K:aT)(N:Nat)(ds:List Deferred)(e:aM)(σ:AS)(a:Act)(w:World):Prop where
 er:ER K e a
 rel:bM G K σ w
 size:N <=a.tmps.size
 defers:a.defers=ds
theorem St.put {P:Program} {G:Nat ->AV} {K K':aT} {N:Nat} {ds:List Deferred} {e:aM} {σ σ':AS} {a:Act} {w w':World} (h:St P G K N ds e σ a w) (hK:K.le K') {d:Option Tmp} (hd:∀ t,d=some t ->t < N)
  {r:AV} {v:Value} (hv:VR K' r v) (hr:bM G K' σ' w'):St P G K' N ds (e.upd d r) σ' (a.put d v) w':=by
 refine⟨(h.er.mono hK).put (fun t ht=>Nat.lt_of_lt_of_le (hd t ht) h.size) hv,hr,?_,?_⟩
 ·cases d with
  |none=>exact h.size
  |some t=>simpa [Act.put] using h.size
 ·cases d with
  |none=>exact h.defers
  |some t=>exact h.defers
theorem fT.wp {P:Program} {G:Nat ->AV} {K:aT} {Kc:AV ->AS ->Prop} {o:Oper} {a:Act} {w:World} (h:fT P G K Kc ((execOp a.eval o).run P w)) {next:Act ->World ->Prop} {Q:Exit ->Act ->World ->Prop}
  (hn:∀ r σ' K' v w',Kc r σ' ->VR K' r v ->bM G K' σ' w' ->K.le K' ->next (a.put o.dst v) w'):o.wp P a w next Q:=by
 unfold Oper.wp
 generalize(execOp a.eval o).run P w=res at h
 unfold fT at h
 split at h
 ·obtain⟨r,σ',K',h1,h2,h3,h4⟩:=h
  exact hn r σ' K' _ _ h1 h2 h3 h4
 ·obtain⟨σ',K',h1,h2,h3⟩:=h
  exact hn .undef σ' K' _ _ h1 (.undef _) h2 h3
 ·simp only[Oper.upon]
  refine h.mono ?_
  rintro e w' ⟨v,r,σ',K',rfl,h1,h2,h3,h4⟩
  exact hn r σ' K' _ _ h1 h2 h3 h4
 ·exact h.elim
def fP(N:Nat)(o:Oper):Bool:=match o.dst with|some t=>decide (t < N)|none=>true
theorem eS{N:Nat}{o:Oper}(h:fP N o=true):∀ t,o.dst=some t ->t < N:=by
 intro t ht
 unfold fP at h
 rw[ht]at h
 simpa using h
theorem fD {P:Program} {G:Nat ->AV} {N:Nat} {ds:List Deferred} {ops:Array Oper} {Q:aM ->AS ->Prop} {R:Exit ->Act ->World ->Prop} {K0:aT}
  (hR:∀ e σ K a w,Q e σ ->St P G K N ds e σ a w ->K0.le K ->R .normal a w):
  ∀ (l:List Oper) (e:aM) (σ:AS) (K:aT) (a:Act) (w:World),l.all (fP N)=true ->cF P G ops.toList Q l e σ ->St P G K N ds e σ a w ->K0.le K ->wpList P ops R l a w
 |[],e,σ,K,a,w,_,h,hs,hk=>hR e σ K a w h hs hk
 | o::rest,e,σ,K,a,w,hd,h,hs,hk=>by
  simp only[List.all_cons,Bool.and_eq_true]at hd
  obtain⟨b,hb,h1,h2⟩:=h
  have hw:=eR hb hs.er
  unfold wpList
  cases b with
  | true=>
   rw[if_pos hw]
   refine .inl ((iO (h1 rfl) hs.er hs.rel).wp fun r σ' K' v w' hq hv hr hle=> ?_)
   exact fD hR rest _ _ K' _ _ hd.2 hq (hs.put hle (eS hd.1) hv hr) (hk.trans hle)
  | false=>
   rw[if_neg (by rw[hw];simp)]
   exact fD hR rest _ _ K _ _ hd.2 (h2 rfl) (hs.put (aT.le.refl K) (eS hd.1) VR.skipped hs.rel) hk
def bJ(l:List Oper):List Nat:=l.filterMap (·.dst)
def bP:Code ->List Nat
 | .region _ ops _=>bJ ops.toList
 | .seq a b=>bP a++bP b
 | .cond _ a b=>bP a++bP b
 | .block _ c=>bP c
 | .loop c=>bP c
 |_=> []
def cOK(N:Nat):Code ->Bool
 | .region _ ops _=>ops.toList.all (fP N)
 | .seq a b=>cOK N a && cOK N b
 | .cond _ a b=>cOK N a && cOK N b
 | .block _ c=>cOK N c
 | .loop c=>cOK N c
 |_=>true
def mrg(W:List Nat)(v e:aM):aM:=fun t=>if W.contains t then v t else e t
section pU
variable (P:Program) (G:Nat ->AV) (D:Array Oper -> (aM ->AS ->Prop) ->aM ->AS ->Prop)
def pU:Code -> (Exit ->aM ->AS ->Prop) ->aM ->AS ->Prop
 | .skip,Q,e,σ=>Q .normal e σ
 | .label _,Q,e,σ=>Q .normal e σ
 | .region _ ops false,Q,e,σ=>cF P G ops.toList (Q .normal) ops.toList e σ
 | .region _ ops true,Q,e,σ=>D ops (Q .normal) e σ
 | .seq a b,Q,e,σ=>pU a (fun x e σ=>match x with| .normal=>pU b Q e σ|x=>Q x e σ) e σ
 | .cond c a b,Q,e,σ=>∃ t,ev G e c= .bool t /\ (t=true ->pU a Q e σ) /\ (t=false ->pU b Q e σ)
 | .block id c,Q,e,σ=>pU c (fun x e σ=>match x with| .exit i=>if i=id then Q .normal e σ else Q (.exit i) e σ|x=>Q x e σ) e σ
 | .loop c,Q,e,σ=>∃ I:Nat ->aM ->AS ->Prop,(∃ n,I n e σ) /\ ∀ n v σ',I n (mrg (bP c) v e) σ' ->
   pU c (fun x e' σ'=>match x with| .normal=>∃ m,m < n /\ I m e' σ'|x=>Q x e' σ') (mrg (bP c) v e) σ'
 | .exit id,Q,e,σ=>Q (.exit id) e σ
 | .ret,Q,e,σ=>Q .ret e σ
 |_,_,_,_=>False
end pU
theorem aM.upd_other{e:aM}{d:Option Tmp}{r:AV}{t:Nat}(h:∀ x,d=some x ->x ≠ t):e.upd d r t=e t:=by
 cases d with
 |none=>rfl
 | some x=>
  show(if t=x then r else e t)=e t
  rw[if_neg (Ne.symm (h x rfl))]
theorem eQ{P:Program}{G:Nat ->AV}{o:Oper}{e:aM}{σ:AS}{K K':AV ->AS ->Prop}(hk:∀ r s,K r s ->K' r s)(h:eK P G o e σ K):eK P G o e σ K':=by
 unfold eK at h ⊢
 generalize o.op=op at h ⊢
 cases op <;>first|exact h.elim|exact hk _ _ h|(obtain⟨x,h1,h2⟩:=h;exact⟨x,h1,hk _ _ h2⟩)|skip
 case alloc E=>
  obtain⟨z,h1,h2⟩:=h
  rcases h2 with h2|h2
  ·exact⟨z,h1, .inl fun b hb=>hk _ _ (h2 b hb)⟩
  ·exact⟨z,h1, .inr fun b hb=>hk _ _ (h2 b hb)⟩
 case box E x=>exact⟨h.1,fun b hb=>hk _ _ (h.2 b hb)⟩
 case buildSlice t n ps=>
  rcases h with⟨r,h1,h2⟩|h
  ·exact .inl ⟨r,h1,hk _ _ h2⟩
  ·refine .inr ?_
   unfold mA at h ⊢
   split at h
   ·exact fun b hb=>hk _ _ (h b hb)
   ·exact h.elim
 case nilCheck x=>exact⟨h.1,hk _ _ h.2⟩
 case convert s d x=>
  rcases h with⟨r,h1,h2⟩|⟨l,e,h1,h2,h3,h4,h5,h6⟩|⟨b,cs,E,e,h1,h2,h3,h4,h5,h6,h7⟩
  ·exact .inl ⟨r,h1,hk _ _ h2⟩
  ·exact .inr (.inl ⟨l,e,h1,h2,h3,h4,h5,fun b hb=>hk _ _ (h6 b hb)⟩)
  ·exact .inr (.inr ⟨b,cs,E,e,h1,h2,h3,h4,h5,h6,hk _ _ h7⟩)
 case makeSlice t l c=>
  simp only at h ⊢
  rcases h with h|h|h
  ·refine .inl ?_
   unfold A3f at h ⊢
   split at h
   ·exact⟨h.1,h.2.1,h.2.2.1,fun b hb=>hk _ _ (h.2.2.2 b hb)⟩
   ·exact h.elim
  ·refine .inr (.inl ?_)
   unfold vD at h ⊢
   split at h
   ·exact⟨h.1,h.2.1,h.2.2.1,fun b hb=>hk _ _ (h.2.2.2 b hb)⟩
   ·exact h.elim
  ·refine .inr (.inr ?_)
   unfold rT at h ⊢
   split at h
   ·exact⟨h.1,h.2.1,h.2.2.1,fun b hb=>hk _ _ (h.2.2.2 b hb)⟩
   ·exact h.elim
 case makeFunc fn first caps=>
  simp only at h ⊢
  split at h
  ·exact hk _ _ h
  ·obtain⟨h1,b,o,h2,h3⟩:=h;exact⟨h1,b,o,h2,hk _ _ h3⟩
  ·exact h.elim
 case range t x=>
  simp only at h ⊢
  unfold vH at h ⊢
  split at h
  ·exact⟨h.1,fun b hb=>hk _ _ (h.2 b hb)⟩
  ·exact h.elim
 case makeMap t r=>exact⟨h.1,fun b hb=>hk _ _ (h.2 b hb)⟩
 case next it s=>
  cases s with
  |false=>exact h.elim
  | true=>
   simp only at h ⊢
   unfold vF at h ⊢
   split at h
   case h_2=>exact h.elim
   split at h
   case h_2=>exact h.elim
   exact⟨fun x=>hk _ _ (h.1 x),fun x=>hk _ _ (h.2 x)⟩
 case slice t x lo hi mx=>
  cases mx with
  |none=>obtain⟨x,h1,h2⟩:=h;exact⟨x,h1,hk _ _ h2⟩
  |some m=>exact h.elim
 case call c=>
  simp only at h ⊢
  unfold tB at h ⊢
  split at h
  ·split at h
   ·exact h.mono hk
   ·obtain⟨k,b,o,h1,h2⟩:=h;exact⟨k,b,o,h1,h2.mono hk⟩
   ·exact h.elim
  ·split at h
   ·rename_i hb
    simp only[if_pos hb]
    split at h
    ·rcases h with h|h
     ·refine .inl ?_
      unfold lZ at h ⊢
      split at h
      ·refine⟨h.1,?_⟩
       have h2:=h.2
       split at h2
       ·exact⟨h2.1,fun x=>hk _ _ (h2.2.1 x),fun x b hb=>hk _ _ (h2.2.2 x b hb)⟩
       ·exact⟨h2.1,h2.2.1,fun x=>hk _ _ (h2.2.2.1 x),fun x b hb=>hk _ _ (h2.2.2.2 x b hb)⟩
       ·exact⟨h2.1,h2.2.1,h2.2.2.1,fun b hb=>hk _ _ (h2.2.2.2 b hb)⟩
       ·exact h2.elim
      ·exact h.elim
     ·exact .inr (xG hk h)
    ·exact h.elim
   ·rename_i hb
    simp only[if_neg hb]
    split at h
    ·rename_i hb2
     simp only[if_pos hb2]
     split at h
     ·exact A7f hk h
     ·exact h.elim
    ·rename_i hb2
     simp only[if_neg hb2]
     split at h
     ·rename_i hb3
      simp only[if_pos hb3]
      split at h
      ·exact A2z hk h
      ·exact h.elim
     ·rename_i hb3
      simp only[if_neg hb3]
      obtain⟨r,h1,h2⟩:=h
      exact⟨r,h1,hk _ _ h2⟩
  ·exact h.elim
theorem gE{P:Program}{G:Nat ->AV}{ops:List Oper}{Q:aM ->AS ->Prop} :∀ (l:List Oper) (e:aM) (σ:AS),cF P G ops Q l e σ ->
  cF P G ops (fun e' σ'=>Q e' σ' /\ ∀ t,t ∉ bJ l ->e' t=e t) l e σ
 |[],e,σ,h=> ⟨h,fun _ _=>rfl⟩
 | o ::rest,e,σ,h=>by
  obtain⟨b,hb,h1,h2⟩:=h
  have key:∀ r σ',cF P G ops Q rest (e.upd o.dst r) σ' ->cF P G ops (fun e' σ'=>Q e' σ' /\ ∀ t,t ∉ bJ (o::rest) ->e' t=e t) rest (e.upd o.dst r) σ':=by
   intro r σ' hh
   have h3:=gE rest _ _ hh
   have mono:∀ (l:List Oper) (Q Q':aM ->AS ->Prop),(∀ e s,Q e s ->Q' e s) ->∀ e s,cF P G ops Q l e s ->cF P G ops Q' l e s:=by
    intro l
    induction l with
    |nil=>intro Q Q' hq e s h;exact hq _ _ h
    | cons o' l ih=>
     intro Q Q' hq e s h
     obtain⟨b,hb,h1,h2⟩:=h
     exact⟨b,hb,fun x=>eQ (fun r s' h=>ih Q Q' hq _ _ h) (h1 x),fun x=>ih Q Q' hq _ _ (h2 x)⟩
   refine mono rest _ _ (fun e' s' hq=> ⟨hq.1,fun t ht=> ?_⟩) _ _ h3
   have ht1:t ∉ bJ rest:=fun hm=>ht (by
    unfold bJ at*
    rw[List.filterMap_cons]
    split
    ·exact hm
    ·exact List.mem_cons_of_mem _ hm)
   rw[hq.2 t ht1]
   refine aM.upd_other fun x hx hxt=>ht ?_
   unfold bJ
   rw[List.filterMap_cons,hx]
   subst hxt
   exact List.mem_cons_self
  exact⟨b,hb,fun x=>eQ (fun r s' hh=>key r s' hh) (h1 x),fun x=>key _ _ (h2 x)⟩
structure uS(P:Program)(G:Nat ->AV)(D:Array Oper -> (aM ->AS ->Prop) ->aM ->AS ->Prop):Prop where
 sound:∀ (N:Nat) (ds:List Deferred) (id:Nat) (ops:Array Oper) (Q:aM ->AS ->Prop) (R:Exit ->Act ->World ->Prop) (e:aM) (σ:AS) (K:aT) (a:Act) (w:World),
  ops.toList.all (fP N)=true ->D ops Q e σ ->St P G K N ds e σ a w -> (∀ e σ K' a w,Q e σ ->St P G K' N ds e σ a w ->K.le K' ->R .normal a w) -> (Code.region id ops true).wp P R a w
 frame:∀ (ops:Array Oper) (Q:aM ->AS ->Prop) (e:aM) (σ:AS),D ops Q e σ ->D ops (fun e' σ'=>Q e' σ' /\ ∀ t,t ∉ bJ ops.toList ->e' t=e t) e σ
 mono:∀ (ops:Array Oper) (Q Q':aM ->AS ->Prop) (e:aM) (σ:AS),(∀ e s,Q e s ->Q' e s) ->D ops Q e σ ->D ops Q' e σ
section
variable {P:Program} {G:Nat ->AV} {D:Array Oper -> (aM ->AS ->Prop) ->aM ->AS ->Prop}
theorem dV{ops:List Oper} :∀ (l:List Oper) {Q Q':aM ->AS ->Prop},(∀ e s,Q e s ->Q' e s) ->∀ e s,cF P G ops Q l e s ->cF P G ops Q' l e s
 |[],_,_,hq,e,s,h=>hq _ _ h
 |o::l,_,_,hq,e,s,⟨b,hb,h1,h2⟩=> ⟨b,hb,fun x=>eQ (fun r s' h=>dV l hq _ _ h) (h1 x),fun x=>dV l hq _ _ (h2 x)⟩
theorem jV(hD:uS P G D):∀ (c:Code) {Q Q':Exit ->aM ->AS ->Prop} (e:aM) (σ:AS),(∀ x e s,Q x e s ->Q' x e s) ->pU P G D c Q e σ ->pU P G D c Q' e σ:=by
 intro c
 induction c with
 |skip=>intro Q Q' e σ hq h;exact hq _ _ _ h
 |label l=>intro Q Q' e σ hq h;exact hq _ _ _ h
 | region id ops d=>
  intro Q Q' e σ hq h
  cases d with
  |false=>exact dV _ (fun e s h=>hq _ _ _ h) _ _ h
  |true=>exact hD.mono _ _ _ _ _ (fun e s h=>hq _ _ _ h) h
 | seq a b iha ihb=>
  intro Q Q' e σ hq h
  refine iha e σ (fun x e s hx=> ?_) h
  cases x <;>first|exact ihb _ _ hq hx|exact hq _ _ _ hx
 | cond c a b iha ihb=>
  intro Q Q' e σ hq h
  obtain⟨t,ht,h1,h2⟩:=h
  exact⟨t,ht,fun x=>iha _ _ hq (h1 x),fun x=>ihb _ _ hq (h2 x)⟩
 | block id c ih=>
  intro Q Q' e σ hq h
  refine ih e σ (fun x e s hx=> ?_) h
  cases x <;>first|exact hq _ _ _ hx|skip
  simp only at hx ⊢
  split at hx
  ·rename_i hi;rw[if_pos hi];exact hq _ _ _ hx
  ·rename_i hi;rw[if_neg hi];exact hq _ _ _ hx
 | loop c ih=>
  intro Q Q' e σ hq h
  obtain⟨I,h0,h1⟩:=h
  refine⟨I,h0,fun n v σ' hI=>ih _ _ (fun x e s hx=> ?_) (h1 n v σ' hI)⟩
  cases x <;>first|exact hx|exact hq _ _ _ hx
 |exit id=>intro Q Q' e σ hq h;exact hq _ _ _ h
 |ret=>intro Q Q' e σ hq h;exact hq _ _ _ h
 |rangeFunc f ps a b _ _=>intro Q Q' e σ hq h;exact h.elim
 |scope c _=>intro Q Q' e σ hq h;exact h.elim
 |goto l=>intro Q Q' e σ hq h;exact h.elim
 |refuse w=>intro Q Q' e σ hq h;exact h.elim
theorem B1p(hD:uS P G D):∀ (c:Code) {Q:Exit ->aM ->AS ->Prop} (e:aM) (σ:AS),pU P G D c Q e σ ->
  pU P G D c (fun x e' σ'=>Q x e' σ' /\ ∀ t,t ∉ bP c ->e' t=e t) e σ:=by
 intro c
 induction c with
 |skip=>intro Q e σ h;exact⟨h,fun _ _=>rfl⟩
 |label l=>intro Q e σ h;exact⟨h,fun _ _=>rfl⟩
 | region id ops d=>
  intro Q e σ h
  cases d with
  |false=>exact gE _ _ _ h
  |true=>exact hD.frame _ _ _ _ h
 | seq a b iha ihb=>
  intro Q e σ h
  refine jV hD a e σ (fun x e' s hx=> ?_) (iha e σ h)
  obtain⟨hx,hw⟩:=hx
  cases x with
  | normal=>
   refine jV hD b e' s (fun y e'' s' hy=> ⟨hy.1,fun t ht=> ?_⟩) (ihb e' s hx)
   simp only[bP,List.mem_append,not_or]at ht
   rw[hy.2 t ht.2,hw t ht.1]
  |_=>exact⟨hx,fun t ht=>hw t (fun hm=>ht (by simp only[bP,List.mem_append];exact .inl hm))⟩
 | cond c a b iha ihb=>
  intro Q e σ h
  obtain⟨t,ht,h1,h2⟩:=h
  refine⟨t,ht,fun x=>jV hD a e σ (fun y e' s hy=> ⟨hy.1,fun t ht=>hy.2 t (fun hm=>ht (by simp only[bP,List.mem_append];exact .inl hm))⟩) (iha _ _ (h1 x)),
   fun x=>jV hD b e σ (fun y e' s hy=> ⟨hy.1,fun t ht=>hy.2 t (fun hm=>ht (by simp only[bP,List.mem_append];exact .inr hm))⟩) (ihb _ _ (h2 x))⟩
 | block id c ih=>
  intro Q e σ h
  refine jV hD c e σ (fun x e' s hx=> ?_) (ih e σ h)
  obtain⟨hx,hw⟩:=hx
  cases x <;>first|exact⟨hx,hw⟩|skip
  simp only at hx ⊢
  split at hx
  ·rename_i hi;rw[if_pos hi];exact⟨hx,hw⟩
  ·rename_i hi;rw[if_neg hi];exact⟨hx,hw⟩
 | loop c ih=>
  intro Q e σ h
  obtain⟨I,h0,h1⟩:=h
  have hmrg:∀ v t,t ∉ bP c ->mrg (bP c) v e t=e t:=by
   intro v t ht
   unfold mrg
   rw[if_neg (by simpa using ht)]
  refine⟨I,h0,fun n v σ' hI=> ?_⟩
  refine jV hD c _ _ (fun x e' s hx=> ?_) (ih _ _ (h1 n v σ' hI))
  obtain⟨hx,hw⟩:=hx
  have hx2:∀ t,t ∉ bP (Code.loop c) ->e' t=e t:=fun t ht=> (hw t ht).trans (hmrg v t ht)
  cases x <;>first|exact hx|exact⟨hx,hx2⟩
 |exit id=>intro Q e σ h;exact⟨h,fun _ _=>rfl⟩
 |ret=>intro Q e σ h;exact⟨h,fun _ _=>rfl⟩
 |rangeFunc f ps a b _ _=>intro Q e σ h;exact h.elim
 |scope c _=>intro Q e σ h;exact h.elim
 |goto l=>intro Q e σ h;exact h.elim
 |refuse w=>intro Q e σ h;exact h.elim
theorem B1q(hD:uS P G D)(N:Nat)(ds:List Deferred):∀ (c:Code) (Q:Exit ->aM ->AS ->Prop) (e:aM) (σ:AS) (K:aT) (a:Act) (w:World),cOK N c=true ->pU P G D c Q e σ ->St P G K N ds e σ a w ->
  c.wp P (fun x a' w'=>∃ e' σ' K',Q x e' σ' /\ St P G K' N ds e' σ' a' w' /\ K.le K') a w:=by
 intro c
 induction c with
 |skip=>intro Q e σ K a w _ h hs;exact wp_skip ⟨e,σ,K,h,hs,aT.le.refl K⟩
 |label l=>intro Q e σ K a w _ h hs;exact wp_label ⟨e,σ,K,h,hs,aT.le.refl K⟩
 | region id ops d=>
  intro Q e σ K a w hok h hs
  cases d with
  | false=>
   refine wp_region_list ?_
   exact fD (K0:=K) (fun e' σ' K' a' w' hq hs' hk=> ⟨e',σ',K',hq,hs',hk⟩) ops.toList e σ K a w hok h hs (aT.le.refl K)
  |true=>exact hD.sound N ds id ops _ _ e σ K a w hok h hs (fun e' σ' K' a' w' hq hs' hk=> ⟨e',σ',K',hq,hs',hk⟩)
 | seq x y ihx ihy=>
  intro Q e σ K a w hok h hs
  simp only[cOK,Bool.and_eq_true]at hok
  refine wp_seq (wp_mono (ihx _ e σ K a w hok.1 h hs) ?_)
  intro ex a' w' ⟨e',σ',K',hq,hs',hk⟩
  cases ex with
  | normal=>
   refine wp_mono (ihy Q e' σ' K' a' w' hok.2 hq hs') ?_
   intro ex2 a2 w2 ⟨e2,σ2,K2,hq2,hs2,hk2⟩
   exact⟨e2,σ2,K2,hq2,hs2,hk.trans hk2⟩
  |_=>exact⟨e',σ',K',hq,hs',hk⟩
 | cond c x y ihx ihy=>
  intro Q e σ K a w hok h hs
  simp only[cOK,Bool.and_eq_true]at hok
  obtain⟨t,ht,h1,h2⟩:=h
  have hc:=hs.er.eval hs.rel c
  rw[ht,VR.bool_iff]at hc
  cases t with
  |true=>exact wp_cond_true hc (ihx Q e σ K a w hok.1 (h1 rfl) hs)
  |false=>exact wp_cond_false hc (ihy Q e σ K a w hok.2 (h2 rfl) hs)
 | block id c ih=>
  intro Q e σ K a w hok h hs
  refine wp_block (wp_mono (ih _ e σ K a w hok h hs) ?_)
  intro ex a' w' ⟨e',σ',K',hq,hs',hk⟩
  cases ex <;>first|exact⟨e',σ',K',hq,hs',hk⟩|skip
  rename_i i
  simp only[Exit.inBlock]at hq ⊢
  split at hq
  ·rename_i hi;rw[if_pos hi];exact⟨e',σ',K',hq,hs',hk⟩
  ·rename_i hi;rw[if_neg hi];exact⟨e',σ',K',hq,hs',hk⟩
 | loop c ih=>
  intro Q e σ K a w hok h hs
  obtain⟨I,⟨n0,h0⟩,h1⟩:=h
  refine wp_loop_ghost (fun n a' w'=>∃ e' σ' K',I n e' σ' /\ St P G K' N ds e' σ' a' w' /\ K.le K' /\ ∀ t,t ∉ bP c ->e' t=e t) n0 ⟨e,σ,K,h0,hs,aT.le.refl K,fun _ _=>rfl⟩ ?_
  intro n a' w' ⟨e',σ',K',hI,hs',hk,hw⟩
  have hm:mrg (bP c) e' e=e':=by
   funext t
   unfold mrg
   split
   ·rfl
   ·rename_i ht;exact(hw t (by simpa using ht)).symm
  have h2:=h1 n e' σ' (by rw[hm];exact hI)
  rw[hm]at h2
  refine wp_mono (ih _ e' σ' K' a' w' hok (B1p hD c _ _ h2) hs') ?_
  intro ex a2 w2 ⟨e2,σ2,K2,⟨hq,hw2⟩,hs2,hk2⟩
  cases ex with
  | normal=>
   obtain⟨m,hm,hIm⟩:=hq
   exact⟨m,hm,e2,σ2,K2,hIm,hs2,hk.trans hk2,fun t ht=> (hw2 t ht).trans (hw t ht)⟩
  |_=>exact⟨e2,σ2,K2,hq,hs2,hk.trans hk2⟩
 |exit id=>intro Q e σ K a w _ h hs;exact wp_exit ⟨e,σ,K,h,hs,aT.le.refl K⟩
 |ret=>intro Q e σ K a w _ h hs;exact wp_ret ⟨e,σ,K,h,hs,aT.le.refl K⟩
 |rangeFunc f ps a b _ _=>intro Q e σ K a w _ h hs;exact h.elim
 |scope c _=>intro Q e σ K a w _ h hs;exact h.elim
 |goto l=>intro Q e σ K a w _ h hs;exact h.elim
 |refuse w=>intro Q e σ K a w _ h hs;exact h.elim
end
end Go.Av
namespace Go.Av
open Go Go.RowKit
def bZ(P:Program)(G:Nat ->AV)(f:FuncId)(args:List AV)(σ0:AS)(v:AV):Prop:=
 ∀ σ,σ0.le σ ->aJ P G f args σ fun r σ'=>r=v /\ σ'=σ
def dW(o:Oper):Bool:=match o.op with| .alloc _=>true| .box _ _=>true|_=>false
def qV(P:Program)(G:Nat ->AV)(e:aM)(σ0 σ:AS)(Kc:AV ->AS ->Prop)(c:Callee)(args:List Operand)(ts:List TypeId):Prop:=
 match c with
 | .value f=> (match ev G e f with
   | .fn k caps=>∃ v,bZ P G k (args.map (ev G e)++caps) σ0 v /\ Kc v σ
   |_=>False)
 | .builtin b=>if b= .append then False else ∃ r,fS P b ts.toArray (args.map (ev G e))=some r /\ Kc r σ
 | .invoke _ _=>False
theorem rU{P:Program}{σ σ':AS}{t:TypeId}{b off:Nat}{x:AV}{z:List AV}(h:gQ P σ t (.ptr b off) x=some (σ.setBox b z))(hb:σ'.box b=σ.box b):gQ P σ' t (.ptr b off) x=some (σ'.setBox b z):=by
 have inj:∀ xs ys:List AV,σ.setBox b xs=σ.setBox b ys ->xs=ys:=fun xs ys h=>by
  have h1:(σ.setBox b xs).box b=(σ.setBox b ys).box b:=by rw[h]
  simpa [AS.setBox] using h1
 unfold gQ at h ⊢
 cases htk:tk P t with
 |none=>simp only[htk]at h;cases h
 | some y=>
  obtain⟨ag,n⟩:=y
  simp only[htk]at h ⊢
  cases hbx:σ.box b with
  |none=>simp only[hbx]at h;cases h
  | some cs=>
   rw[hbx]at hb
   simp only[hbx]at h
   simp only[hb]
   split at h
   ·rename_i hc
    simp only[Option.some.injEq]at h
    have:=inj _ _ h
    rw[if_pos hc,this]
   ·cases h
def qA(P:Program)(σ0:AS)(t:TypeId)(p x:AV):Prop:=∃ b off z,p= .ptr b off /\ σ0.box b=some z /\ gQ P σ0 t (.ptr b off) x=some (σ0.setBox b z)
theorem jQ{σ:AS}{b:Nat}{z:List AV}(h:σ.box b=some z):σ.setBox b z=σ:=by
 unfold AS.setBox;cases σ with
 | mk box tip ty=>
  simp only[AS.mk.injEq,and_true]
  funext i
  split
  ·rename_i e;subst e;exact h.symm
  ·rfl
theorem pD{P:Program}{σ0 σ:AS}(hl:σ0.le σ){t:TypeId}{p x:AV}(h:qA P σ0 t p x):gQ P σ t p x=some σ:=by
 obtain⟨b,off,z,rfl,hb,ha⟩:=h
 have hb':=hl.box _ _ hb
 rw[rU ha (by rw[hb,hb']),jQ hb']
def hop(P:Program)(G:Nat ->AV)(o:Oper)(e:aM)(σ0 σ:AS)(Kc:AV ->AS ->Prop):Prop:=
 match o.op with
 | .store t p x=>qA P σ0 t (ev G e p) (ev G e x) /\ Kc .undef σ
 | .makeSlice .. =>False
 | .range .. =>False
 | .next .. =>False
 | .makeMap .. =>False
 | .lookup .. =>False
 | .mapUpdate .. =>False
 | .call c=>qV P G e σ0 σ Kc c.callee c.args.toList c.argTypes.toList
 | .alloc E=>∃ z,zc P E=some z /\ ∀ b,σ.fresh b ->Kc (.ptr b 0) (σ.setBox b z)
 | .box E x=>isv (ev G e x)=true /\ ∀ b,σ.fresh b ->Kc (.ptr b 0) (σ.setBox b (flat (ev G e x)))
 | .convert s d x=>∃ r,dP P σ0 s d (ev G e x)=some r /\ Kc r σ
 | .buildSlice t n ps=>∃ r,cX P t n (iJ G e ps.toList)=some r /\ Kc r σ
 |_=>eK P G o e σ0 fun r _=>Kc r σ
inductive kF where
 |quiet (v:AV)
 |alloc (z:List AV)
 |write (b:Nat) (z0 z:List AV)
def kF.out:kF ->AS ->AV ->AS ->Prop
 | .quiet v,σ,r,σ'=>r=v /\ σ'=σ
 | .alloc z,σ,r,σ'=>∃ b,σ.fresh b /\ r= .ptr b 0 /\ σ'=σ.setBox b z
 | .write b _ z,σ,r,σ'=>r= .undef /\ σ'=σ.setBox b z
def kF.pre:kF ->AS ->Prop
 | .write b z0 _,σ=>σ.box b=some z0
 |_,_=>True
def kF.isW:kF ->Bool
 | .write .. =>true
 |_=>false
def kF.ok(σi:AS)(av:List Nat):kF ->Prop
 | .write b z0 _=>b ∈ av /\ σi.box b=some z0
 |_=>True
def kF.rest(av:List Nat):kF ->List Nat
 | .write b _ _=>av.filter fun c=>decide (c ≠ b)
 |_=>av
theorem kF.pre_of{k:kF}(h:k.isW=false)(σ:AS):k.pre σ:=by cases k <;>first|trivial|cases h
theorem kF.ok_of{k:kF}(h:k.isW=false){σi:AS}{av:List Nat} :k.ok σi av:=by cases k <;>first|trivial|cases h
theorem kF.rest_of{k:kF}(h:k.isW=false){av:List Nat} :k.rest av=av:=by cases k <;>first|rfl|cases h
def jN(o:Oper):Bool:=match o.op with| .store .. =>true|_=>false
def rO(P:Program)(G:Nat ->AV)(o:Oper)(e:aM)(σ0:AS)(k:kF):Prop:=
 ∀ σ,σ0.le σ ->k.pre σ ->∀ Kc:AV ->AS ->Prop,(∀ r σ',k.out σ r σ' ->Kc r σ') ->eK P G o e σ Kc
theorem vC{P:Program}{σ0 σ:AS}(h:σ0.le σ){t:TypeId}{p r:AV}(k:hO P σ0 t p=some r):hO P σ t p=some r:=by
 unfold hO at k ⊢
 split at k
 ·cases k
 ·cases p <;>simp only at k ⊢ <;>first|exact k|skip
  split at k
  ·rename_i cs hb;rw[h.box _ _ hb];exact k
  ·cases k
theorem A2x{P:Program}{σ0 σ:AS}(h:σ0.le σ){s d:TypeId}{x r:AV}(k:dP P σ0 s d x=some r):dP P σ s d x=some r:=by
 unfold dP at k ⊢
 split at k
 ·exact k
 ·exact k
 ·rename_i b n q F0
  split at k
  ·rename_i hc
   rw[if_pos hc]
   cases hb:σ0.box b with
   |none=>rw[hb]at k;cases k
   |some cs=>rw[hb]at k;rw[h.box _ _ hb];exact k
  ·cases k
 ·exact k
theorem wC{P:Program}{G:Nat ->AV}{o:Oper}{e:aM}{σ0 σ:AS}{Kc:AV ->AS ->Prop}(h:hop P G o e σ0 σ Kc):
  ∃ k,rO P G o e σ0 k /\ k.isW=false /\ (dW o=false ->∃ v,k= .quiet v) /\ ∀ r σ',k.out σ r σ' ->Kc r σ':=by
 have q:∀ v,(∀ σ',σ0.le σ' ->∀ Kc:AV ->AS ->Prop,Kc v σ' ->eK P G o e σ' Kc) ->Kc v σ ->∃ k,rO P G o e σ0 k /\ k.isW=false /\ (dW o=false ->∃ v,k= .quiet v) /\ ∀ r σ',k.out σ r σ' ->Kc r σ':=
  fun v h1 h2=> ⟨.quiet v,fun σ' hl _ Kc hk=>h1 σ' hl Kc (hk _ _ ⟨rfl,rfl⟩),rfl,fun _=> ⟨v,rfl⟩,fun r σ' ⟨hr,hs⟩=>by subst hr hs;exact h2⟩
 unfold hop at h
 split at h
 ·rename_i t p x hop
  refine q .undef (fun σ' hl Kc hK=> ?_) h.2
  unfold eK;rw[hop]
  exact⟨σ',pD hl h.1,hK⟩
 ·exact h.elim
 ·exact h.elim
 ·exact h.elim
 ·exact h.elim
 ·exact h.elim
 ·exact h.elim
 ·rename_i c hop
  unfold qV at h
  split at h
  ·rename_i f hf
   split at h
   ·rename_i k caps hk
    obtain⟨v,h1,h2⟩:=h
    refine q v (fun σ' hl Kc hK=> ?_) h2
    unfold eK;rw[hop]
    simp only[tB,hf,hk]
    exact(h1 σ' hl).mono fun r s ⟨hr,hs⟩=>by subst hr hs;exact hK
   ·exact h.elim
  ·rename_i b hb
   split at h
   ·exact h.elim
   ·rename_i hne
    obtain⟨r,h1,h2⟩:=h
    refine q r (fun σ' hl Kc hK=> ?_) h2
    unfold eK;rw[hop]
    have hne2: ¬ b= .unsafeString:=fun e=>by subst e;simp[fS]at h1
    have hne3: ¬ b= .copy:=fun e=>by subst e;simp[fS]at h1
    simp only[tB,hb,if_neg hne,if_neg hne2,if_neg hne3]
    exact⟨r,h1,hK⟩
  ·exact h.elim
 ·rename_i E hop
  obtain⟨z,hz,h1⟩:=h
  refine⟨.alloc z,fun σ' hl _ Kc hk=> ?_,rfl,(fun hi=>by unfold dW at hi;rw[hop]at hi;cases hi),fun r σ' ⟨b,hb,hr,hs⟩=>by subst hr hs;exact h1 b hb⟩
  unfold eK;rw[hop]
  exact⟨z,hz, .inl fun b hb=>hk _ _ ⟨b,hb,rfl,rfl⟩⟩
 ·rename_i E x hop
  obtain⟨hx,h1⟩:=h
  refine⟨.alloc (flat (ev G e x)),fun σ' hl _ Kc hk=> ?_,rfl,(fun hi=>by unfold dW at hi;rw[hop]at hi;cases hi),fun r σ' ⟨b,hb,hr,hs⟩=>by subst hr hs;exact h1 b hb⟩
  unfold eK;rw[hop]
  exact⟨hx,fun b hb=>hk _ _ ⟨b,hb,rfl,rfl⟩⟩
 ·rename_i s d x hop
  obtain⟨r,h1,h2⟩:=h
  exact q r (fun σ' hl Kc hK=>by unfold eK;rw[hop];exact .inl ⟨r,A2x hl h1,hK⟩) h2
 ·rename_i t n ps hop
  obtain⟨r,h1,h2⟩:=h
  exact q r (fun σ' hl Kc hK=>by unfold eK;rw[hop];exact .inl ⟨r,h1,hK⟩) h2
 ·rename_i _ n1 n0 n5 n6 m1 m2 m3 n2 n3 n4 n7 n8
  unfold eK at h
  split at h
  case h_4 x hop=>exact absurd hop (n3 _)
  case h_5 x y hop=>exact absurd hop (n4 _ _)
  case h_9 x y z hop=>exact absurd hop (n1 _ _ _)
  case h_21 x hop=>exact absurd hop (n2 _)
  case h_1 x hop=>exact q _ (fun σ' hl Kc hK=>by unfold eK;rw[hop];exact hK) h
  case h_2 x hop=>exact q _ (fun σ' hl Kc hK=>by unfold eK;rw[hop];exact hK) h
  case h_3 c x y hop=>
   obtain⟨t,ht,h1⟩:=h
   exact q _ (fun σ' hl Kc hK=>by unfold eK;rw[hop];exact⟨t,ht,hK⟩) h1
  case h_8 t x hop=>
   obtain⟨r,h1,h2⟩:=h
   exact q r (fun σ' hl Kc hK=>by unfold eK;rw[hop];exact⟨r,vC hl h1,hK⟩) h2
  case h_10 x hop=>
   obtain⟨h1,h2⟩:=h
   exact q _ (fun σ' hl Kc hK=>by unfold eK;rw[hop];exact⟨h1,hK⟩) h2
  case h_14 fn first caps hop=>
   split at h
   ·rename_i f hf
    exact q _ (fun σ' hl Kc hK=>by unfold eK;rw[hop];simp only[hf];exact hK) h
   ·rename_i f x hf
    obtain⟨h1,b,j,h2,h3⟩:=h
    exact q _ (fun σ' hl Kc hK=>by unfold eK;rw[hop];simp only[hf];exact⟨h1,b,j,h2,hK⟩) h3
   ·exact h.elim
  case h_22 x y z hop=>exact absurd hop (n0 _ _ _)
  case h_13 s d x hop=>exact absurd hop (n7 _ _ _)
  case h_7 t n ps hop=>exact absurd hop (n8 _ _ _)
  case h_15 t x lo hi hop=>
   obtain⟨r,h1,h2⟩:=h
   exact q r (fun σ' hl Kc hK=>by unfold eK;rw[hop];exact⟨r,A0i hl h1,hK⟩) h2
  case h_23 x y hop=>exact absurd hop (n5 _ _)
  case h_24 x hop=>exact absurd hop (n6 _ _)
  case h_25 x y hop=>exact absurd hop (m1 _ _)
  case h_26 x y z u hop=>exact absurd hop (m2 _ _ _ _)
  case h_27 x y z u hop=>exact absurd hop (m3 _ _ _ _)
  case h_28=>exact h.elim
  all_goals
   (rename_i hop
    obtain⟨r,h1,h2⟩:=h
    exact q r (fun σ' hl Kc hK=>by unfold eK;rw[hop];exact⟨r,h1,hK⟩) h2)
def jM(P:Program)(G:Nat ->AV)(ops:List Oper)(σ0:AS)(L:aM ->AS ->Prop):List Oper ->aM ->AS ->Prop
 |[],e,σ=>L e σ
 | o::rest,e,σ=>∃ b,cE ops e o.guard=some b /\ (b=true ->hop P G o e σ0 σ fun r σ'=>jM P G ops σ0 L rest (e.upd o.dst r) σ') /\
   (b=false ->jM P G ops σ0 L rest (e.upd o.dst (.tup [])) σ)
def fL(P:Program)(G:Nat ->AV)(o:Oper)(e:aM)(σ0 σ:AS)(av:List Nat)(Kc:AV ->AS ->List Nat ->Prop):Prop:=
 match o.op with
 | .store t p x=> (∃ b off z0 z,ev G e p= .ptr b off /\ b ∈ av /\ σ.box b=some z0 /\ gQ P σ t (.ptr b off) (ev G e x)=some (σ.setBox b z) /\ Kc .undef (σ.setBox b z) (av.filter fun c=>decide (c ≠ b))) \/
   (qA P σ0 t (ev G e p) (ev G e x) /\ Kc .undef σ av)
 |_=>hop P G o e σ0 σ fun r σ'=>Kc r σ' av
def bT(P:Program)(G:Nat ->AV)(ops:List Oper)(σ0:AS)(L:aM ->AS ->Prop):List Oper ->aM ->AS ->List Nat ->Prop
 |[],e,σ,_=>L e σ
 | o::rest,e,σ,av=>∃ b,cE ops e o.guard=some b /\ (b=true ->fL P G o e σ0 σ av fun r σ' av'=>bT P G ops σ0 L rest (e.upd o.dst r) σ' av') /\
   (b=false ->bT P G ops σ0 L rest (e.upd o.dst (.tup [])) σ av)
section any
variable {P:Program} {G:Nat ->AV} {ops:Array Oper} {σ0 σi:AS} {md:Region.Mode}
def uV(P:Program)(G:Nat ->AV)(ops:Array Oper)(σ0:AS)(o:Oper)(e:aM)(k:kF):Prop:=
 (cE ops.toList e o.guard=some true /\ rO P G o e σ0 k /\ (jN o=false ->k.isW=false)) \/ (cE ops.toList e o.guard=some false /\ k= .quiet (.tup []))
def tOp(P:Program)(G:Nat ->AV)(ops:Array Oper)(σ0 σi:AS)(i:Nat)(K:aM ->AS ->List Nat ->Prop)(e:aM)(σ:AS)(av:List Nat):Prop:=
 ∃ o k,ops[i]? =some o /\ uV P G ops σ0 o e k /\ k.ok σi av /\ ∀ r σ',k.out σ r σ' ->K (e.upd o.dst r) σ' (k.rest av)
theorem B7s{e:aM}{d:Option Tmp}{r:AV}{x:Operand}(h:∀ t,d=some t ->x ≠ .tmp t):ev G (e.upd d r) x=ev G e x:=by
 cases x with
 |tmp t=>exact aM.upd_other fun y hy hyt=>h y hy (by rw[hyt])
 |_=>rfl
theorem aM.upd_comm{e:aM}{x y:Option Tmp}(v u:AV)(h:∀ d,x=some d ->y ≠ some d):(e.upd x v).upd y u=(e.upd y u).upd x v:=by
 cases x with
 |none=>rfl
 | some d=>
  cases y with
  |none=>rfl
  | some c=>
   have hne:d ≠ c:=fun he=>h d rfl (by rw[he])
   funext j
   show(if j=c then u else if j=d then v else e j)=(if j=d then v else if j=c then u else e j)
   by_cases h1:j=c
   ·rw[if_pos h1,if_neg (by rw[h1];exact Ne.symm hne),if_pos h1]
   ·rw[if_neg h1,if_neg h1]
theorem        iN {o : Oper} {e e' :  aM} {σ : AS} {K : AV -> AS ->Prop}(h:∀ x,x ∈ o.op.operands ->ev G e x=ev G e' x)(hh:eK P G o e σ K):eK P G o e' σ K:=by
 have pr:∀ ps:List (Nat × Operand),(∀ x,x ∈ ps.map (·.2) ->ev G e x=ev G e' x) ->iJ G e ps=iJ G e' ps:=fun ps hp=>
  List.map_congr_left fun p hm=>by rw[hp p.2 (List.mem_map.2 ⟨p,hm,rfl⟩)]
 unfold eK at hh ⊢
 generalize o.op=op at h hh ⊢
 cases op <;>simp only[Op.operands]at h <;>first|exact hh.elim|skip
 case build t ps=>simp only at hh ⊢;rw[<- pr ps.toList fun x hx=>h x (by simpa using hx)];exact hh
 case buildSlice t n ps=>simp only at hh ⊢;rw[<- pr ps.toList fun x hx=>h x (by simpa using hx)];exact hh
 case move x=>simp only at hh ⊢;rw[<- h x (by simp)];exact hh
 case assign x=>simp only at hh ⊢;rw[<- h x (by simp)];exact hh
 case pick c x y=>simp only at hh ⊢;rw[<- h c (by simp),<- h x (by simp),<- h y (by simp)];exact hh
 case alloc E=>exact hh
 case box E x=>simp only at hh ⊢;rw[<- h x (by simp)];exact hh
 case load t x=>simp only at hh ⊢;rw[<- h x (by simp)];exact hh
 case store t p x=>simp only at hh ⊢;rw[<- h p (by simp),<- h x (by simp)];exact hh
 case nilCheck x=>simp only at hh ⊢;rw[<- h x (by simp)];exact hh
 case range t x=>simp only at hh ⊢;rw[<- h x (by simp)];exact hh
 case makeMap t r=>exact hh
 case lookup t x k ok=>simp only at hh ⊢;rw[<- h x (by simp),<- h k (by simp)];exact hh
 case mapUpdate t m k x=>simp only at hh ⊢;rw[<- h m (by simp),<- h k (by simp),<- h x (by simp)];exact hh
 case next x s=>
  cases s with
  |false=>exact hh.elim
  |true=>simp only at hh ⊢;rw[<- h x (by simp)];exact hh
 case binOp op t x y yt=>simp only at hh ⊢;rw[<- h x (by simp),<- h y (by simp)];exact hh
 case unOp op t x=>simp only at hh ⊢;rw[<- h x (by simp)];exact hh
 case convert s d x=>simp only at hh ⊢;rw[<- h x (by simp)];exact hh
 case fieldAddr t x i=>simp only at hh ⊢;rw[<- h x (by simp)];exact hh
 case field t x i=>simp only at hh ⊢;rw[<- h x (by simp)];exact hh
 case indexAddr t x y=>simp only at hh ⊢;rw[<- h x (by simp),<- h y (by simp)];exact hh
 case index t x y=>simp only at hh ⊢;rw[<- h x (by simp),<- h y (by simp)];exact hh
 case extract x i=>simp only at hh ⊢;rw[<- h x (by simp)];exact hh
 case makeSlice t x y=>simp only at hh ⊢;rw[<- h x (by simp),<- h y (by simp)];exact hh
 case makeFunc fn first caps=>
  have e1:caps.toList.map (ev G e)=caps.toList.map (ev G e'):=List.map_congr_left fun x hx=>h x (by simp at hx ⊢;exact .inr hx)
  simp only[<- e1]at hh ⊢
  split at hh
  ·exact hh
  ·rename_i f x hfirst
   obtain⟨h1,b,o,h2,h3⟩:=hh
   exact⟨h1,b,o,by rw[<- h x (by
    have:x ∈ first.toList:=by rw[hfirst];simp
    simp at this ⊢;exact .inl this)];exact h2,h3⟩
  ·exact hh.elim
 case slice t x lo hi mx=>
  cases mx with
  |some m=>exact hh.elim
  | none=>
   have hx:=h x (by simp)
   have hlo:lo.map (ev G e)=lo.map (ev G e'):=by cases lo with|none=>rfl|some l=>simp only[Option.map_some];rw[h l (by simp)]
   have hhi:hi.map (ev G e)=hi.map (ev G e'):=by cases hi with|none=>rfl|some l=>simp only[Option.map_some];rw[h l (by simp)]
   simp only[<- hx,<- hlo,<- hhi]
   exact hh
 case call c =>
  obtain⟨callee,args,ts⟩:=c
  simp only[Call.operands]at h
  have e1:args.toList.map (ev G e)=args.toList.map (ev G e'):=List.map_congr_left fun x hx=>h x (by simp at hx ⊢;exact .inr hx)
  cases callee with
  | value f=>
   have hf:=h f (by simp)
   simp only[tB]at hh ⊢
   rw[<- hf,<- e1]
   exact hh
  | builtin b =>
   simp only[tB]at hh ⊢
   split at hh
   ·rename_i hb
    rw[if_pos hb]
    split at hh
    ·rename_i s x t tx hargs hts
     rw [<- h s (by have : s ∈ args.toList := by rw [hargs]; simp
                    simp at this ⊢; exact this), <- h x (by have:x ∈ args.toList:=by rw[hargs];simp
                                                            simp at this ⊢;exact this)]
     exact hh
    ·exact hh.elim
   ·rename_i hb
    rw[if_neg hb,<- e1]
    split at hh
    ·rename_i hb2
     rw[if_pos hb2]
     split at hh
     ·rename_i s x t tx hargs hts
      rw [<- h s (by have : s ∈ args.toList := by rw [hargs]; simp
                     simp at this ⊢; exact this), <- h x (by have:x ∈ args.toList:=by rw[hargs];simp
                                                             simp at this ⊢;exact this)]
      exact hh
     ·exact hh.elim
    ·rename_i hb2
     rw[if_neg hb2]
     split at hh
     ·rename_i hb3
      rw[if_pos hb3]
      split at hh
      ·rename_i s x t tx hargs hts
       rw [<- h s (by have : s ∈ args.toList := by rw [hargs]; simp
                      simp at this ⊢; exact this), <- h x (by have:x ∈ args.toList:=by rw[hargs];simp
                                                              simp at this ⊢;exact this)]
       exact hh
      ·exact hh.elim
     ·rename_i hb3
      rw[if_neg hb3]
      exact hh
  |invoke r m=>exact hh.elim
theorem rO.put{o:Oper}{e:aM}{k:kF}{d:Option Tmp}{r:AV}(h:∀ t,d=some t ->t ∉ o.looksAt ops):rO P G o (e.upd d r) σ0 k ↔ rO P G o e σ0 k:=by
 have key:∀ x,x ∈ o.op.operands ->ev G (e.upd d r) x=ev G e x:=fun x hx=>B7s fun t ht hxt=>h t ht (by
  subst hxt
  exact List.mem_append_left _ (List.mem_filterMap.2 ⟨.tmp t,by simpa using hx,rfl⟩))
 exact⟨fun hd σ hl hp Kc hk=>iN key (hd σ hl hp Kc hk),fun hd σ hl hp Kc hk=>iN (fun x hx=> (key x hx).symm) (hd σ hl hp Kc hk)⟩
theorem A3n{o:Oper}{e:aM}{d:Option Tmp}{r:AV}(h:∀ t,d=some t ->t ∉ o.looksAt ops):cE ops.toList (e.upd d r) o.guard=cE ops.toList e o.guard:=by
 unfold cE
 cases hg:o.guard with
 |none=>rfl
 | some gw=>
  obtain⟨j,want⟩:=gw
  simp only
  cases ht:(ops.toList[j]?).bind (·.dst)with
  |none=>rfl
  | some t=>
   have:e.upd d r t=e t:=aM.upd_other fun x hx hxt=>h x hx (by
    subst hxt
    unfold Oper.looksAt
    refine List.mem_append_right _ ?_
    rw[hg]
    have ht':(ops[j]?).bind (·.dst)=some x:=by simpa using ht
    simp[ht'])
   simp only[this]
theorem uV.put{o:Oper}{e:aM}{k:kF}{d:Option Tmp}{r:AV}(h:∀ t,d=some t ->t ∉ o.looksAt ops):uV P G ops σ0 o (e.upd d r) k ↔ uV P G ops σ0 o e k:=by
 unfold uV
 rw[A3n h,rO.put h]
def jL(P:Program)(G:Nat ->AV)(md:Region.Mode)(ops:Array Oper)(σ0 σi:AS)(L:Array Bool ->aM ->AS ->Prop):Nat ->Array Bool ->aM ->AS ->List Nat ->Prop
 |0,listed,e,σ,_=>L listed e σ
 |f+1,listed,e,σ,av=>Region.ready md ops listed ≠ [] /\ ∀ i ∈ Region.ready md ops listed,tOp P G ops σ0 σi i (jL P G md ops σ0 σi L f (listed.setIfInBounds i true)) e σ av
def uQ(σ0 σi σ:AS)(av:List Nat):Prop:=∀ c,c ∈ av ->σ.box c=σi.box c /\ (σi.box c).isSome=true /\ σ0.box c=none
theorem uQ.fresh_ne{σ:AS}{av:List Nat}(h:uQ σ0 σi σ av){b c:Nat}(hb:b ∈ av)(hc:σ.fresh c):c ≠ b:=fun e=>by
 subst e
 obtain⟨h1,h2,_⟩:=h c hb
 rw[<- h1,hc.1]at h2;cases h2
theorem uQ.out{k:kF}{σ σ':AS}{r:AV}{av:List Nat}(h:uQ σ0 σi σ av)(hk:k.out σ r σ'):uQ σ0 σi σ' (k.rest av):=by
 cases k with
 |quiet v=>obtain⟨_,rfl⟩:=hk;exact h
 | alloc z=>
  obtain⟨b,hb,_,rfl⟩:=hk
  intro c hc
  obtain⟨h1,h2,h3⟩:=h c hc
  refine⟨?_,h2,h3⟩
  have:=h.fresh_ne hc hb
  simp only[AS.setBox,if_neg (Ne.symm this)];exact h1
 | write b z0 z=>
  obtain⟨_,rfl⟩:=hk
  intro c hc
  simp only[kF.rest,List.mem_filter,decide_eq_true_eq]at hc
  obtain⟨h1,h2,h3⟩:=h c hc.1
  exact⟨by simp only[AS.setBox,if_neg hc.2];exact h1,h2,h3⟩
theorem xP {n i:Nat} {oi:Oper} {v:AV} {L:Array Bool ->aM ->AS ->Prop} (hi:ops[i]? =some oi)
  (hdone:∀ listed e s,L listed e s ->∀ j ∈ Region.ready md ops listed,n <=j)
  (htw:∀ listed,HeadInv md ops n listed ->listed.getD i true=false ->∀ t,n <=t ->t ∉ Region.ready md ops listed) (hin:i < n):
  ∀ (f:Nat) (listed:Array Bool) (e:aM) (σ:AS) (av:List Nat),HeadInv md ops n listed ->
   (∀ j oj,ops[j]? =some oj ->j ≠ i ->listed.getD j true=false -> (∀ e ∈ oj.after,Region.binds md e=true ->e.on ≠ i) ->oi.apart ops oj=true) ->
   i ∈ Region.ready md ops listed ->uV P G ops σ0 oi e (.quiet v) ->
   jL P G md ops σ0 σi L f (listed.setIfInBounds i true) (e.upd oi.dst v) σ av ->jL P G md ops σ0 σi L (f+1) listed e σ av:=by
 intro f
 induction f with
 | zero=>
  intro listed e σ av inv _ hr hy H
  have hun:=(mem_ready.1 hr).1
  refine⟨fun h=> (by rw[h]at hr;cases hr),fun j hj=> ?_⟩
  by_cases hji:j=i
  ·subst hji;exact⟨oi,_,hi,hy,trivial,fun r s ⟨h1,h2⟩=>by subst h1 h2;exact H⟩
  ·have h1:=hdone _ _ _ H j (ready_mono hj hji)
   exact absurd hj (htw listed inv hun j h1)
 | succ f ih=>
  intro listed e σ av inv hfree hr hy H
  have hun:=(mem_ready.1 hr).1
  refine⟨fun h=> (by rw[h]at hr;cases hr),fun j hj=> ?_⟩
  have hjn:j < n:=by
   rcases Nat.lt_or_ge j n with h|h
   ·exact h
   ·exact absurd hj (htw listed inv hun j h)
  by_cases hji:j=i
  ·subst hji;exact⟨oi,_,hi,hy,trivial,fun r s ⟨h1,h2⟩=>by subst h1 h2;exact H⟩
  ·obtain⟨oj,kj,hoj,hyj,hokj,hnext⟩:=H.2 j (ready_mono hj hji)
   obtain⟨hjun,oj',hoj',hall⟩:=mem_ready.1 hj
   have:oj'=oj:=Option.some.inj (hoj'.symm.trans hoj)
   subst this
   have hnot:∀ e ∈ oj'.after,Region.binds md e=true ->e.on ≠ i:=fun e he hb heq=>by
    have h1:=hall e he hb
    rw[heq,getD_both hun]at h1
    cases h1
   have hap:=hfree j oj' hoj hji hjun hnot
   obtain⟨a1,a2,a3⟩:=Oper.apart_spec hap
   have hfree':∀ k ok,ops[k]? =some ok ->k ≠ i -> (listed.setIfInBounds j true).getD k true=false ->
     (∀ e ∈ ok.after,Region.binds md e=true ->e.on ≠ i) ->oi.apart ops ok=true:=fun k ok hk hki hun hno=>by
    refine hfree k ok hk hki ?_ hno
    by_cases hjk:j=k
    ·subst hjk;exact hjun
    ·rw[getD_set_ne true hjk]at hun;exact hun
   refine⟨oj',kj,hoj,(uV.put a1).1 hyj,hokj,fun r s hrs=> ?_⟩
   refine ih (listed.setIfInBounds j true) _ _ _ (inv.set hj hjn) hfree' (ready_mono hr (Ne.symm hji)) ((uV.put a3).2 hy) ?_
   rw[Array.setIfInBounds_comm _ _ hji,<- aM.upd_comm v r a2]
   exact hnext r s hrs
theorem kF.out_le{k:kF}{σ σ':AS}{r:AV}{av:List Nat}(h:σ0.le σ)(hav:uQ σ0 σi σ av)(hok:k.ok σi av)(hk:k.out σ r σ'):σ0.le σ':=by
 cases k with
 |write b z0 z=>rw[hk.2];exact h.setBox (hav b hok.1).2.2 z
 |quiet v=>rw[hk.2];exact h
 |alloc z=>obtain⟨b,hb,_,rfl⟩:=hk;exact h.setBox (h.fresh hb).1 z
def Inf(σ:AS):Prop:=∃ n,∀ b,n <=b ->σ.fresh b
theorem Inf.setBox{σ:AS}(h:Inf σ)(b:Nat)(cs:List AV):Inf (σ.setBox b cs):=by
 obtain⟨n,hn⟩:=h
 refine⟨max n (b+1),fun c hc=> ?_⟩
 have h1:=hn c (by omega)
 have hne:c ≠ b:=by omega
 exact⟨by simp only[AS.setBox,if_neg hne];exact h1.1,h1.2.1,h1.2.2⟩
theorem Inf.out{σ σ':AS}{k:kF}{r:AV}(h:Inf σ)(ho:k.out σ r σ'):Inf σ':=by
 cases k with
 |quiet v=>obtain⟨_,rfl⟩:=ho;exact h
 |alloc z=>obtain⟨b,_,_,rfl⟩:=ho;exact h.setBox b z
 |write b z0 z=>obtain⟨_,rfl⟩:=ho;exact h.setBox b z
theorem mJ{σ:AS}{b c:Nat}{cs:List AV} :(σ.setBox c cs).fresh b ↔ σ.fresh b /\ b ≠ c:=by
 unfold AS.fresh AS.setBox
 simp only
 by_cases h:b=c
 ·simp[h]
 ·simp[h]
theorem AS.setBox_comm{σ:AS}{b c:Nat}(h:b ≠ c)(xs ys:List AV):(σ.setBox b xs).setBox c ys=(σ.setBox c ys).setBox b xs:=by
 unfold AS.setBox
 congr 1
 funext i
 show(if i=c then some ys else if i=b then some xs else σ.box i)=(if i=b then some xs else if i=c then some ys else σ.box i)
 by_cases h1:i=c
 ·rw[if_pos h1,if_neg (by rw[h1];exact Ne.symm h),if_pos h1]
 ·rw[if_neg h1,if_neg h1]
theorem zD{σ:AS}{k:kF}{b:Nat}{z:List AV}{x:rQ × Nat}{r:AV}(hb:σ.fresh b): ¬ k.out σ r ((σ.setBox b z).setTy b x):=by
 intro h
 have hty:((σ.setBox b z).setTy b x).ty b=some x:=by simp[AS.setTy]
 cases k with
 | quiet v=>
  obtain⟨_,h2⟩:=h
  rw[h2,hb.2.2]at hty
  cases hty
 | alloc z'=>
  obtain⟨c,_,_,h2⟩:=h
  rw[h2]at hty
  have:(σ.setBox c z').ty b=σ.ty b:=rfl
  rw[this,hb.2.2]at hty
  cases hty
 | write c z0 z'=>
  obtain⟨_,h2⟩:=h
  rw[h2]at hty
  have:(σ.setBox c z').ty b=σ.ty b:=rfl
  rw[this,hb.2.2]at hty
  cases hty
theorem A6z{o:Oper}{e:aM}{k:kF}(ha:dW o=true)(hw:k.isW=false)(hd:rO P G o e σ0 k):∃ z,rO P G o e σ0 (.alloc z) /\ ∀ σ r σ',σ0.le σ -> (kF.alloc z).out σ r σ' ->k.out σ r σ':=by
 unfold dW at ha
 split at ha
 ·rename_i E hop
  have h0:=hd σ0 (AS.le.refl σ0) (k.pre_of hw _) (fun r s=>True) (fun _ _ _=>trivial)
  unfold eK at h0
  rw[hop]at h0
  obtain⟨z,hz,_⟩:=h0
  refine⟨z,fun σ hl _ Kc hk=> ?_,fun σ r σ' hl ⟨b,hb,hr,hs⟩=> ?_⟩
  ·unfold eK;rw[hop]
   exact⟨z,hz, .inl fun b hb=>hk _ _ ⟨b,hb,rfl,rfl⟩⟩
  ·have h1:=hd σ hl (k.pre_of hw _) (fun r s=>k.out σ r s) (fun r s h=>h)
   unfold eK at h1
   rw[hop]at h1
   obtain⟨z',hz',h2⟩:=h1
   rw[hz]at hz'
   obtain rfl:=Option.some.inj hz'
   subst hr hs
   rcases h2 with h2|h2
   ·exact h2 b hb
   ·exact absurd (h2 b hb) (zD hb)
 ·rename_i E x hop
  have h0:=hd σ0 (AS.le.refl σ0) (k.pre_of hw _) (fun r s=>True) (fun _ _ _=>trivial)
  unfold eK at h0
  rw[hop]at h0
  refine⟨flat (ev G e x),fun σ hl _ Kc hk=> ?_,fun σ r σ' hl ⟨b,hb,hr,hs⟩=> ?_⟩
  ·unfold eK;rw[hop]
   exact⟨h0.1,fun b hb=>hk _ _ ⟨b,hb,rfl,rfl⟩⟩
  ·have h1:=hd σ hl (k.pre_of hw _) (fun r s=>k.out σ r s) (fun r s h=>h)
   unfold eK at h1
   rw[hop]at h1
   subst hr hs
   exact h1.2 b hb
 ·cases ha
theorem rS{o:Oper}{e:aM}{k:kF}(ha:dW o=true)(hg:o.guard=none)(hd:uV P G ops σ0 o e k):∃ z,uV P G ops σ0 o e (.alloc z) /\ ∀ σ r σ',σ0.le σ -> (kF.alloc z).out σ r σ' ->k.out σ r σ':=by
 have hns:jN o=false:=by
  unfold dW at ha
  unfold jN
  split at ha <;>simp_all
 rcases hd with⟨h1,h2,h5⟩|⟨h1,_⟩
 ·obtain⟨z,h3,h4⟩:=A6z ha (h5 hns) h2
  exact⟨z, .inl ⟨h1,h3,fun _=>rfl⟩,h4⟩
 ·rw[hg]at h1;cases h1
theorem qB{σ:AS}{b:Nat}{xs ys:List AV}(h:σ.setBox b xs=σ.setBox b ys):xs=ys:=by
 have h1:(σ.setBox b xs).box b=(σ.setBox b ys).box b:=by rw[h]
 simpa [AS.setBox] using h1
theorem A7a{o:Oper}{e:aM}{b:Nat}{z1 z2:List AV}(hb:σ0.fresh b)(ha:dW o=true)(h1:rO P G o e σ0 (.alloc z1))(h2:rO P G o e σ0 (.alloc z2)):z1=z2:=by
 have key:∀ z,rO P G o e σ0 (.alloc z) ->∀ z',(∀ Kc:AV ->AS ->Prop,eK P G o e σ0 Kc ->∀ b,σ0.fresh b ->Kc (.ptr b 0) (σ0.setBox b z')) ->z=z':=by
  intro z hd z' hz'
  have h3:=hz' _ (hd σ0 (AS.le.refl σ0) trivial (fun r s=> (kF.alloc z).out σ0 r s) (fun r s h=>h)) b hb
  obtain⟨c,_,h4,h5⟩:=h3
  have:b=c:=by injection h4
  subst this
  exact(qB h5).symm
 unfold dW at ha
 split at ha
 ·rename_i E hop
  have h0:=h1 σ0 (AS.le.refl σ0) trivial (fun r s=>True) (fun _ _ _=>trivial)
  unfold eK at h0
  rw[hop]at h0
  obtain⟨z,hz,_⟩:=h0
  have hk:∀ Kc:AV ->AS ->Prop,eK P G o e σ0 Kc -> (∀ b,σ0.fresh b ->Kc (.ptr b 0) (σ0.setBox b z)) \/ (∀ b,σ0.fresh b ->Kc (.ptr b 0) ((σ0.setBox b z).setTy b (E,z.length))):=fun Kc hh=>by
   unfold eK at hh;rw[hop]at hh
   obtain⟨z',hz',h6⟩:=hh
   rw[hz]at hz'
   obtain rfl:=Option.some.inj hz'
   exact h6
  have hk2:∀ z',rO P G o e σ0 (.alloc z') ->z'=z:=fun z' hd=>by
   rcases hk _ (hd σ0 (AS.le.refl σ0) trivial (fun r s=> (kF.alloc z').out σ0 r s) (fun r s h=>h))with h6|h6
   ·obtain⟨c,_,h4,h5⟩:=h6 b hb
    have:b=c:=by injection h4
    subst this
    exact(qB h5).symm
   ·exact absurd (h6 b hb) (zD (k:= .alloc z') hb)
  rw[hk2 z1 h1,hk2 z2 h2]
 ·rename_i E x hop
  have hk:∀ Kc:AV ->AS ->Prop,eK P G o e σ0 Kc ->∀ b,σ0.fresh b ->Kc (.ptr b 0) (σ0.setBox b (flat (ev G e x))):=fun Kc hh b hb=>by
   unfold eK at hh;rw[hop]at hh
   exact hh.2 b hb
  rw[key z1 h1 _ hk,key z2 h2 _ hk]
 ·cases ha
theorem xQ {n i:Nat} {oi:Oper} {b:Nat} {z0 z:List AV} {L:Array Bool ->aM ->AS ->Prop} (hi:ops[i]? =some oi)
  (hdone:∀ listed e s,L listed e s ->∀ j ∈ Region.ready md ops listed,n <=j)
  (htw:∀ listed,HeadInv md ops n listed ->listed.getD i true=false ->∀ t,n <=t ->t ∉ Region.ready md ops listed) (hin:i < n) (hz0:σi.box b=some z0):
  ∀ (f:Nat) (listed:Array Bool) (e:aM) (σ:AS) (av:List Nat),HeadInv md ops n listed ->uQ σ0 σi σ av ->b ∈ av ->
   (∀ j oj,ops[j]? =some oj ->j ≠ i ->listed.getD j true=false -> (∀ e ∈ oj.after,Region.binds md e=true ->e.on ≠ i) ->oi.apart ops oj=true) ->
   i ∈ Region.ready md ops listed ->uV P G ops σ0 oi e (.write b z0 z) ->
   jL P G md ops σ0 σi L f (listed.setIfInBounds i true) (e.upd oi.dst .undef) (σ.setBox b z) (av.filter fun c=>decide (c ≠ b)) ->jL P G md ops σ0 σi L (f+1) listed e σ av:=by
 intro f
 induction f with
 | zero=>
  intro listed e σ av inv hav hb _ hr hy H
  have hun:=(mem_ready.1 hr).1
  refine⟨fun h=> (by rw[h]at hr;cases hr),fun j hj=> ?_⟩
  by_cases hji:j=i
  ·subst hji;exact⟨oi,_,hi,hy,⟨hb,hz0⟩,fun r s ⟨h1,h2⟩=>by subst h1 h2;exact H⟩
  ·have h1:=hdone _ _ _ H j (ready_mono hj hji)
   exact absurd hj (htw listed inv hun j h1)
 | succ f ih=>
  intro listed e σ av inv hav hb hfree hr hy H
  have hun:=(mem_ready.1 hr).1
  refine⟨fun h=> (by rw[h]at hr;cases hr),fun j hj=> ?_⟩
  have hjn:j < n:=by
   rcases Nat.lt_or_ge j n with h|h
   ·exact h
   ·exact absurd hj (htw listed inv hun j h)
  by_cases hji:j=i
  ·subst hji;exact⟨oi,_,hi,hy,⟨hb,hz0⟩,fun r s ⟨h1,h2⟩=>by subst h1 h2;exact H⟩
  ·obtain⟨oj,kj,hoj,hyj,hokj,hnext⟩:=H.2 j (ready_mono hj hji)
   obtain⟨hjun,oj',hoj',hall⟩:=mem_ready.1 hj
   have:oj'=oj:=Option.some.inj (hoj'.symm.trans hoj)
   subst this
   have hnot:∀ e ∈ oj'.after,Region.binds md e=true ->e.on ≠ i:=fun e he hb heq=>by
    have h1:=hall e he hb
    rw[heq,getD_both hun]at h1
    cases h1
   have hap:=hfree j oj' hoj hji hjun hnot
   obtain⟨a1,a2,a3⟩:=Oper.apart_spec hap
   have hfree':∀ k ok,ops[k]? =some ok ->k ≠ i -> (listed.setIfInBounds j true).getD k true=false ->
     (∀ e ∈ ok.after,Region.binds md e=true ->e.on ≠ i) ->oi.apart ops ok=true:=fun k ok hk hki hun hno=>by
    refine hfree k ok hk hki ?_ hno
    by_cases hjk:j=k
    ·subst hjk;exact hjun
    ·rw[getD_set_ne true hjk]at hun;exact hun
   have hokj':kj.ok σi av:=by
    cases kj with
    |write b' y0 y=>exact⟨(List.mem_filter.1 hokj.1).1,hokj.2⟩
    |_=>trivial
   have hbr:b ∈ kj.rest av:=by
    cases kj with
    | write b' y0 y=>
     have:=(List.mem_filter.1 hokj.1).2
     simp only[decide_eq_true_eq]at this
     simp only[kF.rest,List.mem_filter,decide_eq_true_eq]
     exact⟨hb,Ne.symm this⟩
    |_=>exact hb
   refine⟨oj',kj,hoj,(uV.put a1).1 hyj,hokj',fun r s hrs=> ?_⟩
   refine ih (listed.setIfInBounds j true) _ _ _ (inv.set hj hjn) (hav.out hrs) hbr hfree' (ready_mono hr (Ne.symm hji)) ((uV.put a3).2 hy) ?_
   have hcomm:kj.rest (av.filter fun c=>decide (c ≠ b))=(kj.rest av).filter fun c=>decide (c ≠ b):=by
    cases kj with
    |write b' y0 y=>simp only[kF.rest,List.filter_filter,Bool.and_comm]
    |_=>rfl
   have hout:kj.out (σ.setBox b z) r (s.setBox b z):=by
    cases kj with
    |quiet v=>exact⟨hrs.1,by rw[hrs.2]⟩
    | alloc y=>
     obtain⟨c,hc,h1,h2⟩:=hrs
     have hcb:=hav.fresh_ne hb hc
     exact⟨c,mJ.2 ⟨hc,hcb⟩,h1,by rw[h2,AS.setBox_comm hcb]⟩
    | write b' y0 y=>
     have:=(List.mem_filter.1 hokj.1).2
     simp only[decide_eq_true_eq]at this
     exact⟨hrs.1,by rw[hrs.2,AS.setBox_comm this]⟩
   rw[Array.setIfInBounds_comm _ _ hji,<- aM.upd_comm .undef r a2,<- hcomm]
   exact hnext r _ hout
theorem A0n {n i:Nat} {oi:Oper} {z:List AV} {L:Array Bool ->aM ->AS ->Prop} (hi:ops[i]? =some oi)
  (hdone:∀ listed e s,L listed e s ->∀ j ∈ Region.ready md ops listed,n <=j)
  (htw:∀ listed,HeadInv md ops n listed ->listed.getD i true=false ->∀ t,n <=t ->t ∉ Region.ready md ops listed) (hin:i < n):
  ∀ (f:Nat) (listed:Array Bool) (e:aM) (σ:AS) (av:List Nat),HeadInv md ops n listed ->Inf σ ->σ0.le σ ->
   (∀ j oj,ops[j]? =some oj ->j < n ->listed.getD j true=false ->dW oj=true /\ oj.guard=none) ->
   (∀ j oj,ops[j]? =some oj ->j ≠ i ->listed.getD j true=false -> (∀ e ∈ oj.after,Region.binds md e=true ->e.on ≠ i) ->oi.apart ops oj=true) ->
   i ∈ Region.ready md ops listed ->uV P G ops σ0 oi e (.alloc z) ->
   (∀ r σ',(kF.alloc z).out σ r σ' ->jL P G md ops σ0 σi L f (listed.setIfInBounds i true) (e.upd oi.dst r) σ' av) ->jL P G md ops σ0 σi L (f+1) listed e σ av:=by
 intro f
 induction f with
 | zero=>
  intro listed e σ av inv hinf hle hall hfree hr hy H
  have hun:=(mem_ready.1 hr).1
  obtain⟨m,hm⟩:=hinf
  have H0:=H _ _ ⟨m,hm m (Nat.le_refl m),rfl,rfl⟩
  refine⟨fun h=> (by rw[h]at hr;cases hr),fun j hj=> ?_⟩
  by_cases hji:j=i
  ·subst hji;exact⟨oi,_,hi,hy,trivial,fun r s hrs=>H r s hrs⟩
  ·have h1:=hdone _ _ _ H0 j (ready_mono hj hji)
   exact absurd hj (htw listed inv hun j h1)
 | succ f ih=>
  intro listed e σ av inv hinf hle hall hfree hr hy H
  have hun:=(mem_ready.1 hr).1
  obtain⟨m,hm⟩:=id hinf
  refine⟨fun h=> (by rw[h]at hr;cases hr),fun j hj=> ?_⟩
  have hjn:j < n:=by
   rcases Nat.lt_or_ge j n with h|h
   ·exact h
   ·exact absurd hj (htw listed inv hun j h)
  by_cases hji:j=i
  ·subst hji;exact⟨oi,_,hi,hy,trivial,fun r s hrs=>H r s hrs⟩
  ·obtain⟨oj,kj,hoj,hyj,_⟩:=(H _ _ ⟨m,hm m (Nat.le_refl m),rfl,rfl⟩).2 j (ready_mono hj hji)
   obtain⟨hjun,oj',hoj',hafter⟩:=mem_ready.1 hj
   have:oj'=oj:=Option.some.inj (hoj'.symm.trans hoj)
   subst this
   have hnot:∀ e ∈ oj'.after,Region.binds md e=true ->e.on ≠ i:=fun e he hb heq=>by
    have h1:=hafter e he hb
    rw[heq,getD_both hun]at h1
    cases h1
   have hap:=hfree j oj' hoj hji hjun hnot
   obtain⟨a1,a2,a3⟩:=Oper.apart_spec hap
   obtain⟨haj,hgj⟩:=hall j oj' hoj hjn hjun
   obtain⟨zj,hyz,_⟩:=rS haj hgj ((uV.put a1).1 hyj)
   have hfree':∀ k ok,ops[k]? =some ok ->k ≠ i -> (listed.setIfInBounds j true).getD k true=false ->
     (∀ e ∈ ok.after,Region.binds md e=true ->e.on ≠ i) ->oi.apart ops ok=true:=fun k ok hk hki hun hno=>by
    refine hfree k ok hk hki ?_ hno
    by_cases hjk:j=k
    ·subst hjk;exact hjun
    ·rw[getD_set_ne true hjk]at hun;exact hun
   have hall':∀ k ok,ops[k]? =some ok ->k < n -> (listed.setIfInBounds j true).getD k true=false ->dW ok=true /\ ok.guard=none:=fun k ok hk hkn hun=>by
    refine hall k ok hk hkn ?_
    by_cases hjk:j=k
    ·subst hjk;exact hjun
    ·rw[getD_set_ne true hjk]at hun;exact hun
   refine⟨oj', .alloc zj,hoj,hyz,trivial,fun r s hrs=> ?_⟩
   obtain⟨c,hc,rfl,rfl⟩:=hrs
   refine ih (listed.setIfInBounds j true) _ _ _ (inv.set hj hjn) (hinf.setBox c zj) (hle.setBox (hle.fresh hc).1 zj) hall' hfree' (ready_mono hr (Ne.symm hji)) ((uV.put a3).2 hy) fun r s hrs=> ?_
   obtain⟨b,hb,rfl,rfl⟩:=hrs
   obtain⟨hb1,hbc⟩:=mJ.1 hb
   obtain⟨oj2,kj2,hoj2,hyj2,hokj2,hnext2⟩:=(H _ _ ⟨b,hb1,rfl,rfl⟩).2 j (ready_mono hj hji)
   have:oj2=oj':=Option.some.inj (hoj2.symm.trans hoj)
   subst this
   obtain⟨zj2,hyz2,hout2⟩:=rS haj hgj ((uV.put a1).1 hyj2)
   have hzz:zj2=zj:=by
    rcases hyz with⟨g1,g2,_⟩|⟨_,g2⟩
    ·rcases hyz2 with⟨_,g3,_⟩|⟨_,g3⟩
     ·exact A7a (hle.fresh hb1) haj g3 g2
     ·cases g3
    ·cases g2
   subst hzz
   have hlb:σ0.le (σ.setBox b z):=hle.setBox (hle.fresh hb1).1 z
   have hrest:kj2.rest av=av:=by
    have hns:jN oj2=false:=by
     have:=haj
     unfold dW at this
     unfold jN
     split at this <;>simp_all
    rcases hyj2 with⟨_,_,g⟩|⟨_,g⟩
    ·exact kF.rest_of (g hns)
    ·subst g;rfl
   rw[hrest]at hnext2
   have:=hnext2 _ _ (hout2 _ _ _ hlb ⟨c,mJ.2 ⟨hc,Ne.symm hbc⟩,rfl,rfl⟩)
   rw[Array.setIfInBounds_comm _ _ hji,aM.upd_comm _ _ (fun d hd he=>a2 d he hd),AS.setBox_comm (Ne.symm hbc)]
   exact this
def mP(ops:Array Oper):Nat ->Nat ->Bool
 |0,_=>true
 |f+1,k=> (match ops[k]? with|some o=>dW o && o.guard.isNone|none=>false) && mP ops f (k+1)
def uW(md:Region.Mode)(ops:Array Oper)(T:Array Bool ->Bool):Nat ->Nat ->Array Bool ->Bool
 |0,k,listed=>T listed
 | f+1,k,listed=> (match ops[k]? with
   |some o=>if dW o then decide (Region.ready md ops listed=[k])||(o.guard.isNone && mP ops (f+1) k && (Region.ready md ops listed).contains k && Region.free md ops listed k)else(Region.ready md ops listed).contains k && Region.free md ops listed k
   |none=>false) && uW md ops T f (k+1) (listed.setIfInBounds k true)
theorem nI{ops:Array Oper} :∀ (f k:Nat),mP ops f k=true ->∀ j oj,ops[j]? =some oj ->k <=j ->j < k+f ->dW oj=true /\ oj.guard=none
 |0,k,_,j,oj,_,h1,h2=>by omega
 | f+1,k,h,j,oj,hj,h1,h2=>by
  simp only[mP,Bool.and_eq_true]at h
  by_cases hjk:j=k
  ·subst hjk
   have h3:=h.1
   rw[hj]at h3
   simp only[Bool.and_eq_true]at h3
   exact⟨h3.1,by simpa using h3.2⟩
  ·exact nI f (k+1) h.2 j oj hj (by omega) (by omega)
theorem iA {n:Nat} {T:Array Bool ->Bool} {Lq:aM ->AS ->Prop}
  (hdone:∀ listed,T listed=true ->∀ j ∈ Region.ready md ops listed,n <=j)
  (htw:∀ i,i < n ->∀ listed,HeadInv md ops n listed ->listed.getD i true=false ->∀ t,n <=t ->t ∉ Region.ready md ops listed):
  ∀ (l:List Oper) (k:Nat) (listed:Array Bool) (e:aM) (σ:AS) (av:List Nat),(∀ j,j < l.length ->l[j]? =ops[k+j]?) ->k+l.length=n ->HeadInv md ops n listed -> (∀ j,j < k ->listed.getD j true=true) ->Inf σ ->σ0.le σ ->uQ σ0 σi σ av ->
  uW md ops T l.length k listed=true ->bT P G ops.toList σ0 Lq l e σ av ->
  jL P G md ops σ0 σi (fun listed' e' s'=>T listed'=true /\ Lq e' s') l.length listed e σ av
 |[],k,listed,e,σ,av,_,hk,_,_,_,_,_,hB,h=> ⟨hB,h⟩
 | o :: l,k,listed,e,σ,av,hl,hk,inv,hld,hinf,hle,hav,hB,h=>by
  have h0:ops[k]? =some o:=by simpa using(hl 0 (by simp)).symm
  simp only[List.length_cons,uW,h0,Bool.and_eq_true]at hB
  obtain⟨hA,hB'⟩:=hB
  have hkn:k < n:=by simp only[List.length_cons]at hk;omega
  have hl':∀ j,j < l.length ->l[j]? =ops[k+1+j]? :=fun j hj=>by have:=hl (j+1) (by simp;omega);simpa [Nat.add_assoc,Nat.add_comm 1 j] using this
  have hk':k+1+l.length=n:=by simp only[List.length_cons]at hk;omega
  have hld':∀ j,j < k+1 -> (listed.setIfInBounds k true).getD j true=true:=fun j hj=>by
   by_cases hjk:k=j
   ·subst hjk
    by_cases hb:k < listed.size
    ·simp[hb]
    ·simp[hb]
   ·rw[getD_set_ne true hjk];exact hld j (by omega)
  obtain⟨b,hb,h1,h2⟩:=h
  have hkk:∃ kd,uV P G ops σ0 o e kd /\ kd.ok σi av /\ (dW o=false -> (∃ v,kd= .quiet v) \/ ∃ b z0 z,kd= .write b z0 z) /\ ∀ r σ',kd.out σ r σ' ->bT P G ops.toList σ0 Lq l (e.upd o.dst r) σ' (kd.rest av):=by
   cases b with
   | true=>
    have h3:=h1 rfl
    unfold fL at h3
    split at h3
    ·rename_i t p x hop
     rcases h3 with h3|h3
     rotate_left
     ·exact⟨.quiet .undef, .inl ⟨hb,fun σ' hl hp Kc hk=>by
       unfold eK;rw[hop]
       exact⟨σ',pD hl h3.1,hk _ _ ⟨rfl,rfl⟩⟩,fun _=>rfl⟩,trivial,fun _=> .inl ⟨_,rfl⟩,fun r s ⟨hr,hs⟩=>by subst hr hs;exact h3.2⟩
     obtain⟨bb,off,z0,z,g1,g2,g3,g4,g5⟩:=h3
     refine⟨.write bb z0 z, .inl ⟨hb,fun σ' hl hp Kc hk=> ?_,fun hns=> ?_⟩,⟨g2,by rw[<- (hav bb g2).1];exact g3⟩,fun _=> .inr ⟨_,_,_,rfl⟩,fun r s ⟨hr,hs⟩=>by subst hr hs;exact g5⟩
     ·unfold eK;rw[hop]
      simp only[g1]
      exact⟨_,rU g4 (by rw[g3];exact hp),hk _ _ ⟨rfl,rfl⟩⟩
     ·unfold jN at hns;rw[hop]at hns;cases hns
    ·obtain⟨kd,g1,g2,g3,g4⟩:=wC h3
     exact⟨kd, .inl ⟨hb,g1,fun _=>g2⟩,kF.ok_of g2,fun ha=> .inl (g3 ha),fun r s hrs=>by rw[kF.rest_of g2];exact g4 r s hrs⟩
   |false=>exact⟨.quiet (.tup []), .inr ⟨hb,rfl⟩,trivial,fun _=> .inl ⟨_,rfl⟩,fun r s ⟨hr,hs⟩=>by subst hr hs;exact h2 rfl⟩
  obtain⟨kd,g1,gok,g2,g3⟩:=hkk
  cases hal:dW o with
  | true=>
   rw[if_pos hal]at hA
   simp only[Bool.or_eq_true]at hA
   rcases hA with hA|hA
   ·have hr1:Region.ready md ops listed=[k]:=by simpa using hA
    have hrk:k ∈ Region.ready md ops listed:=by rw[hr1];simp
    refine⟨by rw[hr1];simp,fun i hi=> ?_⟩
    rw[hr1]at hi
    have:i=k:=by simpa using hi
    subst this
    exact⟨o,kd,h0,g1,gok,fun r s hrs=>iA hdone htw l (i+1) _ _ _ _ hl' hk' (inv.set hrk hkn) hld' (hinf.out hrs) (kF.out_le hle hav gok hrs) (hav.out hrs) hB' (g3 r s hrs)⟩
   ·simp only[Bool.and_eq_true]at hA
    obtain⟨⟨⟨hgd,honly⟩,hrc⟩,hfree⟩:=hA
    have hrk:k ∈ Region.ready md ops listed:=by simpa using hrc
    obtain⟨z,g4,g5⟩:=rS hal (by simpa using hgd) g1
    have hrest:kd.rest av=av:=by
     have hns:jN o=false:=by
      have:=hal
      unfold dW at this
      unfold jN
      split at this <;>simp_all
     rcases g1 with⟨_,_,g⟩|⟨_,g⟩
     ·exact kF.rest_of (g hns)
     ·subst g;rfl
    rw[hrest]at g3
    refine A0n h0 (fun listed' e' s' hL=>hdone listed' hL.1) (htw k hkn) hkn l.length listed e σ av inv hinf hle (fun j oj hj hjn hun=> ?_) (Region.free_spec h0 hfree) hrk g4
     (fun r s hrs=>iA hdone htw l (k+1) _ _ _ _ hl' hk' (inv.set hrk hkn) hld' (hinf.out hrs) (kF.out_le (k:= .alloc z) hle hav trivial hrs) (uQ.out (k:= .alloc z) hav hrs) hB' (g3 r s (g5 σ r s hle hrs)))
    refine nI _ k honly j oj hj ?_ (by omega)
    rcases Nat.lt_or_ge j k with hlt|hge
    ·rw[hld j hlt]at hun;cases hun
    ·exact hge
  | false=>
   rw[if_neg (by rw[hal];simp)]at hA
   simp only[Bool.and_eq_true]at hA
   have hr':k ∈ Region.ready md ops listed:=by simpa using hA.1
   rcases g2 hal with⟨v,rfl⟩|⟨b',z0,z,rfl⟩
   ·exact xP h0 (fun listed' e' s' hL=>hdone listed' hL.1) (htw k hkn) hkn l.length listed e σ av inv (Region.free_spec h0 hA.2) hr' g1
     (iA hdone htw l (k+1) _ _ _ _ hl' hk' (inv.set hr' hkn) hld' hinf hle hav hB' (g3 v σ ⟨rfl,rfl⟩))
   ·have ho:(kF.write b' z0 z).out σ .undef (σ.setBox b' z):=⟨rfl,rfl⟩
    exact xQ h0 (fun listed' e' s' hL=>hdone listed' hL.1) (htw k hkn) hkn gok.2 l.length listed e σ av inv hav gok.1 (Region.free_spec h0 hA.2) hr' g1
     (iA hdone htw l (k+1) _ _ _ _ hl' hk' (inv.set hr' hkn) hld' (hinf.out ho) (kF.out_le hle hav gok ho) (hav.out ho) hB' (g3 _ _ ho))
theorem mE {N:Nat} {ds:List Deferred} {g:Nat} {L:Array Bool ->aM ->AS ->Prop} {R:Exit ->Act ->World ->Prop} {K0:aT} (hdst:ops.toList.all (fP N)=true)
  (hL:∀ listed e σ K a w,L listed e σ ->St P G K N ds e σ a w ->K0.le K ->wpAny P md ops R g listed a w):
  ∀ (f:Nat) (listed:Array Bool) (e:aM) (σ:AS) (av:List Nat) (K:aT) (a:Act) (w:World),σ0.le σ ->uQ σ0 σi σ av ->jL P G md ops σ0 σi L f listed e σ av ->St P G K N ds e σ a w ->K0.le K ->wpAny P md ops R (f+g) listed a w
 |0,listed,e,σ,av,K,a,w,_,_,h,hs,hk=>by rw[Nat.zero_add];exact hL _ _ _ _ _ _ h hs hk
 | f+1,listed,e,σ,av,K,a,w,hle,hav,h,hs,hk=>by
  rw[show f+1+g=(f+g)+1 by omega]
  refine⟨fun h0=>absurd h0 h.1,fun i hi=> ?_⟩
  obtain⟨o,k,ho,hy,hok,hn⟩:=h.2 i hi
  have hpre:k.pre σ:=by
   cases k with
   |write b z0 z=>exact(hav b hok.1).1.trans hok.2
   |_=>trivial
  have hd:fP N o=true:=by
   have:o ∈ ops.toList:=Array.mem_toList_iff.2 (Array.mem_of_getElem? ho)
   exact List.all_eq_true.1 hdst o this
  unfold wpOp
  rw[ho]
  simp only
  rcases hy with⟨hw,hdo,_⟩|⟨hw,rfl⟩
  ·have hw':=eR hw hs.er
   rw[if_pos hw']
   refine .inl ((iO (hdo σ hle hpre (fun r s=>k.out σ r s) (fun r s h=>h)) hs.er hs.rel).wp fun r σ' K' v w' hq hv hr hle'=> ?_)
   exact mE hdst hL f _ _ _ _ K' _ _ (kF.out_le hle hav hok hq) (hav.out hq) (hn r σ' hq) (hs.put hle' (eS hd) hv hr) (hk.trans hle')
  ·have hw':=eR hw hs.er
   rw[if_neg (by rw[hw'];simp)]
   exact mE hdst hL f _ _ _ _ K _ _ hle hav (hn _ _ ⟨rfl,rfl⟩) (hs.put (aT.le.refl K) (eS hd) VR.skipped hs.rel) hk
end any
def vV(ops:Array Oper)(n:Nat):Bool:=
 if n=ops.size then uW .any ops (fun listed=> (Region.ready .any ops listed).isEmpty) n 0 (Array.replicate ops.size false)
 else decide (n < ops.size) && Region.sinkB .any ops n && Region.chainB .any ops n && uW .any ops (fun listed=>Region.seqB .any ops (ops.size - n) n listed) n 0 (Array.replicate ops.size false)
def eP(ops:Array Oper)(m k:Nat):Array Oper:=ops.modify m fun o=> {o with after:=o.after.push ⟨k, .data⟩}
def edged:Array Oper ->List (Nat × Nat) ->Array Oper
 |ops,[]=>ops
 |ops,(m,k)::r=>edged (eP ops m k) r
def A8e(ops:Array Oper)(m k:Nat):Bool:=
 decide (m ≠ k) && match ops[k]? with
 | some o=> (match o.op with| .move _=>true|_=>false) && o.guard.isNone && (o.after.all fun e=> !(Region.binds .any e)) &&
   (List.range ops.size).all fun j=>decide (j=k)||Region.waitsFor .any ops j k||(match ops[j]? with|some oj=>o.apart ops oj && (match oj.op with| .select .. =>false|_=>true)|none=>true)
 |none=>false
def uL:Array Oper ->List (Nat × Nat) ->Bool
 |_,[]=>true
 |ops,(m,k)::r=>A8e ops m k && uL (eP ops m k) r
def B5p(P:Program)(G:Nat ->AV)(ops:Array Oper)(Q:aM ->AS ->Prop)(e:aM)(σ:AS):Prop:=
 ∃ fs n σ0 av,uL ops fs=true /\ vV (edged ops fs) n=true /\ σ0.le σ /\ (∀ c,c ∈ av -> (σ.box c).isSome=true /\ σ0.box c=none) /\ bT P G ops.toList σ0 (fun e' σ'=>cF P G ops.toList Q (ops.toList.drop n) e' σ') (ops.toList.take n) e σ av
theorem qW{P:Program}{G:Nat ->AV}{o:Oper}{e:aM}{σ0 σ:AS}{K K':AV ->AS ->Prop}(hk:∀ r s,K r s ->K' r s)(h:hop P G o e σ0 σ K):hop P G o e σ0 σ K':=by
 unfold hop at h ⊢
 split at h
 ·exact⟨h.1,hk _ _ h.2⟩
 ·exact h.elim
 ·exact h.elim
 ·exact h.elim
 ·exact h.elim
 ·exact h.elim
 ·exact h.elim
 ·unfold qV at h ⊢
  split at h
  ·split at h
   ·obtain⟨v,g1,g2⟩:=h;exact⟨v,g1,hk _ _ g2⟩
   ·exact h.elim
  ·split at h
   ·exact h.elim
   ·rename_i hb;rw[if_neg hb];obtain⟨r,g1,g2⟩:=h;exact⟨r,g1,hk _ _ g2⟩
  ·exact h.elim
 ·obtain⟨z,g1,g2⟩:=h;exact⟨z,g1,fun b hb=>hk _ _ (g2 b hb)⟩
 ·exact⟨h.1,fun b hb=>hk _ _ (h.2 b hb)⟩
 ·obtain⟨r,g1,g2⟩:=h;exact⟨r,g1,hk _ _ g2⟩
 ·obtain⟨r,g1,g2⟩:=h;exact⟨r,g1,hk _ _ g2⟩
 ·exact eQ (fun r _ hh=>hk _ _ hh) h
theorem sC{P:Program}{G:Nat ->AV}{o:Oper}{e:aM}{σ0 σ:AS}{av:List Nat}{K K':AV ->AS ->List Nat ->Prop}(hk:∀ r s a,K r s a ->K' r s a)(h:fL P G o e σ0 σ av K):fL P G o e σ0 σ av K':=by
 unfold fL at h ⊢
 split at h
 ·rcases h with⟨b,off,z0,z,g1,g2,g3,g4,g5⟩|⟨g1,g2⟩
  ·exact .inl ⟨b,off,z0,z,g1,g2,g3,g4,hk _ _ _ g5⟩
  ·exact .inr ⟨g1,hk _ _ _ g2⟩
 ·exact qW (fun r s h=>hk _ _ _ h) h
theorem B8x{P:Program}{G:Nat ->AV}{o:Oper}{e:aM}{σ0 σ:AS}{av:List Nat}{K:AV ->AS ->List Nat ->Prop}(h:hop P G o e σ0 σ fun r s=>K r s av):fL P G o e σ0 σ av K:=by
 unfold fL
 split
 ·rename_i t p x hop
  unfold Go.Av.hop at h
  rw[hop]at h
  exact .inr h
 ·exact h
theorem oW{P:Program}{G:Nat ->AV}{ops:List Oper}{σ0:AS}{L:aM ->AS ->Prop} :∀ (l:List Oper) (e:aM) (σ:AS) (av:List Nat),jM P G ops σ0 L l e σ ->bT P G ops σ0 L l e σ av
 |[],e,σ,_,h=>h
 |o::l,e,σ,av,⟨b,hb,h1,h2⟩=> ⟨b,hb,fun x=>B8x (qW (fun r s h=>oW l _ _ _ h) (h1 x)),fun x=>oW l _ _ _ (h2 x)⟩
theorem eC{P:Program}{G:Nat ->AV}{ops:List Oper}{σ0:AS}{L L':aM ->AS ->Prop}(hL:∀ e s,L e s ->L' e s):∀ (l:List Oper) (e:aM) (σ:AS) (av:List Nat),bT P G ops σ0 L l e σ av ->bT P G ops σ0 L' l e σ av
 |[],e,σ,_,h=>hL _ _ h
 |o::l,e,σ,av,⟨b,hb,h1,h2⟩=> ⟨b,hb,fun x=>sC (fun r s a h=>eC hL l _ _ _ h) (h1 x),fun x=>eC hL l _ _ _ (h2 x)⟩
theorem lP(l r:List Oper):bJ (l++r)=bJ l++bJ r:=List.filterMap_append
theorem jY{o:Oper}{l:List Oper}{t:Nat}(h:t ∉ bJ (o::l)):t ∉ bJ l /\ ∀ x,o.dst=some x ->x ≠ t:=by
 unfold bJ at*
 rw[List.filterMap_cons]at h
 split at h
 ·rename_i hd;exact⟨h,fun x hx=>by rw[hd]at hx;cases hx⟩
 ·rename_i d hd
  simp only[List.mem_cons,not_or]at h
  exact⟨h.2,fun x hx=>by rw[hd]at hx;cases hx;exact Ne.symm h.1⟩
theorem jT{P:Program}{G:Nat ->AV}{ops:List Oper}{σ0:AS}{L:aM ->AS ->Prop} :∀ (l:List Oper) (e:aM) (σ:AS) (av:List Nat),bT P G ops σ0 L l e σ av ->
  bT P G ops σ0 (fun e' σ'=>L e' σ' /\ ∀ t,t ∉ bJ l ->e' t=e t) l e σ av
 |[],e,σ,_,h=> ⟨h,fun _ _=>rfl⟩
 | o ::l,e,σ,av,⟨b,hb,h1,h2⟩=>by
  have key:∀ r s a,bT P G ops σ0 L l (e.upd o.dst r) s a ->bT P G ops σ0 (fun e' σ'=>L e' σ' /\ ∀ t,t ∉ bJ (o::l) ->e' t=e t) l (e.upd o.dst r) s a:=fun r s a h=>
   eC (fun e' s' hq=> ⟨hq.1,fun t ht=>by
    obtain⟨g1,g2⟩:=jY ht
    rw[hq.2 t g1];exact aM.upd_other g2⟩) l _ _ _ (jT l _ _ _ h)
  exact⟨b,hb,fun x=>sC (fun r s a h=>key r s a h) (h1 x),fun x=>key _ _ _ (h2 x)⟩
theorem qX{G:Nat ->AV}{K:aT}{σ:AS}{w:World}(h:bM G K σ w):Inf σ:=⟨w.heap.size,fun b hb=>h.fresh hb⟩
section floats
variable {P:Program} {md:Region.Mode}
theorem mC{ops:Array Oper}{m k:Nat} :(eP ops m k).size=ops.size:=by simp[eP]
theorem kK{ops:Array Oper}{m k j:Nat}{o:Oper}(h:ops[j]? =some o):∃ af,(eP ops m k)[j]? =some {o with after:=af} /\ (j ≠ m ->af=o.after) /\ (j=m ->af=o.after.push ⟨k, .data⟩):=by
 unfold eP
 rw[Array.getElem?_modify]
 by_cases hjm:m=j
 ·subst hjm
  rw[if_pos rfl,h]
  exact⟨_,rfl,fun e=>absurd rfl e,fun _=>rfl⟩
 ·rw[if_neg hjm,h]
  exact⟨o.after,rfl,fun _=>rfl,fun e=>absurd e.symm hjm⟩
theorem mB{ops:Array Oper}{m k j:Nat}(h:ops[j]? =none):(eP ops m k)[j]? =none:=by
 have:=Array.getElem?_eq_none_iff.1 h
 exact Array.getElem?_eq_none_iff.2 (by rw[mC];exact this)
theorem wO{ops:Array Oper}{m k j:Nat}{listed:Array Bool}(hk:listed.getD k false=true):j ∈ Region.ready md (eP ops m k) listed ↔ j ∈ Region.ready md ops listed:=by
 rw[mem_ready,mem_ready]
 refine and_congr_right fun _=> ?_
 cases hj:ops[j]? with
 |none=>rw[mB hj]
 | some o=>
  obtain⟨af,h1,h2,h3⟩:=kK (m:=m) (k:=k) hj
  rw[h1]
  simp only[Option.some.injEq,exists_eq_left']
  by_cases hjm:j=m
  ·rw[h3 hjm]
   constructor
   ·exact fun h e he hb=>h e (Array.mem_push.2 (.inl he)) hb
   ·intro h e he hb
    rcases Array.mem_push.1 he with he|rfl
    ·exact h e he hb
    ·exact hk
  ·rw[h2 hjm]
theorem oM{ops:Array Oper}{m k:Nat}{listed:Array Bool}(hk:listed.getD k false=true):Region.ready md (eP ops m k) listed=[] ↔ Region.ready md ops listed=[]:=by
 rw[List.eq_nil_iff_forall_not_mem,List.eq_nil_iff_forall_not_mem]
 exact forall_congr' fun j=>not_congr (wO hk)
theorem A2l{ops:Array Oper}{m k:Nat}(tmps:Array Value):yielded (eP ops m k) tmps=yielded ops tmps:=by
 funext j
 unfold yielded
 cases hj:ops[j]? with
 |none=>rw[mB hj]
 |some o=>obtain⟨af,h1,_⟩:=kK (m:=m) (k:=k) hj;rw[h1];simp only[Option.bind_some]
theorem zP{ops:Array Oper}{m k i:Nat}{Q:Exit ->Act ->World ->Prop}{K:Act ->World ->Prop}{a:Act}{w:World} :wpOp P (eP ops m k) Q i K a w ↔ wpOp P ops Q i K a w:=by
 unfold wpOp
 cases hj:ops[i]? with
 |none=>rw[mB hj]
 | some o=>
  obtain⟨af,h1,_⟩:=kK (m:=m) (k:=k) hj
  rw[h1,A2l]
  exact Iff.rfl
theorem xU{l:Array Bool}{i k:Nat}(h:l.getD k false=true):(l.setIfInBounds i true).getD k false=true:=getD_set_true h
theorem xC{ops:Array Oper}{m k:Nat}{Q:Exit ->Act ->World ->Prop} :∀ (fuel:Nat) (listed:Array Bool) (a:Act) (w:World),listed.getD k false=true ->wpAny P md (eP ops m k) Q fuel listed a w ->wpAny P md ops Q fuel listed a w
 |0,listed,a,w,hk,h=> ⟨(oM hk).1 h.1,h.2⟩
 | fuel+1,listed,a,w,hk,h=> ⟨fun hr=>h.1 ((oM hk).2 hr),fun i hi=>
   wpOp_mono (fun a w hh=>xC fuel _ a w (xU hk) hh) (zP.1 (h.2 i ((wO hk).2 hi)))⟩
def fM(R:Act ->World ->Prop):Exit ->Act ->World ->Prop:=fun x a w=>x= .normal /\ R a w
theorem A4v{ops:Array Oper}{o:Oper}{x:Operand}(ho:o.op= .move x)(hg:o.guard=none)(a:Act):Yields P ops o (a.eval x) a:=by
 refine .inl ⟨by simp[Region.wanted,hg],fun w=> ?_⟩
 unfold execOp;rw[ho];rfl
theorem B3p{ops:Array Oper}{o:Oper}{x:Operand}{k:Nat}(hk:ops[k]? =some o)(ho:o.op= .move x)(hg:o.guard=none){R:Act ->World ->Prop}{K:Act ->World ->Prop}{a:Act}{w:World}(h:wpOp P ops (fM R) k K a w):K (a.put o.dst (a.eval x)) w:=by
 unfold wpOp at h
 rw[hk]at h
 simp only[Region.wanted,hg,if_true]at h
 rcases h with h|⟨_,h⟩
 ·unfold Oper.wp execOp at h
  rw[ho]at h
  exact h
 ·exact absurd h (by unfold LetsOut fM;simp)
theorem B4w {ops:Array Oper} {k:Nat} {o:Oper} {x:Operand} (hk:ops[k]? =some o) (ho:o.op= .move x) (hg:o.guard=none)
  (hap:∀ j oj,ops[j]? =some oj ->j ≠ k ->Region.waitsFor md ops j k=true \/ (o.apart ops oj=true /\ ∀ cs b,oj.op ≠ .select cs b)) {R:Act ->World ->Prop} :
  ∀ (fuel:Nat) (listed:Array Bool) (a:Act) (w:World) (v:Value),Yields P ops o v a ->listed.getD k true=false -> (k ∈ Region.ready md ops listed) ->wpAny P md ops (fM R) fuel (listed.setIfInBounds k true) (a.put o.dst v) w ->wpAny P md ops (fM R) (fuel+1) listed a w:=by
 have sub:∀ (listed:Array Bool) j,j ∈ Region.ready md ops listed ->j ≠ k ->j ∈ Region.ready md ops (listed.setIfInBounds k true):=fun listed j hj hjk=>by
  rw[mem_ready]at hj ⊢
  obtain⟨h1,oj,h2,h3⟩:=hj
  exact⟨by rw[getD_set_ne true (Ne.symm hjk)];exact h1,oj,h2,fun e he hb=>getD_set_true (h3 e he hb)⟩
 have apart:∀ (listed:Array Bool) j oj,listed.getD k true=false ->j ∈ Region.ready md ops listed ->j ≠ k ->ops[j]? =some oj ->o.apart ops oj=true /\ ∀ cs b,oj.op ≠ .select cs b:=fun listed j oj hlk hj hjk hoj=>by
  rcases hap j oj hoj hjk with hw|hh
  ·obtain⟨oj',h1,e,he,hb,hon⟩:=Region.waitsFor_spec hw
   obtain⟨_,oj2,h2,h3⟩:=mem_ready.1 hj
   have e1:oj'=oj2:=Option.some.inj (h1.symm.trans h2)
   subst e1
   have:=h3 e he hb
   rw[hon,getD_both hlk]at this
   cases this
  ·exact hh
 have hsi:∀ cs b,o.op ≠ .select cs b:=fun cs b e=>by rw[ho]at e;cases e
 intro fuel
 induction fuel with
 | zero=>
  intro listed a w v hy hlk hrk h
  refine⟨fun hr=> (by rw[hr]at hrk;cases hrk),fun i hi=> ?_⟩
  by_cases hik:i=k
  ·subst hik
   exact hy.wpOp hk h
  ·have:=sub listed i hi hik
   rw[h.1]at this
   cases this
 | succ fuel ih=>
  intro listed a w v hy hlk hrk h
  refine⟨fun hr=> (by rw[hr]at hrk;cases hrk),fun i hi=> ?_⟩
  by_cases hik:i=k
  ·subst hik
   exact hy.wpOp hk h
  ·obtain⟨_,oi,hoi,_⟩:=mem_ready.1 hi
   obtain⟨ap,hsj⟩:=apart listed i oi hlk hi hik hoi
   have h1:=h.2 i (sub listed i hi hik)
   refine wpOp_mono (fun a' w' hh=> ?_) (wpOp_put hoi ap hsi hsj (fun c a w hq=>by cases hq.1) hy h1)
   refine ih _ a' w' v hh.1 (by rw[getD_set_ne true hik];exact hlk) ?_ (by rw[Array.setIfInBounds_comm _ _ hik];exact hh.2)
   obtain⟨g1,ok,g2,g3⟩:=mem_ready.1 hrk
   exact mem_ready.2 ⟨by rw[getD_set_ne true hik];exact hlk,ok,g2,fun e he hb=>getD_set_true (g3 e he hb)⟩
theorem A6h {ops:Array Oper} {m k:Nat} (hf:A8e ops m k=true) {R:Act ->World ->Prop} {a:Act} {w:World}
  (h:wpAny P .any (eP ops m k) (fM R) ops.size (Array.replicate ops.size false) a w):wpAny P .any ops (fM R) ops.size (Array.replicate ops.size false) a w:=by
 unfold A8e at hf
 simp only[Bool.and_eq_true,decide_eq_true_eq]at hf
 obtain⟨hmk,hf⟩:=hf
 split at hf
 ·rename_i o hk
  simp only[Bool.and_eq_true,Option.isNone_iff_eq_none]at hf
  obtain⟨⟨⟨h1,hg⟩,h2⟩,h3⟩:=hf
  split at h1
  ·rename_i x ho
   have hlt:k < ops.size:=(Array.getElem?_eq_some_iff.1 hk).1
   obtain⟨s,hs⟩:∃ s,ops.size=s+1:=⟨ops.size - 1,by omega⟩
   have hlk:(Array.replicate ops.size false).getD k true=false:=by simp[hlt]
   have hnb:∀ e ∈ o.after,Region.binds .any e=true -> (Array.replicate ops.size false).getD e.on false=true:=fun e he hb=>by
    have:=Array.all_eq_true_iff_forall_mem.1 h2 e he
    rw[hb]at this;cases this
   have hrk:k ∈ Region.ready .any ops (Array.replicate ops.size false):=mem_ready.2 ⟨hlk,o,hk,hnb⟩
   obtain⟨af,g1,g2,_⟩:=kK (m:=m) (k:=k) hk
   have hrk':k ∈ Region.ready .any (eP ops m k) (Array.replicate ops.size false):=mem_ready.2 ⟨hlk,_,g1,by rw[g2 (Ne.symm hmk)];exact hnb⟩
   have hap:∀ j oj,ops[j]? =some oj ->j ≠ k ->Region.waitsFor .any ops j k=true \/ (o.apart ops oj=true /\ ∀ cs b,oj.op ≠ .select cs b):=fun j oj hj hjk=>by
    have:=List.all_eq_true.1 h3 j (by simpa using(Array.getElem?_eq_some_iff.1 hj).1)
    simp only[Bool.or_eq_true,decide_eq_true_eq,hj,Bool.and_eq_true]at this
    rcases this with(h|h)|⟨h,h'⟩
    ·exact absurd h hjk
    ·exact .inl h
    ·refine .inr ⟨h,fun cs b e=> ?_⟩
     rw[e]at h';cases h'
   have hset:((Array.replicate ops.size false).setIfInBounds k true).getD k false=true:=by simp[hlt]
   generalize hl:Array.replicate ops.size false=listed at*
   rw[hs]at h ⊢
   have h4:=zP.1 (h.2 k hrk')
   have h5:=B3p hk ho hg h4
   exact B4w hk ho hg hap s _ a w _ (A4v ho hg a) hlk hrk (xC s _ _ w hset h5)
  ·cases h1
 ·cases hf
theorem vW:∀ (fs:List (Nat × Nat)) (ops:Array Oper),(edged ops fs).size=ops.size
 |[],_=>rfl
 |(m,k)::r,ops=>by rw[edged,vW r,mC]
theorem rM{R:Act ->World ->Prop}{a:Act}{w:World} :∀ (fs:List (Nat × Nat)) (ops:Array Oper),uL ops fs=true ->wpAny P .any (edged ops fs) (fM R) ops.size (Array.replicate ops.size false) a w ->
  wpAny P .any ops (fM R) ops.size (Array.replicate ops.size false) a w
 |[],_,_,h=>h
 | (m,k)::r,ops,hf,h=>by
  simp only[uL,Bool.and_eq_true]at hf
  refine A6h hf.1 ?_
  have:=rM (R:=R) (a:=a) (w:=w) r (eP ops m k) hf.2
  rw[mC]at this
  exact this h
inductive dC:List Oper ->List Oper ->Prop
 |nil:dC [] []
 |cons {o:Oper} {af:Array Edge} {l l':List Oper} (h:dC l l'):dC (o::l) ({o with after:=af} ::l')
theorem dC.refl:∀ (l:List Oper),dC l l
 |[]=> .nil
 |o::l=> .cons (o:=o) (af:=o.after) (dC.refl l)
theorem dC.trans{a b c:List Oper}(h:dC a b)(k:dC b c):dC a c:=by
 induction h generalizing c with
 |nil=>exact k
 |cons h ih=>cases k with|cons k=>exact .cons (ih k)
theorem dC.modify(m:Nat)(f:Oper ->Array Edge):∀ (l:List Oper),dC l (l.modify m fun o=> {o with after:=f o})
 |[]=>by simp;exact .nil
 | o::l=>by
  cases m with
  |zero=>exact .cons (dC.refl l)
  |succ m=>exact .cons (o:=o) (af:=o.after) (dC.modify m f l)
theorem dC.edged:∀ (fs:List (Nat × Nat)) (ops:Array Oper),dC ops.toList (Av.edged ops fs).toList
 |[],ops=>dC.refl _
 | (m,k)::r,ops=>by
  refine dC.trans ?_ (dC.edged r (eP ops m k))
  unfold eP
  rw[Array.toList_modify]
  exact dC.modify m (fun o=>o.after.push ⟨k, .data⟩) ops.toList
theorem dC.take{l l':List Oper}(h:dC l l'):∀ n,dC (l.take n) (l'.take n):=by
 induction h with
 |nil=>intro n;simp;exact .nil
 | cons h ih=>intro n;cases n with
  |zero=>exact .nil
  |succ n=>exact .cons (ih n)
theorem dC.drop{l l':List Oper}(h:dC l l'):∀ n,dC (l.drop n) (l'.drop n):=by
 induction h with
 |nil=>intro n;simp;exact .nil
 | cons h ih=>intro n;cases n with
  |zero=>exact .cons h
  |succ n=>exact ih n
theorem dC.dst{l l':List Oper}(h:dC l l'):∀ j:Nat,(l[j]?).bind (·.dst)=(l'[j]?).bind (·.dst):=by
 induction h with
 |nil=>intro j;rfl
 | cons h ih=>intro j;cases j with
  |zero=>rfl
  |succ j=>exact ih j
theorem dC.wanted{l l':List Oper}(h:dC l l')(e:aM)(g:Option (Nat × Bool)):cE l' e g=cE l e g:=by
 unfold cE
 split
 ·rfl
 ·rename_i j want
  rw[<- h.dst j]
theorem dC.ops{G:Nat ->AV}{l l':List Oper}(hl:dC l l'){Q:aM ->AS ->Prop} :∀ {r r':List Oper},dC r r' ->∀ (e:aM) (σ:AS),cF P G l Q r e σ ->cF P G l' Q r' e σ:=by
 intro r r' h
 induction h with
 |nil=>intro e σ h;exact h
 | cons h ih=>
  intro e σ ⟨b,hb,h1,h2⟩
  refine⟨b,by rw[hl.wanted];exact hb,fun x=> ?_,fun x=>ih _ _ (h2 x)⟩
  exact eQ (fun r s hh=>ih _ _ hh) (h1 x)
theorem dC.heads{G:Nat ->AV}{l l':List Oper}(hl:dC l l'){σ0:AS}{L L':aM ->AS ->Prop}(hL:∀ e s,L e s ->L' e s):∀ {r r':List Oper},dC r r' ->∀ (e:aM) (σ:AS) (av:List Nat),bT P G l σ0 L r e σ av ->bT P G l' σ0 L' r' e σ av:=by
 intro r r' h
 induction h with
 |nil=>intro e σ av h;exact hL _ _ h
 | cons h ih=>
  intro e σ av ⟨b,hb,h1,h2⟩
  refine⟨b,by rw[hl.wanted];exact hb,fun x=> ?_,fun x=>ih _ _ _ (h2 x)⟩
  exact sC (fun r s a hh=>ih _ _ _ hh) (h1 x)
theorem dC.dsts{N:Nat}{l l':List Oper}(h:dC l l'):l'.all (fP N)=l.all (fP N):=by
 induction h with
 |nil=>rfl
 |cons h ih=>simp only[List.all_cons,ih];rfl
end floats
theorem B7f {P:Program} {G:Nat ->AV} {N:Nat} {ds:List Deferred} {ops:Array Oper} {Q:aM ->AS ->Prop} {R:Exit ->Act ->World ->Prop} {e:aM} {σ:AS} {K:aT} {a:Act} {w:World} {n:Nat} {σ0:AS} {av:List Nat}
  (hok:ops.toList.all (fP N)=true) (hn:vV ops n=true) (hle0:σ0.le σ) (hav0:∀ c,c ∈ av -> (σ.box c).isSome=true /\ σ0.box c=none) (h1:bT P G ops.toList σ0 (fun e' σ'=>cF P G ops.toList Q (ops.toList.drop n) e' σ') (ops.toList.take n) e σ av)
  (hs:St P G K N ds e σ a w) (hR:∀ e σ K' a w,Q e σ ->St P G K' N ds e σ a w ->K.le K' ->R .normal a w):wpAny P .any ops R ops.size (Array.replicate ops.size false) a {w with drawn:=w.drawn+1} :=by
 have hav:uQ σ0 σ σ av:=fun c hc=> ⟨rfl,(hav0 c hc).1,(hav0 c hc).2⟩
 have hs':St P G K N ds e σ a {w with drawn:=w.drawn+1} :=⟨hs.er,hs.rel.drew,hs.size,hs.defers⟩
 have inv0:∀ m,HeadInv .any ops m (Array.replicate ops.size false):=fun m=>
  ⟨by simp,fun j oj _ hl=> (by rw[getD_replicate_false]at hl;cases hl),fun t _ ht=>getD_in (by simpa using ht) (getD_replicate_false _ _)⟩
 unfold vV at hn
 split at hn
 ·rename_i hns
  subst hns
  have htake:ops.toList.take ops.size=ops.toList:=List.take_of_length_le (by simp)
  have hdrop:ops.toList.drop ops.size=[]:=List.drop_eq_nil_of_le (by simp)
  rw[htake,hdrop]at h1
  have hlen:ops.toList.length=ops.size:=by simp
  have hlex:=iA (md:= .any) (n:=ops.size) (T:=fun listed=> (Region.ready .any ops listed).isEmpty) (σ0:=σ0) (σi:=σ)
   (fun listed hT j hj=>by rw[List.isEmpty_iff.1 hT]at hj;cases hj)
   (fun i hi listed inv hun t ht hr=>by
     obtain⟨_,o,ho,_⟩:=mem_ready.1 hr
     have:=(Array.getElem?_eq_some_iff.1 ho).1
     omega)
   ops.toList 0 (Array.replicate ops.size false) e σ av (fun j hj=>by simp) (by simp) (inv0 _) (fun j hj=>by omega) (qX hs.rel) hle0 hav (by rw[hlen];exact hn) h1
  rw[hlen]at hlex
  have:=mE (g:=0) (R:=R) (K0:=K) hok (fun listed e' σ' K' a' w' hL hst hk=>by
   refine⟨List.isEmpty_iff.1 hL.1,?_⟩
   exact hR e' σ' K' a' w' hL.2 hst hk) ops.size _ e σ av K a _ hle0 hav hlex hs' (aT.le.refl K)
  simpa using this
 ·simp only[Bool.and_eq_true,decide_eq_true_eq]at hn
  obtain⟨⟨⟨hlt,hsink⟩,hchain⟩,hB⟩:=hn
  have htl:(ops.toList.take n).length=n:=by simp;omega
  have nQ:(ops.toList.drop n).length=ops.size - n:=by simp
  have hlex:=iA (md:= .any) (n:=n) (T:=fun listed=>Region.seqB .any ops (ops.size - n) n listed) (σ0:=σ0) (σi:=σ)
   (fun listed hT j hj=>seqB_ready hT j hj)
   (fun i hi listed inv hun t ht=>tail_waits hsink hchain hlt inv _ i rfl hi hun t ht)
   (ops.toList.take n) 0 (Array.replicate ops.size false) e σ av (fun j hj=>by
     rw[htl]at hj
     simp[hj]) (by omega) (inv0 _) (fun j hj=>by omega) (qX hs.rel) hle0 hav (by rw[htl];exact hB) h1
  rw[htl]at hlex
  have:=mE (g:=ops.size - n) (R:=R) (K0:=K) hok (fun listed e' σ' K' a' w' hL hst hk=>by
   have hd:(ops.toList.drop n).all (fP N)=true:=List.all_eq_true.2 fun o ho=>List.all_eq_true.1 hok o (List.mem_of_mem_drop ho)
   have hwl:=fD (K0:=K) hR (ops.toList.drop n) e' σ' K' a' w' hd hL.2 hst hk
   have:=wpAny_of_seq (md:= .any) (Q':=R) (ops.toList.drop n) n listed a' w' (fun j=>by simp) (by rw[nQ];exact hL.1) hwl
   rw[nQ]at this
   exact this) n _ e σ av K a _ hle0 hav hlex hs' (aT.le.refl K)
  rw[show n+(ops.size - n)=ops.size by omega]at this
  exact this
theorem A0x{P:Program}{G:Nat ->AV}(hm:P.follows .mixedOrders=true):uS P G (B5p P G) where
 mono ops Q Q' e σ hq h:=by
  obtain⟨fs,n,σ0,av,hf,hn,g1,g2,h1⟩:=h
  exact⟨fs,n,σ0,av,hf,hn,g1,g2,eC (fun e s hh=>dV _ hq _ _ hh) _ _ _ _ h1⟩
 frame ops Q e σ h:=by
  obtain⟨fs,n,σ0,av,hf,hn,g1,g2,h1⟩:=h
  refine⟨fs,n,σ0,av,hf,hn,g1,g2,eC (fun e' s hh=> ?_) _ _ _ _ (jT _ _ _ _ h1)⟩
  obtain⟨g1,g2⟩:=hh
  refine dV _ (fun e2 s2 hh2=> ⟨hh2.1,fun t ht=> ?_⟩) _ _ (gE _ _ _ g1)
  have hsp:bJ ops.toList=bJ (ops.toList.take n)++bJ (ops.toList.drop n):=by rw[<- lP,List.take_append_drop]
  rw[hsp,List.mem_append,not_or]at ht
  rw[hh2.2 t ht.2,g2 t ht.1]
 sound N ds id ops Q R e σ K a w hok h hs hR:=by
  obtain⟨fs,n,σ0,av,hf,hn,hle0,hav0,h1⟩:=h
  refine wp_mono (Q:=fM (R .normal)) (wp_region_any hm (rM fs ops hf ?_)) (fun x a w hx=>by rw[hx.1];exact hx.2)
  have hE:=dC.edged fs ops
  have:=B7f (R:=fM (R .normal)) (ops:=edged ops fs) (by rw[hE.dsts];exact hok) hn hle0 hav0 (hE.heads (fun e s hh=>hE.ops (hE.drop n) e s hh) (hE.take n) e σ av h1) hs (fun e σ K' a w hq hst hk=> ⟨rfl,hR e σ K' a w hq hst hk⟩)
  rw[vW]at this
  exact this
end Go.Av
