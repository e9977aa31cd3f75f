/- Rows of operations whose order is drawn, in which calls make memory: reads may come up at any time, the calls stand in their order. -/
import Derived.Test.YtinfbihcnonaoaaZ04
set_option linter.unusedVariables false
set_option linter.unusedSimpArgs false
namespace Go.Av
open Go Go.RowKit
theorem A0g{G:Nat ->AV}{e e':aK}{l:List (Nat × Operand)}(h:∀ p,p ∈ l ->ev G e p.2=ev G e' p.2):gE G e l=gE G e' l:=by
 unfold gE
 exact List.map_congr_left fun p hp=>by rw[h p hp]
def rdv(P:Program)(G:Nat ->AV)(o:Oper)(e:aK)(σ:AS):Option AV:=match o.op with
 | .move x=>some (ev G e x)
 | .assign x=>some (ev G e x)
 | .load t x=>fR P σ t (ev G e x)
 | .fieldAddr t x i=>lO P t (ev G e x) i
 | .buildSlice t n ps=>dG P t n (gE G e ps.toList)
 |_=>none
def gJ(o:Oper):Bool:=match o.op with| .move _=>true| .assign _=>true| .load .. =>true| .fieldAddr .. =>true| .buildSlice .. =>true|_=>false
theorem C0n{P:Program}{G:Nat ->AV}{o:Oper}{e:aK}{σ0 σ:AS}{v:AV}{Kc:AV ->AS ->Prop}(hl:σ0.le σ)(h:rdv P G o e σ0=some v)(hk:Kc v σ):dJ P G o e σ Kc:=by
 unfold rdv at h
 unfold dJ
 split at h
 ·rename_i x hop;rw[hop];simp only[Option.some.injEq]at h;subst h;exact hk
 ·rename_i x hop;rw[hop];simp only[Option.some.injEq]at h;subst h;exact hk
 ·rename_i t x hop;rw[hop];exact⟨v,rP hl h,hk⟩
 ·rename_i t x i hop;rw[hop];exact⟨v,h,hk⟩
 ·rename_i t n ps hop;rw[hop];exact .inl ⟨v,h,hk⟩
 ·cases h
theorem pS{P:Program}{G:Nat ->AV}{o:Oper}{e e':aK}{σ:AS}(h:∀ x,x ∈ o.op.operands ->ev G e x=ev G e' x):rdv P G o e σ=rdv P G o e' σ:=by
 unfold rdv
 generalize o.op=op at h ⊢
 cases op <;>simp only[Op.operands]at h <;>first|rfl|skip
 case move x=>simp only;rw[h x (by simp)]
 case assign x=>simp only;rw[h x (by simp)]
 case load t x=>simp only;rw[h x (by simp)]
 case fieldAddr t x i=>simp only;rw[h x (by simp)]
 case buildSlice t n ps=>simp only;rw[A0g fun p hp=>h p.2 (by simp;exact⟨p.1,by simpa using hp⟩)]
structure Mk where
 val:Nat ->AV
 box:List AV
def AS.free(σ:AS)(b:Nat):Prop:=σ.box b=none /\ σ.tip b=none
theorem AS.fresh.free{σ:AS}{b:Nat}(h:σ.fresh b):σ.free b:=⟨h.1,h.2.1⟩
theorem qF{σ:AS}{b c:Nat}{cs:List AV} :(σ.setBox c cs).free b ↔ σ.free b /\ b ≠ c:=by
 unfold AS.free AS.setBox
 simp only
 by_cases h:b=c
 ·simp[h]
 ·simp[h]
theorem AS.le.free{σ σ':AS}(h:σ.le σ'){b:Nat}(hb:σ'.free b):σ.free b:=by
 refine⟨?_,?_⟩
 ·cases e:σ.box b with
  |none=>rfl
  |some c=>have:=h.box _ _ e;rw[hb.1]at this;cases this
 ·cases e:σ.tip b with
  |none=>rfl
  |some c=>have:=h.tip _ _ e;rw[hb.2]at this;cases this
def Mk.out(p:Mk)(σ:AS)(r:AV)(σ':AS):Prop:=∃ b,σ.free b /\ r=p.val b /\ σ'=σ.setBox b p.box
section any
variable {P:Program} {G:Nat ->AV} {ops:Array Oper} {σ0:AS} {md:Region.Mode} {ms:List Nat} {g:Nat ->Mk}
theorem mB{o:Oper}{e:aK}{d:Option Tmp}{r:AV}(h:∀ t,d=some t ->t ∉ o.looksAt ops):∀ x,x ∈ o.op.operands ->ev G (e.upd d r) x=ev G e x:=fun x hx=>B1e fun t ht hxt=>h t ht (by
  subst hxt
  exact List.mem_append_left _ (List.mem_filterMap.2 ⟨.tmp t,by simpa using hx,rfl⟩))
def A0u(P:Program)(G:Nat ->AV)(ms:List Nat)(g:Nat ->Mk)(o:Oper)(i:Nat)(σ0:AS)(K:aK ->AS ->Prop)(e:aK)(σ:AS):Prop:=
 (gJ o=true /\ ∃ v,rdv P G o e σ0=some v /\ K (e.upd o.dst v) σ) \/
 (gJ o=false /\ ms.contains i=true /\ (∀ σ',σ0.le σ' ->dJ P G o e σ' ((g i).out σ')) /\ ∀ r σ',(g i).out σ r σ' ->K (e.upd o.dst r) σ') \/
 (gJ o=false /\ ms.contains i=false /\ dJ P G o e σ (fun r s=>σ.le s /\ yA s /\ K (e.upd o.dst r) s))
theorem lA{o:Oper}{i:Nat}{K K':aK ->AS ->Prop}{e:aK}{σ:AS}(hk:∀ r s,K (e.upd o.dst r) s ->K' (e.upd o.dst r) s)(h:A0u P G ms g o i σ0 K e σ):A0u P G ms g o i σ0 K' e σ:=by
 rcases h with⟨h1,v,h2,h3⟩|⟨h1,h2,h3,h4⟩|⟨h1,h2,h3⟩
 ·exact .inl ⟨h1,v,h2,hk _ _ h3⟩
 ·exact .inr (.inl ⟨h1,h2,h3,fun r s hrs=>hk _ _ (h4 r s hrs)⟩)
 ·exact .inr (.inr ⟨h1,h2,eB (fun r s ⟨a,b,c⟩=> ⟨a,b,hk _ _ c⟩) h3⟩)
def fC(P:Program)(G:Nat ->AV)(md:Region.Mode)(ops:Array Oper)(ms:List Nat)(g:Nat ->Mk)(σ0:AS)(L:Array Bool ->aK ->AS ->Prop):Nat ->Array Bool ->aK ->AS ->Prop
 |0,listed,e,σ=>L listed e σ
 |f+1,listed,e,σ=>Region.ready md ops listed ≠ [] /\ ∀ i ∈ Region.ready md ops listed,∃ o,ops[i]? =some o /\ o.guard=none /\ A0u P G ms g o i σ0 (fC P G md ops ms g σ0 L f (listed.setIfInBounds i true)) e σ
def xZ(md:Region.Mode)(ops:Array Oper)(listed:Array Bool)(i:Nat)(oi:Oper):Prop:=
 ∀ j oj,ops[j]? =some oj ->j ≠ i ->listed.getD j true=false -> (∀ e ∈ oj.after,Region.binds md e=true ->e.on ≠ i) ->oi.apart ops oj=true
theorem xZ.next{listed:Array Bool}{i j:Nat}{oi:Oper}(h:xZ md ops listed i oi)(hjun:listed.getD j true=false):xZ md ops (listed.setIfInBounds j true) i oi:=fun k ok hk hki hun hno=>by
 refine h k ok hk hki ?_ hno
 by_cases hjk:j=k
 ·subst hjk;exact hjun
 ·rw[getD_set_ne true hjk]at hun;exact hun
theorem uM {n i:Nat} {oi:Oper} {v:AV} {L:Array Bool ->aK ->AS ->Prop} (hi:ops[i]? =some oi) (hdone:∀ listed e s,L listed e s ->∀ j ∈ Region.ready md ops listed,n <=j)
  (htw:∀ listed,HeadInv md ops n listed ->listed.getD i true=false ->∀ t,n <=t ->t ∉ Region.ready md ops listed) (hrd:gJ oi=true) (hg:oi.guard=none):
  ∀ (f:Nat) (listed:Array Bool) (e:aK) (σ:AS),HeadInv md ops n listed ->xZ md ops listed i oi ->i ∈ Region.ready md ops listed ->rdv P G oi e σ0=some v ->
   fC P G md ops ms g σ0 L f (listed.setIfInBounds i true) (e.upd oi.dst v) σ ->fC P G md ops ms g σ0 L (f+1) listed e σ:=by
 intro f
 induction f with
 | zero=>
  intro listed e σ inv _ hr hv H
  have hun:=(mem_ready.1 hr).1
  refine⟨fun h=> (by rw[h]at hr;cases hr),fun j hj=> ?_⟩
  by_cases hji:j=i
  ·subst hji;exact⟨oi,hi,hg, .inl ⟨hrd,v,hv,H⟩⟩
  ·have h1:=hdone _ _ _ H j (ready_mono hj hji)
   exact absurd hj (htw listed inv hun j h1)
 | succ f ih=>
  intro listed e σ inv hap hr hv H
  have hun:=(mem_ready.1 hr).1
  refine⟨fun h=> (by rw[h]at hr;cases hr),fun j hj=> ?_⟩
  by_cases hji:j=i
  ·subst hji;exact⟨oi,hi,hg, .inl ⟨hrd,v,hv,H⟩⟩
  ·have hjn:j < n:=by
    rcases Nat.lt_or_ge j n with h|h
    ·exact h
    ·exact absurd hj (htw listed inv hun j h)
   obtain⟨oj,hoj,hgj,hcase⟩:=H.2 j (ready_mono hj hji)
   obtain⟨hjun,oj',hoj',hall⟩:=mem_ready.1 hj
   have:oj'=oj:=Option.some.inj (hoj'.symm.trans hoj)
   subst this
   have hnot:∀ e ∈ oj'.after,Region.binds md e=true ->e.on ≠ i:=fun e he hb heq=>by
    have h1:=hall e he hb
    rw[heq,getD_both hun]at h1
    cases h1
   obtain⟨a1,a2,a3⟩:=Oper.apart_spec (hap j oj' hoj hji hjun hnot)
   have hap':=hap.next hjun
   have hvj:∀ u,rdv P G oi (e.upd oj'.dst u) σ0=some v:=fun u=>by rw[pS (mB a3)];exact hv
   have back:∀ r s,fC P G md ops ms g σ0 L f ((listed.setIfInBounds i true).setIfInBounds j true) ((e.upd oi.dst v).upd oj'.dst r) s ->fC P G md ops ms g σ0 L (f+1) (listed.setIfInBounds j true) (e.upd oj'.dst r) s:=fun r s hn=>by
    refine ih _ _ _ (inv.set hj hjn) hap' (ready_mono hr (Ne.symm hji)) (hvj r) ?_
    rw[Array.setIfInBounds_comm _ _ hji,<- aK.upd_comm v r a2]
    exact hn
   refine⟨oj',hoj,hgj,?_⟩
   rcases hcase with⟨hrj,u,hu,hn⟩|⟨hrj,hmj,hM,hn⟩|⟨hrj,hmj,hn⟩
   ·exact .inl ⟨hrj,u,by rw[<- pS (mB a1)];exact hu,back _ _ hn⟩
   ·exact .inr (.inl ⟨hrj,hmj,fun σ' hl=>gH (mB a1) (hM σ' hl),fun r s hrs=>back _ _ (hn r s hrs)⟩)
   ·exact .inr (.inr ⟨hrj,hmj,eB (fun r s ⟨a,b,c⟩=> ⟨a,b,back r s c⟩) (gH (mB a1) hn)⟩)
theorem A5t {n i:Nat} {oi:Oper} {L:Array Bool ->aK ->AS ->Prop} (hi:ops[i]? =some oi) (hdone:∀ listed e s,L listed e s ->∀ j ∈ Region.ready md ops listed,n <=j)
  (htw:∀ listed,HeadInv md ops n listed ->listed.getD i true=false ->∀ t,n <=t ->t ∉ Region.ready md ops listed) (hrd:gJ oi=false) (hmi:ms.contains i=true) (hg:oi.guard=none):
  ∀ (f:Nat) (listed:Array Bool) (e:aK) (σ:AS),HeadInv md ops n listed ->yA σ ->σ0.le σ ->xZ md ops listed i oi ->
   (∀ j oj,ops[j]? =some oj ->j ≠ i ->j < n ->listed.getD j true=false -> (∀ e ∈ oj.after,Region.binds md e=true ->e.on ≠ i) ->gJ oj=true \/ ms.contains j=true) ->
   i ∈ Region.ready md ops listed -> (∀ σ',σ0.le σ' ->dJ P G oi e σ' ((g i).out σ')) ->
   (∀ r σ',(g i).out σ r σ' ->fC P G md ops ms g σ0 L f (listed.setIfInBounds i true) (e.upd oi.dst r) σ') ->fC P G md ops ms g σ0 L (f+1) listed e σ:=by
 intro f
 induction f with
 | zero=>
  intro listed e σ inv hinf hle _ _ hr hM H
  have hun:=(mem_ready.1 hr).1
  obtain⟨m,hm⟩:=hinf
  have H0:=H _ _ ⟨m,(hm m (Nat.le_refl m)).free,rfl,rfl⟩
  refine⟨fun h=> (by rw[h]at hr;cases hr),fun j hj=> ?_⟩
  by_cases hji:j=i
  ·subst hji;exact⟨oi,hi,hg, .inr (.inl ⟨hrd,hmi,hM,H⟩)⟩
  ·have h1:=hdone _ _ _ H0 j (ready_mono hj hji)
   exact absurd hj (htw listed inv hun j h1)
 | succ f ih=>
  intro listed e σ inv hinf hle hap hbes hr hM H
  have hun:=(mem_ready.1 hr).1
  obtain⟨m,hm⟩:=id hinf
  refine⟨fun h=> (by rw[h]at hr;cases hr),fun j hj=> ?_⟩
  by_cases hji:j=i
  ·subst hji;exact⟨oi,hi,hg, .inr (.inl ⟨hrd,hmi,hM,H⟩)⟩
  ·have hjn:j < n:=by
    rcases Nat.lt_or_ge j n with h|h
    ·exact h
    ·exact absurd hj (htw listed inv hun j h)
   obtain⟨hjun,oj,hoj,hall⟩:=mem_ready.1 hj
   have hnot:∀ e ∈ oj.after,Region.binds md e=true ->e.on ≠ i:=fun e he hb heq=>by
    have h1:=hall e he hb
    rw[heq,getD_both hun]at h1
    cases h1
   obtain⟨a1,a2,a3⟩:=Oper.apart_spec (hap j oj hoj hji hjun hnot)
   have hb0:=hbes j oj hoj hji hjn hjun hnot
   have hap':=hap.next hjun
   have hbes':∀ k ok,ops[k]? =some ok ->k ≠ i ->k < n -> (listed.setIfInBounds j true).getD k true=false -> (∀ e ∈ ok.after,Region.binds md e=true ->e.on ≠ i) ->gJ ok=true \/ ms.contains k=true:=fun k ok hk hki hkn hunk hno=>by
    refine hbes k ok hk hki hkn ?_ hno
    by_cases hjk:j=k
    ·subst hjk;exact hjun
    ·rw[getD_set_ne true hjk]at hunk;exact hunk
   have step:∀ r s,(g i).out σ r s ->oj.guard=none /\ ((gJ oj=true /\ ∃ u,rdv P G oj e σ0=some u /\ fC P G md ops ms g σ0 L f ((listed.setIfInBounds i true).setIfInBounds j true) ((e.upd oi.dst r).upd oj.dst u) s) \/
     (gJ oj=false /\ ms.contains j=true /\ (∀ σ',σ0.le σ' ->dJ P G oj e σ' ((g j).out σ')) /\ ∀ u s',(g j).out s u s' ->fC P G md ops ms g σ0 L f ((listed.setIfInBounds i true).setIfInBounds j true) ((e.upd oi.dst r).upd oj.dst u) s')):=fun r s hrs=>by
    obtain⟨oj2,hoj2,hgj,hcase⟩:=(H r s hrs).2 j (ready_mono hj hji)
    have:oj2=oj:=Option.some.inj (hoj2.symm.trans hoj)
    subst this
    refine⟨hgj,?_⟩
    rcases hcase with⟨h1,u,hu,hn⟩|⟨h1,h2,h3,hn⟩|⟨h1,h2,_⟩
    ·exact .inl ⟨h1,u,by rw[<- pS (mB a1)];exact hu,hn⟩
    ·exact .inr ⟨h1,h2,fun σ' hl=>gH (mB a1) (h3 σ' hl),hn⟩
    ·rcases hb0 with h|h
     ·rw[h1]at h;cases h
     ·rw[h2]at h;cases h
   obtain⟨hgj,hs0⟩:=step _ _ ⟨m,(hm m (Nat.le_refl m)).free,rfl,rfl⟩
   refine⟨oj,hoj,hgj,?_⟩
   rcases hs0 with⟨hrj,u,hu,_⟩|⟨hrj,hmj,hMj,_⟩
   ·refine .inl ⟨hrj,u,hu,ih _ _ _ (inv.set hj hjn) hinf hle hap' hbes' (ready_mono hr (Ne.symm hji)) (fun σ' hl=>gH (fun x hx=> (mB a3 x hx).symm) (hM σ' hl)) fun r s hrs=> ?_⟩
    obtain⟨_,hs⟩:=step r s hrs
    rcases hs with⟨_,u',hu',hn⟩|⟨h1,_⟩
    ·rw[hu]at hu'
     obtain rfl:=Option.some.inj hu'
     rw[Array.setIfInBounds_comm _ _ hji,<- aK.upd_comm r u a2]
     exact hn
    ·rw[hrj]at h1;cases h1
   ·refine .inr (.inl ⟨hrj,hmj,hMj,fun rj sj ⟨c,hc,er,es⟩=> ?_⟩)
    subst er es
    refine ih _ _ _ (inv.set hj hjn) (hinf.setBox c _) (hle.setBox (hle.free hc).1 _) hap' hbes' (ready_mono hr (Ne.symm hji)) (fun σ' hl=>gH (fun x hx=> (mB a3 x hx).symm) (hM σ' hl)) fun r s ⟨b,hb,er,es⟩=> ?_
    subst er es
    obtain⟨hb1,hbc⟩:=qF.1 hb
    obtain⟨_,hs⟩:=step _ _ ⟨b,hb1,rfl,rfl⟩
    rcases hs with⟨h1,_⟩|⟨_,_,_,hn⟩
    ·rw[hrj]at h1;cases h1
    ·have:=hn _ _ ⟨c,qF.2 ⟨hc,Ne.symm hbc⟩,rfl,rfl⟩
     rw[Array.setIfInBounds_comm _ _ hji,<- aK.upd_comm _ _ a2,AS.setBox_comm (Ne.symm hbc)]
     exact this
def wK(md:Region.Mode)(ops:Array Oper)(ms:List Nat)(n:Nat)(listed:Array Bool)(i:Nat):Bool:=
 (List.range n).all fun j=>j==i||listed.getD j true||match ops[j]? with
   |some oj=>oj.after.any (fun e=>Region.binds md e && e.on==i)||gJ oj||ms.contains j
   |none=>true
theorem wM{n i:Nat}{listed:Array Bool}(h:wK md ops ms n listed i=true)(j:Nat)(oj:Oper)(hj:ops[j]? =some oj)(hne:j ≠ i)(hjn:j < n)(hun:listed.getD j true=false)(hno:∀ e ∈ oj.after,Region.binds md e=true ->e.on ≠ i):gJ oj=true \/ ms.contains j=true:=by
 simp only[wK,List.all_eq_true,List.mem_range]at h
 have h1:=h j hjn
 simp only[hj,Bool.or_eq_true,beq_iff_eq,hne,false_or,hun,Bool.false_eq_true]at h1
 rcases h1 with(h1|h1)|h1
 ·obtain⟨e,he,hb⟩:=Array.any_eq_true'.1 h1
  simp only[Bool.and_eq_true,beq_iff_eq]at hb
  exact absurd hb.2 (hno e he hb.1)
 ·exact .inl h1
 ·exact .inr h1
def   A0n(md:Region.Mode)(ops:Array Oper)(ms:List Nat)(n:Nat)(T:Array Bool ->Bool):Nat ->Nat ->Array Bool ->Bool
 |0,k,listed=>T listed
 | f +1,k,listed=> (match ops[k]? with
   | some o=>o.guard.isNone && (if gJ o then(Region.ready md ops listed).contains k && Region.free md ops listed k
     else if ms.contains k then(Region.ready md ops listed).contains k && Region.free md ops listed k && wK md ops ms n listed k
     else decide (Region.ready md ops listed=[k]))
   |none=>false) && A0n md ops ms n T f (k+1) (listed.setIfInBounds k true)
def A2h(P:Program)(G:Nat ->AV)(ms:List Nat)(g:Nat ->Mk)(σ0:AS)(Q:aK ->AS ->Prop):Nat ->List Oper ->aK ->AS ->Prop
 |_,[],e,σ=>Q e σ
 |k,o::rest,e,σ=>A0u P G ms g o k σ0 (A2h P G ms g σ0 Q (k+1) rest) e σ
theorem lR {n:Nat} {T:Array Bool ->Bool} {Lq:aK ->AS ->Prop}
  (hdone:∀ listed,T listed=true ->∀ j ∈ Region.ready md ops listed,n <=j)
  (htw:∀ i,i < n ->∀ listed,HeadInv md ops n listed ->listed.getD i true=false ->∀ t,n <=t ->t ∉ Region.ready md ops listed):
  ∀ (l:List Oper) (k:Nat) (listed:Array Bool) (e:aK) (σ:AS),(∀ j,j < l.length ->l[j]? =ops[k+j]?) ->k+l.length=n ->HeadInv md ops n listed ->yA σ ->σ0.le σ ->
  A0n md ops ms n T l.length k listed=true ->A2h P G ms g σ0 Lq k l e σ ->
  fC P G md ops ms g σ0 (fun listed' e' s'=>T listed'=true /\ Lq e' s') l.length listed e σ
 |[],k,listed,e,σ,_,_,_,_,_,hB,h=> ⟨hB,h⟩
 | o ::l,k,listed,e,σ,hl,hk,inv,hinf,hle,hB,h=>by
  have h0:ops[k]? =some o:=by simpa using(hl 0 (by simp)).symm
  have hl':∀ j,j < l.length ->l[j]? =ops[k+1+j]? :=fun j hj=>by have:=hl (j+1) (by simp;omega);simpa [Nat.add_assoc,Nat.add_comm 1 j] using this
  have hk':k+1+l.length=n:=by simp only[List.length_cons]at hk;omega
  have hkn:k < n:=by omega
  simp only[List.length_cons,A0n,h0,Bool.and_eq_true]at hB
  obtain⟨⟨hg,hA⟩,hB'⟩:=hB
  have hgn:o.guard=none:=by simpa using hg
  rcases h with⟨hrd,v,hv,hn⟩|⟨hrd,hm,hM,hn⟩|⟨hrd,hm,hn⟩
  ·rw[if_pos hrd]at hA
   simp only[Bool.and_eq_true]at hA
   have hr:k ∈ Region.ready md ops listed:=by simpa using hA.1
   exact uM h0 (fun listed' e' s' hL=>hdone listed' hL.1) (htw k hkn) hrd hgn l.length listed e σ inv (Region.free_spec h0 hA.2) hr hv (lR hdone htw l (k+1) _ _ _ hl' hk' (inv.set hr hkn) hinf hle hB' hn)
  ·rw[if_neg (by rw[hrd];simp),if_pos hm]at hA
   simp only[Bool.and_eq_true]at hA
   have hr:k ∈ Region.ready md ops listed:=by simpa using hA.1.1
   exact A5t h0 (fun listed' e' s' hL=>hdone listed' hL.1) (htw k hkn) hrd hm hgn l.length listed e σ inv hinf hle (Region.free_spec h0 hA.1.2) (wM hA.2) hr hM
    (fun r s ⟨b,hb,er,es⟩=>by subst er es;exact lR hdone htw l (k+1) _ _ _ hl' hk' (inv.set hr hkn) (hinf.setBox b _) (hle.setBox (hle.free hb).1 _) hB' (hn _ _ ⟨b,hb,rfl,rfl⟩))
  ·rw[if_neg (by rw[hrd];simp),if_neg (by rw[hm];simp)]at hA
   have hr1:Region.ready md ops listed=[k]:=by simpa using hA
   have hr:k ∈ Region.ready md ops listed:=by rw[hr1];simp
   refine⟨by rw[hr1];simp,fun i hi=> ?_⟩
   rw[hr1]at hi
   have:i=k:=by simpa using hi
   subst this
   exact⟨o,h0,hgn, .inr (.inr ⟨hrd,hm,eB (fun r s ⟨a,b,c⟩=> ⟨a,b,lR hdone htw l (i+1) _ _ _ hl' hk' (inv.set hr hkn) b (hle.trans a) hB' c⟩) hn⟩)⟩
theorem fF {N:Nat} {ds:aJ} {gg:Nat} {L:Array Bool ->aK ->AS ->Prop} {R:Exit ->Act ->World ->Prop} {K0:aJ} (hdst:ops.toList.all (eG N)=true)
  (hL:∀ listed e σ K a w,L listed e σ ->St P G K N ds e σ a w ->K0.le K ->wpAny P md ops R gg listed a w):
  ∀ (f:Nat) (listed:Array Bool) (e:aK) (σ:AS) (K:aJ) (a:Act) (w:World),σ0.le σ ->fC P G md ops ms g σ0 L f listed e σ ->St P G K N ds e σ a w ->K0.le K ->wpAny P md ops R (f+gg) listed a w
 |0,listed,e,σ,K,a,w,_,h,hs,hk=>by rw[Nat.zero_add];exact hL _ _ _ _ _ _ h hs hk
 | f+1,listed,e,σ,K,a,w,hle,h,hs,hk=>by
  rw[show f+1+gg=(f+gg)+1 by omega]
  refine⟨fun h0=>absurd h0 h.1,fun i hi=> ?_⟩
  obtain⟨o,ho,hg,hcase⟩:=h.2 i hi
  have hd:eG N o=true:=by
   have:o ∈ ops.toList:=Array.mem_toList_iff.2 (Array.mem_of_getElem? ho)
   exact List.all_eq_true.1 hdst o this
  have hw:bZ ops.toList e o.guard=some true:=by unfold bZ;rw[hg]
  have hw':=dO hw hs.er
  unfold wpOp
  rw[ho]
  simp only
  rw[if_pos hw']
  rcases hcase with⟨_,v,hv,hn⟩|⟨_,_,hM,hn⟩|⟨_,_,hn⟩
  ·refine .inl ((gI (C0n (Kc:=fun r s=>r=v /\ s=σ) hle hv ⟨rfl,rfl⟩) hs.er hs.rel).wp fun r σ' K' v' w' hq hv' hr hle'=> ?_)
   obtain⟨rfl,rfl⟩:=hq
   exact fF hdst hL f _ _ _ K' _ _ hle hn (hs.put hle' (dP hd) hv' hr) (hk.trans hle')
  ·refine .inl ((gI (hM σ hle) hs.er hs.rel).wp fun r σ' K' v' w' hq hv' hr hle'=> ?_)
   obtain⟨b,hb,er,es⟩:=id hq
   exact fF hdst hL f _ _ _ K' _ _ (by rw[es];exact hle.setBox (hle.free hb).1 _) (hn r σ' hq) (hs.put hle' (dP hd) hv' hr) (hk.trans hle')
  ·refine .inl ((gI hn hs.er hs.rel).wp fun r σ' K' v' w' hq hv' hr hle'=> ?_)
   exact fF hdst hL f _ _ _ K' _ _ (hle.trans hq.1) hq.2.2 (hs.put hle' (dP hd) hv' hr) (hk.trans hle')
end any
theorem mI{P:Program}{G:Nat ->AV}{ms:List Nat}{g:Nat ->Mk}{σ0:AS}{Q Q':aK ->AS ->Prop}(hq:∀ e s,Q e s ->Q' e s):∀ (l:List Oper) (k:Nat) (e:aK) (σ:AS),A2h P G ms g σ0 Q k l e σ ->A2h P G ms g σ0 Q' k l e σ
 |[],_,e,σ,h=>hq _ _ h
 |o::l,k,e,σ,h=>lA (fun r s hh=>mI hq l (k+1) _ _ hh) h
theorem sD{P:Program}{G:Nat ->AV}{ms:List Nat}{g:Nat ->Mk}{σ0:AS}{Q:aK ->AS ->Prop} :∀ (l:List Oper) (k:Nat) (e:aK) (σ:AS),A2h P G ms g σ0 Q k l e σ ->A2h P G ms g σ0 (fun e' s=>Q e' s /\ ∀ t,t ∉ bC l ->e' t=e t) k l e σ
 |[],_,e,σ,h=> ⟨h,fun _ _=>rfl⟩
 | o ::l,k,e,σ,h=>lA (fun r s hh=>mI (fun e2 s2 hh2=> ⟨hh2.1,fun t ht=>by
    obtain⟨g1,g2⟩:=iU ht
    rw[hh2.2 t g1]
    exact aK.upd_other fun x hx hxt=>g2 x hx hxt⟩) l _ _ _ (sD l (k+1) _ _ hh)) h
def C2e(ops:Array Oper)(ms:List Nat)(n:Nat):Bool:=
 if n=ops.size then A0n .any ops ms n (fun listed=> (Region.ready .any ops listed).isEmpty) n 0 (Array.replicate ops.size false)
 else decide (n < ops.size) && Region.sinkB .any ops n && Region.chainB .any ops n && A0n .any ops ms n (fun listed=>Region.seqB .any ops (ops.size - n) n listed) n 0 (Array.replicate ops.size false)
def A9e(P:Program)(G:Nat ->AV)(ops:Array Oper)(Q:aK ->AS ->Prop)(e:aK)(σ:AS):Prop:=
 ∃ ms g n,C2e ops ms n=true /\ (yA σ ->A2h P G ms g σ (fun e' s=>cI P G ops.toList Q (ops.toList.drop n) e' s) 0 (ops.toList.take n) e σ)
theorem A6v {P:Program} {G:Nat ->AV} {N:Nat} {ds:aJ} {ops:Array Oper} {Q:aK ->AS ->Prop} {R:Exit ->Act ->World ->Prop} {e:aK} {σ:AS} {K:aJ} {a:Act} {w:World}
  (hok:ops.toList.all (eG N)=true) (h:A9e P G ops Q e σ)
  (hs:St P G K N ds e σ a w) (hR:∀ e σ K' a w,Q e σ ->St P G K' N ds e σ a w ->K.le K' ->R .normal a w):wpAny P .any ops R ops.size (Array.replicate ops.size false) a {w with drawn:=w.drawn+1} :=by
 obtain⟨ms,g,n,hn,h1⟩:=h
 replace h1:=h1 (oK hs.rel)
 have hs':St P G K N ds e σ a {w with drawn:=w.drawn+1} :=⟨hs.er,hs.rel.drew,hs.size,hs.le,hs.defers⟩
 have inv0:∀ m,HeadInv .any ops m (Array.replicate ops.size false):=fun m=>
  ⟨by simp,fun j oj _ hl=> (by rw[getD_replicate_false]at hl;cases hl),fun t _ ht=>getD_in (by simpa using ht) (getD_replicate_false _ _)⟩
 unfold C2e at hn
 split at hn
 ·rename_i hns
  subst hns
  have htake:ops.toList.take ops.size=ops.toList:=List.take_of_length_le (by simp)
  have hdrop:ops.toList.drop ops.size=[]:=List.drop_eq_nil_of_le (by simp)
  rw[htake,hdrop]at h1
  have hlen:ops.toList.length=ops.size:=by simp
  have hlex:=lR (md:= .any) (n:=ops.size) (T:=fun listed=> (Region.ready .any ops listed).isEmpty)
   (fun listed hT j hj=>by rw[List.isEmpty_iff.1 hT]at hj;cases hj)
   (fun i hi listed inv hun t ht hr=>by
     obtain⟨_,o,ho,_⟩:=mem_ready.1 hr
     have:=(Array.getElem?_eq_some_iff.1 ho).1
     omega)
   ops.toList 0 (Array.replicate ops.size false) e σ (fun j hj=>by simp) (by simp) (inv0 _) (oK hs.rel) (AS.le.refl σ) (by rw[hlen];exact hn) h1
  rw[hlen]at hlex
  have:=fF (gg:=0) (R:=R) (K0:=K) hok (fun listed e' σ' K' a' w' hL hst hk=>by
   refine⟨List.isEmpty_iff.1 hL.1,?_⟩
   exact hR e' σ' K' a' w' hL.2 hst hk) ops.size _ e σ K a _ (AS.le.refl σ) hlex hs' (aJ.le.refl K)
  simpa using this
 ·simp only[Bool.and_eq_true,decide_eq_true_eq]at hn
  obtain⟨⟨⟨hlt,hsink⟩,hchain⟩,hB⟩:=hn
  have htl:(ops.toList.take n).length=n:=by simp;omega
  have hdl:(ops.toList.drop n).length=ops.size - n:=by simp
  have hlex:=lR (md:= .any) (n:=n) (T:=fun listed=>Region.seqB .any ops (ops.size - n) n listed)
   (fun listed hT j hj=>seqB_ready hT j hj)
   (fun i hi listed inv hun t ht=>tail_waits hsink hchain hlt inv _ i rfl hi hun t ht)
   (ops.toList.take n) 0 (Array.replicate ops.size false) e σ (fun j hj=>by
     rw[htl]at hj
     simp[hj]) (by omega) (inv0 _) (oK hs.rel) (AS.le.refl σ) (by rw[htl];exact hB) h1
  rw[htl]at hlex
  have:=fF (gg:=ops.size - n) (R:=R) (K0:=K) hok (fun listed e' σ' K' a' w' hL hst hk=>by
   have hd:(ops.toList.drop n).all (eG N)=true:=List.all_eq_true.2 fun o ho=>List.all_eq_true.1 hok o (List.mem_of_mem_drop ho)
   have hwl:=dV (K0:=K) hR (ops.toList.drop n) e' σ' K' a' w' hd hL.2 hst hk
   have:=wpAny_of_seq (md:= .any) (Q':=R) (ops.toList.drop n) n listed a' w' (fun j=>by simp) (by rw[hdl];exact hL.1) hwl
   rw[hdl]at this
   exact this) n _ e σ K a _ (AS.le.refl σ) hlex hs' (aJ.le.refl K)
  rw[show n+(ops.size - n)=ops.size by omega]at this
  exact this
inductive Pl where
 |done|bad|none
 |more (i:Nat) (t r:Pl)
def sU(md:Region.Mode)(ops:Array Oper):Nat ->Array Bool ->Pl
 |0,listed=>if(Region.ready md ops listed).isEmpty then .done else .bad
 |f+1,listed=>if(Region.ready md ops listed).isEmpty then .bad else(Region.ready md ops listed).foldr (fun i r=> .more i (sU md ops f (listed.setIfInBounds i true)) r) .none
def eV(P:Program)(G:Nat ->AV)(o:Oper)(e:aK)(σ0 σ:AS)(Kc:AV ->AS ->Prop):Prop:=
 match o.op with
 | .store t p x=> (∃ b off z0 z,ev G e p= .ptr b off /\ σ0.box b=Option.none /\ σ.box b=some z0 /\ fG P σ t (.ptr b off) (ev G e x)=some (σ.setBox b z) /\ Kc .undef (σ.setBox b z)) \/
   (nN P σ0 t (ev G e p) (ev G e x) /\ Kc .undef σ)
 |_=>hop P G o e σ0 σ Kc
def oR(P:Program)(G:Nat ->AV)(ops:List Oper)(σ0:AS)(x:Option Oper)(K:aK ->AS ->Prop)(e:aK)(σ:AS):Prop:=
 match x with
 |some o=>∃ b,bZ ops e o.guard=some b /\ (b=true ->eV P G o e σ0 σ fun r s=>K (e.upd o.dst r) s) /\ (b=false ->K (e.upd o.dst (.tup [])) σ)
 |Option.none=>False
def hU(P:Program)(G:Nat ->AV)(ops:List Oper)(σ0:AS)(L:aK ->AS ->Prop):Pl ->aK ->AS ->Prop
 | .done,e,σ=>L e σ
 | .bad,_,_=>False
 | .none,_,_=>True
 | .more i t r,e,σ=>oR P G ops σ0 ops[i]? (fun e' s=>hU P G ops σ0 L t e' s) e σ /\ hU P G ops σ0 L r e σ
section anyQ
variable {P:Program} {G:Nat ->AV} {ops:Array Oper} {σ0:AS} {md:Region.Mode}
def okQ(σ0 σ:AS):jB ->Prop
 | .write b z0 _=>σ0.box b=none /\ σ.box b=some z0
 |_=>True
def C1f(P:Program)(G:Nat ->AV)(ops:Array Oper)(σ0:AS)(i:Nat)(K:aK ->AS ->Prop)(e:aK)(σ:AS):Prop:=
 ∃ o k,ops[i]? =some o /\ rG P G ops σ0 o e k /\ okQ σ0 σ k /\ ∀ r σ',k.out σ r σ' ->K (e.upd o.dst r) σ'
def jI(P:Program)(G:Nat ->AV)(md:Region.Mode)(ops:Array Oper)(σ0:AS)(L:Array Bool ->aK ->AS ->Prop):Nat ->Array Bool ->aK ->AS ->Prop
 |0,listed,e,σ=>L listed e σ
 |f+1,listed,e,σ=>Region.ready md ops listed ≠ [] /\ ∀ i ∈ Region.ready md ops listed,C1f P G ops σ0 i (jI P G md ops σ0 L f (listed.setIfInBounds i true)) e σ
theorem uA {n i:Nat} {oi:Oper} {v:AV} {L:Array Bool ->aK ->AS ->Prop} (hi:ops[i]? =some oi)
  (hdone:∀ listed e s,L listed e s ->∀ j ∈ Region.ready md ops listed,n <=j)
  (htw:∀ listed,HeadInv md ops n listed ->listed.getD i true=false ->∀ t,n <=t ->t ∉ Region.ready md ops listed) (hin:i < n):
  ∀ (f:Nat) (listed:Array Bool) (e:aK) (σ:AS),HeadInv md ops n listed ->
   (∀ j oj,ops[j]? =some oj ->j ≠ i ->listed.getD j true=false -> (∀ e ∈ oj.after,Region.binds md e=true ->e.on ≠ i) ->oi.apart ops oj=true) ->
   i ∈ Region.ready md ops listed ->rG P G ops σ0 oi e (.quiet v) ->
   jI P G md ops σ0 L f (listed.setIfInBounds i true) (e.upd oi.dst v) σ ->jI P G md ops σ0 L (f+1) listed e σ:=by
 intro f
 induction f with
 | zero=>
  intro listed e σ inv _ hr hy H
  have hun:=(mem_ready.1 hr).1
  refine⟨fun h=> (by rw[h]at hr;cases hr),fun j hj=> ?_⟩
  by_cases hji:j=i
  ·subst hji;exact⟨oi,_,hi,hy,trivial,fun r s ⟨h1,h2⟩=>by subst h1 h2;exact H⟩
  ·have h1:=hdone _ _ _ H j (ready_mono hj hji)
   exact absurd hj (htw listed inv hun j h1)
 | succ f ih=>
  intro listed e σ inv hfree hr hy H
  have hun:=(mem_ready.1 hr).1
  refine⟨fun h=> (by rw[h]at hr;cases hr),fun j hj=> ?_⟩
  have hjn:j < n:=by
   rcases Nat.lt_or_ge j n with h|h
   ·exact h
   ·exact absurd hj (htw listed inv hun j h)
  by_cases hji:j=i
  ·subst hji;exact⟨oi,_,hi,hy,trivial,fun r s ⟨h1,h2⟩=>by subst h1 h2;exact H⟩
  ·obtain⟨oj,kj,hoj,hyj,hokj,hnext⟩:=H.2 j (ready_mono hj hji)
   obtain⟨hjun,oj',hoj',hall⟩:=mem_ready.1 hj
   have:oj'=oj:=Option.some.inj (hoj'.symm.trans hoj)
   subst this
   have hnot:∀ e ∈ oj'.after,Region.binds md e=true ->e.on ≠ i:=fun e he hb heq=>by
    have h1:=hall e he hb
    rw[heq,getD_both hun]at h1
    cases h1
   have hap:=hfree j oj' hoj hji hjun hnot
   obtain⟨a1,a2,a3⟩:=Oper.apart_spec hap
   have hfree':∀ k ok,ops[k]? =some ok ->k ≠ i -> (listed.setIfInBounds j true).getD k true=false ->
     (∀ e ∈ ok.after,Region.binds md e=true ->e.on ≠ i) ->oi.apart ops ok=true:=fun k ok hk hki hun hno=>by
    refine hfree k ok hk hki ?_ hno
    by_cases hjk:j=k
    ·subst hjk;exact hjun
    ·rw[getD_set_ne true hjk]at hun;exact hun
   refine⟨oj',kj,hoj,(rG.put a1).1 hyj,hokj,fun r s hrs=> ?_⟩
   refine ih (listed.setIfInBounds j true) _ _ (inv.set hj hjn) hfree' (ready_mono hr (Ne.symm hji)) ((rG.put a3).2 hy) ?_
   rw[Array.setIfInBounds_comm _ _ hji,<- aK.upd_comm v r a2]
   exact hnext r s hrs
def xQ(md:Region.Mode)(ops:Array Oper):Nat ->Nat ->Array Bool ->Bool
 |0,_,_=>true
 | f+1,k,listed=> (match ops[k]? with
   |some o=> !cU o && (Region.ready md ops listed).contains k && Region.free md ops listed k
   |none=>false) && xQ md ops f (k+1) (listed.setIfInBounds k true)
def mD:Nat ->Nat ->Array Bool ->Array Bool
 |0,_,listed=>listed
 |f+1,k,listed=>mD f (k+1) (listed.setIfInBounds k true)
theorem yX {n g:Nat} {L:Array Bool ->aK ->AS ->Prop}
  (hdone:∀ listed e s,L listed e s ->∀ j ∈ Region.ready md ops listed,n <=j)
  (htw:∀ i,i < n ->∀ listed,HeadInv md ops n listed ->listed.getD i true=false ->∀ t,n <=t ->t ∉ Region.ready md ops listed):
  ∀ (l:List Oper) (k:Nat) (listed:Array Bool) (e:aK) (σ:AS),(∀ j,j < l.length ->l[j]? =ops[k+j]?) ->k+l.length <=n ->HeadInv md ops n listed ->
  xQ md ops l.length k listed=true ->bW P G ops.toList σ0 (fun e' s=>jI P G md ops σ0 L g (mD l.length k listed) e' s) l e σ [] ->
  jI P G md ops σ0 L (l.length+g) listed e σ
 |[],k,listed,e,σ,_,_,_,_,h=>by simpa [mD,bW] using h
 | o :: l,k,listed,e,σ,hl,hk,inv,hB,h=>by
  have h0:ops[k]? =some o:=by simpa using(hl 0 (by simp)).symm
  simp only[List.length_cons,xQ,h0,Bool.and_eq_true,Bool.not_eq_true']at hB
  obtain⟨⟨⟨hal,hrc⟩,hfree⟩,hB'⟩:=hB
  have hkn:k < n:=by simp only[List.length_cons]at hk;omega
  have hl':∀ j,j < l.length ->l[j]? =ops[k+1+j]? :=fun j hj=>by have:=hl (j+1) (by simp;omega);simpa [Nat.add_assoc,Nat.add_comm 1 j] using this
  have hk':k+1+l.length <=n:=by simp only[List.length_cons]at hk;omega
  have hr:k ∈ Region.ready md ops listed:=by simpa using hrc
  obtain⟨b,hb,h1,h2⟩:=h
  have hkk:∃ v,rG P G ops σ0 o e (.quiet v) /\ bW P G ops.toList σ0 (fun e' s=>jI P G md ops σ0 L g (mD (l.length+1) k listed) e' s) l (e.upd o.dst v) σ []:=by
   cases b with
   | true=>
    have h3:=h1 rfl
    unfold eE at h3
    split at h3
    ·rename_i t p x hop
     rcases h3 with⟨bb,_,_,_,_,g2,_⟩|h3
     ·cases g2
     ·exact⟨.undef, .inl ⟨hb,fun σ' hl hp Kc hk=>by
       unfold dJ;rw[hop]
       exact⟨σ',mN hl h3.1,hk _ _ ⟨rfl,rfl⟩⟩,fun _=>rfl⟩,h3.2⟩
    ·obtain⟨kd,g1,g2,g3,g4⟩:=sO h3
     obtain⟨v,rfl⟩:=g3 hal
     exact⟨v, .inl ⟨hb,g1,fun _=>rfl⟩,g4 _ _ ⟨rfl,rfl⟩⟩
   |false=>exact⟨.tup [], .inr ⟨hb,rfl⟩,h2 rfl⟩
  obtain⟨v,hy,hn⟩:=hkk
  rw[show(o::l).length+g=(l.length+g)+1 by simp only[List.length_cons];omega]
  exact uA h0 hdone (htw k hkn) hkn (l.length+g) listed e σ inv (Region.free_spec h0 hfree) hr hy (yX hdone htw l (k+1) _ _ _ hl' hk' (inv.set hr hkn) hB' hn)
theorem B5g{i:Nat}{K:aK ->AS ->Prop}{e:aK}{σ:AS}(h:oR P G ops.toList σ0 ops.toList[i]? K e σ):C1f P G ops σ0 i K e σ:=by
 unfold oR at h
 split at h
 ·rename_i o ho
  have ho':ops[i]? =some o:=by simpa using ho
  obtain⟨b,hb,h1,h2⟩:=h
  cases b with
  | true=>
   have h3:=h1 rfl
   unfold eV at h3
   split at h3
   ·rename_i t p x hop
    rcases h3 with⟨bb,off,z0,z,g1,g2,g3,g4,g5⟩|h3
    ·refine⟨o, .write bb z0 z,ho', .inl ⟨hb,fun σ' hl hp Kc hk=> ?_,fun hns=> ?_⟩,⟨g2,g3⟩,fun r s ⟨hr,hs⟩=>by subst hr hs;exact g5⟩
     ·unfold dJ;rw[hop]
      simp only[g1]
      exact⟨_,pI g4 (by rw[g3];exact hp),hk _ _ ⟨rfl,rfl⟩⟩
     ·unfold iF at hns;rw[hop]at hns;cases hns
    ·exact⟨o, .quiet .undef,ho', .inl ⟨hb,fun σ' hl hp Kc hk=>by
       unfold dJ;rw[hop]
       exact⟨σ',mN hl h3.1,hk _ _ ⟨rfl,rfl⟩⟩,fun _=>rfl⟩,trivial,fun r s ⟨hr,hs⟩=>by subst hr hs;exact h3.2⟩
   ·obtain⟨kd,g1,g2,g3,g4⟩:=sO h3
    refine⟨o,kd,ho', .inl ⟨hb,g1,fun _=>g2⟩,?_,fun r s hrs=>g4 r s hrs⟩
    cases kd with
    |write=>cases g2
    |_=>trivial
  |false=>exact⟨o, .quiet (.tup []),ho', .inr ⟨hb,rfl⟩,trivial,fun r s ⟨hr,hs⟩=>by subst hr hs;exact h2 rfl⟩
 ·exact h.elim
theorem A8m{i:Nat}{K K':aK ->AS ->Prop}{e:aK}{σ:AS}(hk:∀ e s,K e s ->K' e s)(h:C1f P G ops σ0 i K e σ):C1f P G ops σ0 i K' e σ:=by
 obtain⟨o,k,h1,h2,h3,h4⟩:=h
 exact⟨o,k,h1,h2,h3,fun r s hrs=>hk _ _ (h4 r s hrs)⟩
theorem A0j{Lq:aK ->AS ->Prop} :∀ (f:Nat) (listed:Array Bool) (e:aK) (σ:AS),hU P G ops.toList σ0 Lq (sU md ops f listed) e σ ->jI P G md ops σ0 (fun listed e s=>Region.ready md ops listed=[] /\ Lq e s) f listed e σ
 | 0,listed,e,σ,h=>by
  unfold sU at h
  split at h
  ·rename_i hr;exact⟨List.isEmpty_iff.1 hr,h⟩
  ·exact h.elim
 | f +1,listed,e,σ,h=>by
  unfold sU at h
  split at h
  ·exact h.elim
  ·rename_i hr
   refine⟨fun h0=>hr (by rw[h0];rfl),fun i hi=> ?_⟩
   have key:∀ (l:List Nat),hU P G ops.toList σ0 Lq (l.foldr (fun i r=> .more i (sU md ops f (listed.setIfInBounds i true)) r) .none) e σ ->∀ i,i ∈ l ->oR P G ops.toList σ0 ops.toList[i]? (fun e' s=>hU P G ops.toList σ0 Lq (sU md ops f (listed.setIfInBounds i true)) e' s) e σ:=by
    intro l
    induction l with
    |nil=>intro _ i hi;cases hi
    | cons a l ih=>
     intro hh i hi
     obtain⟨g1,g2⟩:=hh
     rcases List.mem_cons.1 hi with rfl|hi
     ·exact g1
     ·exact ih g2 i hi
   exact A8m (fun e' s hh=>A0j f _ e' s hh) (B5g (key _ h i hi))
theorem mZ {N:Nat} {ds:aJ} {L:Array Bool ->aK ->AS ->Prop} {R:Exit ->Act ->World ->Prop} {K0:aJ} (hdst:ops.toList.all (eG N)=true)
  (hL:∀ listed e σ K a w,L listed e σ ->St P G K N ds e σ a w ->K0.le K ->wpAny P md ops R 0 listed a w):
  ∀ (f:Nat) (listed:Array Bool) (e:aK) (σ:AS) (K:aJ) (a:Act) (w:World),σ0.le σ ->jI P G md ops σ0 L f listed e σ ->St P G K N ds e σ a w ->K0.le K ->wpAny P md ops R f listed a w
 |0,listed,e,σ,K,a,w,_,h,hs,hk=>hL _ _ _ _ _ _ h hs hk
 | f+1,listed,e,σ,K,a,w,hle,h,hs,hk=>by
  refine⟨fun h0=>absurd h0 h.1,fun i hi=> ?_⟩
  obtain⟨o,k,ho,hy,hok,hn⟩:=h.2 i hi
  have hpre:k.pre σ:=by
   cases k with
   |write b z0 z=>exact hok.2
   |_=>trivial
  have hout:∀ r σ',k.out σ r σ' ->σ0.le σ':=fun r σ' hrs=>by
   cases k with
   |quiet v=>rw[hrs.2];exact hle
   |alloc z=>obtain⟨b,hb,_,hs'⟩:=hrs;rw[hs'];exact hle.setBox (hle.fresh hb).1 z
   |write b z0 z=>rw[hrs.2];exact hle.setBox hok.1 z
  have hd:eG N o=true:=by
   have:o ∈ ops.toList:=Array.mem_toList_iff.2 (Array.mem_of_getElem? ho)
   exact List.all_eq_true.1 hdst o this
  unfold wpOp
  rw[ho]
  simp only
  rcases hy with⟨hw,hdo,_⟩|⟨hw,rfl⟩
  ·have hw':=dO hw hs.er
   rw[if_pos hw']
   refine .inl ((gI (hdo σ hle hpre (fun r s=>k.out σ r s) (fun r s h=>h)) hs.er hs.rel).wp fun r σ' K' v w' hq hv hr hle'=> ?_)
   exact mZ hdst hL f _ _ _ K' _ _ (hout _ _ hq) (hn r σ' hq) (hs.put hle' (dP hd) hv hr) (hk.trans hle')
  ·have hw':=dO hw hs.er
   rw[if_neg (by rw[hw'];simp)]
   exact mZ hdst hL f _ _ _ K _ _ hle (hn _ _ ⟨rfl,rfl⟩) (hs.put (aJ.le.refl K) (dP hd) VR.skipped hs.rel) hk
end anyQ
def B4k(ops:Array Oper)(m:Nat):Bool:=decide (m <=ops.size) && xQ .any ops m 0 (Array.replicate ops.size false)
def C5r(ops:Array Oper)(m:Nat):Pl:=sU .any ops (ops.size - m) (mD m 0 (Array.replicate ops.size false))
def A9g(P:Program)(G:Nat ->AV)(ops:Array Oper)(Q:aK ->AS ->Prop)(e:aK)(σ:AS):Prop:=
 ∃ m p,B4k ops m=true /\ C5r ops m=p /\ bW P G ops.toList σ (fun e' s=>hU P G ops.toList σ Q p e' s) (ops.toList.take m) e σ []
theorem A6x {P:Program} {G:Nat ->AV} {N:Nat} {ds:aJ} {ops:Array Oper} {Q:aK ->AS ->Prop} {R:Exit ->Act ->World ->Prop} {e:aK} {σ:AS} {K:aJ} {a:Act} {w:World}
  (hok:ops.toList.all (eG N)=true) (h:A9g P G ops Q e σ)
  (hs:St P G K N ds e σ a w) (hR:∀ e σ K' a w,Q e σ ->St P G K' N ds e σ a w ->K.le K' ->R .normal a w):wpAny P .any ops R ops.size (Array.replicate ops.size false) a {w with drawn:=w.drawn+1} :=by
 obtain⟨m,p,hm,hp,h1⟩:=h
 subst hp
 have hs':St P G K N ds e σ a {w with drawn:=w.drawn+1} :=⟨hs.er,hs.rel.drew,hs.size,hs.le,hs.defers⟩
 have inv0:HeadInv .any ops ops.size (Array.replicate ops.size false):=
  ⟨by simp,fun j oj _ hl=> (by rw[getD_replicate_false]at hl;cases hl),fun t _ ht=>getD_in (by simpa using ht) (getD_replicate_false _ _)⟩
 unfold B4k at hm
 simp only[Bool.and_eq_true,decide_eq_true_eq]at hm
 have htl:(ops.toList.take m).length=m:=by simp;omega
 have hlex:=yX (P:=P) (G:=G) (σ0:=σ) (md:= .any) (n:=ops.size) (g:=ops.size - m) (L:=fun listed e s=>Region.ready .any ops listed=[] /\ Q e s)
  (fun listed e s hL j hj=>by rw[hL.1]at hj;cases hj)
  (fun i hi listed inv hun t ht hr=>by
    obtain⟨_,o,ho,_⟩:=mem_ready.1 hr
    have:=(Array.getElem?_eq_some_iff.1 ho).1
    omega)
  (ops.toList.take m) 0 (Array.replicate ops.size false) e σ (fun j hj=>by rw[htl]at hj;simp[hj]) (by omega) inv0 (by rw[htl];exact hm.2)
  (dH (fun e' s hh=>by rw[htl];exact A0j _ _ e' s hh) _ _ _ _ h1)
 rw[htl]at hlex
 have:=mZ (R:=R) (K0:=K) hok (fun listed e' σ' K' a' w' hL hst hk=> ⟨hL.1,hR e' σ' K' a' w' hL.2 hst hk⟩) (m+(ops.size - m)) _ e σ K a _ (AS.le.refl σ) hlex hs' (aJ.le.refl K)
 rw[show m+(ops.size - m)=ops.size by omega]at this
 exact this
theorem A7h{P:Program}{G:Nat ->AV}{o:Oper}{e:aK}{σ0 σ:AS}{K K':AV ->AS ->Prop}(hk:∀ r s,K r s ->K' r s)(h:eV P G o e σ0 σ K):eV P G o e σ0 σ K':=by
 unfold eV at h ⊢
 split at h
 ·rcases h with⟨b,off,z0,z,g1,g2,g3,g4,g5⟩|h
  ·exact .inl ⟨b,off,z0,z,g1,g2,g3,g4,hk _ _ g5⟩
  ·exact .inr ⟨h.1,hk _ _ h.2⟩
 ·exact oJ hk h
theorem tA{P:Program}{G:Nat ->AV}{ops:List Oper}{σ0:AS}{x:Option Oper}{K K':aK ->AS ->Prop}{e:aK}{σ:AS}(hk:∀ o,x=some o ->∀ r s,K (e.upd o.dst r) s ->K' (e.upd o.dst r) s)(h:oR P G ops σ0 x K e σ):oR P G ops σ0 x K' e σ:=by
 unfold oR at h ⊢
 split at h
 ·obtain⟨b,hb,h1,h2⟩:=h
  exact⟨b,hb,fun x=>A7h (fun r s hh=>hk _ rfl _ _ hh) (h1 x),fun x=>hk _ rfl _ _ (h2 x)⟩
 ·exact h.elim
theorem iN{P:Program}{G:Nat ->AV}{ops:List Oper}{σ0:AS}{L L':aK ->AS ->Prop}(hL:∀ e s,L e s ->L' e s):∀ (p:Pl) (e:aK) (σ:AS),hU P G ops σ0 L p e σ ->hU P G ops σ0 L' p e σ
 | .done,e,σ,h=>hL _ _ h
 | .bad,_,_,h=>h
 | .none,_,_,_=>trivial
 | .more i t r,e,σ,⟨h1,h2⟩=> ⟨tA (fun o _ x s hh=>iN hL t _ _ hh) h1,iN hL r _ _ h2⟩
theorem lS{P:Program}{G:Nat ->AV}{ops:List Oper}{σ0:AS}{L:aK ->AS ->Prop} :∀ (p:Pl) (e:aK) (σ:AS),hU P G ops σ0 L p e σ ->hU P G ops σ0 (fun e' s=>L e' s /\ ∀ t,t ∉ bC ops ->e' t=e t) p e σ
 | .done,e,σ,h=> ⟨h,fun _ _=>rfl⟩
 | .bad,_,_,h=>h
 | .none,_,_,_=>trivial
 | .more i t r,e,σ,⟨h1,h2⟩=> ⟨tA (fun o ho x s hh=>iN (fun e2 s2 hh2=> ⟨hh2.1,fun u hu=>by
    rw[hh2.2 u hu]
    refine aK.upd_other fun y hy hyu=>hu ?_
    exact List.mem_filterMap.2 ⟨o,List.mem_of_getElem? ho,by rw[hy,hyu]⟩⟩) t _ _ (lS t _ _ hh)) h1,lS r e σ h2⟩
def mk0:Nat ->Mk:=fun _=> ⟨fun _=> .undef,[]⟩
def uB(P:Program)(G:Nat ->AV)(ops:Array Oper)(σ0:AS)(Q:aK ->AS ->Prop):List Nat ->aK ->AS ->Prop
 |[],e,σ=>Q e σ
 | k::p,e,σ=>match ops[k]? with
  |some o=>A0u P G [] mk0 o k σ0 (uB P G ops σ0 Q p) e σ
  |none=>False
def   A0o(md:Region.Mode)(ops:Array Oper)(n:Nat)(T:Array Bool ->Bool):List Nat ->Array Bool ->Bool
 |[],listed=>T listed
 | k ::p,listed=>decide (k < n) && (match ops[k]? with
   | some o=>o.guard.isNone && (if gJ o then(Region.ready md ops listed).contains k && Region.free md ops listed k
     else decide (Region.ready md ops listed=[k]))
   |none=>false) && A0o md ops n T p (listed.setIfInBounds k true)
section
variable {P:Program} {G:Nat ->AV} {ops:Array Oper} {σ0:AS} {md:Region.Mode}
theorem nZ {n:Nat} {T:Array Bool ->Bool} {Lq:aK ->AS ->Prop}
  (hdone:∀ listed,T listed=true ->∀ j ∈ Region.ready md ops listed,n <=j)
  (htw:∀ i,i < n ->∀ listed,HeadInv md ops n listed ->listed.getD i true=false ->∀ t,n <=t ->t ∉ Region.ready md ops listed):
  ∀ (p:List Nat) (listed:Array Bool) (e:aK) (σ:AS),HeadInv md ops n listed ->yA σ ->σ0.le σ ->
  A0o md ops n T p listed=true ->uB P G ops σ0 Lq p e σ ->
  fC P G md ops [] mk0 σ0 (fun listed' e' s'=>T listed'=true /\ Lq e' s') p.length listed e σ
 |[],listed,e,σ,_,_,_,hB,h=> ⟨hB,h⟩
 | k::p,listed,e,σ,inv,hinf,hle,hB,h=>by
  unfold uB at h
  simp only[A0o,Bool.and_eq_true,decide_eq_true_eq]at hB
  obtain⟨⟨hkn,hA⟩,hB'⟩:=hB
  split at h
  case h_2=>exact h.elim
  rename_i o h0
  simp only[h0,Bool.and_eq_true]at hA
  obtain⟨hg,hA⟩:=hA
  have hgn:o.guard=none:=by simpa using hg
  rcases h with⟨hrd,v,hv,hn⟩|⟨_,hm,_⟩|⟨hrd,hm,hn⟩
  ·rw[if_pos hrd]at hA
   simp only[Bool.and_eq_true]at hA
   have hr:k ∈ Region.ready md ops listed:=by simpa using hA.1
   exact uM h0 (fun listed' e' s' hL=>hdone listed' hL.1) (htw k hkn) hrd hgn p.length listed e σ inv (Region.free_spec h0 hA.2) hr hv (nZ hdone htw p _ _ _ (inv.set hr hkn) hinf hle hB' hn)
  ·simp at hm
  ·rw[if_neg (by rw[hrd];simp)]at hA
   have hr1:Region.ready md ops listed=[k]:=by simpa using hA
   have hr:k ∈ Region.ready md ops listed:=by rw[hr1];simp
   refine⟨by rw[hr1];simp,fun i hi=> ?_⟩
   rw[hr1]at hi
   have:i=k:=by simpa using hi
   subst this
   exact⟨o,h0,hgn, .inr (.inr ⟨hrd,hm,eB (fun r s ⟨a,b,c⟩=> ⟨a,b,nZ hdone htw p _ _ _ (inv.set hr hkn) b (hle.trans a) hB' c⟩) hn⟩)⟩
end
theorem mJ{P:Program}{G:Nat ->AV}{ops:Array Oper}{σ0:AS}{Q Q':aK ->AS ->Prop}(hq:∀ e s,Q e s ->Q' e s):∀ (p:List Nat) (e:aK) (σ:AS),uB P G ops σ0 Q p e σ ->uB P G ops σ0 Q' p e σ
 |[],e,σ,h=>hq _ _ h
 | k::p,e,σ,h=>by
  unfold uB at h ⊢
  split
  ·rename_i o h0
   rw[h0]at h
   exact lA (fun r s hh=>mJ hq p _ _ hh) h
  ·rename_i h0
   rw[h0]at h
   exact h
theorem sE{P:Program}{G:Nat ->AV}{ops:Array Oper}{σ0:AS}{Q:aK ->AS ->Prop} :∀ (p:List Nat) (e:aK) (σ:AS),uB P G ops σ0 Q p e σ ->uB P G ops σ0 (fun e' s=>Q e' s /\ ∀ t,t ∉ bC ops.toList ->e' t=e t) p e σ
 |[],e,σ,h=> ⟨h,fun _ _=>rfl⟩
 | k ::p,e,σ,h=>by
  unfold uB at h ⊢
  split
  ·rename_i o h0
   rw[h0]at h
   exact lA (fun r s hh=>mJ (fun e2 s2 hh2=> ⟨hh2.1,fun u hu=>by
    rw[hh2.2 u hu]
    refine aK.upd_other fun y hy hyu=>hu ?_
    exact List.mem_filterMap.2 ⟨o,Array.mem_toList_iff.2 (Array.mem_of_getElem? h0),by rw[hy,hyu]⟩⟩) p _ _ (sE p _ _ hh)) h
  ·rename_i h0
   rw[h0]at h
   exact h.elim
def B4u(ops:Array Oper)(n:Nat)(p:List Nat):Bool:=
 decide (p.length=n) && (if n=ops.size then A0o .any ops n (fun listed=> (Region.ready .any ops listed).isEmpty) p (Array.replicate ops.size false)
 else decide (n < ops.size) && Region.sinkB .any ops n && Region.chainB .any ops n && A0o .any ops n (fun listed=>Region.seqB .any ops (ops.size - n) n listed) p (Array.replicate ops.size false))
def A9f(P:Program)(G:Nat ->AV)(ops:Array Oper)(Q:aK ->AS ->Prop)(e:aK)(σ:AS):Prop:=
 ∃ n p,B4u ops n p=true /\ (yA σ ->uB P G ops σ (fun e' s=>cI P G ops.toList Q (ops.toList.drop n) e' s) p e σ)
theorem A6w {P:Program} {G:Nat ->AV} {N:Nat} {ds:aJ} {ops:Array Oper} {Q:aK ->AS ->Prop} {R:Exit ->Act ->World ->Prop} {e:aK} {σ:AS} {K:aJ} {a:Act} {w:World}
  (hok:ops.toList.all (eG N)=true) (h:A9f P G ops Q e σ)
  (hs:St P G K N ds e σ a w) (hR:∀ e σ K' a w,Q e σ ->St P G K' N ds e σ a w ->K.le K' ->R .normal a w):wpAny P .any ops R ops.size (Array.replicate ops.size false) a {w with drawn:=w.drawn+1} :=by
 obtain⟨n,p,hn,h1⟩:=h
 replace h1:=h1 (oK hs.rel)
 have hs':St P G K N ds e σ a {w with drawn:=w.drawn+1} :=⟨hs.er,hs.rel.drew,hs.size,hs.le,hs.defers⟩
 have inv0:∀ m,HeadInv .any ops m (Array.replicate ops.size false):=fun m=>
  ⟨by simp,fun j oj _ hl=> (by rw[getD_replicate_false]at hl;cases hl),fun t _ ht=>getD_in (by simpa using ht) (getD_replicate_false _ _)⟩
 unfold B4u at hn
 simp only[Bool.and_eq_true,decide_eq_true_eq]at hn
 obtain⟨hpl,hn⟩:=hn
 split at hn
 ·rename_i hns
  subst hns
  have hdrop:ops.toList.drop ops.size=[]:=List.drop_eq_nil_of_le (by simp)
  rw[hdrop]at h1
  have hlex:=nZ (md:= .any) (n:=ops.size) (T:=fun listed=> (Region.ready .any ops listed).isEmpty)
   (fun listed hT j hj=>by rw[List.isEmpty_iff.1 hT]at hj;cases hj)
   (fun i hi listed inv hun t ht hr=>by
     obtain⟨_,o,ho,_⟩:=mem_ready.1 hr
     have:=(Array.getElem?_eq_some_iff.1 ho).1
     omega)
   p (Array.replicate ops.size false) e σ (inv0 _) (oK hs.rel) (AS.le.refl σ) hn h1
  rw[hpl]at hlex
  have:=fF (gg:=0) (R:=R) (K0:=K) hok (fun listed e' σ' K' a' w' hL hst hk=>by
   refine⟨List.isEmpty_iff.1 hL.1,?_⟩
   exact hR e' σ' K' a' w' hL.2 hst hk) ops.size _ e σ K a _ (AS.le.refl σ) hlex hs' (aJ.le.refl K)
  simpa using this
 ·simp only[Bool.and_eq_true,decide_eq_true_eq]at hn
  obtain⟨⟨⟨hlt,hsink⟩,hchain⟩,hB⟩:=hn
  have hdl:(ops.toList.drop n).length=ops.size - n:=by simp
  have hlex:=nZ (md:= .any) (n:=n) (T:=fun listed=>Region.seqB .any ops (ops.size - n) n listed)
   (fun listed hT j hj=>seqB_ready hT j hj)
   (fun i hi listed inv hun t ht=>tail_waits hsink hchain hlt inv _ i rfl hi hun t ht)
   p (Array.replicate ops.size false) e σ (inv0 _) (oK hs.rel) (AS.le.refl σ) hB h1
  rw[hpl]at hlex
  have:=fF (gg:=ops.size - n) (R:=R) (K0:=K) hok (fun listed e' σ' K' a' w' hL hst hk=>by
   have hd:(ops.toList.drop n).all (eG N)=true:=List.all_eq_true.2 fun o ho=>List.all_eq_true.1 hok o (List.mem_of_mem_drop ho)
   have hwl:=dV (K0:=K) hR (ops.toList.drop n) e' σ' K' a' w' hd hL.2 hst hk
   have:=wpAny_of_seq (md:= .any) (Q':=R) (ops.toList.drop n) n listed a' w' (fun j=>by simp) (by rw[hdl];exact hL.1) hwl
   rw[hdl]at this
   exact this) n _ e σ K a _ (AS.le.refl σ) hlex hs' (aJ.le.refl K)
  rw[show n+(ops.size - n)=ops.size by omega]at this
  exact this
def A4f(D:Nat ->Bool)(k:Nat):Nat ->Bool:=fun j=>if j=k then true else D j
def oS(o:Oper):List Nat:=(o.after.toList.filter fun e=>Region.binds .any e).map fun e=>e.on
def A4z(P:Program)(G:Nat ->AV)(I:(Nat ->Bool) ->aK ->AS ->Prop)(k:Nat)(o:Oper):Prop:=
 ∀ D e σ,D k=false -> (∀ j,j ∈ oS o ->D j=true) ->I D e σ ->dJ P G o e σ (fun r s=>I (A4f D k) (e.upd o.dst r) s)
def mE(P:Program)(G:Nat ->AV)(I:(Nat ->Bool) ->aK ->AS ->Prop):Nat ->List Oper ->Prop
 |_,[]=>True
 |k,o::r=>A4z P G I k o /\ mE P G I (k+1) r
def A2p(ops:Array Oper)(n:Nat):Array Bool:=((List.range ops.size).map fun j=>decide (j < n)).toArray
def A0m(ops:Array Oper)(n:Nat):Bool:=
 decide (n <=ops.size) && (List.range n).all (fun i=>match ops[i]? with|some o=>o.guard.isNone && (oS o).all (fun j=>decide (j < i))|none=>false) &&
  (decide (n=ops.size)||(decide (n < ops.size) && Region.sinkB .any ops n && Region.chainB .any ops n)) && Region.seqB .any ops (ops.size - n) n (A2p ops n)
def A9d(P:Program)(G:Nat ->AV)(ops:Array Oper)(Q:aK ->AS ->Prop)(e:aK)(σ:AS):Prop:=
 ∃ (n:Nat) (I:(Nat ->Bool) ->aK ->AS ->Prop),A0m ops n=true /\ (yA σ ->I (fun _=>false) e σ) /\ mE P G I 0 (ops.toList.take n) /\
  ∀ D e σ,(∀ j,j < n ->D j=true) ->I D e σ ->cI P G ops.toList Q (ops.toList.drop n) e σ
theorem tB{P:Program}{G:Nat ->AV}{I:(Nat ->Bool) ->aK ->AS ->Prop} :∀ (l:List Oper) (k i:Nat) (o:Oper),mE P G I k l ->l[i]? =some o ->A4z P G I (k+i) o
 |[],_,_,_,_,h=>by simp at h
 |o'::r,k,0,o,h,hi=>by simp at hi;subst hi;exact h.1
 | o'::r,k,i+1,o,h,hi=>by
  have:=tB r (k+1) i o h.2 (by simpa using hi)
  rwa [show k+1+i=k+(i+1)by omega]at this
theorem qL{P:Program}{G:Nat ->AV}{I I':(Nat ->Bool) ->aK ->AS ->Prop} :∀ (l:List Oper) (k:Nat),(∀ i o,l[i]? =some o ->A4z P G I (k+i) o ->A4z P G I' (k+i) o) ->mE P G I k l ->mE P G I' k l
 |[],_,_,_=>trivial
 | o::r,k,hm,h=> ⟨hm 0 o rfl h.1,qL r (k+1) (fun i o' hi hs=>by
   rw[show k+1+i=k+(i+1)by omega]at hs ⊢
   exact hm (i+1) o' (by simpa using hi) hs) h.2⟩
theorem B3k{L:List Nat}(h:L ≠ []):∃ m,m ∈ L /\ ∀ j,j ∈ L ->m <=j:=by
 induction L with
 |nil=>exact absurd rfl h
 | cons a r ih=>
  by_cases hr:r=[]
  ·subst hr;exact⟨a,by simp,fun j hj=>by simp at hj;omega⟩
  ·obtain⟨m,hm,hl⟩:=ih hr
   by_cases ha:a <=m
   ·exact⟨a,by simp,fun j hj=>by
     rcases List.mem_cons.1 hj with rfl|hj
     ·exact Nat.le_refl _
     ·exact Nat.le_trans ha (hl j hj)⟩
   ·exact⟨m,List.mem_cons_of_mem _ hm,fun j hj=>by
     rcases List.mem_cons.1 hj with rfl|hj
     ·omega
     ·exact hl j hj⟩
theorem rU {P:Program} {G:Nat ->AV} {N:Nat} {ds:aJ} {ops:Array Oper} {n gg:Nat} {I:(Nat ->Bool) ->aK ->AS ->Prop} {R:Exit ->Act ->World ->Prop} {K0:aJ}
  (hdst:ops.toList.all (eG N)=true) (hst:mE P G I 0 (ops.toList.take n))
  (hback:∀ i,i < n ->∃ o,ops[i]? =some o /\ o.guard=none /\ ∀ j,j ∈ oS o ->j < i)
  (htl:∀ listed,HeadInv .any ops n listed ->∀ i,i < n ->listed.getD i true=false ->∀ t,n <=t ->t ∉ Region.ready .any ops listed)
  (hL:∀ listed e σ K a w,HeadInv .any ops n listed -> (∀ j,j < n ->listed.getD j false=true) ->I (fun j=>listed.getD j false) e σ ->St P G K N ds e σ a w ->K0.le K ->wpAny P .any ops R gg listed a w):
  ∀ (f:Nat) (L:List Nat) (listed:Array Bool) (e:aK) (σ:AS) (K:aJ) (a:Act) (w:World),L.length=f ->L.Nodup -> (∀ j,j ∈ L ↔ j < n /\ listed.getD j false=false) ->HeadInv .any ops n listed ->I (fun j=>listed.getD j false) e σ ->St P G K N ds e σ a w ->K0.le K ->wpAny P .any ops R (f+gg) listed a w
 | 0,L,listed,e,σ,K,a,w,hlen,hnd,hmem,inv,hI,hs,hk=>by
  rw[Nat.zero_add]
  have:L=[]:=List.eq_nil_of_length_eq_zero hlen
  subst this
  refine hL _ _ _ _ _ _ inv (fun j hj=> ?_) hI hs hk
  cases hd:listed.getD j false with
  |true=>rfl
  |false=>exact absurd ((hmem j).2 ⟨hj,hd⟩) (by simp)
 | f +1,L,listed,e,σ,K,a,w,hlen,hnd,hmem,inv,hI,hs,hk=>by
  rw[show f+1+gg=(f+gg)+1 by omega]
  have hne:L ≠ []:=fun h=>by rw[h]at hlen;cases hlen
  have hsz:∀ i o,ops[i]? =some o ->i < listed.size:=fun i o ho=>by
   rw[inv.size];exact(Array.getElem?_eq_some_iff.1 ho).1
  obtain⟨m,hm,hmin⟩:=B3k hne
  have hmm:=(hmem m).1 hm
  obtain⟨om,hom,_,hwm⟩:=hback m hmm.1
  have hmr:m ∈ Region.ready .any ops listed:=mem_ready.2 ⟨getD_in (hsz m om hom) hmm.2,om,hom,fun ed hed hb=>by
   have hj:=hwm ed.on (List.mem_map.2 ⟨ed,List.mem_filter.2 ⟨by simpa using hed,hb⟩,rfl⟩)
   cases hd:listed.getD ed.on false with
   |true=>rfl
   | false=>
    have h1:=hmin _ ((hmem ed.on).2 ⟨by omega,hd⟩)
    omega⟩
  refine⟨fun h0=>absurd h0 (List.ne_nil_of_mem hmr),fun i hi=> ?_⟩
  have hin:i < n:=by
   by_cases h:i < n
   ·exact h
   ·exact absurd hi (htl listed inv m hmm.1 (getD_in (hsz m om hom) hmm.2) i (by omega))
  obtain⟨hdi,o,ho,hw⟩:=mem_ready.1 hi
  obtain⟨o',ho',hg,_⟩:=hback i hin
  rw[ho]at ho'
  simp only[Option.some.injEq]at ho'
  subst ho'
  have hdi':listed.getD i false=false:=by
   have hlt:=hsz i o ho
   simp[hlt]at hdi ⊢
   exact hdi
  have hstep:=tB _ 0 i o hst (by rw[List.getElem?_take_of_lt hin];simpa using ho)
  rw[Nat.zero_add]at hstep
  have hn:=hstep (fun j=>listed.getD j false) e σ hdi' (fun j hj=>by
   obtain⟨ed,hed,rfl⟩:=List.mem_map.1 hj
   obtain⟨h1,h2⟩:=List.mem_filter.1 hed
   exact hw ed (by simpa using h1) h2) hI
  have hd:eG N o=true:=by
   have:o ∈ ops.toList:=Array.mem_toList_iff.2 (Array.mem_of_getElem? ho)
   exact List.all_eq_true.1 hdst o this
  have hwt:bZ ops.toList e o.guard=some true:=by unfold bZ;rw[hg]
  have hw':=dO hwt hs.er
  have hup:(fun j=> (listed.setIfInBounds i true).getD j false)=A4f (fun j=>listed.getD j false) i:=by
   funext j
   unfold A4f
   by_cases hj:j=i
   ·subst hj
    have hlt:=hsz j o ho
    simp[hlt]
   ·rw[if_neg hj,getD_set_ne false (fun h=>hj h.symm)]
  unfold wpOp
  rw[ho]
  simp only
  rw[if_pos hw']
  refine .inl ((gI hn hs.er hs.rel).wp fun r σ' K' v' w' hq hv' hr hle'=> ?_)
  have hiL:i ∈ L:=(hmem i).2 ⟨hin,hdi'⟩
  refine rU hdst hst hback htl hL f (L.erase i) _ _ _ K' _ _ (by rw[List.length_erase_of_mem hiL];omega) (hnd.erase i) (fun j=> ?_) (inv.set hi hin) (by rw[hup];exact hq) (hs.put hle' (dP hd) hv' hr) (hk.trans hle')
  rw[hnd.mem_erase_iff,hmem j]
  by_cases hj:j=i
  ·subst hj
   have hlt:=hsz j o ho
   simp[hlt]
  ·rw[getD_set_ne false (fun h=>hj h.symm)]
   simp[hj]
theorem A6u {P:Program} {G:Nat ->AV} {N:Nat} {ds:aJ} {ops:Array Oper} {Q:aK ->AS ->Prop} {R:Exit ->Act ->World ->Prop} {e:aK} {σ:AS} {K:aJ} {a:Act} {w:World}
  (hok:ops.toList.all (eG N)=true) (h:A9d P G ops Q e σ)
  (hs:St P G K N ds e σ a w) (hR:∀ e σ K' a w,Q e σ ->St P G K' N ds e σ a w ->K.le K' ->R .normal a w):wpAny P .any ops R ops.size (Array.replicate ops.size false) a {w with drawn:=w.drawn+1} :=by
 obtain⟨n,I,hn,hI0,hst,hQ⟩:=h
 have hs':St P G K N ds e σ a {w with drawn:=w.drawn+1} :=⟨hs.er,hs.rel.drew,hs.size,hs.le,hs.defers⟩
 have inv0:HeadInv .any ops n (Array.replicate ops.size false):=
  ⟨by simp,fun j oj _ hl=> (by rw[getD_replicate_false]at hl;cases hl),fun t _ ht=>getD_in (by simpa using ht) (getD_replicate_false _ _)⟩
 unfold A0m at hn
 simp only[Bool.and_eq_true,Bool.or_eq_true,decide_eq_true_eq,List.all_eq_true,List.mem_range]at hn
 obtain⟨⟨⟨hns,hback⟩,htl⟩,hseq⟩:=hn
 have hdl:(ops.toList.drop n).length=ops.size - n:=by simp
 have hres:=rU (gg:=ops.size - n) (R:=R) (K0:=K) hok hst (fun i hi=>by
   have:=hback i hi
   split at this
   case h_2=>cases this
   rename_i o ho
   simp only[Bool.and_eq_true,List.all_eq_true,decide_eq_true_eq]at this
   exact⟨o,ho,by simpa using this.1,this.2⟩)
  (fun listed inv i hi hun t ht hr=>by
    rcases htl with htl|⟨⟨htl,hsink⟩,hchain⟩
    ·obtain⟨_,o,ho,_⟩:=mem_ready.1 hr
     have:=(Array.getElem?_eq_some_iff.1 ho).1
     omega
    ·exact tail_waits hsink hchain htl inv _ i rfl hi hun t ht hr)
  (fun listed e' σ' K' a' w' inv hall hI hst' hk=>by
    have hld:listed=A2p ops n:=by
     unfold A2p
     refine Array.ext (by rw[inv.size];simp) fun i h1 h2=> ?_
     have hlt:i < ops.size:=by rw[<- inv.size];exact h1
     simp only[List.getElem_toArray,List.getElem_map,List.getElem_range]
     by_cases hin:i < n
     ·have:=hall i hin
      simp[h1]at this
      rw[this];simp[hin]
     ·have:=inv.tail i (by omega) hlt
      simp[h1]at this
      rw[this];simp[hin]
    have hd:(ops.toList.drop n).all (eG N)=true:=List.all_eq_true.2 fun o ho=>List.all_eq_true.1 hok o (List.mem_of_mem_drop ho)
    have hwl:=dV (K0:=K) hR (ops.toList.drop n) e' σ' K' a' w' hd (hQ _ _ _ hall hI) hst' hk
    have:=wpAny_of_seq (md:= .any) (Q':=R) (ops.toList.drop n) n listed a' w' (fun j=>by simp) (by rw[hdl,hld];exact hseq) hwl
    rw[hdl]at this
    exact this)
  n (List.range n) (Array.replicate ops.size false) e σ K a _ (by simp) (List.nodup_range) (fun j=>by rw[getD_replicate_false];simp) inv0 (by
   have:=hI0 (oK hs.rel)
   rw[show(fun j=> (Array.replicate ops.size false).getD j false)=fun _=>false from funext fun j=>getD_replicate_false _ _]
   exact this) hs' (aJ.le.refl K)
 rw[show n+(ops.size - n)=ops.size by omega]at hres
 exact hres
def eM(P:Program)(G:Nat ->AV)(ops:Array Oper)(Q:aK ->AS ->Prop)(e:aK)(σ:AS):Prop:=
 A9c P G ops Q e σ \/ A9e P G ops Q e σ \/ A9g P G ops Q e σ \/ A9f P G ops Q e σ \/ A9d P G ops Q e σ
theorem B0v{P:Program}{G:Nat ->AV}(hm:P.follows .mixedOrders=true):rD P G (eM P G) where
 mono ops Q Q' e σ hq h:=by
  rcases h with h|⟨ms,g,n,h1,h2⟩|⟨m,p,h1,h2,h3⟩|⟨n,p,h1,h2⟩|⟨n,I,h1,h2,h3,h4⟩
  ·exact .inl ((wR hm).mono ops Q Q' e σ hq h)
  ·exact .inr (.inl ⟨ms,g,n,h1,fun hi=>mI (fun e s hh=>cT _ hq _ _ hh) _ _ _ _ (h2 hi)⟩)
  ·exact .inr (.inr (.inl ⟨m,p,h1,h2,dH (fun e s hh=>iN hq _ _ _ hh) _ _ _ _ h3⟩))
  ·exact .inr (.inr (.inr (.inl ⟨n,p,h1,fun hi=>mJ (fun e s hh=>cT _ hq _ _ hh) _ _ _ (h2 hi)⟩)))
  ·exact .inr (.inr (.inr (.inr ⟨n,I,h1,h2,h3,fun D e s hD hI=>cT _ hq _ _ (h4 D e s hD hI)⟩)))
 frame ops Q e σ h:=by
  have hsp:∀ n,bC ops.toList=bC (ops.toList.take n)++bC (ops.toList.drop n):=fun n=>by rw[<- kD,List.take_append_drop]
  rcases h with h|⟨ms,g,n,h1,h2⟩|⟨m,p,h1,h2,h3⟩|⟨n,p,h1,h2⟩|⟨n,I,h1,h2,h3,h4⟩
  ·exact .inl ((wR hm).frame ops Q e σ h)
  ·refine .inr (.inl ⟨ms,g,n,h1,fun hi=>mI (fun e' s hh=> ?_) _ _ _ _ (sD _ _ _ _ (h2 hi))⟩)
   obtain⟨g1,g2⟩:=hh
   refine cT _ (fun e2 s2 hh2=> ⟨hh2.1,fun t ht=> ?_⟩) _ _ (eT _ _ _ g1)
   rw[hsp n,List.mem_append,not_or]at ht
   rw[hh2.2 t ht.2,g2 t ht.1]
  ·refine .inr (.inr (.inl ⟨m,p,h1,h2,dH (fun e' s hh=> ?_) _ _ _ _ (iM _ _ _ _ h3)⟩))
   obtain⟨g1,g2⟩:=hh
   refine iN (fun e2 s2 hh2=> ⟨hh2.1,fun t ht=> ?_⟩) _ _ _ (lS _ _ _ g1)
   rw[hh2.2 t ht]
   rw[hsp m,List.mem_append,not_or]at ht
   exact g2 t ht.1
  ·refine .inr (.inr (.inr (.inl ⟨n,p,h1,fun hi=>mJ (fun e' s hh=> ?_) _ _ _ (sE _ _ _ (h2 hi))⟩)))
   obtain⟨g1,g2⟩:=hh
   refine cT _ (fun e2 s2 hh2=> ⟨hh2.1,fun t ht=> ?_⟩) _ _ (eT _ _ _ g1)
   have ht':=ht
   rw[hsp n,List.mem_append,not_or]at ht
   rw[hh2.2 t ht.2,g2 t ht']
  ·refine .inr (.inr (.inr (.inr ⟨n,fun D e' s=>I D e' s /\ ∀ t,t ∉ bC ops.toList ->e' t=e t,h1,fun hi=> ⟨h2 hi,fun _ _=>rfl⟩,qL _ 0 (fun i o ho hs=> ?_) h3,fun D e' s hD hI=> ?_⟩)))
   ·intro D e' s hk hw hI
    refine eB (fun r s' hh=> ⟨hh,fun t ht=> ?_⟩) (hs D e' s hk hw hI.1)
    rw[<- hI.2 t ht]
    refine aK.upd_other fun y hy hyt=>ht ?_
    have:o ∈ ops.toList:=List.mem_of_mem_take (List.mem_of_getElem? ho)
    exact List.mem_filterMap.2 ⟨o,this,by rw[hy,hyt]⟩
   ·refine cT _ (fun e2 s2 hh2=> ⟨hh2.1,fun t ht=> ?_⟩) _ _ (eT _ _ _ (h4 D e' s hD hI.1))
    have ht':=ht
    rw[hsp n,List.mem_append,not_or]at ht
    rw[hh2.2 t ht.2,hI.2 t ht']
 sound N ds id ops Q R e σ K a w hok h hs hR:=by
  rcases h with h|h|h|h|h
  ·exact(wR hm).sound N ds id ops Q R e σ K a w hok h hs hR
  ·exact A6v (R:=dZ R) hok h hs (fun e σ K' a w hq hst hk=> ⟨rfl,hR e σ K' a w hq hst hk⟩)
  ·exact A6x (R:=dZ R) hok h hs (fun e σ K' a w hq hst hk=> ⟨rfl,hR e σ K' a w hq hst hk⟩)
  ·exact A6w (R:=dZ R) hok h hs (fun e σ K' a w hq hst hk=> ⟨rfl,hR e σ K' a w hq hst hk⟩)
  ·exact A6u (R:=dZ R) hok h hs (fun e σ K' a w hq hst hk=> ⟨rfl,hR e σ K' a w hq hst hk⟩)
end Go.Av
