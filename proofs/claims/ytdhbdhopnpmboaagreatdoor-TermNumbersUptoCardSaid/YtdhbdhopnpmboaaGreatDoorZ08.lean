/- What is of use for trees in memory of their own: the kit's copies of terms; an answer in memory of its own, asked of what may be written. -/
import Derived.Test.YtdhbdhopnpmboaaGreatDoorZ07
import Derived.Test.YtdhbdhopnpmboaaGreatDoorZ06
set_option linter.unusedVariables false
set_option linter.unusedSimpArgs false
set_option maxRecDepth 20000
set_option linter.defProp false
namespace Go.Proofs.YtdhbdhopnpmboaaGreatDoor
open Go Go.Av
section
def mW:=And.intro (And.intro (And.intro (And.intro @jD @iZ) (And.intro @jJ (And.intro @eG @jE))) (And.intro (And.intro @dL @eN) (And.intro @dV (And.intro @eD @aS)))) (And.intro (And.intro (And.intro @aN @aU) (And.intro @bW (And.intro @aQ @aM))) (And.intro (And.intro @aZ (And.intro @cH @bB)) (And.intro @aA.flat_enc (And.intro @aA.isv_enc @aA.fold_enc))))
variable (G:Nat ->AV)
theorem gU{σ σ':AS}(h:σ.le σ'){b:Nat}(hb:σ'.box b=none):σ.box b=none:=by
 cases e:σ.box b with
 |none=>rfl
 |some z=>rw[h.box _ _ e]at hb;cases hb
theorem iL{σ σ':AS}(h:σ.le σ'){b:Nat}(hb:σ'.tip b=none):σ.tip b=none:=by
 cases e:σ.tip b with
 |none=>rfl
 |some z=>rw[h.tip _ _ e]at hb;cases hb
theorem vR{n:Nat}{E:TypeId}{σ0 σ:AS}{v:AV}{l:List AV}(h:fP n E σ0 σ v l):Av.one v=true /\ flat v=[v] /\ isv v=true:=by cases h <;>exact⟨rfl,rfl,rfl⟩
theorem F1m:dU Tryz.prog 23=some (47,1,4):=dL.2.2.2.2.2.2
theorem F1l:el Tryz.prog 23=some 47:=dL.2.2.2.1
theorem B4y(l:List UInt32)(hl:l.length <=1000000000):aB Tryz.prog G 110 [bD l] (bD l):=by
 refine aB.of_le fun σ=> ?_
 refine aJ.of_awp mixed Tryz.func110 rfl (by kernel_rfl) (by kernel_rfl) (by simp[Tryz.ntmps110]) Tryz.results110 ?_
 repeat'(first|refine xs ?_ ?_ <;>intros|(refine wn ?_;intro bx hbx;try simp only[fb]at hbx)|(refine iH (ys:=l.map bC) (kL.nil (AS.le.refl σ)) F1m (bJ F1l) yM (by simp;omega) (fun v3 σ3 hB4 hx4=> ?_))|refine wj ?_|simp -dsimp only[↓bp,bq,br,seval,mW, *]|refine wz ?_|fail)
 all_goals exact aL (by simpa [bD] using hB4.told) hB4.le
theorem yV(l:List aA)(hl:l.length <=1000000000)(hf:∀ x,x ∈ l ->aB Tryz.prog G 66 [x.enc] x.enc):aB Tryz.prog G 111 [aH l] (aH l):=by
 refine aB.of_le fun σ=> ?_
 refine aJ.of_awp mixed Tryz.func111 rfl (by kernel_rfl) (by kernel_rfl) (by simp[Tryz.ntmps111]) Tryz.results111 ?_
 simp -dsimp only[↓bp,bq,br,seval,mW]
 refine aI (fun n e σ'=>∃ i:Nat,i <=(l).length /\ n=(l).length - i /\ e 4= .int .i64 i /\ ∃ v,e 3=v /\ kL 7 σ σ' v ((l.take i).map aA.enc)) (l).length
   ⟨0,by omega,by omega,by simp -dsimp only[↓bp,bq,br,seval,mW];first|done|rfl,⟨.nil,by first|(simp -dsimp only[↓bp,bq,br,seval,mW];done)|(simp -dsimp only[↓bp,bq,br,seval,mW];try rfl), .nil (AS.le.refl σ)⟩⟩ ?_
 rintro n v σ' ⟨i,hi,rfl,h4,⟨v3,h3,hB⟩⟩
 simp -dsimp only[↓bp,bq,br,seval,mW]at h4 h3
 simp -dsimp only[↓bp,bq,br,seval,mW,h4,h3]
 refine cG (fun hlt=> ?_) (fun hge=> ?_)
 ·obtain⟨k,hk⟩:∃ k,l[i]? =some k:=⟨_,List.getElem?_eq_getElem (by omega)⟩
  have hp:=hf k (List.mem_of_getElem? hk)
  have hil:i < l.length:=(List.getElem?_eq_some_iff.1 hk).1
  have hlen:(l.take i).length=i:=by rw[List.length_take];omega
  clear hi hlt hf
  repeat'(first|refine xs ?_ ?_ <;>intros|(refine wn ?_;intro bx hbx;try simp only[fb]at hbx)|refine wp hp ?_|(refine eK tW (aA.isv_enc k) (by rw[k.flat_enc];rfl) (by omega) ?_)|(refine iH (ys:=[k.enc]) (hB.newBox (by first|assumption|(simp only[*];done)) _) tW (bJ tfE) (fun a ha=>by simp at ha;subst ha;rw[k.flat_enc];rfl) (by simp;omega) (fun v3 σ3 hB4 hx4=> ?_))|refine wj ?_|simp -dsimp only[↓bp,bq,br,seval,mW, *]|refine wz ?_|fail)
  all_goals exact⟨l.length - (i+1),by omega,i+1,by omega,rfl,by rw[aC (by omega) (by omega)];rfl,by rw[aW _ _ _ hk,List.map_append];exact hB4⟩
 ·have:i=l.length:=by omega
  subst this
  rw[List.take_length]at hB
  clear hi hge hf
  repeat'(first|refine xs ?_ ?_ <;>intros|(refine wn ?_;intro bx hbx;try simp only[fb]at hbx)|refine wj ?_|simp -dsimp only[↓bp,bq,br,seval,mW, *]|refine wz ?_|fail)
  exact aL hB.told hB.le
theorem B9x(t:aA):t.bulk <=1000000000 ->aB Tryz.prog G 66 [t.enc] t.enc:=by
 refine aA.ind (P:=fun t=>t.bulk <=1000000000 ->aB Tryz.prog G 66 [t.enc] t.enc) (fun t ih1 ih2 hb=> ?_) t
 have h1:=yV G t.items (by have:=cA t;omega) (fun x hx=>ih1 x hx (by have:=dJ hx;omega))
 have h2:=yV G t.tail (by have:=dD t;omega) (fun x hx=>ih2 x hx (by have:=dK hx;omega))
 have h3:=B4y G t.limbs (by have:=cQ t;omega)
 clear ih1 ih2 hb
 intro σ
 refine aJ.of_awp mixed Tryz.func66 rfl (by kernel_rfl) (by kernel_rfl) (by simp[Tryz.ntmps66]) Tryz.results66 ?_
 repeat'(first|refine xs ?_ ?_ <;>intros|(refine wn ?_;intro bx hbx;try simp only[fb]at hbx)|refine wp h1 ?_|refine wp h2 ?_|refine wp h3 ?_|refine wj ?_|simp -dsimp only[↓bp,bq,br,seval,mW, *]|refine wz ?_|fail)
 all_goals skip
theorem aO{σ:AS}{b c:Nat}{x z:List AV}(h:σ.box c=some z)(hne:c ≠ b):(σ.setBox b x).box c=some z:=by simp only[AS.setBox,if_neg hne];exact h
theorem A6h{σ:AS}{b c:Nat}{x:List AV}(h:(σ.setBox b x).box c=none):c ≠ b /\ σ.box c=none:=by
 have h':(if c=b then some x else σ.box c)=none:=h
 by_cases e:c=b
 ·rw[if_pos e]at h';cases h'
 ·rw[if_neg e]at h';exact⟨e,h'⟩
theorem B5a {P:Program} {f:FuncId} {args args':List AV} {σ:AS} {Q Q':AV ->AS ->Prop} (h:aJ P G f args' σ.shut Q) (hl:eW G σ args args')
  (hc:∀ r s,Q r s -> (∀ b cs,s.box b=some cs ->σ.box b=none /\ σ.tip b=none) ->∃ S:Nat ->Bool,D9k S r=true /\ (∀ b,S b=true ->∃ cs,s.box b=some cs /\ ∀ c,c ∈ cs ->zB S c=true) /\ Q' r (σ.join S s)):aJ P G f args σ Q':=by
 refine⟨h.1,fun K w vals hr hvl=> ?_⟩
 refine(h.2 (K.lent σ w) w vals hr.lent (hl.vrl hr hvl)).mono ?_
 rintro e w' ⟨u,r,s,K',he,hQ,h1,h2,h3⟩
 have hbase:K'.base=w.heap.size:=h3.base
 obtain⟨S,hS1,hS2,hS3⟩:=hc r s hQ (fun b cs hb=>by
  have h4:=(h2.box b cs hb).1
  rw[hbase]at h4
  have h5:=hr.fresh h4
  exact⟨h5.1,h5.2.1⟩)
 have hj:=hr.join h2 h3 S hS2
 refine⟨u,r,_,_,he,hS3,?_,hj,bO.le_join hr⟩
 refine D9l hS1 (fun b x hSb hx=> ?_) h1
 obtain⟨cs,hc',_⟩:=hS2 b hSb
 have h4:=(h2.box b cs hc').1
 rw[hbase]at h4
 simp only[bO.join]
 rw[if_neg (by omega)];exact hx
theorem C2j {P:Program} {n bZ:Nat} {σ0 σ:AS} {t e:TypeId} {k k':IntKind} {zz:List AV} (c:Nat) {c':Int} (hc:c'=c) {K:AV ->AS ->Prop} {d:Dum σ} {d':Dum K} (he:dU P t=some (e,n,bZ)) (hz:(el P t).bind (zc P)=some zz) (hb:c*bZ <=140737488355328) (hle:σ0.le σ)
  (hK:∀ v σ',fP n e σ0 σ' v [] ->K v σ'):B5c P σ t (.int k 0) (.int k' c') K d d':=by
 subst hc
 refine .inr ?_
 unfold uJ
 rw[he,hz]
 refine⟨by omega,by omega,by rw[<- Int.natCast_mul];omega,fun b hf=> ?_⟩
 have h0:σ0.box b=none:=by
  cases e:σ0.box b with
  |none=>rfl
  |some cs=>have:=hle.box _ _ e;rw[hf.1]at this;cases this
 have h1:σ0.tip b=none:=by
  cases e:σ0.tip b with
  |none=>rfl
  |some cs=>have:=hle.tip _ _ e;rw[hf.2.1]at this;cases this
 exact hK _ _ (.row b [] (hle.setBox h0 _) h0 h1 AS.set_get (fun a ha=>by simp at ha))
end
set_option maxRecDepth 20000
section
def D3c:Bool ->List AV
 |true=>dS
 |false=> []
def B6g:Bool ->List AV
 |true=>eO.flatMap flat
 |false=> []
def mZ(σ:AS)(m:Bool)(l:List UInt32)(v:AV)(S:List Nat):Prop:=(m=false /\ l=[] /\ v= .nil /\ S=[]) \/ ∃ b rest,v= .bs b l.length 1 47 /\ S=[b] /\ σ.box b=some (l.map bC++rest) /\ rest=D3c m
mutual
def cW(σ:AS)(m:Bool):aA ->AV ->List Nat ->Prop
 | .mk k g l s n ks ts,v,S=>∃ vl vk vt Sl Sk St,v= .agg [.int .u8 k.toNat, .bool g,vl, .str s, .int .i64 n,vk,vt] /\ S=Sl++(Sk++St) /\ mZ σ m l vl Sl /\
  ((m=false /\ ks=[] /\ vk= .nil /\ Sk=[]) \/ ∃ b cs rest S',vk= .bs b ks.length 7 26 /\ Sk=b::S' /\ σ.box b=some (cs++rest) /\ rest=B6g m /\ cF σ m ks cs S') /\
  ((m=false /\ ts=[] /\ vt= .nil /\ St=[]) \/ ∃ b cs rest S',vt= .bs b ts.length 7 26 /\ St=b::S' /\ σ.box b=some (cs++rest) /\ rest=B6g m /\ cF σ m ts cs S')
def cF(σ:AS)(m:Bool):List aA ->List AV ->List Nat ->Prop
 |[],cs,S=>cs=[] /\ S=[]
 |t::r,cs,S=>∃ v c' S1 S2,cs=flat v++c' /\ S=S1++S2 /\ cW σ m t v S1 /\ cF σ m r c' S2
end
def iB(σ:AS)(m:Bool)(ks:List aA)(v:AV)(S:List Nat):Prop:=(m=false /\ ks=[] /\ v= .nil /\ S=[]) \/ ∃ b cs rest S',v= .bs b ks.length 7 26 /\ S=b::S' /\ σ.box b=some (cs++rest) /\ rest=B6g m /\ cF σ m ks cs S'
theorem bX(σ:AS)(m:Bool)(t:aA)(v:AV)(S:List Nat):cW σ m t v S ↔ ∃ vl vk vt Sl Sk St,v= .agg [.int .u8 t.knd, .bool t.neg,vl, .str t.text, .int .i64 t.num,vk,vt] /\ S=Sl++(Sk++St) /\ mZ σ m t.limbs vl Sl /\ iB σ m t.items vk Sk /\ iB σ m t.tail vt St:=by
 cases t
 simp only[cW,iB,aA.knd,aA.kind,aA.neg,aA.limbs,aA.text,aA.num,aA.items,aA.tail]
theorem mZ.keep{σ σ':AS}{m:Bool}{l:List UInt32}{v:AV}{S:List Nat}(h:mZ σ m l v S)(hk:∀ b,b ∈ S ->σ'.box b=σ.box b):mZ σ' m l v S:=by
 rcases h with h|⟨b,rest,rfl,rfl,hb,hm⟩
 ·exact .inl h
 ·exact .inr ⟨b,rest,rfl,rfl,by rw[hk b (by simp)];exact hb,hm⟩
theorem pX{σ σ':AS}{m:Bool} :∀ (l:List aA) (cs:List AV) (S:List Nat),(∀ t,t ∈ l ->∀ v S,cW σ m t v S -> (∀ b,b ∈ S ->σ'.box b=σ.box b) ->cW σ' m t v S) ->cF σ m l cs S -> (∀ b,b ∈ S ->σ'.box b=σ.box b) ->cF σ' m l cs S
 |[],_,_,_,h,_=>by simpa only[cF] using h
 | t::r,cs,S,hP,h,hk=>by
  simp only[cF]at h ⊢
  obtain⟨v,c',S1,S2,rfl,rfl,h1,h2⟩:=h
  exact⟨v,c',S1,S2,rfl,rfl,hP t List.mem_cons_self v S1 h1 (fun b hb=>hk b (List.mem_append_left _ hb)),pX r c' S2 (fun t ht=>hP t (List.mem_cons_of_mem _ ht)) h2 (fun b hb=>hk b (List.mem_append_right _ hb))⟩
theorem aK{σ σ':AS}{m:Bool}(t:aA):∀ (v:AV) (S:List Nat),cW σ m t v S -> (∀ b,b ∈ S ->σ'.box b=σ.box b) ->cW σ' m t v S:=by
 refine aA.ind (P:=fun t=>∀ (v:AV) (S:List Nat),cW σ m t v S -> (∀ b,b ∈ S ->σ'.box b=σ.box b) ->cW σ' m t v S) (fun t ih1 ih2=> ?_) t
 intro v S h hk
 rw[bX]at h ⊢
 obtain⟨vl,vk,vt,Sl,Sk,St,rfl,rfl,h1,h2,h3⟩:=h
 refine⟨vl,vk,vt,Sl,Sk,St,rfl,rfl,h1.keep fun b hb=>hk b (by simp[hb]),?_,?_⟩
 ·rcases h2 with h2|⟨b,cs,rest,S',rfl,rfl,hb,hm,hc⟩
  ·exact .inl h2
  ·exact .inr ⟨b,cs,rest,S',rfl,rfl,by rw[hk b (by simp)];exact hb,hm,pX t.items cs S' ih1 hc fun c hc'=>hk c (by simp[hc'])⟩
 ·rcases h3 with h3|⟨b,cs,rest,S',rfl,rfl,hb,hm,hc⟩
  ·exact .inl h3
  ·exact .inr ⟨b,cs,rest,S',rfl,rfl,by rw[hk b (by simp)];exact hb,hm,pX t.tail cs S' ih2 hc fun c hc'=>hk c (by simp[hc'])⟩
theorem cF.keep{σ σ':AS}{m:Bool}{l:List aA}{cs:List AV}{S:List Nat}(h:cF σ m l cs S)(hk:∀ b,b ∈ S ->σ'.box b=σ.box b):cF σ' m l cs S:=pX l cs S (fun t _=>aK t) h hk
theorem iB.keep{σ σ':AS}{m:Bool}{l:List aA}{v:AV}{S:List Nat}(h:iB σ m l v S)(hk:∀ b,b ∈ S ->σ'.box b=σ.box b):iB σ' m l v S:=by
 rcases h with h|⟨b,cs,rest,S',rfl,rfl,hb,hm,hc⟩
 ·exact .inl h
 ·exact .inr ⟨b,cs,rest,S',rfl,rfl,by rw[hk b (by simp)];exact hb,hm,hc.keep fun c hc'=>hk c (by simp[hc'])⟩
theorem mZ.one{σ:AS}{m:Bool}{l:List UInt32}{v:AV}{S:List Nat}(h:mZ σ m l v S):Av.one v=true /\ flat v=[v] /\ isv v=true:=by
 rcases h with⟨_,_,rfl,_⟩|⟨b,rest,rfl,_⟩ <;>exact⟨rfl,rfl,rfl⟩
theorem iB.one{σ:AS}{m:Bool}{l:List aA}{v:AV}{S:List Nat}(h:iB σ m l v S):Av.one v=true /\ flat v=[v] /\ isv v=true:=by
 rcases h with⟨_,_,rfl,_⟩|⟨b,cs,rest,S',rfl,_⟩ <;>exact⟨rfl,rfl,rfl⟩
theorem kW{σ:AS}{m:Bool}{t:aA}{v:AV}{S:List Nat}(h:cW σ m t v S):(flat v).length=7 /\ isv v=true /\ ∀ c,c ∈ flat v ->Av.one c=true:=by
 rw[bX]at h
 obtain⟨vl,vk,vt,Sl,Sk,St,rfl,rfl,h1,h2,h3⟩:=h
 refine⟨rfl,rfl,fun c hc=> ?_⟩
 simp only[flat,List.mem_cons,List.not_mem_nil,or_false]at hc
 rcases hc with rfl|rfl|rfl|rfl|rfl|rfl|rfl
 ·rfl
 ·rfl
 ·exact h1.one.1
 ·rfl
 ·rfl
 ·exact h2.one.1
 ·exact h3.one.1
theorem A9m{σ:AS}{m:Bool} :∀ (l:List aA) (cs:List AV) (S:List Nat),cF σ m l cs S ->cs.length=l.length*7
 |[],cs,S,h=>by simp only[cF]at h;rw[h.1];rfl
 | t::r,cs,S,h=>by
  simp only[cF]at h
  obtain⟨v,c',S1,S2,rfl,rfl,h1,h2⟩:=h
  rw[List.length_append,(kW h1).1,A9m r c' S2 h2,List.length_cons,Nat.succ_mul];omega
section
variable {G:Nat ->AV}
theorem rT(l:List UInt32):(l.map bC).flatMap flat=l.map bC:=by
 induction l with
 |nil=>rfl
 |cons x l ih=>rw[List.map_cons,List.flatMap_cons,bB,ih];rfl
theorem mZ.lend{σ:AS}{m:Bool}{l:List UInt32}{v:AV}{S:List Nat}(h:mZ σ m l v S):eI G σ v (bD l):=by
 rcases h with⟨_,rfl,rfl,_⟩|⟨b,rest,rfl,_,hb,_⟩
 ·exact eI.le (eI.id _) Le.nil
 ·have hf:=rT l
  have h:=eI.row (G:=G) (σ:=σ) (b:=b) (s:=1) (E:=47) (cs:=l.map bC++rest) (ds:=l.map bC) hb (by rw[List.take_left' rfl];exact eW.ids _) (by simp) (xs:=l.map bC) (sp:=[]) (by rw[List.append_nil];exact hf) (by omega) (fun e h=>by
   rw[List.append_nil]at h
   obtain⟨x,_,rfl⟩:=List.mem_map.1 h
   exact⟨rfl,rfl,fun c hc=>by rw[bB]at hc;simp at hc;subst hc;rfl⟩)
  rw[List.length_map]at h
  exact h
theorem uY{σ:AS}{m:Bool} :∀ (l:List aA) (cs:List AV) (S:List Nat),(∀ t,t ∈ l ->∀ v S,cW σ m t v S ->eW G σ (flat v) (flat t.enc)) ->cF σ m l cs S ->eW G σ cs ((l.map aA.enc).flatMap flat)
 |[],cs,S,_,h=>by simp only[cF]at h;rw[h.1];exact .nil
 | t::r,cs,S,hP,h=>by
  simp only[cF]at h
  obtain⟨v,c',S1,S2,rfl,rfl,h1,h2⟩:=h
  rw[List.map_cons,List.flatMap_cons]
  exact(hP t List.mem_cons_self v S1 h1).append (uY r c' S2 (fun t ht=>hP t (List.mem_cons_of_mem _ ht)) h2)
theorem A0s{σ:AS}{m:Bool}(l:List aA)(hP:∀ t,t ∈ l ->∀ v S,cW σ m t v S ->eW G σ (flat v) (flat t.enc))(v:AV)(S:List Nat)(h:iB σ m l v S):eI G σ v (aH l):=by
 rcases h with⟨_,rfl,rfl,_⟩|⟨b,cs,rest,S',rfl,_,hb,_,hc⟩
 ·exact eI.le (eI.id _) Le.nil
 ·have hL:=uY (G:=G) l cs S' hP hc
  have hl:=hL.length
  have h:=eI.row (G:=G) (σ:=σ) (b:=b) (s:=7) (E:=26) (cs:=cs++rest) (ds:=(l.map aA.enc).flatMap flat) hb (by rw[List.take_left' hl];exact hL) (by rw[List.length_append];omega) (xs:=l.map aA.enc) (sp:=[]) (by rw[List.append_nil]) (by omega) (fun e h=>by
   rw[List.append_nil]at h
   obtain⟨x,_,rfl⟩:=List.mem_map.1 h
   exact⟨by rw[x.flat_enc];rfl,x.isv_enc,ones x⟩)
  rw[List.length_map]at h
  exact h
theorem xK{σ:AS}{m:Bool}(t:aA):∀ (v:AV) (S:List Nat),cW σ m t v S ->eW G σ (flat v) (flat t.enc):=by
 refine aA.ind (P:=fun t=>∀ (v:AV) (S:List Nat),cW σ m t v S ->eW G σ (flat v) (flat t.enc)) (fun t ih1 ih2=> ?_) t
 intro v S h
 rw[bX]at h
 obtain⟨vl,vk,vt,Sl,Sk,St,rfl,rfl,h1,h2,h3⟩:=h
 rw[t.flat_enc]
 exact .cons (eI.id _) (.cons (eI.id _) (.cons h1.lend (.cons (eI.id _) (.cons (eI.id _) (.cons (A0s t.items ih1 vk Sk h2) (.cons (A0s t.tail ih2 vt St h3) .nil))))))
theorem dT{σ:AS}{m:Bool}{t:aA}{v:AV}{S:List Nat}(h:cW σ m t v S):eI G σ v t.enc:=by
 have hl:=xK (G:=G) t v S h
 rw[bX]at h
 obtain⟨vl,vk,vt,Sl,Sk,St,rfl,rfl,h1,h2,h3⟩:=h
 rw[<- aA.fold_enc]
 rw[t.flat_enc]at hl
 exact eI.agg hl (fun c hc=>by simp at hc;rcases hc with rfl|rfl|rfl|rfl|rfl|rfl|rfl <;>rfl)
theorem E4l(l:List UInt32)(e:AV)(h:e ∈ l.map bC++dS):(flat e).length=1 /\ isv e=true /\ ∀ c,c ∈ flat e ->Av.one c=true:=by
 rcases List.mem_append.1 h with h|h
 ·obtain⟨x,_,rfl⟩:=List.mem_map.1 h
  exact⟨rfl,rfl,fun c hc=>by rw[bB]at hc;simp at hc;subst hc;rfl⟩
 ·obtain⟨x,_,rfl⟩:=List.mem_map.1 h
  exact⟨rfl,rfl,fun c hc=>by simp[flat,lmk,bC]at hc;subst hc;rfl⟩
theorem mZ.lent{σ:AS}{l:List UInt32}{v:AV}{S:List Nat}(h:mZ σ true l v S):eI G σ v (iM l):=by
 rcases h with⟨h,_⟩|⟨b,rest,rfl,_,hb,hm⟩
 ·cases h
 ·obtain rfl:=hm
  replace hb:σ.box b=some (l.map bC++dS):=hb
  have hf:(l.map bC++dS).flatMap flat=l.map bC++dS:=by
   rw[List.flatMap_append,rT]
   congr 1
  have h:=eI.row (G:=G) (σ:=σ) (b:=b) (s:=1) (E:=47) (cs:=l.map bC++dS) (ds:=l.map bC++dS) hb (by rw[List.take_length];exact eW.ids _) (Nat.le_refl _) (xs:=l.map bC) (sp:=dS) hf (by omega) (fun e he=>E4l l e he)
  rw[List.length_map]at h
  exact h
theorem A2c{σ:AS} :∀ (l:List aA) (cs:List AV) (S:List Nat),(∀ t,t ∈ l ->∀ v S,cW σ true t v S ->eW G σ (flat v) (flat t.lent)) ->cF σ true l cs S ->eW G σ cs ((l.map aA.lent).flatMap flat)
 |[],cs,S,_,h=>by simp only[cF]at h;rw[h.1];exact .nil
 | t::r,cs,S,hP,h=>by
  simp only[cF]at h
  obtain⟨v,c',S1,S2,rfl,rfl,h1,h2⟩:=h
  rw[List.map_cons,List.flatMap_cons]
  exact(hP t List.mem_cons_self v S1 h1).append (A2c r c' S2 (fun t ht=>hP t (List.mem_cons_of_mem _ ht)) h2)
theorem A9o{σ:AS}(l:List aA)(hP:∀ t,t ∈ l ->∀ v S,cW σ true t v S ->eW G σ (flat v) (flat t.lent))(v:AV)(S:List Nat)(h:iB σ true l v S):eI G σ v (pS l):=by
 rcases h with⟨h,_⟩|⟨b,cs,rest,S',rfl,_,hb,hm,hc⟩
 ·cases h
 ·obtain rfl:=hm
  replace hb:σ.box b=some (cs++eO.flatMap flat):=hb
  have hL:=(A2c (G:=G) l cs S' hP hc).append (eW.ids (G:=G) (σ:=σ) (eO.flatMap flat))
  have hl:=hL.length
  have h:=eI.row (G:=G) (σ:=σ) (b:=b) (s:=7) (E:=26) (cs:=cs++eO.flatMap flat) (ds:=(l.map aA.lent).flatMap flat++eO.flatMap flat) hb (by rw[<- hl,List.take_length];exact hL) (by omega) (xs:=l.map aA.lent) (sp:=eO) (by rw[List.flatMap_append]) (by omega) (fun e h=>by
   rcases List.mem_append.1 h with h|h
   ·obtain⟨x,_,rfl⟩:=List.mem_map.1 h
    exact⟨by rw[x.flat_lent];rfl,x.isv_lent,fun c hc=>by rw[x.flat_lent]at hc;simp at hc;rcases hc with rfl|rfl|rfl|rfl|rfl|rfl|rfl <;>rfl⟩
   ·obtain⟨x,_,rfl⟩:=List.mem_map.1 h
    exact⟨by rw[aA.flat_enc];rfl,aA.isv_enc _,ones _⟩)
  rw[List.length_map]at h
  exact h
theorem C0h{σ:AS}(t:aA):∀ (v:AV) (S:List Nat),cW σ true t v S ->eW G σ (flat v) (flat t.lent):=by
 refine aA.ind (P:=fun t=>∀ (v:AV) (S:List Nat),cW σ true t v S ->eW G σ (flat v) (flat t.lent)) (fun t ih1 ih2=> ?_) t
 intro v S h
 rw[bX]at h
 obtain⟨vl,vk,vt,Sl,Sk,St,rfl,rfl,h1,h2,h3⟩:=h
 rw[t.flat_lent]
 exact .cons (eI.id _) (.cons (eI.id _) (.cons h1.lent (.cons (eI.id _) (.cons (eI.id _) (.cons (A9o t.items ih1 vk Sk h2) (.cons (A9o t.tail ih2 vt St h3) .nil))))))
theorem rA{σ:AS}{t:aA}{v:AV}{S:List Nat}(h:cW σ true t v S):eI G σ v t.lent:=by
 have hl:=C0h (G:=G) t v S h
 rw[bX]at h
 obtain⟨vl,vk,vt,Sl,Sk,St,rfl,rfl,h1,h2,h3⟩:=h
 rw[<- aA.fold_lent]
 rw[t.flat_lent]at hl
 exact eI.agg hl (fun c hc=>by simp at hc;rcases hc with rfl|rfl|rfl|rfl|rfl|rfl|rfl <;>rfl)
end
end
set_option maxRecDepth 20000
section
def dI:=And.intro (And.intro (And.intro (And.intro @jD @iZ) (And.intro @jJ (And.intro @eG @jE))) (And.intro (And.intro @dL (And.intro @eN @dV)) (And.intro @eD (And.intro @aA.flat_enc @aA.isv_enc)))) (And.intro (And.intro (And.intro @aA.fold_enc (And.intro @aS @aN)) (And.intro @aU (And.intro @bW @bG))) (And.intro (And.intro @aQ (And.intro @aM @aZ)) (And.intro @cH (And.intro @bQ @bB))))
variable (G:Nat ->AV)
structure bK(σ σ':AS)(S:List Nat):Prop where
 le:σ.le σ'
 fr:∀ b,b ∈ S ->σ.box b=none /\ σ.tip b=none
 nd:S.Nodup
 on:∀ b,b ∈ S ->∃ z,σ'.box b=some z
theorem F1j:(el Tryz.prog 23).bind (zc Tryz.prog)=some [.int .u32 0]:=by kernel_rfl
theorem F1k:(el Tryz.prog 24).bind (zc Tryz.prog)=some [.int .u8 0, .bool false, .nil, .str [], .int .i64 0, .nil, .nil]:=by kernel_rfl
theorem D8t(l:List UInt32)(k:Nat):(l.map bC++fJ k).flatMap flat=l.map bC++fJ k:=by
 rw[List.flatMap_append,rT]
 congr 1
 induction k with
 |zero=>rfl
 |succ k ih=>rw[qZ,List.flatMap_append,ih];rfl
set_option maxHeartbeats 2000000 in
theorem B2i(l:List UInt32)(hl:l.length <=1000000000)(σ:AS):aJ Tryz.prog G 37 [bD l] σ fun r σ'=>∃ S,mZ σ' true l r S /\ bK σ σ' S:=by
 have hw0:IntKind.i64.wrap ((l.length:Int)+12)=l.length+12:=aC (by omega) (by omega)
 refine aJ.of_awp mixed Tryz.func37 rfl (by kernel_rfl) (by kernel_rfl) (by simp[Tryz.ntmps37]) Tryz.results37 ?_
 repeat'(first|(refine wn ?_;intro bx hbx;try simp only[fb]at hbx)|(refine C2j (l.length+12) (by omega) tfL F1j (by omega) (AS.le.refl σ) (fun v σ1 hB1=> ?_))|(refine gB (ys:=l.map bC) hB1 tfL (bJ wJ) (fun a ha=> ⟨yM a ha,by obtain⟨x,_,rfl⟩:=List.mem_map.1 ha;rfl⟩) (by simp;omega) (fun v2 σ2 hA2=> ?_))|refine wj ?_|simp -dsimp only[↓bp,bq,br,seval,dI, *]|refine wz ?_|fail)
 have hB2:=hA2.buf
 rw[List.nil_append]at hB2
 clear hA2 hB1
 refine aI (fun n e σ'=>∃ (i:Nat) (v:AV),i <=12 /\ n=12 - i /\ e 4= .int .i64 i /\ e 3=v /\ fP 1 47 σ σ' v (l.map bC++fJ i)) 12
  ⟨0,v2,by omega,by omega,by first|(simp -dsimp only[↓bp,bq,br,seval,dI];done)|(simp -dsimp only[↓bp,bq,br,seval,dI];try rfl),by first|(simp -dsimp only[↓bp,bq,br,seval,dI];done)|(simp -dsimp only[↓bp,bq,br,seval,dI];try rfl),by simpa [fJ] using hB2⟩ ?_
 clear hB2
 rintro n e2 σ3 ⟨i,v3,hi2,rfl,h4,h3,hB3⟩
 simp -dsimp only[↓bp,bq,br,seval,dI]at h4 h3
 by_cases hlt:(i:Int) < 12
 ·have hlt':=eq_true hlt
  have hp:=dZ G 1 i
  have hwi:IntKind.i64.wrap ((i:Int)+1)=((i+1:Nat):Int):=by rw[aC (by omega) (by omega)];rfl
  have hlen:(l.map bC++fJ i).length <=1000000012:=by rw[List.length_append,List.length_map,fN];omega
  clear hw0
  repeat'(first|(refine wn ?_;intro bx hbx;try simp only[fb]at hbx)|refine wp hp ?_|(refine gB (ys:=[lmk (i:Int)]) hB3 tfL (bJ wJ) (fun a ha=>by simp at ha;subst ha;exact⟨rfl,rfl⟩) (by simp only[List.length_cons,List.length_nil];omega) (fun v4 σ4 hA4=> ?_))|refine wj ?_|simp -dsimp only[↓bp,bq,br,seval,dI, *]|refine wz ?_|fail)
  exact⟨12 - (i+1),by omega,i+1,v4,by omega,rfl,rfl,rfl,by rw[qZ,<- List.append_assoc];exact hA4.buf⟩
 ·have:i=12:=by omega
  subst this
  have hlt':(((12:Nat):Int) < 12)=False:=by simp
  have hne:l.map bC++fJ 12 ≠ []:=fun e=>by have:=congrArg List.length e;simp[fN]at this
  obtain⟨r,hv,hr1,hr2,hr3⟩:=hB3.form hne
  have hle:=hB3.le
  have hlen:(l.map bC++fJ 12).length=l.length+12:=by rw[List.length_append,List.length_map,fN]
  rw[hlen]at hv
  subst hv
  rw[D8t]at hr1
  have hll:l.length <=l.length+12:=by omega
  clear hB3 hne hlen hw0 hlt hi2
  repeat'(first|(refine wn ?_;intro bx hbx;try simp only[fb]at hbx)|refine wj ?_|simp -dsimp only[↓bp,bq,br,seval,dI, *]|refine wz ?_|fail)
  all_goals exact aE _ (AS.le.refl _) ⟨[r], .inr ⟨r,dS,rfl,rfl,hr1,rfl⟩,hle,fun b hb=>by simp at hb;subst hb;exact⟨hr2,hr3⟩,by simp,fun b hb=>by simp at hb;subst hb;exact⟨_,hr1⟩⟩
theorem mZ.on{σ:AS}{m:Bool}{l:List UInt32}{v:AV}{S:List Nat}(h:mZ σ m l v S):∀ b,b ∈ S ->∃ z,σ.box b=some z:=fun b hb=>by
 rcases h with⟨_,_,_,rfl⟩|⟨c,rest,_,rfl,hc,_⟩
 ·cases hb
 ·simp at hb;subst hb;exact⟨_,hc⟩
theorem zC{σ:AS}{m:Bool} :∀ (l:List aA) (cs:List AV) (S:List Nat),(∀ t,t ∈ l ->∀ v S,cW σ m t v S ->∀ b,b ∈ S ->∃ z,σ.box b=some z) ->cF σ m l cs S ->∀ b,b ∈ S ->∃ z,σ.box b=some z
 |[],_,_,_,h,b,hb=>by simp only[cF]at h;rw[h.2]at hb;cases hb
 | t::r,cs,S,hP,h,b,hb=>by
  simp only[cF]at h
  obtain⟨v,c',S1,S2,rfl,rfl,h1,h2⟩:=h
  rcases List.mem_append.1 hb with hb|hb
  ·exact hP t List.mem_cons_self v S1 h1 b hb
  ·exact zC r c' S2 (fun t ht=>hP t (List.mem_cons_of_mem _ ht)) h2 b hb
theorem eH{σ:AS}{m:Bool}(t:aA):∀ (v:AV) (S:List Nat),cW σ m t v S ->∀ b,b ∈ S ->∃ z,σ.box b=some z:=by
 refine aA.ind (P:=fun t=>∀ (v:AV) (S:List Nat),cW σ m t v S ->∀ b,b ∈ S ->∃ z,σ.box b=some z) (fun t ih1 ih2=> ?_) t
 intro v S h b hb
 rw[bX]at h
 obtain⟨vl,vk,vt,Sl,Sk,St,rfl,rfl,h1,h2,h3⟩:=h
 rcases List.mem_append.1 hb with hb|hb
 ·exact h1.on b hb
 rcases List.mem_append.1 hb with hb|hb
 ·rcases h2 with⟨_,_,_,rfl⟩|⟨c,cs,rest,S',_,rfl,hc,_,hO⟩
  ·cases hb
  ·rcases List.mem_cons.1 hb with rfl|hb
   ·exact⟨_,hc⟩
   ·exact zC _ _ _ ih1 hO b hb
 ·rcases h3 with⟨_,_,_,rfl⟩|⟨c,cs,rest,S',_,rfl,hc,_,hO⟩
  ·cases hb
  ·rcases List.mem_cons.1 hb with rfl|hb
   ·exact⟨_,hc⟩
   ·exact zC _ _ _ ih2 hO b hb
theorem cF.on{σ:AS}{m:Bool}{l:List aA}{cs:List AV}{S:List Nat}(h:cF σ m l cs S):∀ b,b ∈ S ->∃ z,σ.box b=some z:=zC l cs S (fun t _=>eH t) h
theorem cM{σ σ':AS}(h:σ.le σ'){S:List Nat}(ho:∀ b,b ∈ S ->∃ z,σ.box b=some z):∀ b,b ∈ S ->σ'.box b=σ.box b:=fun b hb=>by
 obtain⟨z,hz⟩:=ho b hb
 rw[hz];exact h.box _ _ hz
theorem pY{σ:AS}{m:Bool}{t:aA}{v:AV}{S1:List Nat}(ht:cW σ m t v S1):∀ (l:List aA) (cs:List AV) (S:List Nat),cF σ m l cs S ->cF σ m (l++[t]) (cs++flat v) (S++S1)
 | [],cs,S,h=>by
  simp only[cF]at h
  obtain⟨rfl,rfl⟩:=h
  simp only[List.nil_append,cF]
  exact⟨v,[],S1,[],by simp,by simp,ht,rfl,rfl⟩
 | x::r,cs,S,h=>by
  simp only[cF]at h
  obtain⟨w,c',S2,S3,rfl,rfl,h1,h2⟩:=h
  simp only[List.cons_append,cF]
  exact⟨w,c'++flat v,S2,S3++S1,by simp,by simp,h1,pY ht r c' S3 h2⟩
theorem A3c{n:Nat}{E:TypeId}{σ0 σ σ':AS}{v:AV}{xs:List AV}(h:fP n E σ0 σ v xs)(hl:σ.le σ'):fP n E σ0 σ' v xs:=by
 cases h with
 |nil h=>exact .nil (h.trans hl)
 |row b xs h h0 h1 hb hx=>exact .row b xs (h.trans hl) h0 h1 (hl.box _ _ hb) hx
theorem qX{n:Nat}{E:TypeId}{σ0 σ:AS}{v:AV}{xs:List AV}(h:fP n E σ0 σ v xs){c:Nat}(hc:σ.box c=none):cS v c:=by
 cases h with
 |nil h=>trivial
 |row b xs h h0 h1 hb hx=>exact fun e=>by rw[e,hb]at hc;cases hc
theorem bK.more{σ σ2 σ5:AS}{S S1:List Nat}(h:bK σ σ2 S)(h1:∀ b,b ∈ S1 ->σ2.box b=none /\ σ2.tip b=none)(hd:S1.Nodup)(hl:σ.le σ5)(ho:∀ b,b ∈ S++S1 ->∃ z,σ5.box b=some z):bK σ σ5 (S++S1):=by
 refine⟨hl,fun b hb=> ?_,?_,ho⟩
 ·rcases List.mem_append.1 hb with hb|hb
  ·exact h.fr b hb
  ·exact⟨gU h.le (h1 b hb).1,iL h.le (h1 b hb).2⟩
 ·refine List.nodup_append.2 ⟨h.nd,hd,fun a ha b hb e=> ?_⟩
  subst e
  obtain⟨z,hz⟩:=h.on a ha
  rw[(h1 a hb).1]at hz;cases hz
set_option maxHeartbeats 4000000 in
theorem A5c(l:List aA)(hl:l.length <=1000000000)(hf:∀ x,x ∈ l ->∀ σ,aJ Tryz.prog G 8 [x.enc] σ fun r σ'=>∃ S,cW σ' true x r S /\ bK σ σ' S)(σ:AS):aJ Tryz.prog G 38 [aH l] σ fun r σ'=>∃ S,iB σ' true l r S /\ bK σ σ' S:=by
 have hw0:IntKind.i64.wrap ((l.length:Int)+12)=l.length+12:=aC (by omega) (by omega)
 refine aJ.of_awp mixed Tryz.func38 rfl (by kernel_rfl) (by kernel_rfl) (by simp[Tryz.ntmps38]) Tryz.results38 ?_
 repeat'(first|(refine wn ?_;intro bx hbx;try simp only[fb]at hbx)|(refine C2j (l.length+12) (by omega) tW F1k (by omega) (AS.le.refl σ) (fun v σ1 hB1=> ?_))|refine wj ?_|simp -dsimp only[↓bp,bq,br,seval,dI, *]|refine wz ?_|fail)
 have hC0:cF σ1 true (l.take 0) (([]:List AV).flatMap flat) []:=by simp[cF]
 have hN0:bK σ σ1 []:=⟨hB1.le,by simp,by simp,by simp⟩
 refine aI (fun n e σ'=>∃ (i:Nat) (v:AV) (vs:List AV) (S:List Nat),i <=l.length /\ n=l.length - i /\ e 4= .int .i64 i /\ e 3=v /\ fP 7 26 σ σ' v vs /\ vs.length=i /\ cF σ' true (l.take i) (vs.flatMap flat) S /\ bK σ σ' S /\ (∀ b,b ∈ S ->cS v b)) l.length
  ⟨0,v,[],[],by omega,by omega,by first|(simp -dsimp only[↓bp,bq,br,seval,dI];done)|(simp -dsimp only[↓bp,bq,br,seval,dI];try rfl),by first|(simp -dsimp only[↓bp,bq,br,seval,dI];done)|(simp -dsimp only[↓bp,bq,br,seval,dI];try rfl),hB1,rfl,hC0,hN0,by simp⟩ ?_
 clear hB1 hC0 hN0
 rintro n e1 σ2 ⟨i,v2,vs,S,hi,rfl,h4,h3,hB,hvl,hO,hN,hR⟩
 simp -dsimp only[↓bp,bq,br,seval,dI]at h4 h3
 by_cases hlt:i < l.length
 ·have hlt':((i:Int) < l.length)=True:=eq_true (by omega)
  obtain⟨k,hk⟩:∃ k,l[i]? =some k:=⟨_,List.getElem?_eq_getElem hlt⟩
  have hc:=hf k (List.mem_of_getElem? hk)
  have hwi:IntKind.i64.wrap ((i:Int)+1)=((i+1:Nat):Int):=by rw[aC (by omega) (by omega)];rfl
  clear hf hw0
  repeat'(first|(refine wn ?_;intro bx hbx;try simp only[fb]at hbx)|((refine aJ.mono (hc _) ?_;rintro r σ3 ⟨S1,hO1,hN1⟩;have hsh:=kW hO1;obtain⟨vl,vk,vt,Sl,Sk,St,rfl,hSS,g1,g2,g3⟩:=(bX _ _ _ _ _).1 hO1;obtain⟨a1,a2,a7⟩:=g1.one;obtain⟨a3,a4,a8⟩:=g2.one;obtain⟨a5,a6,a9⟩:=g3.one))|refine wj ?_|simp -dsimp only[↓bp,bq,br,seval,dI, *]|refine wz ?_|fail)
  have hl3:=hN1.le
  have hl4:σ2.le (σ3.setBox bx [.int .u8 k.knd, .bool k.neg,vl, .str k.text, .int .i64 k.num,vk,vt]):=hl3.setBox (gU hl3 hbx.1) _
  have hB4:=A3c hB hl4
  have hR1:∀ b,b ∈ S1 ->cS v2 b:=fun b hb=>qX hB (hN1.fr b hb).1
  have hK4:∀ b,b ∈ S++S1 ->∃ z,(σ3.setBox bx [.int .u8 k.knd, .bool k.neg,vl, .str k.text, .int .i64 k.num,vk,vt]).box b=some z /\ cS v2 b:=fun b hb=>by
   rcases List.mem_append.1 hb with hb|hb
   ·obtain⟨z,hz⟩:=hN.on b hb
    exact⟨z,hl4.box _ _ hz,hR b hb⟩
   ·obtain⟨z,hz⟩:=hN1.on b hb
    exact⟨z,aO hz (fun e=>by rw[e,hbx.1]at hz;cases hz),hR1 b hb⟩
  have hO4:cF (σ3.setBox bx [.int .u8 k.knd, .bool k.neg,vl, .str k.text, .int .i64 k.num,vk,vt]) true (l.take i) (vs.flatMap flat) S:=hO.keep (cM hl4 hO.on)
  have hO14:cW (σ3.setBox bx [.int .u8 k.knd, .bool k.neg,vl, .str k.text, .int .i64 k.num,vk,vt]) true k (.agg [.int .u8 k.knd, .bool k.neg,vl, .str k.text, .int .i64 k.num,vk,vt]) S1:=aK k _ S1 hO1 fun b hb=>by
   obtain⟨z,hz⟩:=hN1.on b hb
   rw[hz]
   exact aO hz (fun e=>by rw[e,hbx.1]at hz;cases hz)
  clear hc g1 g2 g3 hO hO1 hSS hl3
  repeat'(first|(refine wn ?_;intro bx hbx;try simp only[fb]at hbx)|((refine gB (ys:=[.agg [.int .u8 k.knd, .bool k.neg,vl, .str k.text, .int .i64 k.num,vk,vt]]) hB4 tW (bJ tfE) (fun a ha=>by simp at ha;subst ha;exact⟨hsh.1,hsh.2.1⟩) (by simp;omega) (fun v5 σ5 hA=> ?_)))|refine wj ?_|simp -dsimp only[↓bp,bq,br,seval,dI, *]|refine wz ?_|fail)
  have hK5:∀ b,b ∈ S++S1 ->σ5.box b=(σ3.setBox bx [.int .u8 k.knd, .bool k.neg,vl, .str k.text, .int .i64 k.num,vk,vt]).box b /\ cS v5 b:=fun b hb=>by
   obtain⟨z,hz,hn⟩:=hK4 b hb
   obtain⟨h1,h2⟩:=hA.keep b z hz hn
   exact⟨by rw[h1,hz],h2⟩
  have hC5:cF σ5 true (l.take (i+1)) ((vs++[AV.agg [.int .u8 k.knd, .bool k.neg,vl, .str k.text, .int .i64 k.num,vk,vt]]).flatMap flat) (S++S1):=by
   rw[aW _ _ _ hk,List.flatMap_append,List.flatMap_cons,List.flatMap_nil,List.append_nil]
   exact pY (aK k _ S1 hO14 fun b hb=> (hK5 b (List.mem_append_right _ hb)).1) _ _ _ (hO4.keep fun b hb=> (hK5 b (List.mem_append_left _ hb)).1)
  exact⟨l.length - (i+1),by omega,i+1,v5,vs++[AV.agg [.int .u8 k.knd, .bool k.neg,vl, .str k.text, .int .i64 k.num,vk,vt]],S++S1,by omega,rfl,rfl,rfl,hA.buf,by simp[hvl],hC5,hN.more hN1.fr hN1.nd hA.buf.le (fun b hb=>by obtain⟨z,hz,_⟩:=hK4 b hb;exact⟨z,by rw[(hK5 b hb).1,hz]⟩),fun b hb=> (hK5 b hb).2⟩
 ·have:i=l.length:=by omega
  subst this
  have hlt':((l.length:Int) < l.length)=False:=eq_false (by omega)
  rw[List.take_length]at hO
  clear hf hw0 hlt hi
  repeat'(first|(refine wn ?_;intro bx hbx;try simp only[fb]at hbx)|refine wj ?_|simp -dsimp only[↓bp,bq,br,seval,dI, *]|refine wz ?_|fail)
  refine aI (fun n e σ'=>∃ (i:Nat) (v:AV),i <=12 /\ n=12 - i /\ e 6= .int .i64 i /\ e 3=v /\ fP 7 26 σ σ' v (vs++hZ 1 i) /\ cF σ' true l (vs.flatMap flat) S /\ (∀ b,b ∈ S ->cS v b)) 12
   ⟨0,v2,by omega,by omega,by first|(simp -dsimp only[↓bp,bq,br,seval,dI];done)|(simp -dsimp only[↓bp,bq,br,seval,dI];try rfl),by first|(simp -dsimp only[↓bp,bq,br,seval,dI];done)|(simp -dsimp only[↓bp,bq,br,seval,dI];exact h3),by simpa [hZ] using hB,hO,hR⟩ ?_
  clear hB hO hR
  rintro n e2 σ3 ⟨j,v3,hj,rfl,h6,h3',hB,hO,hR⟩
  simp -dsimp only[↓bp,bq,br,seval,dI]at h6 h3'
  by_cases hltj:(j:Int) < 12
  ·have hlt12:=eq_true hltj
   have hp:=kH G 1 j
   have hwj:IntKind.i64.wrap ((j:Int)+1)=((j+1:Nat):Int):=by rw[aC (by omega) (by omega)];rfl
   have hlen:(vs++hZ 1 j).length <=1000000012:=by rw[List.length_append,gL];omega
   repeat'(first|(refine wn ?_;intro bx hbx;try simp only[fb]at hbx)|refine wp hp ?_|((refine gB (ys:=[(nY 1 (j:Int)).enc]) hB tW (bJ tfE) (fun a ha=>by simp at ha;subst ha;exact⟨by rw[aA.flat_enc];rfl,aA.isv_enc _⟩) (by simp only[List.length_cons,List.length_nil];omega) (fun v5 σ5 hA=> ?_)))|refine wj ?_|simp -dsimp only[↓bp,bq,br,seval,dI, *]|refine wz ?_|fail)
   have hK5:∀ b,b ∈ S ->σ5.box b=σ3.box b /\ cS v5 b:=fun b hb=>by
    obtain⟨z,hz⟩:=hO.on b hb
    obtain⟨h1,h2⟩:=hA.keep b z hz (hR b hb)
    exact⟨by rw[h1,hz],h2⟩
   exact⟨12 - (j+1),by omega,j+1,v5,by omega,rfl,rfl,rfl,by rw[yZ,<- List.append_assoc];exact hA.buf,hO.keep fun b hb=> (hK5 b hb).1,fun b hb=> (hK5 b hb).2⟩
  ·have:j=12:=by omega
   subst this
   have hlt12:(((12:Nat):Int) < 12)=False:=by simp
   have hne:vs++hZ 1 12 ≠ []:=fun e=>by have:=congrArg List.length e;simp[gL]at this
   obtain⟨r,hv,hr1,hr2,hr3⟩:=hB.form hne
   have hle:=hB.le
   have hlen:(vs++hZ 1 12).length=l.length+12:=by rw[List.length_append,hvl,gL]
   rw[hlen]at hv
   subst hv
   rw[List.flatMap_append]at hr1
   have hll:l.length <=l.length+12:=by omega
   have hOn:∀ b,b ∈ r::S ->∃ z,σ3.box b=some z:=fun b hb=>by
    rcases List.mem_cons.1 hb with rfl|hb
    ·exact⟨_,hr1⟩
    ·exact hO.on b hb
   have hNew:bK σ σ3 (r::S):=⟨hle,fun b hb=>by
    rcases List.mem_cons.1 hb with rfl|hb
    ·exact⟨hr2,hr3⟩
    ·exact hN.fr b hb,List.nodup_cons.2 ⟨fun hb=>hR r hb rfl,hN.nd⟩,hOn⟩
   have hFin:iB σ3 true l (.bs r l.length 7 26) (r::S):= .inr ⟨r,_,_,S,rfl,rfl,hr1,rfl,hO⟩
   clear hB hne hlen hj hltj hR hN hr1 hr2 hr3 hvl hO hOn
   repeat'(first|(refine wn ?_;intro bx hbx;try simp only[fb]at hbx)|refine wj ?_|simp -dsimp only[↓bp,bq,br,seval,dI, *]|refine wz ?_|fail)
   all_goals exact aE _ (AS.le.refl _) ⟨_,hFin,hNew⟩
theorem A5e(t:aA)(hb:t.bulk <=1000000000)(σ:AS):aJ Tryz.prog G 8 [t.enc] σ fun r σ'=>∃ S,cW σ' true t r S /\ bK σ σ' S:=by
 revert hb σ
 refine aA.ind (P:=fun t=>t.bulk <=1000000000 ->∀ σ,aJ Tryz.prog G 8 [t.enc] σ fun r σ'=>∃ S,cW σ' true t r S /\ bK σ σ' S) (fun t ih1 ih2 hb=> ?_) t
 have hl1:=fun σ=>A5c G t.items (by have:=cA t;omega) (fun x hx=>ih1 x hx (by have:=dJ hx;omega)) σ
 have hl2:=fun σ=>A5c G t.tail (by have:=dD t;omega) (fun x hx=>ih2 x hx (by have:=dK hx;omega)) σ
 have hl3:=fun σ=>B2i G t.limbs (by have:=cQ t;omega) σ
 clear ih1 ih2
 intro σ
 refine aJ.of_awp mixed Tryz.func8 rfl (by kernel_rfl) (by kernel_rfl) (by simp[Tryz.ntmps8]) Tryz.results8 ?_
 simp -dsimp only[↓bp,bq,br,seval,dI]
 refine cX fun b1 hb1=> ?_
 simp -dsimp only[↓bp,bq,br,seval,dI]
 refine aY fun b2 hb2=> ?_
 simp only[fb]at hb2
 obtain⟨hb2,hn1,hn2⟩:=hb2
 obtain⟨A0,hA0⟩:∃ S,S=(σ.setBox b1 [.int .u8 t.knd, .bool t.neg,bD t.limbs, .str t.text, .int .i64 t.num,aH t.items,aH t.tail]).setBox b2 [.int .u8 0, .bool false, .nil, .str [], .int .i64 0, .nil, .nil]:=⟨_,rfl⟩
 have l0:σ.le A0:=by rw[hA0];exact((AS.le.refl σ).setBox hb1.1 _).setBox hb2.1 _
 have e1:A0.box b1=some [.int .u8 t.knd, .bool t.neg,bD t.limbs, .str t.text, .int .i64 t.num,aH t.items,aH t.tail]:=by rw[hA0];simp[AS.setBox,hn1,hn2]
 have e2:A0.box b2=some [.int .u8 0, .bool false, .nil, .str [], .int .i64 0, .nil, .nil]:=by rw[hA0];simp[AS.setBox]
 rw[<- hA0]
 clear hA0
 repeat'(first|(refine wn ?_;intro bx hbx;try simp only[fb]at hbx)|refine wj ?_|simp -dsimp only[↓bp,bq,br,seval,dI, *]|refine wz ?_|fail)
 refine aJ.mono (hl3 _) ?_
 rintro vl s1 ⟨Sl,hL,hN1⟩
 obtain⟨a1,a2,a7⟩:=hL.one
 have f1:=hN1.le.box _ _ e1
 have f2:=hN1.le.box _ _ e2
 have n1:∀ b,b ∈ Sl ->b ≠ b1 /\ b ≠ b2:=fun b hb=> ⟨fun e=> (by rw[e]at hb;rw[(hN1.fr b1 hb).1]at e1;cases e1),fun e=> (by rw[e]at hb;rw[(hN1.fr b2 hb).1]at e2;cases e2)⟩
 have N1:∀ C,bK σ (s1.setBox b1 C) Sl:=fun C=> ⟨(l0.trans hN1.le).setBox hb1.1 _,fun b hb=> ⟨gU l0 (hN1.fr b hb).1,iL l0 (hN1.fr b hb).2⟩,hN1.nd,fun b hb=>by
  obtain⟨z,hz⟩:=hN1.on b hb
  exact⟨z,aO hz (n1 b hb).1⟩⟩
 clear hl3 e1 e2
 repeat'(first|(refine wn ?_;intro bx hbx;try simp only[fb]at hbx)|refine wj ?_|simp -dsimp only[↓bp,bq,br,seval,dI, *]|refine wz ?_|fail)
 refine aJ.mono (hl1 _) ?_
 rintro vk s2 ⟨Sk,hK,hN2⟩
 obtain⟨a3,a4,a8⟩:=hK.one
 have g1:=hN2.le.box b1 _ AS.set_get
 have g2:=hN2.le.box b2 _ (aO f2 hn1)
 have n2:∀ b,b ∈ Sk ->b ≠ b1 /\ b ≠ b2:=fun b hb=> ⟨fun e=> (by rw[e]at hb;have:=(hN2.fr b1 hb).1;rw[AS.set_get]at this;cases this),fun e=>by rw[e]at hb;have:=(hN2.fr b2 hb).1;rw[aO f2 hn1]at this;cases this⟩
 clear hl1 f1 f2
 repeat'(first|(refine wn ?_;intro bx hbx;try simp only[fb]at hbx)|refine wj ?_|simp -dsimp only[↓bp,bq,br,seval,dI, *]|refine wz ?_|fail)
 refine aJ.mono (hl2 _) ?_
 rintro vt s3 ⟨St,hT,hN3⟩
 obtain⟨a5,a6,a9⟩:=hT.one
 have k1:=hN3.le.box b1 _ AS.set_get
 have k2:=hN3.le.box b2 _ (aO g2 hn1)
 have n3:∀ b,b ∈ St ->b ≠ b1 /\ b ≠ b2:=fun b hb=> ⟨fun e=> (by rw[e]at hb;have:=(hN3.fr b1 hb).1;rw[AS.set_get]at this;cases this),fun e=>by rw[e]at hb;have:=(hN3.fr b2 hb).1;rw[aO g2 hn1]at this;cases this⟩
 clear hl2 g1 g2
 repeat'(first|(refine wn ?_;intro bx hbx;try simp only[fb]at hbx)|refine wj ?_|simp -dsimp only[↓bp,bq,br,seval,dI, *]|refine wz ?_|fail)
 have on1:∀ b,b ∈ Sl ->∃ z,s1.box b=some z /\ s2.box b=some z /\ s3.box b=some z:=fun b hb=>by
  obtain⟨z,hz⟩:=hN1.on b hb
  have h2:=hN2.le.box b z (aO hz (n1 b hb).1)
  have h3:=hN3.le.box b z (aO h2 (n1 b hb).1)
  exact⟨z,hz,h2,h3⟩
 have on2:∀ b,b ∈ Sk ->∃ z,s2.box b=some z /\ s3.box b=some z:=fun b hb=>by
  obtain⟨z,hz⟩:=hN2.on b hb
  exact⟨z,hz,hN3.le.box b z (aO hz (n2 b hb).1)⟩
 have t1:=(l0.trans hN1.le).setBox hb1.1 [.int .u8 t.knd, .bool t.neg,vl, .str t.text, .int .i64 t.num,aH t.items,aH t.tail]
 have t2:=(t1.trans hN2.le).setBox hb1.1 [.int .u8 t.knd, .bool t.neg,vl, .str t.text, .int .i64 t.num,vk,aH t.tail]
 have t3:=((t2.trans hN3.le).setBox hb1.1 [.int .u8 t.knd, .bool t.neg,vl, .str t.text, .int .i64 t.num,vk,vt]).setBox hb2.1 [.int .u8 t.knd, .bool t.neg,vl, .str t.text, .int .i64 t.num,vk,vt]
 have M1:=N1 [.int .u8 t.knd, .bool t.neg,vl, .str t.text, .int .i64 t.num,aH t.items,aH t.tail]
 have M2:=M1.more hN2.fr hN2.nd t2 (fun b hb=>by
  rcases List.mem_append.1 hb with hb|hb
  ·obtain⟨z,_,hz,_⟩:=on1 b hb
   exact⟨z,aO hz (n1 b hb).1⟩
  ·obtain⟨z,hz,_⟩:=on2 b hb
   exact⟨z,aO hz (n2 b hb).1⟩)
 have M3:=M2.more hN3.fr hN3.nd t3 (fun b hb=>by
  rcases List.mem_append.1 hb with hb|hb
  ·rcases List.mem_append.1 hb with hb|hb
   ·obtain⟨z,_,_,hz⟩:=on1 b hb
    exact⟨z,aO (aO hz (n1 b hb).1) (n1 b hb).2⟩
   ·obtain⟨z,_,hz⟩:=on2 b hb
    exact⟨z,aO (aO hz (n2 b hb).1) (n2 b hb).2⟩
  ·obtain⟨z,hz⟩:=hN3.on b hb
   exact⟨z,aO (aO hz (n3 b hb).1) (n3 b hb).2⟩)
 rw[List.append_assoc]at M3
 refine aE _ (AS.le.refl _) ⟨_,(bX _ _ _ _ _).2 ⟨vl,vk,vt,Sl,Sk,St,rfl,rfl,hL.keep fun b hb=> ?_,hK.keep fun b hb=> ?_,hT.keep fun b hb=> ?_⟩,M3⟩
 ·obtain⟨z,hz,_,h3⟩:=on1 b hb
  rw[hz]
  exact aO (aO h3 (n1 b hb).1) (n1 b hb).2
 ·obtain⟨z,hz,h3⟩:=on2 b hb
  rw[hz]
  exact aO (aO h3 (n2 b hb).1) (n2 b hb).2
 ·obtain⟨z,hz⟩:=hN3.on b hb
  rw[hz]
  exact aO (aO hz (n3 b hb).1) (n3 b hb).2
end
set_option maxRecDepth 20000
section
def A3g(s:AS)(P:Nat ->Bool)(cs:List AV)(S:List Nat):Prop:=(∀ c,c ∈ cs ->zB P c=true) /\ ∀ b,b ∈ S ->∃ ds,s.box b=some ds /\ ∀ c,c ∈ ds ->zB P c=true
theorem mZ.inn{s:AS}{l:List UInt32}{v:AV}{S:List Nat}(h:mZ s false l v S)(P:Nat ->Bool)(hP:∀ b,b ∈ S ->P b=true):A3g s P [v] S:=by
 rcases h with⟨_,rfl,rfl,rfl⟩|⟨b,rest,rfl,rfl,hb,rfl⟩
 ·exact⟨fun c hc=>by simp at hc;subst hc;rfl,fun b hb=>by cases hb⟩
 ·refine⟨fun c hc=>by simp at hc;subst hc;exact hP b (by simp),fun c hc=> ?_⟩
  simp at hc;subst hc
  refine⟨_,hb,fun c hc=> ?_⟩
  simp only[D3c,List.append_nil]at hc
  obtain⟨x,_,rfl⟩:=List.mem_map.1 hc
  rfl
theorem A9l{s:AS} :∀ (l:List aA) (cs:List AV) (S:List Nat),(∀ t,t ∈ l ->∀ v S,cW s false t v S ->∀ P:Nat ->Bool,(∀ b,b ∈ S ->P b=true) ->A3g s P (flat v) S) ->cF s false l cs S ->∀ P:Nat ->Bool,(∀ b,b ∈ S ->P b=true) ->A3g s P cs S
 | [],cs,S,_,h,P,_=>by
  simp only[cF]at h
  obtain⟨rfl,rfl⟩:=h
  exact⟨fun c hc=> (by cases hc),fun b hb=> (by cases hb)⟩
 | t::r,cs,S,hQ,h,P,hP=>by
  simp only[cF]at h
  obtain⟨v,c',S1,S2,rfl,rfl,h1,h2⟩:=h
  obtain⟨p1,p2⟩:=hQ t List.mem_cons_self v S1 h1 P (fun b hb=>hP b (List.mem_append_left _ hb))
  obtain⟨q1,q2⟩:=A9l r c' S2 (fun t ht=>hQ t (List.mem_cons_of_mem _ ht)) h2 P (fun b hb=>hP b (List.mem_append_right _ hb))
  refine⟨fun c hc=> ?_,fun b hb=> ?_⟩
  ·rcases List.mem_append.1 hc with hc|hc
   ·exact p1 c hc
   ·exact q1 c hc
  ·rcases List.mem_append.1 hb with hb|hb
   ·exact p2 b hb
   ·exact q2 b hb
theorem B5r{s:AS}(l:List aA)(hQ:∀ t,t ∈ l ->∀ v S,cW s false t v S ->∀ P:Nat ->Bool,(∀ b,b ∈ S ->P b=true) ->A3g s P (flat v) S)(v:AV)(S:List Nat)(h:iB s false l v S)(P:Nat ->Bool)(hP:∀ b,b ∈ S ->P b=true):A3g s P [v] S:=by
 rcases h with⟨_,rfl,rfl,rfl⟩|⟨b,cs,rest,S',rfl,rfl,hb,rfl,hc⟩
 ·exact⟨fun c hc=>by simp at hc;subst hc;rfl,fun b hb=>by cases hb⟩
 ·obtain⟨p1,p2⟩:=A9l l cs S' hQ hc P (fun b hb=>hP b (List.mem_cons_of_mem _ hb))
  refine⟨fun c hc=>by simp at hc;subst hc;exact hP b List.mem_cons_self,fun c hc=> ?_⟩
  rcases List.mem_cons.1 hc with rfl|hc
  ·exact⟨_,hb,fun d hd=>by simp only[B6g,List.append_nil]at hd;exact p1 d hd⟩
  ·exact p2 c hc
theorem A5q{s:AS}(t:aA):∀ (v:AV) (S:List Nat),cW s false t v S ->∀ P:Nat ->Bool,(∀ b,b ∈ S ->P b=true) ->A3g s P (flat v) S:=by
 refine aA.ind (P:=fun t=>∀ (v:AV) (S:List Nat),cW s false t v S ->∀ P:Nat ->Bool,(∀ b,b ∈ S ->P b=true) ->A3g s P (flat v) S) (fun t ih1 ih2=> ?_) t
 intro v S h P hP
 rw[bX]at h
 obtain⟨vl,vk,vt,Sl,Sk,St,rfl,rfl,h1,h2,h3⟩:=h
 obtain⟨a1,a2⟩:=h1.inn P (fun b hb=>hP b (by simp[hb]))
 obtain⟨b1,b2⟩:=B5r t.items ih1 vk Sk h2 P (fun b hb=>hP b (by simp[hb]))
 obtain⟨c1,c2⟩:=B5r t.tail ih2 vt St h3 P (fun b hb=>hP b (by simp[hb]))
 refine⟨fun c hc=> ?_,fun b hb=> ?_⟩
 ·simp only[flat,List.mem_cons,List.not_mem_nil,or_false]at hc
  rcases hc with rfl|rfl|rfl|rfl|rfl|rfl|rfl
  ·rfl
  ·rfl
  ·exact a1 _ (by simp)
  ·rfl
  ·rfl
  ·exact b1 _ (by simp)
  ·exact c1 _ (by simp)
 ·rcases List.mem_append.1 hb with hb|hb
  ·exact a2 b hb
  rcases List.mem_append.1 hb with hb|hb
  ·exact b2 b hb
  ·exact c2 b hb
theorem A9r{P:Program}{G:Nat ->AV}{f:FuncId}{args args':List AV}{t:aA}{σ:AS}(h:aJ P G f args' σ.shut fun r s=>∃ S,cW s false t r S /\ bK σ.shut s S)(hl:eW G σ args args'):aJ P G f args σ fun r s=>∃ S,cW s false t r S /\ bK σ s S:=
 B5a G h hl fun r s ⟨S,hO,hN⟩ hn=>by
  have hin:=A5q t r S hO (fun b=>decide (b ∈ S)) (fun b hb=>by simpa using hb)
  have hk:∀ b,b ∈ S -> (σ.join (fun b=>decide (b ∈ S)) s).box b=s.box b:=fun b hb=>by
   obtain⟨z,hz⟩:=hN.on b hb
   simp only[AS.join,(hn b z hz).1]
   simp[hb]
  refine⟨fun b=>decide (b ∈ S),?_,fun b hb=>hin.2 b (by simpa using hb),S,aK t r S hO hk,AS.le_join _ _ _,fun b hb=> ?_,hN.nd,fun b hb=> ?_⟩
  ·have h2:=(bX _ _ _ _ _).1 hO
   obtain⟨vl,vk,vt,Sl,Sk,St,rfl,_⟩:=h2
   simp only[D9k,List.all_eq_true]
   exact hin.1
  ·obtain⟨z,hz⟩:=hN.on b hb
   exact hn b z hz
  ·obtain⟨z,hz⟩:=hN.on b hb
   exact⟨z,by rw[hk b hb,hz]⟩
end
set_option maxRecDepth 20000
section
def bM:=And.intro (And.intro (And.intro (And.intro @jD @iZ) (And.intro @jJ (And.intro @eG @jE))) (And.intro (And.intro @dL (And.intro @eN @dV)) (And.intro @eD (And.intro @aA.flat_enc @aA.isv_enc)))) (And.intro (And.intro (And.intro @aA.fold_enc (And.intro @aS @aN)) (And.intro @aU (And.intro @bW @bG))) (And.intro (And.intro @aQ (And.intro @aM @aZ)) (And.intro @cH (And.intro @bQ @bB))))
mutual
def eB:aA ->Int ->Int
 | .mk _ _ l s _ ks ts,m=>bR ts (bR ks (1+l.length+(s.length / 8:Nat)) m) m
def bR:List aA ->Int ->Int ->Int
 |[],n,_=>n
 |k::ks,n,m=>if n <=m then bR ks (n+eB k (m - n)) m else n
end
theorem xW(t:aA)(m:Int):eB t m=bR t.tail (bR t.items (1+t.limbs.length+(t.text.length / 8:Nat)) m) m:=by cases t;rw[eB];rfl
theorem iY(l:List aA)(ih:∀ k,k ∈ l ->∀ m,0 < eB k m /\ eB k m <=k.bulk):∀ n m,n <=bR l n m /\ bR l n m <=n+aV l:=by
 induction l with
 |nil=>intro n m;simp[bR,aV]
 | cons x l ih2=>
  intro n m
  have h1:=ih x (by simp) (m - n)
  have h2:=ih2 (fun k hk=>ih k (by simp[hk])) (n+eB x (m - n)) m
  simp only[bR,aV]
  split <;>omega
theorem gS(t:aA):∀ m,0 < eB t m /\ eB t m <=t.bulk:=by
 refine aA.ind (P:=fun t=>∀ m,0 < eB t m /\ eB t m <=t.bulk) (fun t ih1 ih2 m=> ?_) t
 have h1:=iY t.items ih1 (1+t.limbs.length+(t.text.length / 8:Nat)) m
 have h2:=iY t.tail ih2 (bR t.items (1+t.limbs.length+(t.text.length / 8:Nat)) m) m
 rw[xW,aA.bulk_eq]
 omega
theorem pI(l:List aA)(i:Nat):aV (l.take i) <=aV l:=by
 have:=iT (l.take i) (l.drop i)
 rw[List.take_append_drop]at this
 omega
variable (G:Nat ->AV)
theorem B2t(t:aA):∀ m:Int,0 <=m ->m <=1000000 ->t.bulk <=1000000000 ->aB Tryz.prog G 34 [t.enc, .int .i64 m] (.int .i64 (eB t m)):=by
 refine aA.ind (P:=fun t=>∀ m:Int,0 <=m ->m <=1000000 ->t.bulk <=1000000000 ->aB Tryz.prog G 34 [t.enc, .int .i64 m] (.int .i64 (eB t m))) (fun t ih1 ih2 m hm0 hm1 hbulk=> ?_) t
 intro σ
 have hbe:=t.bulk_eq
 have hl1:=dY t.items
 have hl2:=dY t.tail
 have hde:=xW t m
 obtain⟨n0,hn0⟩:∃ n0:Int,n0=1+t.limbs.length+(t.text.length / 8:Nat):=⟨_,rfl⟩
 rw[<- hn0]at hde
 have hq:IntKind.i64.wrap (IntKind.i64.wrap (1+(t.limbs.length:Int))+IntKind.i64.wrap ((t.text.length:Int).tdiv 8))=n0:=by
  have:((t.text.length:Int).tdiv 8)=((t.text.length / 8:Nat):Int):=by
   rw[Int.tdiv_eq_ediv_of_nonneg (by omega)];omega
  have hi:IntKind.i64.wrap ((t.text.length / 8:Nat):Int)=(t.text.length / 8:Nat):=aC (by omega) (by omega)
  rw[this,hi,aC (x:=1+(t.limbs.length:Int)) (by omega) (by omega),aC (by omega) (by omega),hn0]
 have hn1:n0 <=1+t.limbs.length+t.text.length:=by omega
 have hn2:0 < n0:=by omega
 clear hn0
 have e1:=iY t.items (fun k _=>gS k) n0 m
 refine aJ.of_awp mixed Tryz.func34 rfl (by kernel_rfl) (by kernel_rfl) (by simp[Tryz.ntmps34]) Tryz.results34 ?_
 simp -dsimp only[↓bp,bq,br,seval,bM]
 intro b hb
 simp -dsimp only[↓bp,bq,br,seval,bM,hq]
 refine aI (fun n e σ'=>∃ (i:Nat) (z:Int),i <=t.items.length /\ n=t.items.length - i /\ e 6= .int .i64 i /\ e 5= .int .i64 z /\ 0 < z /\ z <=n0+aV (t.items.take i) /\ bR (t.items.drop i) z m=bR t.items n0 m /\
   σ'=σ.setBox b [.int .u8 t.knd, .bool t.neg,bD t.limbs, .str t.text, .int .i64 t.num,aH t.items,aH t.tail]) t.items.length
  ⟨0,n0,by omega,by omega,by simp -dsimp only[↓bp,bq,br,seval,bM];try rfl,by simp -dsimp only[↓bp,bq,br,seval,bM,hq],by omega,by simp[aV],by rw[List.drop_zero],rfl⟩ ?_
 rintro n v σ' ⟨i,z,hi,rfl,h6,h5,hz0,hz1,hz,rfl⟩
 have hbt:=pI t.items i
 simp -dsimp only[↓bp,bq,br,seval,bM]at h6 h5
 simp -dsimp only[↓bp,bq,br,seval,bM,h6,h5]
 refine A0i (fun hlt=> ?_) (fun hge=> ?_)
 ·obtain⟨k,hk⟩:∃ k,t.items[i]? =some k:=⟨_,List.getElem?_eq_getElem (by omega)⟩
  have hkm:k ∈ t.items:=List.mem_of_getElem? hk
  have hkb:=eQ hkm
  have hko:=gS k (m - z)
  have hdr:=dC _ _ _ hk
  simp -dsimp only[↓bp,bq,br,seval,bM,h6,h5,hk,hlt]
  refine cG (fun hle=> ?_) (fun hnle=> ?_)
  ·have hw:IntKind.i64.wrap (m - z)=m - z:=aC (by omega) (by omega)
   simp -dsimp only[↓bp,bq,br,seval,bM,h6,h5,hk,hlt,hle,hw]
   refine aB.use (ih1 k hkm (m - z) (by omega) (by omega) (by omega)) ?_
   simp -dsimp only[↓bp,bq,br,seval,bM,h6,h5,hk,hlt,hle,hw]
   refine⟨t.items.length - (i+1),by omega,i+1,z+eB k (m - z),by omega,rfl,?_,?_,by omega,?_,?_⟩
   ·rw[aC (by omega) (by omega)];rfl
   ·rw[aC (by omega) (by omega)]
   ·rw[aW _ _ _ hk,iT]
    simp only[aV]
    omega
   ·rw[<- hz,hdr,bR,if_pos hle]
  ·have hz':bR t.items n0 m=z:=by rw[<- hz,hdr,bR,if_neg hnle]
   simp -dsimp only[↓bp,bq,br,seval,bM,h6,h5,hk,hlt,hnle]
   have hz3:z <=n0+aV t.items:=by omega
   have hz4:=iY t.tail (fun k _=>gS k) z m
   rw[hz']at hde
   refine aI (fun n e σ'=>∃ (i:Nat) (y:Int),i <=t.tail.length /\ n=t.tail.length - i /\ e 7= .int .i64 i /\ e 5= .int .i64 y /\ 0 < y /\ y <=z+aV (t.tail.take i) /\ bR (t.tail.drop i) y m=bR t.tail z m /\
     σ'=σ.setBox b [.int .u8 t.knd, .bool t.neg,bD t.limbs, .str t.text, .int .i64 t.num,aH t.items,aH t.tail]) t.tail.length
    ⟨0,z,by omega,by omega,by simp -dsimp only[↓bp,bq,br,seval,bM];try rfl,by simp -dsimp only[↓bp,bq,br,seval,bM,h5],by omega,by simp[aV],by rw[List.drop_zero],rfl⟩ ?_
   rintro n2 v2 σ' ⟨j,y,hj,rfl,h7,h5',hy0,hy1,hy,rfl⟩
   have hbt2:=pI t.tail j
   simp -dsimp only[↓bp,bq,br,seval,bM]at h7 h5'
   simp -dsimp only[↓bp,bq,br,seval,bM,h7,h5']
   refine A0i (fun hlt2=> ?_) (fun hge2=> ?_)
   ·obtain⟨k,hk⟩:∃ k,t.tail[j]? =some k:=⟨_,List.getElem?_eq_getElem (by omega)⟩
    have hkm:k ∈ t.tail:=List.mem_of_getElem? hk
    have hkb:=eQ hkm
    have hko:=gS k (m - y)
    have hdr:=dC _ _ _ hk
    simp -dsimp only[↓bp,bq,br,seval,bM,h7,h5',hk,hlt2]
    refine cG (fun hle=> ?_) (fun hnle=> ?_)
    ·have hw:IntKind.i64.wrap (m - y)=m - y:=aC (by omega) (by omega)
     simp -dsimp only[↓bp,bq,br,seval,bM,h7,h5',hk,hlt2,hle,hw]
     refine aB.use (ih2 k hkm (m - y) (by omega) (by omega) (by omega)) ?_
     simp -dsimp only[↓bp,bq,br,seval,bM,h7,h5',hk,hlt2,hle,hw]
     refine⟨t.tail.length - (j+1),by omega,j+1,y+eB k (m - y),by omega,rfl,?_,?_,by omega,?_,?_⟩
     ·rw[aC (by omega) (by omega)];rfl
     ·rw[aC (by omega) (by omega)]
     ·rw[aW _ _ _ hk,iT]
      simp only[aV]
      omega
     ·rw[<- hy,hdr,bR,if_pos hle]
    ·simp -dsimp only[↓bp,bq,br,seval,bM,h7,h5',hk,hlt2,hnle]
     refine aP ?_ (cE hb (AS.le.refl σ))
     rw[hde,<- hy,hdr,bR,if_neg hnle]
   ·have:j=t.tail.length:=by omega
    subst this
    simp -dsimp only[↓bp,bq,br,seval,bM,h7,h5',hge2]
    refine aP ?_ (cE hb (AS.le.refl σ))
    rw[hde,<- hy,List.drop_length,bR]
 ·have:i=t.items.length:=by omega
  subst this
  have hz':bR t.items n0 m=z:=by rw[<- hz,List.drop_length,bR]
  simp -dsimp only[↓bp,bq,br,seval,bM,h6,h5,hge]
  have hz3:z <=n0+aV t.items:=by omega
  have hz4:=iY t.tail (fun k _=>gS k) z m
  rw[hz']at hde
  refine aI (fun n e σ'=>∃ (i:Nat) (y:Int),i <=t.tail.length /\ n=t.tail.length - i /\ e 7= .int .i64 i /\ e 5= .int .i64 y /\ 0 < y /\ y <=z+aV (t.tail.take i) /\ bR (t.tail.drop i) y m=bR t.tail z m /\
    σ'=σ.setBox b [.int .u8 t.knd, .bool t.neg,bD t.limbs, .str t.text, .int .i64 t.num,aH t.items,aH t.tail]) t.tail.length
   ⟨0,z,by omega,by omega,by simp -dsimp only[↓bp,bq,br,seval,bM];try rfl,by simp -dsimp only[↓bp,bq,br,seval,bM,h5],by omega,by simp[aV],by rw[List.drop_zero],rfl⟩ ?_
  rintro n2 v2 σ' ⟨j,y,hj,rfl,h7,h5',hy0,hy1,hy,rfl⟩
  have hbt2:=pI t.tail j
  simp -dsimp only[↓bp,bq,br,seval,bM]at h7 h5'
  simp -dsimp only[↓bp,bq,br,seval,bM,h7,h5']
  refine A0i (fun hlt2=> ?_) (fun hge2=> ?_)
  ·obtain⟨k,hk⟩:∃ k,t.tail[j]? =some k:=⟨_,List.getElem?_eq_getElem (by omega)⟩
   have hkm:k ∈ t.tail:=List.mem_of_getElem? hk
   have hkb:=eQ hkm
   have hko:=gS k (m - y)
   have hdr:=dC _ _ _ hk
   simp -dsimp only[↓bp,bq,br,seval,bM,h7,h5',hk,hlt2]
   refine cG (fun hle=> ?_) (fun hnle=> ?_)
   ·have hw:IntKind.i64.wrap (m - y)=m - y:=aC (by omega) (by omega)
    simp -dsimp only[↓bp,bq,br,seval,bM,h7,h5',hk,hlt2,hle,hw]
    refine aB.use (ih2 k hkm (m - y) (by omega) (by omega) (by omega)) ?_
    simp -dsimp only[↓bp,bq,br,seval,bM,h7,h5',hk,hlt2,hle,hw]
    refine⟨t.tail.length - (j+1),by omega,j+1,y+eB k (m - y),by omega,rfl,?_,?_,by omega,?_,?_⟩
    ·rw[aC (by omega) (by omega)];rfl
    ·rw[aC (by omega) (by omega)]
    ·rw[aW _ _ _ hk,iT]
     simp only[aV]
     omega
    ·rw[<- hy,hdr,bR,if_pos hle]
   ·simp -dsimp only[↓bp,bq,br,seval,bM,h7,h5',hk,hlt2,hnle]
    refine aP ?_ (cE hb (AS.le.refl σ))
    rw[hde,<- hy,hdr,bR,if_neg hnle]
  ·have:j=t.tail.length:=by omega
   subst this
   simp -dsimp only[↓bp,bq,br,seval,bM,h7,h5',hge2]
   refine aP ?_ (cE hb (AS.le.refl σ))
   rw[hde,<- hy,List.drop_length,bR]
def jG:List aA ->Int ->Int
 |[],n=>n
 |t::l,n=>if n <=6000 then jG l (n+eB t 6000)else n
theorem C5b(l:List aA):∀ n,n <=jG l n /\ jG l n <=n+aV l:=by
 induction l with
 |nil=>intro n;simp[jG,aV]
 | cons x l ih=>
  intro n
  have h1:=gS x 6000
  have h2:=ih (n+eB x 6000)
  simp only[jG,aV]
  split <;>omega
def A1y(l:List aA):Bool:=decide (6000 < jG l 0)
theorem xG(l:List aA)(hb:aV l <=1000000000):aB Tryz.prog G 6 [aH l] (.bool (A1y l)):=by
 intro σ
 have hll:=dY l
 refine aJ.of_awp mixed Tryz.func6 rfl (by kernel_rfl) (by kernel_rfl) (by simp[Tryz.ntmps6]) Tryz.results6 ?_
 simp -dsimp only[↓bp,bq,br,seval,bM]
 refine aD mixed (fun n e=>∃ (i:Nat) (z:Int),i <=l.length /\ n=l.length - i /\ e 4= .int .i64 i /\ e 3= .int .i64 z /\ 0 <=z /\ z <=aV (l.take i) /\ jG (l.drop i) z=jG l 0) l.length
  ⟨0,0,by omega,by omega,by simp -dsimp only[↓bp,bq,br,seval,bM];try rfl,by simp -dsimp only[↓bp,bq,br,seval,bM],by omega,by simp[aV],by rw[List.drop_zero]⟩ ?_
 rintro n v ⟨i,z,hi,rfl,h4,h3,hz0,hz1,hz⟩
 have hbt:=pI l i
 simp -dsimp only[↓bp,bq,br,seval,bM]at h4 h3
 simp -dsimp only[↓bp,bq,br,seval,bM,h4,h3]
 refine A0i (fun hlt=> ?_) (fun hge=> ?_)
 ·obtain⟨k,hk⟩:∃ k,l[i]? =some k:=⟨_,List.getElem?_eq_getElem (by omega)⟩
  have hkm:k ∈ l:=List.mem_of_getElem? hk
  have hkb:=eQ hkm
  have hko:=gS k 6000
  have hdr:=dC _ _ _ hk
  have hpk:=B2t G k 6000 (by omega) (by omega) (by omega)
  simp -dsimp only[↓bp,bq,br,seval,bM,h4,h3,hk,hlt]
  refine cG (fun hle=> ?_) (fun hnle=> ?_)
  ·simp -dsimp only[↓bp,bq,br,seval,bM,h4,h3,hk,hlt,hle]
   refine aB.use hpk ?_
   simp -dsimp only[↓bp,bq,br,seval,bM,h4,h3,hk,hlt,hle]
   refine⟨l.length - (i+1),by omega,i+1,z+eB k 6000,by omega,rfl,?_,?_,by omega,?_,?_⟩
   ·rw[aC (by omega) (by omega)];rfl
   ·rw[aC (by omega) (by omega)]
   ·rw[aW _ _ _ hk,iT]
    simp only[aV]
    omega
   ·rw[<- hz,hdr,jG,if_pos hle]
  ·have hz':jG l 0=z:=by rw[<- hz,hdr,jG,if_neg hnle]
   simp -dsimp only[↓bp,bq,br,seval,bM,h4,h3,hk,hlt,hnle]
   refine aP ?_ (AS.le.refl σ)
   rw[A1y,hz']
 ·have:i=l.length:=by omega
  subst this
  have hz':jG l 0=z:=by rw[<- hz,List.drop_length,jG]
  simp -dsimp only[↓bp,bq,br,seval,bM,h4,h3,hge]
  refine aP ?_ (AS.le.refl σ)
  rw[A1y,hz']
end
set_option maxRecDepth 20000
section
def xU:=And.intro (And.intro (And.intro (And.intro @jD @iZ) (And.intro @jJ (And.intro @eG @jE))) (And.intro (And.intro @dL (And.intro @eN @dV)) (And.intro @eD (And.intro @aA.flat_enc @aA.isv_enc)))) (And.intro (And.intro (And.intro @aA.fold_enc (And.intro @aS @aN)) (And.intro @aU (And.intro @bW @bG))) (And.intro (And.intro @aQ (And.intro @aM @aZ)) (And.intro @cH (And.intro @bQ @bB))))
variable (G:Nat ->AV)
def jT(l:List UInt32):Bool:=match l[l.length - 1]? with|some x=>decide ((x.toNat:Int) ≠ 0)|none=>false
def wr(t:aA):Bool:=
 decide (t.knd=1) && decide (t.text=[]) && decide (t.num=0) && decide ((t.items.length:Int)+t.tail.length=0) && decide ((t.limbs.length:Int) <=32) && (decide ((t.limbs.length:Int)=0) && !t.neg||decide (0 < (t.limbs.length:Int)) && jT t.limbs)
set_option maxHeartbeats 2000000 in
theorem mY(t:aA)(hb:t.bulk <=1000000000):aB Tryz.prog G 72 [t.enc] (.bool (wr t)):=by
 have h1:=cQ t
 have h2:=cA t
 have h3:=dD t
 have hw1:IntKind.i64.wrap ((t.items.length:Int)+t.tail.length)=t.items.length+t.tail.length:=aC (by omega) (by omega)
 intro σ
 by_cases hl:0 < (t.limbs.length:Int)
 ·have hw2:IntKind.i64.wrap ((t.limbs.length:Int) - 1)=((t.limbs.length - 1:Nat):Int):=by rw[aC (by omega) (by omega)];omega
  obtain⟨x,hx⟩:∃ x,t.limbs[t.limbs.length - 1]? =some x:=⟨_,List.getElem?_eq_getElem (by omega)⟩
  have hlo:jT t.limbs=decide ((x.toNat:Int) ≠ 0):=by simp[jT,hx]
  have hl0: ¬ (t.limbs.length:Int)=0:=by omega
  clear h1 h2 h3 hb
  refine aJ.of_awp mixed Tryz.func72 rfl (by kernel_rfl) (by kernel_rfl) (by simp[Tryz.ntmps72]) Tryz.results72 ?_
  repeat'(first|refine xs ?_ ?_ <;>intros|(refine wn ?_;intro bx hbx;try simp only[fb]at hbx)|refine wj ?_|simp -dsimp only[↓bp,bq,br,seval,xU,bC, *]|refine wz ?_|fail)
  all_goals(first|(simp only[wr, *,Bool.and_true,Bool.true_and,Bool.and_false,Bool.false_and,Bool.or_true,Bool.true_or,Bool.or_false,Bool.false_or,Bool.not_true,Bool.not_false,if_true,if_false,Bool.and_self,Bool.or_self];done)|(simp[wr, *];done)|(simp_all [wr];done))
 ·have hl0:(t.limbs.length:Int)=0:=by omega
  clear h1 h2 h3 hb
  refine aJ.of_awp mixed Tryz.func72 rfl (by kernel_rfl) (by kernel_rfl) (by simp[Tryz.ntmps72]) Tryz.results72 ?_
  repeat'(first|refine xs ?_ ?_ <;>intros|(refine wn ?_;intro bx hbx;try simp only[fb]at hbx)|refine wj ?_|simp -dsimp only[↓bp,bq,br,seval,xU,bC, *]|refine wz ?_|fail)
  all_goals(first|(simp only[wr, *,Bool.and_true,Bool.true_and,Bool.and_false,Bool.false_and,Bool.or_true,Bool.true_or,Bool.or_false,Bool.false_or,Bool.not_true,Bool.not_false,if_true,if_false,Bool.and_self,Bool.or_self];done)|(simp[wr, *];done)|(simp_all [wr];done))
def fG(t:aA)(text num items tail:Bool):Bool:=
 !t.neg && decide ((t.limbs.length:Int)=0) && (text||decide (t.text=[])) && (num||decide (t.num=0)) && (items||decide ((t.items.length:Int)=0)) && (tail||decide ((t.tail.length:Int)=0))
set_option maxHeartbeats 2000000 in
theorem kO(t:aA):aB Tryz.prog G 73 [t.enc, .bool true, .bool false, .bool false, .bool false] (.bool (fG t true false false false)):=by
 intro σ
 refine aJ.of_awp mixed Tryz.func73 rfl (by kernel_rfl) (by kernel_rfl) (by simp[Tryz.ntmps73]) Tryz.results73 ?_
 repeat'(first|refine xs ?_ ?_ <;>intros|(refine wn ?_;intro bx hbx;try simp only[fb]at hbx)|refine wj ?_|simp -dsimp only[↓bp,bq,br,seval,xU, *]|refine wz ?_|fail)
 all_goals(first|(simp only[fG, *,Bool.and_true,Bool.true_and,Bool.and_false,Bool.false_and,Bool.or_true,Bool.true_or,Bool.or_false,Bool.false_or,Bool.not_true,Bool.not_false,if_true,if_false,Bool.and_self,Bool.or_self];done)|(simp[fG, *];done)|(simp_all [fG];done))
set_option maxHeartbeats 2000000 in
theorem kP(t:aA):aB Tryz.prog G 73 [t.enc, .bool false, .bool true, .bool false, .bool false] (.bool (fG t false true false false)):=by
 intro σ
 refine aJ.of_awp mixed Tryz.func73 rfl (by kernel_rfl) (by kernel_rfl) (by simp[Tryz.ntmps73]) Tryz.results73 ?_
 repeat'(first|refine xs ?_ ?_ <;>intros|(refine wn ?_;intro bx hbx;try simp only[fb]at hbx)|refine wj ?_|simp -dsimp only[↓bp,bq,br,seval,xU, *]|refine wz ?_|fail)
 all_goals(first|(simp only[fG, *,Bool.and_true,Bool.true_and,Bool.and_false,Bool.false_and,Bool.or_true,Bool.true_or,Bool.or_false,Bool.false_or,Bool.not_true,Bool.not_false,if_true,if_false,Bool.and_self,Bool.or_self];done)|(simp[fG, *];done)|(simp_all [fG];done))
set_option maxHeartbeats 2000000 in
theorem kQ(t:aA):aB Tryz.prog G 73 [t.enc, .bool false, .bool true, .bool true, .bool false] (.bool (fG t false true true false)):=by
 intro σ
 refine aJ.of_awp mixed Tryz.func73 rfl (by kernel_rfl) (by kernel_rfl) (by simp[Tryz.ntmps73]) Tryz.results73 ?_
 repeat'(first|refine xs ?_ ?_ <;>intros|(refine wn ?_;intro bx hbx;try simp only[fb]at hbx)|refine wj ?_|simp -dsimp only[↓bp,bq,br,seval,xU, *]|refine wz ?_|fail)
 all_goals(first|(simp only[fG, *,Bool.and_true,Bool.true_and,Bool.and_false,Bool.false_and,Bool.or_true,Bool.true_or,Bool.or_false,Bool.false_or,Bool.not_true,Bool.not_false,if_true,if_false,Bool.and_self,Bool.or_self];done)|(simp[fG, *];done)|(simp_all [fG];done))
set_option maxHeartbeats 2000000 in
theorem kR(t:aA):aB Tryz.prog G 73 [t.enc, .bool false, .bool false, .bool true, .bool false] (.bool (fG t false false true false)):=by
 intro σ
 refine aJ.of_awp mixed Tryz.func73 rfl (by kernel_rfl) (by kernel_rfl) (by simp[Tryz.ntmps73]) Tryz.results73 ?_
 repeat'(first|refine xs ?_ ?_ <;>intros|(refine wn ?_;intro bx hbx;try simp only[fb]at hbx)|refine wj ?_|simp -dsimp only[↓bp,bq,br,seval,xU, *]|refine wz ?_|fail)
 all_goals(first|(simp only[fG, *,Bool.and_true,Bool.true_and,Bool.and_false,Bool.false_and,Bool.or_true,Bool.true_or,Bool.or_false,Bool.false_or,Bool.not_true,Bool.not_false,if_true,if_false,Bool.and_self,Bool.or_self];done)|(simp[fG, *];done)|(simp_all [fG];done))
set_option maxHeartbeats 2000000 in
theorem jR(t:aA):aB Tryz.prog G 73 [t.enc, .bool false, .bool false, .bool true, .bool true] (.bool (fG t false false true true)):=by
 intro σ
 refine aJ.of_awp mixed Tryz.func73 rfl (by kernel_rfl) (by kernel_rfl) (by simp[Tryz.ntmps73]) Tryz.results73 ?_
 repeat'(first|refine xs ?_ ?_ <;>intros|(refine wn ?_;intro bx hbx;try simp only[fb]at hbx)|refine wj ?_|simp -dsimp only[↓bp,bq,br,seval,xU, *]|refine wz ?_|fail)
 all_goals(first|(simp only[fG, *,Bool.and_true,Bool.true_and,Bool.and_false,Bool.false_and,Bool.or_true,Bool.true_or,Bool.or_false,Bool.false_or,Bool.not_true,Bool.not_false,if_true,if_false,Bool.and_self,Bool.or_self];done)|(simp[fG, *];done)|(simp_all [fG];done))
end
set_option maxRecDepth 20000
section
def mV:=And.intro (And.intro (And.intro (And.intro @jD @iZ) (And.intro @jJ (And.intro @eG @jE))) (And.intro (And.intro @dL (And.intro @eN @dV)) (And.intro @eD (And.intro @aA.flat_enc @aA.isv_enc)))) (And.intro (And.intro (And.intro @aA.fold_enc (And.intro @aS @aN)) (And.intro @aU (And.intro @bW @bG))) (And.intro (And.intro @aQ (And.intro @aM @aZ)) (And.intro @cH (And.intro @bQ @bB))))
variable (G:Nat ->AV)
def head(t:aA):Int × Int × Bool:=
 if t.knd=2 then(1,0,fG t true false false false && decide ((t.text.length:Int) <=40))
 else if t.knd=3 \/ t.knd=5 then(1,0,fG t false true false false && decide (0 <=t.num) && decide (t.num <=1099511627776))
 else if t.knd=4 then(2,0,fG t false true true false && decide (0 <=t.num) && decide (t.num <=16384))
 else if t.knd=6 then(1,0,fG t false false true false)
 else if t.knd=7 then(1,1,fG t false false true true && decide ((t.tail.length:Int) <=if(t.items.length:Int) < 1 then(t.items.length:Int)else 1) && t.tail.all fun x=>decide (x.knd ≠ 7))
 else(1,0,false)
mutual
def size:aA ->Int
 | .mk k g l s n ks ts=>
  if(k.toNat:Int)=1 then(if wr (.mk k g l s n ks ts)=true then 1+l.length else 0)else
   let h:=head (.mk k g l s n ks ts)
   let a:=bI ks h.2.1 (h.1,h.2.2)
   let b:=bI ts 0 a
   if b.2=true then b.1 else 0
def bI:List aA ->Int ->Int × Bool ->Int × Bool
 |[],_,a=>a
 |k::ks,each,a=>if a.2=true then bI ks each (a.1+size k+each,decide (0 < size k) && decide (a.1+size k+each <=4096))else a
end
theorem jL(t:aA):size t=if t.knd=1 then(if wr t=true then(1+t.limbs.length:Int)else 0)else
  if(bI t.tail 0 (bI t.items (head t).2.1 ((head t).1,(head t).2.2))).2=true then(bI t.tail 0 (bI t.items (head t).2.1 ((head t).1,(head t).2.2))).1 else 0:=by
 cases t;rw[size];rfl
theorem fU(l:List aA)(h:∀ x,x ∈ l ->0 <=size x /\ size x <=4096)(each:Int)(he0:0 <=each)(he1:each <=1):∀ a:Int × Bool,0 < a.1 -> (a.2=true ->a.1 <=4096) ->a.1 <=10000 ->
  0 < (bI l each a).1 /\ ((bI l each a).2=true -> (bI l each a).1 <=4096) /\ (bI l each a).1 <=10000:=by
 induction l with
 |nil=>intro a h1 h2 h3;exact⟨h1,h2,h3⟩
 | cons x l ih=>
  intro a h1 h2 h3
  have hx:=h x (by simp)
  simp only[bI]
  split
  ·rename_i hf
   have:=h2 hf
   refine ih (fun y hy=>h y (by simp[hy])) _ (by simp only;omega) (fun hh=> ?_) (by simp only;omega)
   simp only[Bool.and_eq_true,decide_eq_true_eq]at hh
   exact hh.2
  ·exact⟨h1,h2,h3⟩
theorem B1w(t:aA):0 < (head t).1 /\ (head t).1 <=2 /\ 0 <=(head t).2.1 /\ (head t).2.1 <=1:=by
 unfold head;split <;> (try split) <;> (try split) <;> (try split) <;> (try split) <;>simp
theorem kK(t:aA):0 <=size t /\ size t <=4096:=by
 refine aA.ind (P:=fun t=>0 <=size t /\ size t <=4096) (fun t ih1 ih2=> ?_) t
 obtain⟨h1,h2,h3,h4⟩:=B1w t
 have a:=fU t.items ih1 _ h3 h4 ((head t).1,(head t).2.2) h1 (fun _=>by simp only;omega) (by simp only;omega)
 have b:=fU t.tail ih2 0 (by omega) (by omega) _ a.1 a.2.1 a.2.2
 rw[jL]
 split
 ·split
  ·rename_i hw
   simp only[wr,Bool.and_eq_true,decide_eq_true_eq]at hw
   omega
  ·omega
 ·split
  ·rename_i hf
   have:=b.2.1 hf
   omega
  ·omega
theorem lW(l:List aA)(each n:Int):bI l each (n,false)=(n,false):=by cases l <;>simp[bI]
theorem cJ (l:List aA) (each:Int) (he0:0 <=each) (he1:each <=1) (hl:l.length <=1000000000) (hf:∀ x,x ∈ l ->aB Tryz.prog G 39 [x.enc] (.int .i64 (size x))) (σ:AS) (bf bn:Nat) (hne:bf ≠ bn) (n:Int) (f:Bool)
  (hbf:σ.box bf=some [.bool f]) (hbn:σ.box bn=some [.int .i64 n]) (hn0:0 < n) (hn1:f=true ->n <=4096) (hn2:n <=10000):
  aJ Tryz.prog G 74 [aH l, .int .i64 each, .ptr bf 0, .ptr bn 0] σ fun r σ'=>σ'=(σ.setBox bn [.int .i64 (bI l each (n,f)).1]).setBox bf [.bool (bI l each (n,f)).2]:=by
 have hnb:bn ≠ bf:=Ne.symm hne
 have hid:σ=(σ.setBox bn [.int .i64 n]).setBox bf [.bool f]:=by
  unfold AS.setBox;cases σ with
  | mk box tip ty=>
   simp only[AS.mk.injEq,and_true]
   funext i
   split
   ·rename_i h;subst h;exact hbf
   ·split
    ·rename_i h;subst h;exact hbn
    ·rfl
 have sw:∀ (m m':Int) (g g':Bool),(((σ.setBox bn [.int .i64 m]).setBox bf [.bool g]).setBox bn [.int .i64 m']).setBox bf [.bool g']=(σ.setBox bn [.int .i64 m']).setBox bf [.bool g']:=fun m m' g g'=>by
  unfold AS.setBox
  congr 1
  funext i
  simp only
  by_cases h1:i=bf
  ·simp[h1]
  ·by_cases h2:i=bn
   ·simp[h1,h2]
   ·simp[h1,h2]
 refine aJ.of_awp mixed Tryz.func74 rfl (by kernel_rfl) (by kernel_rfl) (by simp[Tryz.ntmps74]) Tryz.results74 ?_
 simp -dsimp only[↓bp,bq,br,seval,mV]
 refine aI (fun k e σ'=>∃ (i:Nat) (a:Int × Bool),i <=l.length /\ k=l.length - i /\ e 6= .int .i64 i /\ 0 < a.1 /\ (a.2=true ->a.1 <=4096) /\ a.1 <=10000 /\ bI (l.drop i) each a=bI l each (n,f) /\ σ'=(σ.setBox bn [.int .i64 a.1]).setBox bf [.bool a.2]) l.length
  ⟨0,(n,f),by omega,by omega,by simp -dsimp only[↓bp,bq,br,seval,mV];try rfl,hn0,hn1,hn2,by rw[List.drop_zero],hid⟩ ?_
 rintro k v σ' ⟨i,⟨m,g⟩,hi,rfl,h6,hm0,hm1,hm2,ha,rfl⟩
 simp only at hm0 hm1 hm2 ⊢
 simp -dsimp only[↓bp,bq,br,seval,mV]at h6
 simp -dsimp only[↓bp,bq,br,seval,mV,h6]
 refine A0i (fun hlt=> ?_) (fun hge=> ?_)
 ·obtain⟨x,hx⟩:∃ x,l[i]? =some x:=⟨_,List.getElem?_eq_getElem (by omega)⟩
  have hxm:x ∈ l:=List.mem_of_getElem? hx
  have hs:=kK x
  have hdr:=dC _ _ _ hx
  have hp:=hf x hxm
  cases g with
  | false=>
   simp -dsimp only[↓bp,bq,br,seval,mV,h6,hx,hlt,hne,hnb]
   refine⟨_,_,rfl,AS.le.refl _,?_⟩
   rw[<- ha,lW]
  | true=>
   have hm1:=hm1 rfl
   have hw1:IntKind.i64.wrap (size x+each)=size x+each:=aC (by omega) (by omega)
   have hw2:IntKind.i64.wrap (m+(size x+each))=m+size x+each:=by rw[aC (by omega) (by omega)];omega
   simp -dsimp only[↓bp,bq,br,seval,mV,h6,hx,hlt,hne,hnb]
   refine aB.use hp ?_
   simp -dsimp only[↓bp,bq,br,seval,mV,h6,hx,hlt,hne,hnb,hw1,hw2]
   have hnx:bI (l.drop (i+1)) each (m+size x+each,decide (0 < size x) && decide (m+size x+each <=4096))=bI l each (n,f):=by rw[<- ha,hdr];simp[bI]
   refine A0i (fun h0=> ?_) (fun h0=> ?_)
   ·simp -dsimp only[↓bp,bq,br,seval,mV,h6,hx,hlt,hne,hnb,hw1,hw2,h0]
    refine⟨l.length - (i+1),by omega,i+1,(m+size x+each,decide (0 < size x) && decide (m+size x+each <=4096)),by omega,rfl,by rw[aC (by omega) (by omega)];rfl,by simp only;omega,?_,by simp only;omega,hnx,?_⟩
    ·intro hh
     simp only[Bool.and_eq_true,decide_eq_true_eq]at hh
     exact hh.2
    ·simp only[h0,decide_true,Bool.true_and]
     exact sw _ _ _ _
   ·simp -dsimp only[↓bp,bq,br,seval,mV,h6,hx,hlt,hne,hnb,hw1,hw2,h0]
    refine⟨l.length - (i+1),by omega,i+1,(m+size x+each,decide (0 < size x) && decide (m+size x+each <=4096)),by omega,rfl,by rw[aC (by omega) (by omega)];rfl,by simp only;omega,?_,by simp only;omega,hnx,?_⟩
    ·intro hh
     simp only[Bool.and_eq_true,decide_eq_true_eq]at hh
     exact hh.2
    ·simp only[h0,decide_false,Bool.false_and]
     exact sw _ _ _ _
 ·have:i=l.length:=by omega
  subst this
  rw[List.drop_length]at ha
  simp -dsimp only[↓bp,bq,br,seval,mV,h6,hge]
  refine⟨_,_,rfl,AS.le.refl _,?_⟩
  rw[<- ha];rfl
end
end Go.Proofs.YtdhbdhopnpmboaaGreatDoor
