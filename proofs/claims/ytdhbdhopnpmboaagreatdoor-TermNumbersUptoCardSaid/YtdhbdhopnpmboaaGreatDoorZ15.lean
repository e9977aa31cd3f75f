/- Terms put together: the answer is in memory of its own. -/
import Derived.Test.YtdhbdhopnpmboaaGreatDoorZ11
import Derived.Test.YtdhbdhopnpmboaaGreatDoorZ14
import Derived.Test.YtdhbdhopnpmboaaGreatDoorZ13
import Derived.Test.YtdhbdhopnpmboaaGreatDoorZ10
import Derived.Test.YtdhbdhopnpmboaaGreatDoorZ07
set_option linter.unusedVariables false
set_option linter.unusedSimpArgs false
set_option maxRecDepth 20000
set_option linter.defProp false
namespace Go.Proofs.YtdhbdhopnpmboaaGreatDoor
open Go Go.Av
section
def cT:=And.intro (And.intro (And.intro (And.intro @jD (And.intro @iZ @jJ)) (And.intro @eG (And.intro @jE @dL))) (And.intro (And.intro @eN (And.intro @dV @eD)) (And.intro @qJ (And.intro @aA.flat_enc @aA.isv_enc)))) (And.intro (And.intro (And.intro @aA.fold_enc (And.intro @aS @aN)) (And.intro @aU (And.intro @bW @bG))) (And.intro (And.intro @aQ (And.intro @aM @aZ)) (And.intro @cH (And.intro @bQ @bB))))
variable (G:Nat ->AV)
def B2y(l:List aA):wU:=fun σ v S=>iB σ false l v S
theorem A5a(l:List aA):wL (B2y l):=fun _ _ v S h hk=>h.keep hk
def A3h(G:Nat ->AV)(f:FuncId)(args:List AV)(x:aA):Prop:=∀ σ,aJ Tryz.prog G f args σ fun r σ'=>∃ S,cW σ' false x r S /\ bK σ σ' S
def C7p(G:Nat ->AV)(f:FuncId)(args:List AV)(l:List aA):Prop:=∀ σ,aJ Tryz.prog G f args σ fun r σ'=>∃ S,iB σ' false l r S /\ bK σ σ' S
theorem mJ{σ:AS} :cW σ false cN (.agg [.int .u8 0, .bool false, .nil, .str [], .int .i64 0, .nil, .nil]) []:=by
 rw[bX]
 exact⟨.nil, .nil, .nil,[],[],[],rfl,rfl, .inl ⟨rfl,rfl,rfl,rfl⟩, .inl ⟨rfl,rfl,rfl,rfl⟩, .inl ⟨rfl,rfl,rfl,rfl⟩⟩
theorem bK.none{σ σ':AS}(h:σ.le σ'):bK σ σ' []:=⟨h,by simp,by simp,by simp⟩
theorem A1t(h:aA)(hh:h.bulk <=300000000):C7p G 50 [.sl .full [.sl .full [h.enc] []] []] [h]:=fun σ=>by
 have h1:=aJ.weaken (args:=[.sl .full [.sl .full [h.enc] []] []]) (.cons (Le.sl (.cons (qU [h]) .nil)) .nil) (xE G [[h]] (by simp) (by simp) (fun x hx=>by simp at hx;subst hx;exact pN G x (by omega)) σ)
 simpa using h1
theorem B4e(h:aA)(l:List aA)(hh:h.bulk <=300000000)(hb:aV l <=300000000):C7p G 50 [.sl .full [.sl .full [h.enc] [],aH l] []] (h::l):=fun σ=>by
 have hl:=dY l
 have h1:=aJ.weaken (args:=[.sl .full [.sl .full [h.enc] [],aH l] []]) (.cons (Le.sl (.cons (qU [h]) (.cons (LeE.of (Le.refl _) rfl rfl rfl) .nil))) .nil) (xE G [[h],l] (by simp) (by simp;omega) (fun x hx=>by
  simp at hx
  rcases hx with rfl|hx
  ·exact pN G _ (by omega)
  ·exact pN G x (by have:=eQ hx;omega)) σ)
 simpa using h1
theorem uO(l:List aA)(hb:aV l <=300000000):C7p G 50 [.sl .full [aH l] []] l:=fun σ=>uN G l (by have:=dY l;omega) (fun x hx=>pN G x (by have:=eQ hx;omega)) σ
theorem A1s(h t:aA)(hh:h.bulk <=300000000)(ht:t.bulk <=300000000)(hr:right h=false \/ right t=false):A3h G 20 [h.enc,t.enc] cN:=by
 have rh:=cP G h (by omega)
 have rt:=cP G t (by omega)
 intro σ
 rcases hr with hr|hr
 ·rw[hr]at rh
  refine aJ.of_awp mixed Tryz.func20 rfl (by kernel_rfl) (by kernel_rfl) (by simp[Tryz.ntmps20]) Tryz.results20 ?_
  repeat'(first|refine xs ?_ ?_ <;>intros|(refine wn ?_;intro bx hbx;try simp only[fb]at hbx)|refine wp rh ?_|refine wp rt ?_|refine wj ?_|simp -dsimp only[↓bp,bq,br,seval,cT, *]|refine wz ?_|fail)
  exact aE _ (AS.le.refl _) ⟨[],mJ,bK.none (by repeat' first|exact lr _|assumption|refine ls ?_ ?_|refine lt ?_ ?_|simp only[*];done|simp only[fb, *,not_false_eq_true,and_self];done|exact lf ‹_› (by simp only[*]))⟩
 ·cases eh:right h
  all_goals
   rw[hr]at rt
   rw[eh]at rh
   refine aJ.of_awp mixed Tryz.func20 rfl (by kernel_rfl) (by kernel_rfl) (by simp[Tryz.ntmps20]) Tryz.results20 ?_
   repeat'(first|refine xs ?_ ?_ <;>intros|(refine wn ?_;intro bx hbx;try simp only[fb]at hbx)|refine wp rh ?_|refine wp rt ?_|refine wj ?_|simp -dsimp only[↓bp,bq,br,seval,cT, *]|refine wz ?_|fail)
  all_goals exact aE _ (AS.le.refl _) ⟨[],mJ,bK.none (by repeat' first|exact lr _|assumption|refine ls ?_ ?_|refine lt ?_ ?_|simp only[*];done|simp only[fb, *,not_false_eq_true,and_self];done|exact lf ‹_› (by simp only[*]))⟩
def E6w(l r:List aA)(σ s:AS)(x:AV):Prop:=∃ b vi vt A B,x= .ptr b 0 /\ bK σ s (b::(A++B)) /\ s.box b=some [.int .u8 7, .bool false, .nil, .str [], .int .i64 0,vi,vt] /\ iB s false l vi A /\ iB s false r vt B
theorem wE{s:AS}{l r:List aA}{vi vt:AV}{A B:List Nat}(h1:iB s false l vi A)(h2:iB s false r vt B):cW s false (bA l r) (.agg [.int .u8 7, .bool false, .nil, .str [], .int .i64 0,vi,vt]) (A++B):=by
 rw[bX]
 exact⟨.nil,vi,vt,[],A,B,rfl,rfl, .inl ⟨rfl,rfl,rfl,rfl⟩,h1,h2⟩
set_option maxHeartbeats 4000000 in
theorem B1n(h t:aA)(hh:h.bulk <=300000000)(ht:t.bulk <=300000000)(rh:aB Tryz.prog G 9 [h.enc] (.bool true))(rt:aB Tryz.prog G 9 [t.enc] (.bool true)):A3h G 20 [h.enc,t.enc] (if right (fH h t)=true then fH h t else cN):=by
 have ca:=A1t G h hh
 have cb:=A1t G t ht
 intro σ
 refine aJ.of_awp mixed Tryz.func20 rfl (by kernel_rfl) (by kernel_rfl) (by simp[Tryz.ntmps20]) Tryz.results20 ?_
 repeat'(first|(refine wn ?_;intro bx hbx;try simp only[fb]at hbx)|refine wp rh ?_|refine wp rt ?_|refine wi ?_|simp -dsimp only[↓bp,bq,br,seval,cT, *]|refine wz ?_|fail)
 rename_i b2 hb2 b3 hb3
 obtain⟨⟨e1,e2,e3⟩,e4,e5⟩:=hbx
 obtain⟨hb3,e6,e7⟩:=hb3
 obtain⟨S0,hS0⟩:∃ S0:AS,S0=((σ.setBox b2 [.int .u8 h.knd, .bool h.neg,bD h.limbs, .str h.text, .int .i64 h.num,aH h.items,aH h.tail]).setBox b3 [.int .u8 t.knd, .bool t.neg,bD t.limbs, .str t.text, .int .i64 t.num,aH t.items,aH t.tail]).setBox bx [.int .u8 0, .bool false, .nil, .str [], .int .i64 0, .nil, .nil]:=⟨_,rfl⟩
 have l0:σ.le S0:=by rw[hS0];exact(((AS.le.refl σ).setBox hb2.1 _).setBox hb3.1 _).setBox e1.1 _
 have f2:S0.box b2=some [.int .u8 h.knd, .bool h.neg,bD h.limbs, .str h.text, .int .i64 h.num,aH h.items,aH h.tail]:=by rw[hS0];simp only[AS.setBox,if_neg e3,if_neg e7,if_true]
 have f3:S0.box b3=some [.int .u8 t.knd, .bool t.neg,bD t.limbs, .str t.text, .int .i64 t.num,aH t.items,aH t.tail]:=by rw[hS0];simp only[AS.setBox,if_neg e5,if_true]
 have f4:S0.box bx=some [.int .u8 0, .bool false, .nil, .str [], .int .i64 0, .nil, .nil]:=by rw[hS0];exact AS.set_get
 have f4':=f4
 have y4:σ.box bx=none:=e1.1
 rw[<- hS0]
 clear hS0 hb2 hb3 e1 e2 e3 e4 e5 e6 e7 rh rt
 refine rP mixed (fun ev s=>E6w [h] [t] S0 s (ev 5)) ?_ ?_
 ·refine A8y 10 (fun k=> [15,16,17,18,19,20,21,22,23,5].getD k 0) (fun k=>if k=8 then[3,7]else[]) (fun k V=>match k with|0=>wQ h.enc|1=>wQ (.sl .full [h.enc] [])|2=>wQ (.sl .full [.sl .full [h.enc] []] [])|3=>B2y [h]|4=>wQ t.enc|5=>wQ (.sl .full [t.enc] [])|6=>wQ (.sl .full [.sl .full [t.enc] []] [])|7=>B2y [t]|8=>wQ (.agg [.int .u8 7, .bool false, .nil, .str [], .int .i64 0,V 3,V 7])|_=>isB [.int .u8 0, .bool false, .nil, .str [], .int .i64 0, .nil, .nil]) (by decide+kernel) (by decide) (by decide) ?_ ?_ rfl rfl ?_ ?_
  ·intro k V
   match k with
   |0|1|2|4|5|6|8=>exact lD _
   |3|7=>exact A5a _
   |k+9=>exact rR _
  ·intro k V V' s v S hd hq
   match k,hd,hq with
   |0,_,hq|1,_,hq|2,_,hq|3,_,hq|4,_,hq|5,_,hq|6,_,hq|7,_,hq=>exact hq
   |8,hd,hq=>rw[hd 3 (by simp),hd 7 (by simp)]at hq;exact hq
   |k+9,_,hq=>exact hq
  ·refine⟨.inl ⟨rfl,rfl,fun ev s hs hw hf=> ?_⟩, .inl ⟨rfl,rfl,fun ev s hs hw hf=> ?_⟩, .inl ⟨rfl,rfl,fun ev s hs hw hf=> ?_⟩, .inl ⟨rfl,rfl,fun ev s hs hw hf=> ?_⟩, .inl ⟨rfl,rfl,fun ev s hs hw hf=> ?_⟩, .inl ⟨rfl,rfl,fun ev s hs hw hf=> ?_⟩, .inl ⟨rfl,rfl,fun ev s hs hw hf=> ?_⟩, .inl ⟨rfl,rfl,fun ev s hs hw hf=> ?_⟩, .inl ⟨rfl,by decide+kernel,fun ev s hs hw hf=> ?_⟩, .inl ⟨rfl,rfl,fun ev s hs hw hf=> ?_⟩,trivial⟩
   ·have h0:=hf 2 (by decide)
    have hb:=hs.box _ _ f2
    simp -dsimp only[↓bp,bq,br,seval,cT]at h0
    simp -dsimp only[↓bp,bq,br,seval,cT,h0,hb]
    exact⟨[],bK.refl _,rfl,rfl⟩
   ·obtain⟨A,h0,_⟩:=hw 0 (by decide+kernel)
    replace h0:ev 15=h.enc:=h0
    repeat'(first|(refine wn ?_;intro bx hbx;try simp only[fb]at hbx)|refine wi ?_|simp -dsimp only[↓bp,bq,br,seval,cT, *]|refine wz ?_|fail)
    exact⟨[],bK.refl _,rfl,rfl⟩
   ·obtain⟨A,h0,_⟩:=hw 1 (by decide+kernel)
    replace h0:ev 16= .sl .full [h.enc] []:=h0
    repeat'(first|(refine wn ?_;intro bx hbx;try simp only[fb]at hbx)|refine wi ?_|simp -dsimp only[↓bp,bq,br,seval,cT, *]|refine wz ?_|fail)
    exact⟨[],bK.refl _,rfl,rfl⟩
   ·obtain⟨A,h0,_⟩:=hw 2 (by decide+kernel)
    replace h0:ev 17= .sl .full [.sl .full [h.enc] []] []:=h0
    simp -dsimp only[↓bp,bq,br,seval,cT,h0]
    refine aJ.mono (ca s) ?_
    rintro r s' ⟨S',a,b⟩
    exact⟨S',b,a⟩
   ·have h0:=hf 3 (by decide)
    have hb:=hs.box _ _ f3
    simp -dsimp only[↓bp,bq,br,seval,cT]at h0
    simp -dsimp only[↓bp,bq,br,seval,cT,h0,hb]
    exact⟨[],bK.refl _,rfl,rfl⟩
   ·obtain⟨A,h0,_⟩:=hw 4 (by decide+kernel)
    replace h0:ev 19=t.enc:=h0
    repeat'(first|(refine wn ?_;intro bx hbx;try simp only[fb]at hbx)|refine wi ?_|simp -dsimp only[↓bp,bq,br,seval,cT, *]|refine wz ?_|fail)
    exact⟨[],bK.refl _,rfl,rfl⟩
   ·obtain⟨A,h0,_⟩:=hw 5 (by decide+kernel)
    replace h0:ev 20= .sl .full [t.enc] []:=h0
    repeat'(first|(refine wn ?_;intro bx hbx;try simp only[fb]at hbx)|refine wi ?_|simp -dsimp only[↓bp,bq,br,seval,cT, *]|refine wz ?_|fail)
    exact⟨[],bK.refl _,rfl,rfl⟩
   ·obtain⟨A,h0,_⟩:=hw 6 (by decide+kernel)
    replace h0:ev 21= .sl .full [.sl .full [t.enc] []] []:=h0
    simp -dsimp only[↓bp,bq,br,seval,cT,h0]
    refine aJ.mono (cb s) ?_
    rintro r s' ⟨S',a,b⟩
    exact⟨S',b,a⟩
   ·obtain⟨A,h18⟩:=hw 3 (by decide+kernel)
    obtain⟨B,h22⟩:=hw 7 (by decide+kernel)
    replace h18:iB s false [h] (ev 18) A:=h18
    replace h22:iB s false [t] (ev 22) B:=h22
    obtain⟨u1,u2,u3⟩:=h18.one
    obtain⟨u4,u5,u6⟩:=h22.one
    repeat'(first|(refine wn ?_;intro bx hbx;try simp only[fb]at hbx)|refine wi ?_|simp -dsimp only[↓bp,bq,br,seval,cT, *]|refine wz ?_|fail)
    exact⟨[],bK.refl _,rfl,rfl⟩
   ·simp -dsimp only[↓bp,bq,br,seval,cT]
    refine aY fun b hb=> ⟨[b],bK.one hb _,b,rfl,rfl,AS.set_get⟩
  ·intro F ev s hF hQ hf
   have h1:iB s false [h] (ev 18) (F 3):=hQ 3 (by omega)
   have h2:iB s false [t] (ev 22) (F 7):=hQ 7 (by omega)
   have h3:ev 23= .agg [.int .u8 7, .bool false, .nil, .str [], .int .i64 0,ev 18,ev 22]:=(hQ 8 (by omega)).1
   obtain⟨b5,h5,e5,n5⟩:isB [.int .u8 0, .bool false, .nil, .str [], .int .i64 0, .nil, .nil] s (ev 5) (F 9):=hQ 9 (by omega)
   generalize ev 18=vi at*
   generalize ev 22=vt at*
   obtain⟨u1,u2,u3⟩:=h1.one
   obtain⟨u4,u5,u6⟩:=h2.one
   have hk:∀ C b,(b ∈ F 3 \/ b ∈ F 7) -> (s.setBox b5 C).box b=s.box b:=fun C b hb=>by
    have n7:b ≠ b5:=fun e=>by rcases hb with hb|hb <;> (have:=hF.dj _ 9 b hb (by rw[e5,e];simp);omega)
    simp only[AS.setBox,if_neg n7]
   have h5m:b5 ∈ F 9:=by rw[e5];simp
   clear hf hQ ca cb
   repeat'(first|(refine wn ?_;intro bx hbx;try simp only[fb]at hbx)|refine wi ?_|simp -dsimp only[↓bp,bq,br,seval,cT, *]|refine wz ?_|fail)
   refine⟨b5,vi,vt,F 3,F 7,rfl,⟨hF.le.setBox (hF.fr 9 b5 h5m).1 _,fun b hb=> ?_,?_,fun b hb=> ?_⟩,AS.set_get,h1.keep fun b hb=>hk _ b (.inl hb),h2.keep fun b hb=>hk _ b (.inr hb)⟩
   ·rcases List.mem_cons.1 hb with rfl|hb
    ·exact hF.fr 9 b h5m
    rcases List.mem_append.1 hb with hb|hb
    ·exact hF.fr 3 b hb
    ·exact hF.fr 7 b hb
   ·refine List.nodup_cons.2 ⟨fun h=> ?_,List.nodup_append.2 ⟨hF.nd 3,hF.nd 7,fun a ha b hb e=> ?_⟩⟩
    ·rcases List.mem_append.1 h with h|h <;> (have:=hF.dj _ 9 b5 h h5m;omega)
    ·subst e;have:=hF.dj 3 7 a ha hb;omega
   ·rcases List.mem_cons.1 hb with rfl|hb
    ·exact⟨_,AS.set_get⟩
    rcases List.mem_append.1 hb with hb|hb
    ·rw[hk _ b (.inl hb)];exact hF.on 3 b hb
    ·rw[hk _ b (.inr hb)];exact hF.on 7 b hb
 intro v s5 h5
 obtain⟨b5,vi,vt,A,B,h5,hN,n5,oI,oT⟩:=h5
 simp -dsimp only[↓bp,bq,br,seval,cT]at h5
 replace f2:=hN.le.box _ _ f2
 replace f3:=hN.le.box _ _ f3
 replace f4:=hN.le.box _ _ f4
 have l5:=l0.trans hN.le
 by_cases h7:t.knd=7
 ·have k7:=eq_true h7
  have cc:=B4e G h t.items hh (by have:=t.bulk_eq;omega)
  have cd:=uO G t.tail (by have:=t.bulk_eq;omega)
  have hc0:fH h t=bA (h::t.items) t.tail:=by unfold fH;rw[if_pos h7]
  have hbk:(fH h t).bulk <=1000000000:=by have:=pM h t;omega
  obtain⟨u1,u2,u3⟩:=oI.one
  obtain⟨u4,u5,u6⟩:=oT.one
  clear oI oT ca cb h7
  have n5f:=(hN.fr b5 (by simp)).1
  have n54:b5 ≠ bx:=fun e=>by rw[e,f4']at n5f;cases n5f
  have y5:σ.box b5=none:=l0.noBox n5f
  clear hN f4'
  repeat'(first|(refine wn ?_;intro bx hbx;try simp only[fb]at hbx)|refine wi ?_|simp -dsimp only[↓bp,bq,br,seval,cT, *]|refine wz ?_|fail)
  refine vZ 11 [0,1,2,3,4,6,7,8,5,10,9] (by decide+kernel) rfl ?_
  intro hinf
  refine fD (v:=h.enc) rfl rfl (by simp only[tR];simp -dsimp only[↓bp,bq,br,seval,cT, *]) ?_
  refine fD (v:= .sl .full [h.enc] []) rfl rfl (by simp only[tR];simp -dsimp only[↓bp,bq,br,seval,cT];exact A2u tW (aA.isv_enc h) (by rw[aA.flat_enc];rfl) (by omega)) ?_
  refine fD (v:= .ptr b3 5) rfl rfl (by simp only[tR];simp -dsimp only[↓bp,bq,br,seval,cT, *]) ?_
  refine fD (v:=aH t.items) rfl rfl (by simp only[tR];simp -dsimp only[↓bp,bq,br,seval,cT, *]) ?_
  refine fD (v:= .sl .full [.sl .full [h.enc] [],aH t.items] []) rfl rfl (by simp only[tR];simp -dsimp only[↓bp,bq,br,seval,cT];exact D5i E9u rfl rfl (aS _) (by rw[aN];rfl) (by omega)) ?_
  refine fD (v:= .ptr b3 6) rfl rfl (by simp only[tR];simp -dsimp only[↓bp,bq,br,seval,cT, *]) ?_
  refine fD (v:=aH t.tail) rfl rfl (by simp only[tR];simp -dsimp only[↓bp,bq,br,seval,cT, *]) ?_
  refine fD (v:= .sl .full [aH t.tail] []) rfl rfl (by simp only[tR];simp -dsimp only[↓bp,bq,br,seval,cT];exact A3o _) ?_
  refine vB rfl rfl ?_
  simp -dsimp only[↓bp,bq,br,seval,cT]
  refine aJ.mono (aJ.inf G (cc _)) ?_
  rintro xi s6 ⟨⟨SI,hI,nI⟩,i1⟩
  refine⟨nI.le,i1,?_⟩
  obtain⟨a1,a2,a3⟩:=hI.one
  refine fD (v:= .ptr b5 5) rfl rfl (by simp only[tR];simp -dsimp only[↓bp,bq,br,seval,cT, *]) ?_
  refine vB rfl rfl ?_
  simp -dsimp only[↓bp,bq,br,seval,cT]
  refine aJ.mono (aJ.inf G (cd _)) ?_
  rintro xt s7 ⟨⟨ST,hT,nT⟩,i2⟩
  refine⟨nT.le,i2,?_⟩
  obtain⟨a4,a5,a6⟩:=hT.one
  have g5:=nT.le.box _ _ (nI.le.box _ _ n5)
  have g4:=nT.le.box _ _ (nI.le.box _ _ f4)
  have N7:=nI.more nT.fr nT.nd (nI.le.trans nT.le) fun b hb=>by
   rcases List.mem_append.1 hb with hb|hb
   ·obtain⟨z,hz⟩:=nI.on b hb;exact⟨z,nT.le.box _ _ hz⟩
   ·exact nT.on b hb
  have hI7:=hI.keep (cM nT.le nI.on)
  have hO7:=wE hI7 hT
  rw[<- hc0]at hO7
  have hn5:∀ b,b ∈ SI++ST ->b ≠ b5 /\ b ≠ bx:=fun b hb=>by
   have:=(N7.fr b hb).1
   exact⟨fun e=> (by rw[e,n5]at this;cases this),fun e=> (by rw[e,f4]at this;cases this)⟩
  clear hI hT hI7 cc cd f2 f3 hc0 i1 i2 hinf nT nI
  refine C2q ?_
  have rr:eP Tryz.prog G 9 [.agg [.int .u8 7, .bool false, .nil, .str [], .int .i64 0,xi,xt]] (s7.setBox b5 [.int .u8 7, .bool false, .nil, .str [], .int .i64 0,xi,xt]) (.bool (right (fH h t))):=fun σ' hl=> (cP G (fH h t) hbk).lend (σ:=σ') rfl (.cons (dT (aK _ _ _ hO7 fun b hb=>by
   obtain⟨z,hz⟩:=N7.on b hb
   rw[hz]
   exact hl.box _ _ (aO hz (hn5 b hb).1))) .nil)
  have l7:=l5.trans N7.le
  have n45:(bx=b5)=False:=eq_false (Ne.symm n54)
  cases er:right (fH h t)with
  | false=>
   rw[er]at rr
   repeat'(first|(refine wn ?_;intro bx hbx;try simp only[fb]at hbx)|refine eP.use (rr) (by repeat' first|exact lr _|assumption|refine ls ?_ ?_|refine lt ?_ ?_|simp only[*];done|simp only[fb, *,not_false_eq_true,and_self];done|exact lf ‹_› (by simp only[*])) ?_|refine wi ?_|simp -dsimp only[↓bp,bq,br,seval,cT, *]|refine wz ?_|fail)
   exact aE _ (AS.le.refl _) ⟨[],by rw[if_neg Bool.false_ne_true];exact mJ,bK.none ((l7.setBox y5 _).setBox y4 _)⟩
  | true=>
   rw[er]at rr
   repeat'(first|(refine wn ?_;intro bx hbx;try simp only[fb]at hbx)|refine eP.use (rr) (by repeat' first|exact lr _|assumption|refine ls ?_ ?_|refine lt ?_ ?_|simp only[*];done|simp only[fb, *,not_false_eq_true,and_self];done|exact lf ‹_› (by simp only[*])) ?_|refine wi ?_|simp -dsimp only[↓bp,bq,br,seval,cT, *]|refine wz ?_|fail)
   refine aE _ (AS.le.refl _) ⟨SI++ST,by rw[if_pos rfl];exact aK _ _ _ hO7 fun b hb=>by simp only[AS.setBox,if_neg (hn5 b hb).1,if_neg (hn5 b hb).2],(l7.setBox y5 _).setBox y4 _,fun b hb=> ?_,N7.nd,fun b hb=> ?_⟩
   ·have:=N7.fr b hb
    exact⟨l5.noBox this.1,iL l5 this.2⟩
   ·obtain⟨z,hz⟩:=N7.on b hb
    exact⟨z,aO (aO hz (hn5 b hb).1) (hn5 b hb).2⟩
 ·have k7:=eq_false h7
  have hO:=wE oI oT
  have hc0:fH h t=bA [h] [t]:=by unfold fH;rw[if_neg h7]
  rw[<- hc0]at hO
  have hbk:(fH h t).bulk <=1000000000:=by have:=pM h t;omega
  have hon:∀ b,b ∈ A++B ->∃ z,s5.box b=some z:=fun b hb=>hN.on b (List.mem_cons_of_mem _ hb)
  have rr:eP Tryz.prog G 9 [.agg [.int .u8 7, .bool false, .nil, .str [], .int .i64 0,vi,vt]] s5 (.bool (right (fH h t))):=fun σ' hl=> (cP G (fH h t) hbk).lend (σ:=σ') rfl (.cons (dT (aK _ _ _ hO (cM hl hon))) .nil)
  obtain⟨u1,u2,u3⟩:=oI.one
  obtain⟨u4,u5,u6⟩:=oT.one
  have n54:b5 ≠ bx:=fun e=>by have:=(hN.fr b5 (by simp)).1;rw[e,f4']at this;cases this
  cases er:right (fH h t)with
  | false=>
   rw[er]at rr
   clear hc0 h7
   repeat'(first|(refine wn ?_;intro bx hbx;try simp only[fb]at hbx)|refine eP.use (rr) (by repeat' first|exact lr _|assumption|refine ls ?_ ?_|refine lt ?_ ?_|simp only[*];done|simp only[fb, *,not_false_eq_true,and_self];done|exact lf ‹_› (by simp only[*])) ?_|refine wi ?_|simp -dsimp only[↓bp,bq,br,seval,cT, *]|refine wz ?_|fail)
   exact aE _ (AS.le.refl _) ⟨[],by rw[if_neg Bool.false_ne_true];exact mJ,bK.none (l5.setBox y4 _)⟩
  | true=>
   rw[er]at rr
   clear hc0 h7
   repeat'(first|(refine wn ?_;intro bx hbx;try simp only[fb]at hbx)|refine eP.use (rr) (by repeat' first|exact lr _|assumption|refine ls ?_ ?_|refine lt ?_ ?_|simp only[*];done|simp only[fb, *,not_false_eq_true,and_self];done|exact lf ‹_› (by simp only[*])) ?_|refine wi ?_|simp -dsimp only[↓bp,bq,br,seval,cT, *]|refine wz ?_|fail)
   have hx:∀ b,b ∈ A++B ->b ≠ bx:=fun b hb e=>by have:=(hN.fr b (List.mem_cons_of_mem _ hb)).1;rw[e,f4']at this;cases this
   refine aE _ (AS.le.refl _) ⟨A++B,by rw[if_pos rfl];exact aK _ _ _ hO fun b hb=>by simp only[AS.setBox,if_neg (hx b hb)],l5.setBox y4 _,fun b hb=> ?_,(List.nodup_cons.1 hN.nd).2,fun b hb=> ?_⟩
   ·have:=hN.fr b (List.mem_cons_of_mem _ hb)
    exact⟨l0.noBox this.1,iL l0 this.2⟩
   ·obtain⟨z,hz⟩:=hon b hb
    exact⟨z,aO hz (hx b hb)⟩
theorem C9f(h t:aA)(hh:h.bulk <=300000000)(ht:t.bulk <=300000000):A3h G 20 [h.enc,t.enc] (cons h t):=by
 have rh:=cP G h (by omega)
 have rt:=cP G t (by omega)
 cases eh:right h with
 |false=>rw[show cons h t=cN from rO (by simp[eh])];exact A1s G h t hh ht (.inl eh)
 | true=>cases et:right t with
  |false=>rw[show cons h t=cN from rO (by simp[et])];exact A1s G h t hh ht (.inr et)
  | true=>
   rw[eh]at rh
   rw[et]at rt
   have e:cons h t=if right (fH h t)=true then fH h t else cN:=by unfold cons;rw[eh,et];simp
   rw[e]
   exact B1n G h t hh ht rh rt
end
set_option maxRecDepth 20000
section
def zK:=And.intro (And.intro (And.intro (And.intro @jD (And.intro @iZ @jJ)) (And.intro (And.intro @eG @qI) (And.intro @tf2 @lU))) (And.intro (And.intro @jE (And.intro @dL @eN)) (And.intro (And.intro @dV @eD) (And.intro @qJ @aA.flat_enc)))) (And.intro (And.intro (And.intro @aA.isv_enc (And.intro @aA.fold_enc @aS)) (And.intro (And.intro @aN @aU) (And.intro @aQ @aM))) (And.intro (And.intro (And.intro @aZ @cH) (And.intro @bQ @bB)) (And.intro (And.intro @gP @iJ) (And.intro @gO @gQ))))
variable (G:Nat ->AV)
def E1j(T:aA):wU:=fun σ v S=>∃ x,v= .tup [x, .bool true] /\ cW σ false T x S
theorem B5t{s:AS}{g:Bool}{l:List UInt32}{v:AV}{S:List Nat}(h:mZ s false l v S):cW s false (jA g l) (.agg [.int .u8 1, .bool g,v, .str [], .int .i64 0, .nil, .nil]) S:=by
 rw[bX]
 exact⟨v, .nil, .nil,S,[],[],rfl,by simp,h, .inl ⟨rfl,rfl,rfl,rfl⟩, .inl ⟨rfl,rfl,rfl,rfl⟩⟩
theorem D2h(l:List UInt32)(neg:Bool)(hl:l.length <=32)(σ:AS):aJ Tryz.prog G 77 [bD l, .bool neg] σ fun r s=>∃ S,E1j (jA (neg && decide (0 < ((fR l).length:Int))) (fR l)) s r S /\ bK σ s S:=by
 have hc:∀ m:List UInt32,m.length <=1000000000 ->∀ s,aJ Tryz.prog G 49 [bD m] s fun r s'=>∃ S,mZ s' false m r S /\ bK s s' S:=fun m hm s=>A4f G m hm s
 refine aJ.of_awp mixed Tryz.func77 rfl (by kernel_rfl) (by kernel_rfl) (by simp[Tryz.ntmps77]) Tryz.results77 ?_
 repeat'(first|refine xs ?_ ?_ <;>intros|(refine wn ?_;intro bx hbx;try simp only[fb]at hbx)|refine wj ?_|simp -dsimp only[↓bp,bq,br,seval,zK, *]|refine wz ?_|fail)
 refine aI (fun n e σ'=>∃ m:List UInt32,n=m.length /\ m.length <=l.length /\ fR m=fR l /\ e 0=bD m /\ σ'=σ.setBox bx [.int .u8 0, .bool false, .nil, .str [], .int .i64 0, .nil, .nil]) l.length ⟨l,rfl,Nat.le_refl _,rfl,by first|(simp -dsimp only[↓bp,bq,br,seval,zK];done)|(simp -dsimp only[↓bp,bq,br,seval,zK];try rfl),rfl⟩ ?_
 rintro n v σ' ⟨m,rfl,hml,hst,h0,rfl⟩
 simp -dsimp only[↓bp,bq,br,seval,zK]at h0
 rcases List.eq_nil_or_concat m with rfl|⟨m',x,rfl⟩
 ·have hs:fR l=[]:=by rw[<- hst];rfl
  have hcm:=hc [] (by simp)
  have hlz:(([]:List UInt32).length:Int)=0:=rfl
  have hd:(neg && decide (0 < (([]:List UInt32).length:Int)))=false:=by cases neg <;>rfl
  rw[hs,hd]
  generalize hnil:([]:List UInt32)=q at*
  clear hc hs hst hml hd
  repeat'(first|refine xs ?_ ?_ <;>intros|(refine wn ?_;intro bx hbx;try simp only[fb]at hbx)|((refine aJ.mono (hcm _) ?_;rintro vc s2 ⟨S,hL,nL⟩;obtain⟨a1,a2,a3⟩:=hL.one;have hr:=nL.le.box _ _ (AS.set_get (σ:=σ) (b:=bx) (cs:=[.int .u8 0, .bool false, .nil, .str [], .int .i64 0, .nil, .nil]))))|refine wj ?_|simp -dsimp only[↓bp,bq,br,seval,zK,hlz, *]|refine wz ?_|fail)
  all_goals
   have hne:∀ b,b ∈ S ->b ≠ bx:=fun b hb e=>by have:=(nL.fr b hb).1;rw[e,AS.set_get]at this;cases this
   have hl1:σ.le s2:=((AS.le.refl σ).setBox hbx.1 _).trans nL.le
   refine aE _ (AS.le.refl _) ⟨S,⟨_,rfl,B5t (hL.keep fun b hb=>by simp only[AS.setBox,if_neg (hne b hb)])⟩,hl1.setBox hbx.1 _,fun b hb=> ⟨(A6h (nL.fr b hb).1).2,(nL.fr b hb).2⟩,nL.nd,fun b hb=> ?_⟩
   obtain⟨z,hz⟩:=nL.on b hb
   exact⟨z,aO hz (hne b hb)⟩
 ·simp only[List.concat_eq_append]at*
  have hlen:((m'++[x]).length:Int)=m'.length+1:=by simp
  have hlen':(m'++[x]).length=m'.length+1:=by simp
  have hw:IntKind.i64.wrap ((m'.length:Int)+1 - 1)=m'.length:=by rw[aC (by omega) (by omega)];omega
  have hget:(m'++[x])[m'.length]? =some x:=by simp
  have htake:(m'++[x]).take m'.length=m':=by simp
  have hcm:=hc (m'++[x]) (by omega)
  have hp:(0:Int) < m'.length+1:=by omega
  have hmm:m'.length <=(m'++[x]).length:=by omega
  by_cases hx:x=0
  ·subst hx
   rw[xS]at hst
   have hz:((0:UInt32).toNat:Int)=0:=rfl
   have hml':m'.length <=l.length:=by omega
   generalize hq:m'++[0]=q at*
   clear hc hml hlen' hcm
   repeat'(first|refine xs ?_ ?_ <;>intros|(refine wn ?_;intro bx hbx;try simp only[fb]at hbx)|refine wj ?_|simp -dsimp only[↓bp,bq,br,seval,zK,hlen,hw,bC,hz,zH, *]|refine wz ?_|fail)
   all_goals exact⟨m'.length,by rw[<- hq];simp,m',rfl,hml',hst,rfl⟩
  ·have hs:fR l=m'++[x]:=by rw[<- hst,xR _ _ hx]
   have hz: ¬ (x.toNat:Int)=0:=fun e=>hx (UInt32.toNat_inj.1 (by simpa using e))
   have h32': ¬ (32:Int) < m'.length+1:=by omega
   rw[hs]
   have hd:(neg && decide (0 < ((m'++[x]).length:Int)))=neg:=by rw[hlen,decide_eq_true hp,Bool.and_true]
   rw[hd]
   generalize hq:m'++[x]=q at*
   clear hc hs hst hml hlen' hd
   cases neg
   all_goals
    repeat'(first|refine xs ?_ ?_ <;>intros|(refine wn ?_;intro bx hbx;try simp only[fb]at hbx)|((refine aJ.mono (hcm _) ?_;rintro vc s2 ⟨S,hL,nL⟩;obtain⟨a1,a2,a3⟩:=hL.one;have hr:=nL.le.box _ _ (AS.set_get (σ:=σ) (b:=bx) (cs:=[.int .u8 0, .bool false, .nil, .str [], .int .i64 0, .nil, .nil]))))|refine wj ?_|simp -dsimp only[↓bp,bq,br,seval,zK,hlen,hw,bC,hz,zH, *]|refine wz ?_|fail)
   all_goals
    have hne:∀ b,b ∈ S ->b ≠ bx:=fun b hb e=>by have:=(nL.fr b hb).1;rw[e,AS.set_get]at this;cases this
    have hl1:σ.le s2:=((AS.le.refl σ).setBox hbx.1 _).trans nL.le
    refine aE _ (AS.le.refl _) ⟨S,⟨_,rfl,B5t (hL.keep fun b hb=>by simp only[AS.setBox,if_neg (hne b hb)])⟩,hl1.setBox hbx.1 _,fun b hb=> ⟨(A6h (nL.fr b hb).1).2,(nL.fr b hb).2⟩,nL.nd,fun b hb=> ?_⟩
    obtain⟨z,hz⟩:=nL.on b hb
    exact⟨z,aO hz (hne b hb)⟩
def hJ(n:Nat):aA:=jA false (fR [UInt32.ofNat n,0])
set_option maxHeartbeats 4000000 in
theorem D9i(N:Nat)(hN:N < 256):A3h G 62 [.int .i64 N] (hJ N):=by
 have hm:∀ s,aJ Tryz.prog G 77 [.sl .full [.int .u32 N, .int .u32 0] [], .bool false] s fun r s'=>∃ S,E1j (hJ N) s' r S /\ bK s s' S:=fun s=>by
  have h:=D2h G [UInt32.ofNat N,0] false (by simp) s
  have e1:(UInt32.ofNat N).toNat=N:=by simp;omega
  have e2:bD [UInt32.ofNat N,0]= .sl .none [.int .u32 N, .int .u32 0] []:=by simp only[bD,List.map_cons,List.map_nil,bC,e1];rfl
  rw[e2]at h
  exact aJ.weaken (.cons Le.gh (.cons (Le.refl _) .nil)) h
 have w1:IntKind.u64.wrap (N:Int)=N:=by
  have h:((N:Int) % 18446744073709551616)=N:=Int.emod_eq_of_lt (by omega) (by omega)
  simpa [IntKind.wrap,IntKind.signed,IntKind.bits] using h
 have w2:IntKind.u32.wrap (N:Int)=N:=sF (by omega) (by omega)
 have w3:IntKind.u32.wrap ((N:Int).fdiv (2 ^ min 32 IntKind.u64.bits))=0:=by
  have hm:min 32 IntKind.u64.bits=32:=by have:IntKind.u64.bits=64:=rfl;omega
  rw[hm,Int.fdiv_eq_ediv_of_nonneg _ (by decide),Int.ediv_eq_zero_of_lt (by omega) (by omega)]
  rfl
 have hz:((N:Int) < 0)=False:=eq_false (by omega)
 intro σ
 refine aJ.of_awp mixed Tryz.func62 rfl (by kernel_rfl) (by kernel_rfl) (by simp[Tryz.ntmps62]) Tryz.results62 ?_
 repeat'(first|(refine wn ?_;intro bx hbx;try simp only[fb]at hbx)|refine wi ?_|simp -dsimp only[↓bp,bq,br,seval,zK, *]|refine wz ?_|fail)
 rename Nat=>b0
 rename σ.fresh b0=>hb0
 generalize hJ N=T at*
 refine aJ.mono (hm _) ?_
 rintro r s2 ⟨S,⟨x,rfl,hx⟩,nS⟩
 obtain⟨xl,xk,xt,_,_,_,hv,_,g1,g2,g3⟩:=(bX _ _ _ _ _).1 hx
 obtain⟨a1,a2,a3⟩:=g1.one
 obtain⟨a4,a5,a6⟩:=g2.one
 obtain⟨a7,a8,a9⟩:=g3.one
 subst hv
 clear g1 g2 g3 hm
 have hr:=nS.le.box _ _ (AS.set_get (σ:=σ) (b:=b0) (cs:=[.int .u8 0, .bool false, .nil, .str [], .int .i64 0, .nil, .nil]))
 have l2:σ.le s2:=((AS.le.refl σ).setBox hb0.1 _).trans nS.le
 have hne:∀ b,b ∈ S ->b ≠ b0:=fun b hb e=>by have:=(nS.fr b hb).1;rw[e,AS.set_get]at this;cases this
 repeat'(first|((first|refine q8h ?_|refine q8i ?_);intro bx hbx;(try simp only[fb]at hbx);try(have nn:=fresh_ne (c:=bx) hr (by simp only[hbx])))|refine wi ?_|simp -dsimp only[↓bp,bq,br,seval,zK, *]|refine wz ?_|fail)
 have hn2:∀ b,b ∈ S ->b ≠ bx:=fun b hb e=>by
  obtain⟨z,hz⟩:=nS.on b hb
  rw[e,hbx.1]at hz;cases hz
 have hk:∀ C D b,b ∈ S -> ((s2.setBox bx C).setBox b0 D).box b=s2.box b:=fun C D b hb=>by simp only[AS.setBox,if_neg (hne b hb),if_neg (hn2 b hb)]
 exact aE _ (AS.le.refl _) ⟨S,aK _ _ _ hx fun b hb=>hk _ _ b hb,(l2.setBox (l2.noBox hbx.1) _).setBox hb0.1 _,fun b hb=> ⟨(A6h (nS.fr b hb).1).2,(nS.fr b hb).2⟩,nS.nd,fun b hb=>by rw[hk _ _ b hb];exact nS.on b hb⟩
end
set_option maxRecDepth 20000
section
def kY:=And.intro (And.intro (And.intro (And.intro @jD (And.intro @iZ @jJ)) (And.intro @eG (And.intro @qI @tf2))) (And.intro (And.intro @lU (And.intro @jE @dL)) (And.intro @eN (And.intro @dV @eD)))) (And.intro (And.intro (And.intro @qJ (And.intro @aA.flat_enc @aA.isv_enc)) (And.intro @aA.fold_enc (And.intro @aS @aN))) (And.intro (And.intro @aU (And.intro @aQ @aM)) (And.intro (And.intro @aZ @cH) (And.intro @bQ @bB))))
variable (G:Nat ->AV)
def gI(s:List UInt8):List aA:=s.map fun c=>hJ c.toNat
def zA(s:List UInt8):aA:=bA (gI (s.take 4097)) []
def ofS(s:List UInt8):aA:=if right (zA s)=true then zA s else cN
theorem C1i{n:Nat}{E:TypeId}{σ0 σ:AS}{v:AV}{xs:List AV}(h:fP n E σ0 σ v xs){c:Nat}(h0:σ0.box c=none)(hr:cS v c)(C:List AV):fP n E σ0 (σ.setBox c C) v xs:=by
 cases h with
 |nil h=>exact .nil (h.setBox h0 C)
 |row b xs h h1 h2 hb hx=>exact .row b xs (h.setBox h0 C) h1 h2 (aO hb (fun e=>hr e.symm)) hx
theorem C1j{σ σ':AS}{v:AV}{vs:List AV}{l:List aA}{S:List Nat}(hB:fP 7 26 σ σ' v vs)(hvl:vs.length=l.length)(hC:cF σ' false l (vs.flatMap flat) S)(hN:bK σ σ' S)(hR:∀ b,b ∈ S ->cS v b):∃ S',iB σ' false l v S' /\ bK σ σ' S' /\ ∀ b,b ∈ S' ->b ∈ S \/ ∃ n s E,v= .bs b n s E:=by
 cases hB with
 | nil h=>
  have:l=[]:=List.eq_nil_of_length_eq_zero hvl.symm
  subst this
  exact⟨[], .inl ⟨rfl,rfl,rfl,rfl⟩,bK.none h,by simp⟩
 | row b xs h h0 h1 hb hxs=>
  refine⟨b::S, .inr ⟨b,vs.flatMap flat,[],S,by rw[hvl],rfl,by rw[List.append_nil];exact hb,rfl,hC⟩,⟨hN.le,fun c hc=> ?_,List.nodup_cons.2 ⟨fun hb'=>hR b hb' rfl,hN.nd⟩,fun c hc=> ?_⟩,fun c hc=> ?_⟩
  ·rcases List.mem_cons.1 hc with rfl|hc
   ·exact⟨h0,h1⟩
   ·exact hN.fr c hc
  ·rcases List.mem_cons.1 hc with rfl|hc
   ·exact⟨_,hb⟩
   ·exact hN.on c hc
  ·rcases List.mem_cons.1 hc with rfl|hc
   ·exact .inr ⟨_,_,_,rfl⟩
   ·exact .inl hc
theorem C4h(n:Nat):(hJ n).bulk <=10:=by
 have h:=A1d [UInt32.ofNat n,0]
 simp only[hJ,jA,aA.bulk,aV,List.length_nil,List.length_cons]at*
 omega
theorem A1q:∀ (s:List UInt8),aV (gI s) <=11*s.length
 |[]=>by simp[gI,aV]
 | c::s=>by
  have h1:=C4h c.toNat
  have h2:=A1q s
  simp only[gI,List.map_cons,aV,List.length_cons]at*
  omega
theorem A5k(s:List UInt8):(zA s).bulk <=1000000:=by
 have h:=A1q (s.take 4097)
 have h2:(s.take 4097).length <=4097:=by rw[List.length_take];omega
 simp only[zA,bA,aA.bulk,aV,List.length_nil]
 omega
set_option maxHeartbeats 4000000 in
theorem D2p(s:List UInt8)(hs:s.length <=1000000000):A3h G 22 [.str s] (ofS s):=by
 have hr0:=cP G (zA s) (by have:=A5k s;omega)
 intro σ
 refine aJ.of_awp mixed Tryz.func22 rfl (by kernel_rfl) (by kernel_rfl) (by simp[Tryz.ntmps22]) Tryz.results22 ?_
 repeat'(first|(refine wn ?_;intro bx hbx;try simp only[fb]at hbx)|refine wi ?_|simp -dsimp only[↓bp,bq,br,seval,kY, *]|refine wz ?_|fail)
 rename Nat=>b3
 have hb2:σ.fresh bx:=by assumption
 obtain⟨hb3,n1,n2⟩:σ.fresh b3 /\ ¬ b3=bx /\ ¬ bx=b3:=by assumption
 have m1:(b3=bx)=False:=eq_false n1
 have m2:(bx=b3)=False:=eq_false n2
 refine aI (fun n e σ'=>∃ (i:Nat) (v:AV) (vs:List AV) (S:List Nat),i <=s.length /\ i <=4097 /\ n=s.length - i /\ e 4= .int .i64 i /\ σ'.box b3=some [.int .u8 7, .bool false, .nil, .str [], .int .i64 0,v, .nil] /\ σ'.box bx=some [.int .u8 0, .bool false, .nil, .str [], .int .i64 0, .nil, .nil] /\ fP 7 26 σ σ' v vs /\ cS v b3 /\ cS v bx /\ vs.length=i /\ cF σ' false (gI (s.take i)) (vs.flatMap flat) S /\ bK σ σ' S /\ (∀ b,b ∈ S ->cS v b /\ b ≠ b3 /\ b ≠ bx)) s.length
  ⟨0, .nil,[],[],by omega,by omega,by omega,by first|(simp -dsimp only[↓bp,bq,br,seval,kY];done)|(simp -dsimp only[↓bp,bq,br,seval,kY];try rfl),AS.set_get,aO AS.set_get n2, .nil (((AS.le.refl σ).setBox hb2.1 _).setBox hb3.1 _),trivial,trivial,rfl,by simp[gI,cF],bK.none (((AS.le.refl σ).setBox hb2.1 _).setBox hb3.1 _),by simp⟩ ?_
 clear n1 n2
 rintro n e1 σ2 ⟨i,v,vs,S,hi,hi2,rfl,h4,f3,f2,hB,r3,r2,hvl,hO,hN,hR⟩
 simp -dsimp only[↓bp,bq,br,seval,kY]at h4
 obtain⟨o1,o2,o3⟩:=vR hB
 by_cases hlt:i < s.length /\ i <=4096
 ·have hlt':((i:Int) < s.length)=True:=eq_true (by omega)
  have hle':((i:Int) <=4096)=True:=eq_true (by omega)
  obtain⟨c,hc⟩:∃ c,s[i]? =some c:=⟨_,List.getElem?_eq_getElem hlt.1⟩
  have hof:=D9i G c.toNat (UInt8.toNat_lt c)
  have hwi:IntKind.i64.wrap ((i:Int)+1)=((i+1:Nat):Int):=by rw[aC (by omega) (by omega)];rfl
  have hwc:IntKind.i64.wrap (c.toNat:Int)=c.toNat:=by have:=UInt8.toNat_lt c;rw[aC (by omega) (by omega)]
  clear hr0
  repeat'(first|(refine wn ?_;intro bx hbx;try simp only[fb]at hbx)|refine wi ?_|simp -dsimp only[↓bp,bq,br,seval,kY, *]|refine wz ?_|fail)
  refine vZ 8 [0,1,2,3,4,5,6,7] (by decide+kernel) rfl ?_
  intro hinf
  refine fD (v:= .ptr b3 5) rfl rfl (by simp only[tR];simp -dsimp only[↓bp,bq,br,seval,kY, *]) ?_
  refine fD (v:=v) rfl rfl (by simp only[tR];simp -dsimp only[↓bp,bq,br,seval,kY, *]) ?_
  refine fD (v:= .str s) rfl rfl (by simp only[tR];simp -dsimp only[↓bp,bq,br,seval,kY, *]) ?_
  refine fD (v:= .int .i64 i) rfl rfl (by simp only[tR];simp -dsimp only[↓bp,bq,br,seval,kY, *]) ?_
  refine vB rfl rfl ?_
  repeat'(first|(refine wn ?_;intro bx hbx;try simp only[fb]at hbx)|refine wi ?_|simp -dsimp only[↓bp,bq,br,seval,kY, *]|refine wz ?_|fail)
  refine⟨AS.le.refl _,?_⟩
  refine vB rfl rfl ?_
  repeat'(first|(refine wn ?_;intro bx hbx;try simp only[fb]at hbx)|refine wi ?_|simp -dsimp only[↓bp,bq,br,seval,kY, *]|refine wz ?_|fail)
  refine⟨AS.le.refl _,?_⟩
  refine vB rfl rfl ?_
  simp -dsimp only[↓bp,bq,br,seval,kY]
  refine aJ.mono (aJ.inf G (hof _)) ?_
  rintro x s3 ⟨⟨S1,hO1,hN1⟩,i3⟩
  refine⟨hN1.le,i3,?_⟩
  obtain⟨xl,xk,xt,_,_,_,hx,_,g1,g2,g3⟩:=(bX _ _ _ _ _).1 hO1
  obtain⟨a1,a2,a3⟩:=g1.one
  obtain⟨a4,a5,a6⟩:=g2.one
  obtain⟨a7,a8,a9⟩:=g3.one
  subst hx
  have hsh:=kW hO1
  clear g1 g2 g3 hof
  refine fD (v:= .sl .full [(.agg [.int .u8 (hJ c.toNat).knd, .bool (hJ c.toNat).neg,xl, .str (hJ c.toNat).text, .int .i64 (hJ c.toNat).num,xk,xt])] []) rfl rfl (by simp only[tR];simp -dsimp only[↓bp,bq,br,seval,kY];exact A2u tW rfl rfl (by omega)) ?_
  refine C2q ?_
  have hl3:=hN1.le
  have k3:=hl3.box _ _ f3
  have k2:=hl3.box _ _ f2
  have hB3:=A3c hB hl3
  have hK4:∀ b,b ∈ S++S1 -> (∃ z,s3.box b=some z) /\ cS v b /\ b ≠ b3 /\ b ≠ bx:=fun b hb=>by
   rcases List.mem_append.1 hb with hb|hb
   ·obtain⟨z,hz⟩:=hN.on b hb
    exact⟨⟨z,hl3.box _ _ hz⟩,hR b hb⟩
   ·have h0:=(hN1.fr b hb).1
    exact⟨hN1.on b hb,qX hB h0,fun e=> (by rw[e,f3]at h0;cases h0),fun e=> (by rw[e,f2]at h0;cases h0)⟩
  have hO4:cF s3 false (gI (s.take i)) (vs.flatMap flat) S:=hO.keep (cM hl3 hO.on)
  have hfr1:=hN1.fr
  have hnd1:=hN1.nd
  clear hO hR hN1 hinf i3 f3 f2 hB
  repeat'(first|(refine wn ?_;intro bx hbx;try simp only[fb]at hbx)|((refine gB (ys:=[(.agg [.int .u8 (hJ c.toNat).knd, .bool (hJ c.toNat).neg,xl, .str (hJ c.toNat).text, .int .i64 (hJ c.toNat).num,xk,xt])]) hB3 tW (bJ tfE) (fun a ha=>by simp at ha;subst ha;exact⟨hsh.1,hsh.2.1⟩) (by simp only[List.length_cons,List.length_nil];omega) (fun v5 σ5 hA=> ?_);obtain⟨j3,r5⟩:=hA.keep b3 _ k3 r3;obtain⟨j2,r6⟩:=hA.keep bx _ k2 r2;obtain⟨w1,w2,w3⟩:=vR hA.buf))|refine wi ?_|simp -dsimp only[↓bp,bq,br,seval,kY, *]|refine wz ?_|fail)
  have hK5:∀ C b,b ∈ S++S1 -> (σ5.setBox b3 C).box b=s3.box b /\ cS v5 b:=fun C b hb=>by
   obtain⟨⟨z,hz⟩,h1,h2,h3⟩:=hK4 b hb
   obtain⟨h4,h5⟩:=hA.keep b z hz h1
   exact⟨by simp only[AS.setBox,if_neg h2];rw[h4,hz],h5⟩
  have hl5:∀ C,σ.le (σ5.setBox b3 C):=fun C=>hA.buf.le.setBox hb3.1 C
  have htk:gI (s.take (i+1))=gI (s.take i)++[hJ c.toNat]:=by unfold gI;rw[aW _ _ _ hc,List.map_append];rfl
  refine⟨s.length - (i+1),by omega,i+1,v5,vs++[(.agg [.int .u8 (hJ c.toNat).knd, .bool (hJ c.toNat).neg,xl, .str (hJ c.toNat).text, .int .i64 (hJ c.toNat).num,xk,xt])],S++S1,by omega,by omega,rfl,rfl,rfl,C1i hA.buf hb3.1 r5 _,r5,r6,by simp[hvl],?_,?_,fun b hb=> ⟨(hK5 [] b hb).2,(hK4 b hb).2.2⟩⟩
  ·rw[htk,List.flatMap_append,List.flatMap_cons,List.flatMap_nil,List.append_nil]
   exact pY (aK _ _ S1 hO1 fun b hb=> (hK5 _ b (List.mem_append_right _ hb)).1) _ _ _ (hO4.keep fun b hb=> (hK5 _ b (List.mem_append_left _ hb)).1)
  ·refine hN.more hfr1 hnd1 (hl5 _) fun b hb=> ?_
   obtain⟨⟨z,hz⟩,_⟩:=hK4 b hb
   exact⟨z,by rw[(hK5 _ b hb).1,hz]⟩
 ·have htk:s.take i=s.take 4097:=by
   by_cases h:i=s.length
   ·subst h;rw[List.take_length,List.take_of_length_le (by omega)]
   ·have:i=4097:=by omega
    rw[this]
  rw[htk]at hO
  obtain⟨S',hOR,hNR,hS'⟩:=C1j hB (by rw[hvl,<- htk];unfold gI;rw[List.length_map,List.length_take];omega) hO hN (fun b hb=> (hR b hb).1)
  have hx:∀ b,b ∈ S' ->b ≠ b3 /\ b ≠ bx:=fun b hb=>by
   rcases hS' b hb with hb|⟨n,s,E,rfl⟩
   ·exact(hR b hb).2
   ·exact⟨fun e=>r3 e.symm,fun e=>r2 e.symm⟩
  have hO2:cW σ2 false (zA s) (.agg [.int .u8 7, .bool false, .nil, .str [], .int .i64 0,v, .nil]) (S'++[]):=wE hOR (.inl ⟨rfl,rfl,rfl,rfl⟩)
  rw[List.append_nil]at hO2
  have rr:eP Tryz.prog G 9 [.agg [.int .u8 7, .bool false, .nil, .str [], .int .i64 0,v, .nil]] σ2 (.bool (right (zA s))):=fun σ' hl=>hr0.lend (σ:=σ') rfl (.cons (dT (aK _ _ _ hO2 (cM hl hNR.on))) .nil)
  have le2:=hNR.le
  have hex:ofS s=if right (zA s)=true then zA s else cN:=rfl
  rw[hex]
  have hc1:((i:Int) < s.length)=True /\ ((i:Int) <=4096)=False \/ ((i:Int) < s.length)=False:=by
   by_cases h:i < s.length
   ·exact .inl ⟨eq_true (by omega),eq_false (by omega)⟩
   ·exact .inr (eq_false (by omega))
  clear hB hO hN hR hOR hS' hvl hr0 hex htk hlt
  rcases hc1 with⟨q1,q2⟩|q1
  all_goals
   cases er:right (zA s)
   all_goals
    rw[er]at rr
    repeat'(first|(refine wn ?_;intro bx hbx;try simp only[fb]at hbx)|refine eP.use (rr) (by repeat' first|exact lr _|assumption|refine ls ?_ ?_|refine lt ?_ ?_|simp only[*];done|simp only[fb, *,not_false_eq_true,and_self];done|exact lf ‹_› (by simp only[*])) ?_|refine wi ?_|simp -dsimp only[↓bp,bq,br,seval,kY, *]|refine wz ?_|fail)
   ·exact aE _ (AS.le.refl _) ⟨[],by rw[if_neg Bool.false_ne_true];exact mJ,bK.none (le2.setBox hb2.1 _)⟩
   ·refine aE _ (AS.le.refl _) ⟨S',by rw[if_pos rfl];exact aK _ _ _ hO2 fun b hb=>by simp only[AS.setBox,if_neg (hx b hb).2],le2.setBox hb2.1 _,hNR.fr,hNR.nd,fun b hb=> ?_⟩
    obtain⟨z,hz⟩:=hNR.on b hb
    exact⟨z,aO hz (hx b hb).2⟩
end
set_option maxRecDepth 20000
section
def mP:=And.intro (And.intro (And.intro (And.intro @jD (And.intro @iZ @jJ)) (And.intro (And.intro @eG @jE) (And.intro @dL @eN))) (And.intro (And.intro @dV (And.intro @eD @qJ)) (And.intro (And.intro @aA.flat_enc @aA.isv_enc) (And.intro @aA.fold_enc @aS)))) (And.intro (And.intro (And.intro @aN (And.intro @aU @bW)) (And.intro (And.intro @bG @aQ) (And.intro @aM @aZ))) (And.intro (And.intro @cH (And.intro @bQ @bB)) (And.intro (And.intro @gP @iJ) (And.intro @gO @gQ))))
variable (G:Nat ->AV)
def mM(t:aA):AV:=match split t with
 |some (h,r)=> .tup [h.enc,r.enc, .bool true]
 |none=> .tup [cN.enc,cN.enc, .bool false]
theorem zero_le:Le (.agg [.int .u8 0, .bool false, .nil, .str [], .int .i64 0, .nil, .nil]) cN.enc:=gT 0 false [] 0
set_option maxHeartbeats 1000000 in
theorem C1a(t:aA)(hb:t.bulk <=300000000):aB Tryz.prog G 21 [t.enc] (mM t):=by
 have rt:=cP G t (by omega)
 have hbt:=t.bulk_eq
 refine aB.of_le fun σ=> ?_
 cases et:right t with
 | false=>
  have e:mM t= .tup [cN.enc,cN.enc, .bool false]:=by unfold mM split;rw[if_neg (by simp[et])]
  rw[e]
  rw[et]at rt
  clear hbt
  refine aJ.of_awp mixed Tryz.func21 rfl (by kernel_rfl) (by kernel_rfl) (by simp[Tryz.ntmps21]) Tryz.results21 ?_
  repeat'(first|refine xs ?_ ?_ <;>intros|(refine wn ?_;intro bx hbx;try simp only[fb]at hbx)|refine wp rt ?_|refine wj ?_|simp -dsimp only[↓bp,bq,br,seval,mP, *]|refine wz ?_|fail)
  refine aE σ (by repeat' first|exact lr _|assumption|refine ls ?_ ?_|refine lt ?_ ?_|simp only[*];done|simp only[fb, *,not_false_eq_true,and_self];done|exact lf ‹_› (by simp only[*])) ?_
  exact⟨Le.tup (.cons zero_le (.cons zero_le (.cons (Le.refl _) .nil))),rfl⟩
 | true=>
  rw[et]at rt
  by_cases h7:t.knd=7
  rotate_left
  ·have e:mM t= .tup [cN.enc,cN.enc, .bool false]:=by unfold mM split;rw[if_neg (by simp[h7])]
   rw[e]
   have k7:=eq_false h7
   clear h7 hbt
   refine aJ.of_awp mixed Tryz.func21 rfl (by kernel_rfl) (by kernel_rfl) (by simp[Tryz.ntmps21]) Tryz.results21 ?_
   repeat'(first|refine xs ?_ ?_ <;>intros|(refine wn ?_;intro bx hbx;try simp only[fb]at hbx)|refine wp rt ?_|refine wj ?_|simp -dsimp only[↓bp,bq,br,seval,mP, *]|refine wz ?_|fail)
   refine aE σ (by repeat' first|exact lr _|assumption|refine ls ?_ ?_|refine lt ?_ ?_|simp only[*];done|simp only[fb, *,not_false_eq_true,and_self];done|exact lf ‹_› (by simp only[*])) ?_
   exact⟨Le.tup (.cons zero_le (.cons zero_le (.cons (Le.refl _) .nil))),rfl⟩
  ·have k7:=eq_true h7
   cases hi:t.items with
   | nil=>
    have e:mM t= .tup [cN.enc,cN.enc, .bool false]:=by unfold mM split;rw[if_pos ⟨et,h7⟩,hi]
    rw[e]
    have hl:(t.items.length:Int)=0:=by rw[hi];rfl
    clear h7 hbt hi e
    refine aJ.of_awp mixed Tryz.func21 rfl (by kernel_rfl) (by kernel_rfl) (by simp[Tryz.ntmps21]) Tryz.results21 ?_
    repeat'(first|refine xs ?_ ?_ <;>intros|(refine wn ?_;intro bx hbx;try simp only[fb]at hbx)|refine wp rt ?_|refine wj ?_|simp -dsimp only[↓bp,bq,br,seval,mP, *]|refine wz ?_|fail)
    refine aE σ (by repeat' first|exact lr _|assumption|refine ls ?_ ?_|refine lt ?_ ?_|simp only[*];done|simp only[fb, *,not_false_eq_true,and_self];done|exact lf ‹_› (by simp only[*])) ?_
    exact⟨Le.tup (.cons zero_le (.cons zero_le (.cons (Le.refl _) .nil))),rfl⟩
   | cons x l=>
    have hx:t.items[0]? =some x:=by rw[hi];rfl
    have hbx:x.bulk <=aV t.items:=eQ (by rw[hi];simp)
    have cx:=oV G x (by omega)
    have hl0: ¬ (t.items.length:Int)=0:=by rw[hi];simp;omega
    cases l with
    | nil=>
     have e:mM t= .tup [x.enc,(cR t).enc, .bool true]:=by unfold mM split;rw[if_pos ⟨et,h7⟩,hi]
     rw[e]
     have hl1: ¬ (1:Int) < t.items.length:=by rw[hi];simp
     have t1:=wH G t
     have t2:=oV G (cR t) (by
      unfold cR
      cases htl:t.tail with
      |nil=>simp[bA,aA.bulk,aV]
      |cons y r=>have:=eQ (show y ∈ t.tail by rw[htl];simp);simp only;omega)
     clear h7 hbt hi e hbx
     refine aJ.of_awp mixed Tryz.func21 rfl (by kernel_rfl) (by kernel_rfl) (by simp[Tryz.ntmps21]) Tryz.results21 ?_
     repeat'(first|refine xs ?_ ?_ <;>intros|(refine wn ?_;intro bx hbx;try simp only[fb]at hbx)|refine wp rt ?_|refine wp cx ?_|refine wp t1 ?_|refine wp t2 ?_|refine wj ?_|simp -dsimp only[↓bp,bq,br,seval,mP, *]|refine wz ?_|fail)
     refine aE σ (by repeat' first|exact lr _|assumption|refine ls ?_ ?_|refine lt ?_ ?_|simp only[*];done|simp only[fb, *,not_false_eq_true,and_self];done|exact lf ‹_› (by simp only[*])) ?_
     exact⟨Le.tup (.cons (Le.refl _) (.cons (Le.refl _) (.cons (Le.refl _) .nil))),rfl⟩
    | cons y r=>
     have e:mM t= .tup [x.enc,(bA (y::r) t.tail).enc, .bool true]:=by unfold mM split;rw[if_pos ⟨et,h7⟩,hi]
     rw[e]
     have hl1:(1:Int) < t.items.length:=by rw[hi];simp;omega
     have hl2:1 <=t.items.length:=by omega
     have hdr:(t.items.take t.items.length).drop 1=y::r:=by rw[List.take_length,hi];rfl
     have hdr2:t.items.drop 1=y::r:=by rw[hi];rfl
     have hbb:aV t.items=x.bulk+aV (y::r):=by rw[hi];rfl
     have c1:=xF G (y::r) (by omega)
     have c2:=xF G t.tail (by omega)
     clear h7 hbt hi e hbx hbb
     generalize y::r=q at*
     refine aJ.of_awp mixed Tryz.func21 rfl (by kernel_rfl) (by kernel_rfl) (by simp[Tryz.ntmps21]) Tryz.results21 ?_
     repeat'(first|refine xs ?_ ?_ <;>intros|(refine wn ?_;intro bx hbx;try simp only[fb]at hbx)|refine wp rt ?_|refine wp cx ?_|refine wp c1 ?_|refine wp c2 ?_|(refine B8z 12 (by kernel_rfl) rfl rfl ?_)|(refine E0l (z:=flat x.enc) eD.1 (by rw[aA.flat_enc];simp -dsimp only[↓bp,bq,br,seval,mP,hbx]) x.isv_enc (by rw[aA.flat_enc];rfl) (by rw[aA.flat_enc];simp) (by rw[aA.flat_enc];rfl) ?_)|refine wj ?_|simp -dsimp only[↓bp,bq,br,seval,mP,zG, *]|refine wz ?_|fail)
     refine aE σ (by repeat' first|exact lr _|assumption|refine ls ?_ ?_|refine lt ?_ ?_|simp only[*];done|simp only[fb, *,not_false_eq_true,and_self];done|exact lf ‹_› (by simp only[*])) ?_
     exact⟨Le.tup (.cons (Le.refl _) (.cons (rU _ _) (.cons (Le.refl _) .nil))),rfl⟩
end
set_option maxRecDepth 20000
section
def cC:=And.intro (And.intro (And.intro (And.intro @jD (And.intro @iZ @jJ)) (And.intro (And.intro @eG @jE) (And.intro @dL @eN))) (And.intro (And.intro @dV (And.intro @eD @qJ)) (And.intro (And.intro @aA.flat_enc @aA.isv_enc) (And.intro @aA.fold_enc @aS)))) (And.intro (And.intro (And.intro @aN (And.intro @aU @bW)) (And.intro (And.intro @bG @aQ) (And.intro @aM @aZ))) (And.intro (And.intro @cH (And.intro @bQ @bB)) (And.intro (And.intro @gP @iJ) (And.intro @gO @gQ))))
variable (G:Nat ->AV)
def dM(t:aA):aA × aA × Bool:=match split t with
 |some (h,r)=> (h,r,true)
 |none=> (cN,cN,false)
def B0m(p:aA × aA × Bool)(σ:AS)(r:AV)(s:AS):Prop:=∃ x y A B,r= .tup [x,y, .bool p.2.2] /\ cW s false p.1 x A /\ cW s false p.2.1 y B /\ bK σ s (A++B)
theorem A1b{σ s:AS}(h:σ.le s):B0m (cN,cN,false) σ (.tup [.agg [.int .u8 0, .bool false, .nil, .str [], .int .i64 0, .nil, .nil], .agg [.int .u8 0, .bool false, .nil, .str [], .int .i64 0, .nil, .nil], .bool false]) s:=⟨_,_,[],[],rfl,mJ,mJ,bK.none h⟩
set_option maxHeartbeats 4000000 in
theorem B2s(t x:aA)(k7:(t.knd=7)=True)(hl0: ¬ (t.items.length:Int)=0)(hl1: ¬ (1:Int) < t.items.length)(hx:t.items[0]? =some x)(rt:aB Tryz.prog G 9 [t.enc] (.bool true))(cx:A3h G 12 [x.enc] x)(t1:aB Tryz.prog G 61 [t.enc] (cR t).enc)(t2:A3h G 12 [(cR t).enc] (cR t))(σ:AS):aJ Tryz.prog G 21 [t.enc] σ (B0m (x,cR t,true) σ):=by
 revert σ
 intro σ
 refine aJ.of_awp mixed Tryz.func21 rfl (by kernel_rfl) (by kernel_rfl) (by simp[Tryz.ntmps21]) Tryz.results21 ?_
 repeat'(first|(refine wn ?_;intro bx hbx;try simp only[fb]at hbx)|refine wp rt ?_|refine wi ?_|simp -dsimp only[↓bp,bq,br,seval,cC, *]|refine wz ?_|fail)
 rename_i b1 hb1 b2 hb2
 obtain⟨⟨e1,e2,e3⟩,e4,e5⟩:=hbx
 obtain⟨hb2,e6,e7⟩:=hb2
 obtain⟨S0,hS0⟩:∃ S0:AS,S0=((σ.setBox b1 [.int .u8 t.knd, .bool t.neg,bD t.limbs, .str t.text, .int .i64 t.num,aH t.items,aH t.tail]).setBox b2 [.int .u8 0, .bool false, .nil, .str [], .int .i64 0, .nil, .nil]).setBox bx [.int .u8 0, .bool false, .nil, .str [], .int .i64 0, .nil, .nil]:=⟨_,rfl⟩
 have l0:σ.le S0:=by rw[hS0];exact(((AS.le.refl σ).setBox hb1.1 _).setBox hb2.1 _).setBox e1.1 _
 have f1:S0.box b1=some [.int .u8 t.knd, .bool t.neg,bD t.limbs, .str t.text, .int .i64 t.num,aH t.items,aH t.tail]:=by rw[hS0];simp only[AS.setBox,if_neg e3,if_neg e7,if_true]
 have f2:S0.box b2=some [.int .u8 0, .bool false, .nil, .str [], .int .i64 0, .nil, .nil]:=by rw[hS0];simp only[AS.setBox,if_neg e5,if_true]
 have f3:S0.box bx=some [.int .u8 0, .bool false, .nil, .str [], .int .i64 0, .nil, .nil]:=by rw[hS0];exact AS.set_get
 have y2:σ.box b2=none:=hb2.1
 have y3:σ.box bx=none:=e1.1
 have m1:(b2=bx)=False:=eq_false e5
 have m2:(bx=b2)=False:=eq_false e4
 have m3:(b1=b2)=False:=eq_false e7
 have m4:(b1=bx)=False:=eq_false e3
 rw[<- hS0]
 clear hS0 hb1 hb2 e1 e2 e3 e4 e5 e6 e7 rt
 refine aJ.mono (cx _) ?_
 rintro vx s1 ⟨SX,hX,nX⟩
 obtain⟨xl,xk,xt,_,_,_,hvx,_,g1,g2,g3⟩:=(bX _ _ _ _ _).1 hX
 obtain⟨a1,a2,a3⟩:=g1.one
 obtain⟨a4,a5,a6⟩:=g2.one
 obtain⟨a7,a8,a9⟩:=g3.one
 clear g1 g2 g3
 subst hvx
 replace f1:=nX.le.box _ _ f1
 have f2':=nX.le.box _ _ f2
 have f3':=nX.le.box _ _ f3
 have hne:∀ b,b ∈ SX ->b ≠ b2 /\ b ≠ bx:=fun b hb=>by
  have:=(nX.fr b hb).1
  exact⟨fun e=> (by rw[e,f2]at this;cases this),fun e=> (by rw[e,f3]at this;cases this)⟩
 clear f2 f3
 repeat'(first|(refine wn ?_;intro bx hbx;try simp only[fb]at hbx)|refine wi ?_|simp -dsimp only[↓bp,bq,br,seval,cC, *]|refine wz ?_|fail)
 obtain⟨S2,hS2⟩:∃ S2:AS,S2=s1.setBox b2 [.int .u8 x.knd, .bool x.neg,xl, .str x.text, .int .i64 x.num,xk,xt]:=⟨_,rfl⟩
 have w1:S2.box b1=some [.int .u8 t.knd, .bool t.neg,bD t.limbs, .str t.text, .int .i64 t.num,aH t.items,aH t.tail]:=by rw[hS2];simp only[AS.setBox,m3,if_false];exact f1
 have w2:S2.box b2=some [.int .u8 x.knd, .bool x.neg,xl, .str x.text, .int .i64 x.num,xk,xt]:=by rw[hS2];exact AS.set_get
 have w3:S2.box bx=some [.int .u8 0, .bool false, .nil, .str [], .int .i64 0, .nil, .nil]:=by rw[hS2];simp only[AS.setBox,m2,if_false];exact f3'
 have w2':=w2
 have w3':=w3
 have l2:σ.le S2:=by rw[hS2];exact(l0.trans nX.le).setBox y2 _
 have hX2:cW S2 false x (.agg [.int .u8 x.knd, .bool x.neg,xl, .str x.text, .int .i64 x.num,xk,xt]) SX:=aK _ _ _ hX fun b hb=>by rw[hS2];simp only[AS.setBox,if_neg (hne b hb).1]
 have nX2:bK σ S2 SX:=⟨l2,fun b hb=> ⟨l0.noBox (nX.fr b hb).1,iL l0 (nX.fr b hb).2⟩,nX.nd,fun b hb=>by
  obtain⟨z,hz⟩:=nX.on b hb
  rw[hS2]
  exact⟨z,aO hz (hne b hb).1⟩⟩
 rw[<- hS2]
 clear hS2 hX nX f1 f2' f3' l0 cx
 refine uS 4 (fun k=> [41,42,43,44].getD k 0) (fun k=>match k with|0=>wQ (.agg [.int .u8 x.knd, .bool x.neg,xl, .str x.text, .int .i64 x.num,xk,xt])|1=>wQ t.enc|2=>wQ (cR t).enc|_=>A8j (cR t)) (by decide+kernel) (by decide) ?_ rfl rfl ?_ ?_
 ·intro k
  match k with
  |0|1|2=>exact lD _
  |k+3=>exact wB _
 ·refine⟨⟨rfl,fun ev s hs hw hf=> ?_⟩,⟨rfl,fun ev s hs hw hf=> ?_⟩,⟨rfl,fun ev s hs hw hf=> ?_⟩,⟨rfl,fun ev s hs hw hf=> ?_⟩,trivial⟩
  ·have h0:=hf 2 (by decide)
   have hb:=hs.box _ _ w2
   simp -dsimp only[↓bp,bq,br,seval,cC]at h0
   repeat'(first|(refine wn ?_;intro bx hbx;try simp only[fb]at hbx)|refine wi ?_|simp -dsimp only[↓bp,bq,br,seval,cC, *]|refine wz ?_|fail)
   exact⟨[],bK.refl _,rfl,rfl⟩
  ·have h0:=hf 1 (by decide)
   have hb:=hs.box _ _ w1
   simp -dsimp only[↓bp,bq,br,seval,cC]at h0
   repeat'(first|(refine wn ?_;intro bx hbx;try simp only[fb]at hbx)|refine wi ?_|simp -dsimp only[↓bp,bq,br,seval,cC, *]|refine wz ?_|fail)
   exact⟨[],bK.refl _,rfl,rfl⟩
  ·obtain⟨A,h0,_⟩:=hw 1 (by decide+kernel)
   replace h0:ev 42=t.enc:=h0
   repeat'(first|(refine wn ?_;intro bx hbx;try simp only[fb]at hbx)|refine wp t1 ?_|refine wi ?_|simp -dsimp only[↓bp,bq,br,seval,cC, *]|refine wz ?_|fail)
   exact⟨[],bK.refl _,rfl,rfl⟩
  ·obtain⟨A,h0,_⟩:=hw 2 (by decide+kernel)
   replace h0:ev 43=(cR t).enc:=h0
   simp -dsimp only[↓bp,bq,br,seval,cC,h0]
   refine aJ.mono (t2 s) ?_
   rintro r s' ⟨S',a,b⟩
   exact⟨S',b,a⟩
 ·intro F ev s hF hQ hf
  have h1:ev 41= .agg [.int .u8 x.knd, .bool x.neg,xl, .str x.text, .int .i64 x.num,xk,xt]:=(hQ 0 (by omega)).1
  have h2:cW s false (cR t) (ev 44) (F 3):=hQ 3 (by omega)
  have e2:=hf 2 (by decide)
  have e3:=hf 3 (by decide)
  have hs:=hF.le
  generalize cR t=u at*
  obtain⟨yl,yk,yt,_,_,_,hvy,_,g1,g2,g3⟩:=(bX _ _ _ _ _).1 h2
  obtain⟨u1,u2,u3⟩:=g1.one
  obtain⟨u4,u5,u6⟩:=g2.one
  obtain⟨u7,u8,u9⟩:=g3.one
  rw[hvy]at h2
  simp -dsimp only[↓bp,bq,br,seval,cC]at e2
  simp -dsimp only[↓bp,bq,br,seval,cC]at e3
  have N:=nX2.more (S1:=F 3) (fun b hb=>hF.fr _ b hb) (hF.nd _) (l2.trans hs) fun b hb=>by
   rcases List.mem_append.1 hb with hb|hb
   ·obtain⟨z,hz⟩:=nX2.on b hb;exact⟨z,hs.box _ _ hz⟩
   ·exact hF.on _ b hb
  have hX3:=aK _ _ _ hX2 (cM hs nX2.on)
  replace w2:=hs.box _ _ w2
  replace w3:=hs.box _ _ w3
  have hn:∀ b,b ∈ SX++F 3 ->b ≠ b2 /\ b ≠ bx:=fun b hb=>by
   rcases List.mem_append.1 hb with hb|hb
   ·exact hne b hb
   ·have:=(hF.fr _ b hb).1
    exact⟨fun e=> (by rw[e,w2']at this;cases this),fun e=> (by rw[e,w3']at this;cases this)⟩
  clear hQ hF hX2 nX2 hf w1 hne g1 g2 g3 w2' w3'
  repeat'(first|(refine wn ?_;intro bx hbx;try simp only[fb]at hbx)|refine wi ?_|simp -dsimp only[↓bp,bq,br,seval,cC, *]|refine wz ?_|fail)
  have hk:∀ C D b,b ∈ SX++F 3 -> ((s.setBox b2 C).setBox bx D).box b=s.box b:=fun C D b hb=>by simp only[AS.setBox,if_neg (hn b hb).1,if_neg (hn b hb).2]
  exact aE _ (AS.le.refl _) ⟨_,_,SX,F 3,rfl,aK _ _ _ hX3 fun b hb=>hk _ _ b (List.mem_append_left _ hb),aK _ _ _ h2 fun b hb=>hk _ _ b (List.mem_append_right _ hb),(N.le.setBox y2 _).setBox y3 _,N.fr,N.nd,fun b hb=>by rw[hk _ _ b hb];exact N.on b hb⟩
set_option maxHeartbeats 4000000 in
theorem A8e(t x:aA)(q:List aA)(k7:(t.knd=7)=True)(hl0: ¬ (t.items.length:Int)=0)(hl1:(1:Int) < t.items.length)(hl2:1 <=t.items.length)(hx:t.items[0]? =some x)(hdr:(t.items.take t.items.length).drop 1=q)(hdr2:t.items.drop 1=q)(rt:aB Tryz.prog G 9 [t.enc] (.bool true))(cx:A3h G 12 [x.enc] x)(c1:C7p G 50 [.sl .full [aH q] []] q)(c2:C7p G 50 [.sl .full [aH t.tail] []] t.tail)(σ:AS):aJ Tryz.prog G 21 [t.enc] σ (B0m (x,bA q t.tail,true) σ):=by
 revert σ
 intro σ
 refine aJ.of_awp mixed Tryz.func21 rfl (by kernel_rfl) (by kernel_rfl) (by simp[Tryz.ntmps21]) Tryz.results21 ?_
 repeat'(first|(refine wn ?_;intro bx hbx;try simp only[fb]at hbx)|refine wp rt ?_|refine wi ?_|simp -dsimp only[↓bp,bq,br,seval,cC, *]|refine wz ?_|fail)
 rename_i b1 hb1 b2 hb2
 obtain⟨⟨e1,e2,e3⟩,e4,e5⟩:=hbx
 obtain⟨hb2,e6,e7⟩:=hb2
 obtain⟨S0,hS0⟩:∃ S0:AS,S0=((σ.setBox b1 [.int .u8 t.knd, .bool t.neg,bD t.limbs, .str t.text, .int .i64 t.num,aH t.items,aH t.tail]).setBox b2 [.int .u8 0, .bool false, .nil, .str [], .int .i64 0, .nil, .nil]).setBox bx [.int .u8 0, .bool false, .nil, .str [], .int .i64 0, .nil, .nil]:=⟨_,rfl⟩
 have l0:σ.le S0:=by rw[hS0];exact(((AS.le.refl σ).setBox hb1.1 _).setBox hb2.1 _).setBox e1.1 _
 have f1:S0.box b1=some [.int .u8 t.knd, .bool t.neg,bD t.limbs, .str t.text, .int .i64 t.num,aH t.items,aH t.tail]:=by rw[hS0];simp only[AS.setBox,if_neg e3,if_neg e7,if_true]
 have f2:S0.box b2=some [.int .u8 0, .bool false, .nil, .str [], .int .i64 0, .nil, .nil]:=by rw[hS0];simp only[AS.setBox,if_neg e5,if_true]
 have f3:S0.box bx=some [.int .u8 0, .bool false, .nil, .str [], .int .i64 0, .nil, .nil]:=by rw[hS0];exact AS.set_get
 have y2:σ.box b2=none:=hb2.1
 have y3:σ.box bx=none:=e1.1
 have m1:(b2=bx)=False:=eq_false e5
 have m2:(bx=b2)=False:=eq_false e4
 have m3:(b1=b2)=False:=eq_false e7
 have m4:(b1=bx)=False:=eq_false e3
 rw[<- hS0]
 clear hS0 hb1 hb2 e1 e2 e3 e4 e5 e6 e7 rt
 refine aJ.mono (cx _) ?_
 rintro vx s1 ⟨SX,hX,nX⟩
 obtain⟨xl,xk,xt,_,_,_,hvx,_,g1,g2,g3⟩:=(bX _ _ _ _ _).1 hX
 obtain⟨a1,a2,a3⟩:=g1.one
 obtain⟨a4,a5,a6⟩:=g2.one
 obtain⟨a7,a8,a9⟩:=g3.one
 clear g1 g2 g3
 subst hvx
 replace f1:=nX.le.box _ _ f1
 have f2':=nX.le.box _ _ f2
 have f3':=nX.le.box _ _ f3
 have hne:∀ b,b ∈ SX ->b ≠ b2 /\ b ≠ bx:=fun b hb=>by
  have:=(nX.fr b hb).1
  exact⟨fun e=> (by rw[e,f2]at this;cases this),fun e=> (by rw[e,f3]at this;cases this)⟩
 clear f2 f3
 repeat'(first|(refine wn ?_;intro bx hbx;try simp only[fb]at hbx)|refine wi ?_|simp -dsimp only[↓bp,bq,br,seval,cC, *]|refine wz ?_|fail)
 obtain⟨S2,hS2⟩:∃ S2:AS,S2=s1.setBox b2 [.int .u8 x.knd, .bool x.neg,xl, .str x.text, .int .i64 x.num,xk,xt]:=⟨_,rfl⟩
 have w1:S2.box b1=some [.int .u8 t.knd, .bool t.neg,bD t.limbs, .str t.text, .int .i64 t.num,aH t.items,aH t.tail]:=by rw[hS2];simp only[AS.setBox,m3,if_false];exact f1
 have w2:S2.box b2=some [.int .u8 x.knd, .bool x.neg,xl, .str x.text, .int .i64 x.num,xk,xt]:=by rw[hS2];exact AS.set_get
 have w3:S2.box bx=some [.int .u8 0, .bool false, .nil, .str [], .int .i64 0, .nil, .nil]:=by rw[hS2];simp only[AS.setBox,m2,if_false];exact f3'
 have w2':=w2
 have w3':=w3
 have l2:σ.le S2:=by rw[hS2];exact(l0.trans nX.le).setBox y2 _
 have hX2:cW S2 false x (.agg [.int .u8 x.knd, .bool x.neg,xl, .str x.text, .int .i64 x.num,xk,xt]) SX:=aK _ _ _ hX fun b hb=>by rw[hS2];simp only[AS.setBox,if_neg (hne b hb).1]
 have nX2:bK σ S2 SX:=⟨l2,fun b hb=> ⟨l0.noBox (nX.fr b hb).1,iL l0 (nX.fr b hb).2⟩,nX.nd,fun b hb=>by
  obtain⟨z,hz⟩:=nX.on b hb
  rw[hS2]
  exact⟨z,aO hz (hne b hb).1⟩⟩
 rw[<- hS2]
 clear hS2 hX nX f1 f2' f3' l0 cx
 refine A8y 12 (fun k=> [30,31,32,33,34,35,36,37,38,39,40,999].getD k 0) (fun k=>if k=10 then[5,9]else[]) (fun k V=>match k with|0=>wQ (.agg [.int .u8 x.knd, .bool x.neg,xl, .str x.text, .int .i64 x.num,xk,xt])|1=>wQ (.ptr b1 5)|2=>wQ (aH t.items)|3=>wQ (aH q)|4=>wQ (.sl .full [aH q] [])|5=>B2y q|6=>wQ (.ptr b1 6)|7=>wQ (aH t.tail)|8=>wQ (.sl .full [aH t.tail] [])|9=>B2y t.tail|10=>wQ (.agg [.int .u8 7, .bool false, .nil, .str [], .int .i64 0,V 5,V 9])|_=>E1p) (by decide+kernel) (by decide) (by decide) ?_ ?_ rfl rfl ?_ ?_
 ·intro k V
  match k with
  |0|1|2|3|4|6|7|8|10=>exact lD _
  |5|9=>exact A5a _
  |k+11=>exact B4z
 ·intro k V V' s v S hd hq
  match k,hd,hq with
  |0,_,hq|1,_,hq|2,_,hq|3,_,hq|4,_,hq|5,_,hq|6,_,hq|7,_,hq|8,_,hq|9,_,hq=>exact hq
  |10,hd,hq=>rw[hd 5 (by simp),hd 9 (by simp)]at hq;exact hq
  |k+11,_,hq=>exact hq
 ·refine⟨.inl ⟨rfl,rfl,fun ev s hs hw hf=> ?_⟩, .inl ⟨rfl,rfl,fun ev s hs hw hf=> ?_⟩, .inl ⟨rfl,rfl,fun ev s hs hw hf=> ?_⟩, .inl ⟨rfl,rfl,fun ev s hs hw hf=> ?_⟩, .inl ⟨rfl,rfl,fun ev s hs hw hf=> ?_⟩, .inl ⟨rfl,rfl,fun ev s hs hw hf=> ?_⟩, .inl ⟨rfl,rfl,fun ev s hs hw hf=> ?_⟩, .inl ⟨rfl,rfl,fun ev s hs hw hf=> ?_⟩, .inl ⟨rfl,rfl,fun ev s hs hw hf=> ?_⟩, .inl ⟨rfl,rfl,fun ev s hs hw hf=> ?_⟩, .inl ⟨rfl,by decide+kernel,fun ev s hs hw hf=> ?_⟩, .inr ⟨rfl,rfl,fun ev s hs hw hf=> ?_⟩,trivial⟩
  ·have h0:=hf 2 (by decide)
   have hb:=hs.box _ _ w2
   simp -dsimp only[↓bp,bq,br,seval,cC]at h0
   repeat'(first|(refine wn ?_;intro bx hbx;try simp only[fb]at hbx)|refine wi ?_|simp -dsimp only[↓bp,bq,br,seval,cC, *]|refine wz ?_|fail)
   exact⟨[],bK.refl _,rfl,rfl⟩
  ·have h0:=hf 1 (by decide)
   simp -dsimp only[↓bp,bq,br,seval,cC]at h0
   repeat'(first|(refine wn ?_;intro bx hbx;try simp only[fb]at hbx)|refine wi ?_|simp -dsimp only[↓bp,bq,br,seval,cC, *]|refine wz ?_|fail)
   exact⟨[],bK.refl _,rfl,rfl⟩
  ·obtain⟨A,h0,_⟩:=hw 1 (by decide+kernel)
   replace h0:ev 31= .ptr b1 5:=h0
   have hb:=hs.box _ _ w1
   repeat'(first|(refine wn ?_;intro bx hbx;try simp only[fb]at hbx)|refine wi ?_|simp -dsimp only[↓bp,bq,br,seval,cC, *]|refine wz ?_|fail)
   exact⟨[],bK.refl _,rfl,rfl⟩
  ·obtain⟨A,h0,_⟩:=hw 2 (by decide+kernel)
   replace h0:ev 32=aH t.items:=h0
   repeat'(first|(refine wn ?_;intro bx hbx;try simp only[fb]at hbx)|refine wi ?_|simp -dsimp only[↓bp,bq,br,seval,cC,zG, *]|refine wz ?_|fail)
   exact⟨[],bK.refl _,rfl,rfl⟩
  ·obtain⟨A,h0,_⟩:=hw 3 (by decide+kernel)
   replace h0:ev 33=aH q:=h0
   repeat'(first|(refine wn ?_;intro bx hbx;try simp only[fb]at hbx)|refine wi ?_|simp -dsimp only[↓bp,bq,br,seval,cC, *]|refine wz ?_|fail)
   exact⟨[],bK.refl _,rfl,rfl⟩
  ·obtain⟨A,h0,_⟩:=hw 4 (by decide+kernel)
   replace h0:ev 34= .sl .full [aH q] []:=h0
   simp -dsimp only[↓bp,bq,br,seval,cC,h0]
   refine aJ.mono (c1 s) ?_
   rintro r s' ⟨S',a,b⟩
   exact⟨S',b,a⟩
  ·have h0:=hf 1 (by decide)
   simp -dsimp only[↓bp,bq,br,seval,cC]at h0
   repeat'(first|(refine wn ?_;intro bx hbx;try simp only[fb]at hbx)|refine wi ?_|simp -dsimp only[↓bp,bq,br,seval,cC, *]|refine wz ?_|fail)
   exact⟨[],bK.refl _,rfl,rfl⟩
  ·obtain⟨A,h0,_⟩:=hw 6 (by decide+kernel)
   replace h0:ev 36= .ptr b1 6:=h0
   have hb:=hs.box _ _ w1
   repeat'(first|(refine wn ?_;intro bx hbx;try simp only[fb]at hbx)|refine wi ?_|simp -dsimp only[↓bp,bq,br,seval,cC, *]|refine wz ?_|fail)
   exact⟨[],bK.refl _,rfl,rfl⟩
  ·obtain⟨A,h0,_⟩:=hw 7 (by decide+kernel)
   replace h0:ev 37=aH t.tail:=h0
   repeat'(first|(refine wn ?_;intro bx hbx;try simp only[fb]at hbx)|refine wi ?_|simp -dsimp only[↓bp,bq,br,seval,cC, *]|refine wz ?_|fail)
   exact⟨[],bK.refl _,rfl,rfl⟩
  ·obtain⟨A,h0,_⟩:=hw 8 (by decide+kernel)
   replace h0:ev 38= .sl .full [aH t.tail] []:=h0
   simp -dsimp only[↓bp,bq,br,seval,cC,h0]
   refine aJ.mono (c2 s) ?_
   rintro r s' ⟨S',a,b⟩
   exact⟨S',b,a⟩
  ·obtain⟨A,h35⟩:=hw 5 (by decide+kernel)
   obtain⟨B,h39⟩:=hw 9 (by decide+kernel)
   replace h35:iB s false q (ev 35) A:=h35
   replace h39:iB s false t.tail (ev 39) B:=h39
   obtain⟨u1,u2,u3⟩:=h35.one
   obtain⟨u4,u5,u6⟩:=h39.one
   repeat'(first|(refine wn ?_;intro bx hbx;try simp only[fb]at hbx)|refine wi ?_|simp -dsimp only[↓bp,bq,br,seval,cC, *]|refine wz ?_|fail)
   exact⟨[],bK.refl _,rfl,rfl⟩
  ·obtain⟨A,h0,_⟩:=hw 0 (by decide+kernel)
   replace h0:ev 30= .agg [.int .u8 x.knd, .bool x.neg,xl, .str x.text, .int .i64 x.num,xk,xt]:=h0
   have e2:=hf 2 (by decide)
   have hb:=hs.box _ _ w2
   simp -dsimp only[↓bp,bq,br,seval,cC]at e2
   repeat'(first|(refine wn ?_;intro bx hbx;try simp only[fb]at hbx)|refine wi ?_|simp -dsimp only[↓bp,bq,br,seval,cC, *]|refine wz ?_|fail)
   exact⟨[],bK.none (D8q hb),fun _=>trivial⟩
 ·intro F ev s hF hQ hf
  have h1:ev 30= .agg [.int .u8 x.knd, .bool x.neg,xl, .str x.text, .int .i64 x.num,xk,xt]:=(hQ 0 (by omega)).1
  have g1:iB s false q (ev 35) (F 5):=hQ 5 (by omega)
  have g2:iB s false t.tail (ev 39) (F 9):=hQ 9 (by omega)
  have h3:ev 40= .agg [.int .u8 7, .bool false, .nil, .str [], .int .i64 0,ev 35,ev 39]:=(hQ 10 (by omega)).1
  have hd:∀ b,b ∈ F 5++F 9 ->S2.box b=none /\ S2.tip b=none /\ ∃ z,s.box b=some z:=fun b hb=>by
   rcases List.mem_append.1 hb with hb|hb
   ·exact⟨(hF.fr 5 b hb).1,(hF.fr 5 b hb).2,hF.on 5 b hb⟩
   ·exact⟨(hF.fr 9 b hb).1,(hF.fr 9 b hb).2,hF.on 9 b hb⟩
  have hnd:(F 5++F 9).Nodup:=List.nodup_append.2 ⟨hF.nd 5,hF.nd 9,fun a ha b hb e=>by subst e;have:=hF.dj 5 9 a ha hb;omega⟩
  have h2:=wE g1 g2
  rw[<- h3]at h2
  have e2:=hf 2 (by decide)
  have e3:=hf 3 (by decide)
  have hs:=hF.le
  clear g1 g2 h3
  generalize F 5++F 9=FK at*
  clear hF
  generalize bA q t.tail=u at*
  obtain⟨yl,yk,yt,_,_,_,hvy,_,g1,g2,g3⟩:=(bX _ _ _ _ _).1 h2
  obtain⟨u1,u2,u3⟩:=g1.one
  obtain⟨u4,u5,u6⟩:=g2.one
  obtain⟨u7,u8,u9⟩:=g3.one
  rw[hvy]at h2
  simp -dsimp only[↓bp,bq,br,seval,cC]at e2
  simp -dsimp only[↓bp,bq,br,seval,cC]at e3
  have N:=nX2.more (S1:=FK) (fun b hb=> ⟨(hd b hb).1,(hd b hb).2.1⟩) hnd (l2.trans hs) fun b hb=>by
   rcases List.mem_append.1 hb with hb|hb
   ·obtain⟨z,hz⟩:=nX2.on b hb;exact⟨z,hs.box _ _ hz⟩
   ·exact(hd b hb).2.2
  have hX3:=aK _ _ _ hX2 (cM hs nX2.on)
  replace w2:=hs.box _ _ w2
  replace w3:=hs.box _ _ w3
  have hn:∀ b,b ∈ SX++FK ->b ≠ b2 /\ b ≠ bx:=fun b hb=>by
   rcases List.mem_append.1 hb with hb|hb
   ·exact hne b hb
   ·have:=(hd b hb).1
    exact⟨fun e=> (by rw[e,w2']at this;cases this),fun e=> (by rw[e,w3']at this;cases this)⟩
  clear hQ hd hnd hX2 nX2 hf w1 hne g1 g2 g3 w2' w3'
  repeat'(first|(refine wn ?_;intro bx hbx;try simp only[fb]at hbx)|refine wi ?_|simp -dsimp only[↓bp,bq,br,seval,cC, *]|refine wz ?_|fail)
  have hk:∀ D b,b ∈ SX++FK -> (s.setBox bx D).box b=s.box b:=fun D b hb=>by simp only[AS.setBox,if_neg (hn b hb).2]
  exact aE _ (AS.le.refl _) ⟨_,_,SX,FK,rfl,aK _ _ _ hX3 fun b hb=>hk _ b (List.mem_append_left _ hb),aK _ _ _ h2 fun b hb=>hk _ b (List.mem_append_right _ hb),N.le.setBox y3 _,N.fr,N.nd,fun b hb=>by rw[hk _ b hb];exact N.on b hb⟩
theorem B2r(t:aA)(ht:t.bulk <=300000000)(hb: ¬ (right t=true /\ t.knd=7 /\ t.items ≠ []))(σ:AS):aJ Tryz.prog G 21 [t.enc] σ (B0m (cN,cN,false) σ):=by
 have rt:=cP G t (by omega)
 have hbt:=t.bulk_eq
 cases et:right t with
 | false=>
  rw[et]at rt
  clear hb hbt
  refine aJ.of_awp mixed Tryz.func21 rfl (by kernel_rfl) (by kernel_rfl) (by simp[Tryz.ntmps21]) Tryz.results21 ?_
  repeat'(first|refine xs ?_ ?_ <;>intros|(refine wn ?_;intro bx hbx;try simp only[fb]at hbx)|refine wp rt ?_|refine wj ?_|simp -dsimp only[↓bp,bq,br,seval,cC, *]|refine wz ?_|fail)
  exact aE _ (AS.le.refl _) (A1b (by repeat' first|exact lr _|assumption|refine ls ?_ ?_|refine lt ?_ ?_|simp only[*];done|simp only[fb, *,not_false_eq_true,and_self];done|exact lf ‹_› (by simp only[*])))
 | true=>
  rw[et]at rt
  by_cases h7:t.knd=7
  ·have hl:(t.items.length:Int)=0:=by
    by_cases hi:t.items=[]
    ·rw[hi];rfl
    ·exact absurd ⟨et,h7,hi⟩ hb
   have k7:=eq_true h7
   clear hb hbt h7
   refine aJ.of_awp mixed Tryz.func21 rfl (by kernel_rfl) (by kernel_rfl) (by simp[Tryz.ntmps21]) Tryz.results21 ?_
   repeat'(first|refine xs ?_ ?_ <;>intros|(refine wn ?_;intro bx hbx;try simp only[fb]at hbx)|refine wp rt ?_|refine wj ?_|simp -dsimp only[↓bp,bq,br,seval,cC, *]|refine wz ?_|fail)
   exact aE _ (AS.le.refl _) (A1b (by repeat' first|exact lr _|assumption|refine ls ?_ ?_|refine lt ?_ ?_|simp only[*];done|simp only[fb, *,not_false_eq_true,and_self];done|exact lf ‹_› (by simp only[*])))
  ·have k7:=eq_false h7
   clear hb hbt h7
   refine aJ.of_awp mixed Tryz.func21 rfl (by kernel_rfl) (by kernel_rfl) (by simp[Tryz.ntmps21]) Tryz.results21 ?_
   repeat'(first|refine xs ?_ ?_ <;>intros|(refine wn ?_;intro bx hbx;try simp only[fb]at hbx)|refine wp rt ?_|refine wj ?_|simp -dsimp only[↓bp,bq,br,seval,cC, *]|refine wz ?_|fail)
   exact aE _ (AS.le.refl _) (A1b (by repeat' first|exact lr _|assumption|refine ls ?_ ?_|refine lt ?_ ?_|simp only[*];done|simp only[fb, *,not_false_eq_true,and_self];done|exact lf ‹_› (by simp only[*])))
theorem C6u(t:aA)(hb:t.bulk <=300000000)(σ:AS):aJ Tryz.prog G 21 [t.enc] σ (B0m (dM t) σ):=by
 have rt:=cP G t (by omega)
 have hbt:=t.bulk_eq
 by_cases hc:right t=true /\ t.knd=7 /\ t.items ≠ []
 ·obtain⟨et,h7,hne⟩:=hc
  rw[et]at rt
  have k7:=eq_true h7
  cases hi:t.items with
  |nil=>exact absurd hi hne
  | cons x l=>
   have hx:t.items[0]? =some x:=by rw[hi];rfl
   have hbx:x.bulk <=aV t.items:=eQ (by rw[hi];simp)
   have cx:A3h G 12 [x.enc] x:=pN G x (by omega)
   have hl0: ¬ (t.items.length:Int)=0:=by rw[hi];simp;omega
   cases l with
   | nil=>
    have e:dM t=(x,cR t,true):=by unfold dM split;rw[if_pos ⟨et,h7⟩,hi]
    rw[e]
    have hl1: ¬ (1:Int) < t.items.length:=by rw[hi];simp
    exact B2s G t x k7 hl0 hl1 hx rt cx (wH G t) (pN G (cR t) (by
     unfold cR
     cases htl:t.tail with
     |nil=>simp[bA,aA.bulk,aV]
     |cons y r=>have:=eQ (show y ∈ t.tail by rw[htl];simp);simp only;omega)) σ
   | cons y r=>
    have e:dM t=(x,bA (y::r) t.tail,true):=by unfold dM split;rw[if_pos ⟨et,h7⟩,hi]
    rw[e]
    have hl1:(1:Int) < t.items.length:=by rw[hi];simp;omega
    have hbb:aV t.items=x.bulk+aV (y::r):=by rw[hi];rfl
    exact A8e G t x (y::r) k7 hl0 hl1 (by omega) hx (by rw[List.take_length,hi];rfl) (by rw[hi];rfl) rt cx (uO G (y::r) (by omega)) (uO G t.tail (by omega)) σ
 ·have e:dM t=(cN,cN,false):=by
   unfold dM split
   split
   ·rename_i h r he
    split at he
    ·rename_i hh
     exfalso
     refine hc ⟨hh.1,hh.2,fun e=> ?_⟩
     rw[e]at he;cases he
    ·cases he
   ·rfl
  rw[e]
  exact B2r G t hb hc σ
end
end Go.Proofs.YtdhbdhopnpmboaaGreatDoor
