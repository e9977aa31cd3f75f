/- TermLists on abstract values. -/
import Derived.Test.YtdhbdhopnpmboaaGreatDoorZ21
import Derived.Test.YtdhbdhopnpmboaaGreatDoorZ18
set_option linter.unusedVariables false
set_option linter.unusedSimpArgs false
set_option maxRecDepth 20000
set_option linter.defProp false
namespace Go.Proofs.YtdhbdhopnpmboaaGreatDoor
open Go Go.Av
section
def aR:=And.intro (And.intro (And.intro (And.intro @jD @iZ) (And.intro @jJ (And.intro @eG @jE))) (And.intro (And.intro @dL (And.intro @eN @dV)) (And.intro @eD (And.intro @qJ @aA.flat_enc)))) (And.intro (And.intro (And.intro @aA.isv_enc @aA.fold_enc) (And.intro @aS (And.intro @aN @aU))) (And.intro (And.intro @aQ (And.intro @aM @gP)) (And.intro @iJ (And.intro @gO @gQ))))
variable {G:Nat ->AV}
def E1z(m:Bool)(t u:aA)(σ s:AS)(x y:AV):Prop:=∃ b7 b8 l1 k1 t1 l2 k2 t2 A B,x= .ptr b7 0 /\ y= .ptr b8 0 /\ s.box b7=some [.int .u8 t.knd, .bool t.neg,l1, .str t.text, .int .i64 t.num,k1,t1] /\ s.box b8=some [.int .u8 u.knd, .bool u.neg,l2, .str u.text, .int .i64 u.num,k2,t2] /\
  cW s m t (.agg [.int .u8 t.knd, .bool t.neg,l1, .str t.text, .int .i64 t.num,k1,t1]) A /\ cW s m u (.agg [.int .u8 u.knd, .bool u.neg,l2, .str u.text, .int .i64 u.num,k2,t2]) B /\ bK σ s (b7::b8::(A++B))
theorem B0g{σ s:AS}{m:Bool}{t u:aA}{F:Nat ->List Nat}(k1 k2 k3 k4:Nat){b7 b8:Nat}{l1 q1 t1 l2 q2 t2:AV}(hF:A2m σ s F)(h1:cW s m t (.agg [.int .u8 t.knd, .bool t.neg,l1, .str t.text, .int .i64 t.num,q1,t1]) (F k1))(h2:cW s m u (.agg [.int .u8 u.knd, .bool u.neg,l2, .str u.text, .int .i64 u.num,q2,t2]) (F k2))(e7:F k3=[b7])(e8:F k4=[b8])(hk:k1 ≠ k2 /\ k1 ≠ k3 /\ k1 ≠ k4 /\ k2 ≠ k3 /\ k2 ≠ k4 /\ k3 ≠ k4):
  E1z m t u σ ((s.setBox b7 [.int .u8 t.knd, .bool t.neg,l1, .str t.text, .int .i64 t.num,q1,t1]).setBox b8 [.int .u8 u.knd, .bool u.neg,l2, .str u.text, .int .i64 u.num,q2,t2]) (.ptr b7 0) (.ptr b8 0):=by
 obtain⟨n12,n13,n14,n23,n24,n34⟩:=hk
 obtain⟨hle,hFr,hNd,hDj,hOn⟩:=hF
 have i4:∀ {b},b=b7 ->b ∈ F k3:=fun h=>by rw[e7,h];simp
 have i5:∀ {b},b=b8 ->b ∈ F k4:=fun h=>by rw[e8,h];simp
 have h78:b7 ≠ b8:=fun e=>n34 (hDj k3 k4 b7 (i4 rfl) (i5 e))
 have hk:∀ C D b,(b ∈ F k1 \/ b ∈ F k2) -> ((s.setBox b7 C).setBox b8 D).box b=s.box b:=fun C D b hb=>by
  have n7:b ≠ b7:=fun e=>by
   rcases hb with hb|hb
   ·exact n13 (hDj _ _ b hb (i4 e))
   ·exact n23 (hDj _ _ b hb (i4 e))
  have n8:b ≠ b8:=fun e=>by
   rcases hb with hb|hb
   ·exact n14 (hDj _ _ b hb (i5 e))
   ·exact n24 (hDj _ _ b hb (i5 e))
  simp only[AS.setBox,if_neg n7,if_neg n8]
 refine⟨b7,b8,l1,q1,t1,l2,q2,t2,F k1,F k2,rfl,rfl,by simp only[AS.setBox,if_neg h78,if_true],AS.set_get,aK t _ _ h1 fun b hb=>hk _ _ b (.inl hb),aK u _ _ h2 fun b hb=>hk _ _ b (.inr hb),(hle.setBox (hFr k3 b7 (i4 rfl)).1 _).setBox (hFr k4 b8 (i5 rfl)).1 _,fun b hb=> ?_,?_,fun b hb=> ?_⟩
 ·rcases List.mem_cons.1 hb with h|hb
  ·exact hFr k3 b (i4 h)
  rcases List.mem_cons.1 hb with h|hb
  ·exact hFr k4 b (i5 h)
  rcases List.mem_append.1 hb with hb|hb
  ·exact hFr k1 b hb
  ·exact hFr k2 b hb
 ·refine List.nodup_cons.2 ⟨fun h=> ?_,List.nodup_cons.2 ⟨fun h=> ?_,List.nodup_append.2 ⟨hNd k1,hNd k2,fun a ha b hb e=> ?_⟩⟩⟩
  ·rcases List.mem_cons.1 h with h|h
   ·exact h78 h
   rcases List.mem_append.1 h with h|h
   ·exact n13 (hDj _ _ b7 h (i4 rfl))
   ·exact n23 (hDj _ _ b7 h (i4 rfl))
  ·rcases List.mem_append.1 h with h|h
   ·exact n14 (hDj _ _ b8 h (i5 rfl))
   ·exact n24 (hDj _ _ b8 h (i5 rfl))
  ·subst e;exact n12 (hDj _ _ a ha hb)
 ·rcases List.mem_cons.1 hb with rfl|hb
  ·exact⟨[.int .u8 t.knd, .bool t.neg,l1, .str t.text, .int .i64 t.num,q1,t1],by simp only[AS.setBox,if_neg h78,if_true]⟩
  rcases List.mem_cons.1 hb with rfl|hb
  ·exact⟨_,AS.set_get⟩
  rcases List.mem_append.1 hb with hb|hb
  ·rw[hk _ _ b (.inl hb)];exact hOn k1 b hb
  ·rw[hk _ _ b (.inr hb)];exact hOn k2 b hb
def E1y(t:aA):wU:=fun σ v S=>cW σ true t v S
theorem B9y(t:aA):wL (E1y t):=fun _ _ v S h hk=>aK t v S h hk
theorem C6e{P:Program}{f:FuncId}{args args':List AV}{p:aA × aA × Bool}{σ:AS}(h:aJ P G f args' σ.shut (B0m p σ.shut))(hl:eW G σ args args'):aJ P G f args σ (B0m p σ):=
 B5a G h hl fun r s ⟨x,y,A,B,hr,hx,hy,hN⟩ hn=>by
  have i1:=A5q p.1 x A hx (fun b=>decide (b ∈ A++B)) (fun b hb=>by simp[hb])
  have i2:=A5q p.2.1 y B hy (fun b=>decide (b ∈ A++B)) (fun b hb=>by simp[hb])
  have hk:∀ b,b ∈ A++B -> (σ.join (fun b=>decide (b ∈ A++B)) s).box b=s.box b:=fun b hb=>by
   obtain⟨z,hz⟩:=hN.on b hb
   simp only[AS.join,(hn b z hz).1]
   simp only[List.mem_append]at hb
   simp[hb]
  refine⟨fun b=>decide (b ∈ A++B),?_,fun b hb=> ?_,x,y,A,B,hr,aK _ x A hx fun b hb=>hk b (List.mem_append_left _ hb),aK _ y B hy fun b hb=>hk b (List.mem_append_right _ hb),AS.le_join _ _ _,fun b hb=> ?_,hN.nd,fun b hb=> ?_⟩
  ·subst hr
   obtain⟨xl,xk,xt,_,_,_,rfl,_⟩:=(bX _ _ _ _ _).1 hx
   obtain⟨yl,yk,yt,_,_,_,rfl,_⟩:=(bX _ _ _ _ _).1 hy
   have q1:List.all [.int .u8 p.1.knd, .bool p.1.neg,xl, .str p.1.text, .int .i64 p.1.num,xk,xt] (zB fun b=>decide (b ∈ A++B))=true:=List.all_eq_true.2 i1.1
   have q2:List.all [.int .u8 p.2.1.knd, .bool p.2.1.neg,yl, .str p.2.1.text, .int .i64 p.2.1.num,yk,yt] (zB fun b=>decide (b ∈ A++B))=true:=List.all_eq_true.2 i2.1
   show(List.all [.int .u8 p.1.knd, .bool p.1.neg,xl, .str p.1.text, .int .i64 p.1.num,xk,xt] (zB fun b=>decide (b ∈ A++B)) && (List.all [.int .u8 p.2.1.knd, .bool p.2.1.neg,yl, .str p.2.1.text, .int .i64 p.2.1.num,yk,yt] (zB fun b=>decide (b ∈ A++B)) && (true && true)))=true
   rw[q1,q2]
   rfl
  ·have hb:b ∈ A++B:=by simpa using hb
   rcases List.mem_append.1 hb with hb|hb
   ·exact i1.2 b hb
   ·exact i2.2 b hb
  ·obtain⟨z,hz⟩:=hN.on b hb
   exact hn b z hz
  ·obtain⟨z,hz⟩:=hN.on b hb
   exact⟨z,by rw[hk b hb,hz]⟩
theorem B2u{h t:aA}{s:List UInt8}(w:aB Tryz.prog G 7 [] (.bool true))(g:aB Tryz.prog G 6 [.sl .full [h.enc,t.enc] []] (.bool true)):aB Tryz.prog G 4 [h.enc,t.enc, .str s] (.bool true):=by
 intro σ
 refine aJ.of_awp mixed Tryz.func4 rfl (by kernel_rfl) (by kernel_rfl) (by simp[Tryz.ntmps4]) Tryz.results4 ?_
 repeat'(first|refine xs ?_ ?_ <;>intros|(refine wn ?_;intro bx hbx;try simp only[fb]at hbx)|refine wp g ?_|refine wp w ?_|refine wj ?_|simp -dsimp only[↓bp,bq,br,seval,aR, *]|refine wz ?_|fail)
 all_goals rfl
theorem B7g{h t:aA}{s:List UInt8}(hs:((10000:Int) < s.length)=True)(w:aB Tryz.prog G 7 [] (.bool true))(g:aB Tryz.prog G 6 [.sl .full [h.enc,t.enc] []] (.bool false)):aB Tryz.prog G 4 [h.enc,t.enc, .str s] (.bool true):=by
 intro σ
 refine aJ.of_awp mixed Tryz.func4 rfl (by kernel_rfl) (by kernel_rfl) (by simp[Tryz.ntmps4]) Tryz.results4 ?_
 repeat'(first|refine xs ?_ ?_ <;>intros|(refine wn ?_;intro bx hbx;try simp only[fb]at hbx)|refine wp g ?_|refine wp w ?_|refine wj ?_|simp -dsimp only[↓bp,bq,br,seval,aR, *]|refine wz ?_|fail)
 all_goals rfl
structure TL(G:Nat ->AV)(h t:aA)(s:List UInt8)(C A B O:aA)(K:Bool):Prop where
 w:aB Tryz.prog G 7 [] (.bool true)
 g:aB Tryz.prog G 6 [.sl .full [h.enc,t.enc] []] (.bool false)
 hs:((10000:Int) < s.length)=False
 l1:∀ σ,aJ Tryz.prog G 8 [h.enc] σ fun r σ'=>∃ S,cW σ' true h r S /\ bK σ σ' S
 l2:∀ σ,aJ Tryz.prog G 8 [t.enc] σ fun r σ'=>∃ S,cW σ' true t r S /\ bK σ σ' S
 c:A3h G 20 [h.enc,t.enc] C
 sp:∀ σ,aJ Tryz.prog G 21 [t.enc] σ (B0m (A,B,K) σ)
 of:A3h G 22 [.str s] O
 k1:aB Tryz.prog G 13 [h.lent,h.enc] (.bool true)
 k2:aB Tryz.prog G 13 [t.lent,t.enc] (.bool true)
 o1:C3i G h
 o2:C3i G t
 rs:aB Tryz.prog G 23 [t.enc] (.tup [A.enc,B.enc, .bool K])
 rc:aB Tryz.prog G 24 [h.enc,t.enc] C.enc
 ro:aB Tryz.prog G 25 [.str s] O.enc
 mC:aB Tryz.prog G 18 [C.enc,C.enc] (.bool true)
 mA:aB Tryz.prog G 18 [A.enc,A.enc] (.bool true)
 mB:aB Tryz.prog G 18 [B.enc,B.enc] (.bool true)
 mO:aB Tryz.prog G 18 [O.enc,O.enc] (.bool true)
 ap:∀ (vs:List AV) (S:List Nat) (g:Gh) (σ:AS),rH σ [[C],[C],[A],[B],[O],[O]] vs S ->S.Nodup ->aJ Tryz.prog G 19 [.sl g vs []] σ fun r σ'=>r= .bool true /\ nM (fun c=>c ∈ S) σ σ'
set_option maxHeartbeats 8000000 in
theorem C6z{h t:aA}{s:List UInt8}{C A B O:aA}{K:Bool}(hT:TL G h t s C A B O K):aB Tryz.prog G 4 [h.enc,t.enc, .str s] (.bool true):=by
 obtain⟨w,g,hs,l1,l2,c,sp,of,k1,k2,o1,o2,rs,rc,ro,mC,mA,mB,mO,ap⟩:=hT
 intro σ
 refine aJ.back (Q:=fun r=>r= .bool true) ?_
 refine aJ.of_awp mixed Tryz.func4 rfl (by kernel_rfl) (by kernel_rfl) (by simp[Tryz.ntmps4]) Tryz.results4 ?_
 repeat'(first|(refine wn ?_;intro bx hbx;try simp only[fb]at hbx)|refine wp g ?_|refine wi ?_|simp -dsimp only[↓bp,bq,br,seval,aR, *]|refine wz ?_|fail)
 rename_i b3 hb3
 rename Nat=>b4
 have hb4:σ.fresh b4 /\ ¬ b4=b3 /\ ¬ b3=b4:=by assumption
 obtain⟨hb4,n1,n2⟩:=hb4
 obtain⟨S0,hS0⟩:∃ S0:AS,S0=(σ.setBox b3 [.int .u8 h.knd, .bool h.neg,bD h.limbs, .str h.text, .int .i64 h.num,aH h.items,aH h.tail]).setBox b4 [.int .u8 t.knd, .bool t.neg,bD t.limbs, .str t.text, .int .i64 t.num,aH t.items,aH t.tail]:=⟨_,rfl⟩
 have l0:σ.le S0:=by rw[hS0];exact((AS.le.refl σ).setBox hb3.1 _).setBox hb4.1 _
 have f3:S0.box b3=some [.int .u8 h.knd, .bool h.neg,bD h.limbs, .str h.text, .int .i64 h.num,aH h.items,aH h.tail]:=by rw[hS0];simp only[AS.setBox,if_neg n2,if_true]
 have f4:S0.box b4=some [.int .u8 t.knd, .bool t.neg,bD t.limbs, .str t.text, .int .i64 t.num,aH t.items,aH t.tail]:=by rw[hS0];exact AS.set_get
 have f3o:=f3
 have f4o:=f4
 rw[<- hS0]
 clear hS0 hb3 hb4 n1 n2 g
 refine rP mixed (fun ev s=>E1z true h t S0 s (ev 7) (ev 8)) ?_ ?_
 ·refine uS 6 (fun k=> [30,31,32,33,7,8].getD k 0) (fun k=>match k with|0=>wQ h.enc|1=>E1y h|2=>wQ t.enc|3=>E1y t|_=>isB z7) (by decide+kernel) (by decide) ?_ rfl rfl ?_ ?_
  ·intro k
   match k with
   |0|2=>exact lD _
   |1|3=>exact B9y _
   |k+4=>exact rR _
  ·refine⟨⟨rfl,fun ev s hs hw hf=> ?_⟩,⟨rfl,fun ev s hs hw hf=> ?_⟩,⟨rfl,fun ev s hs hw hf=> ?_⟩,⟨rfl,fun ev s hs hw hf=> ?_⟩,⟨rfl,fun ev s hs hw hf=> ?_⟩,⟨rfl,fun ev s hs hw hf=> ?_⟩,trivial⟩
   ·have h0:=hf 3 (by decide)
    have hb:=hs.box _ _ f3
    simp -dsimp only[↓bp,bq,br,seval,aR]at h0
    repeat'(first|(refine wn ?_;intro bx hbx;try simp only[fb]at hbx)|refine wi ?_|simp -dsimp only[↓bp,bq,br,seval,aR, *]|refine wz ?_|fail)
    exact⟨[],bK.refl _,rfl,rfl⟩
   ·obtain⟨A,h0,_⟩:=hw 0 (by decide+kernel)
    replace h0:ev 30=h.enc:=h0
    simp -dsimp only[↓bp,bq,br,seval,aR,h0]
    refine aJ.mono (l1 s) ?_
    rintro r s' ⟨S',a,b⟩
    exact⟨S',b,a⟩
   ·have h0:=hf 4 (by decide)
    have hb:=hs.box _ _ f4
    simp -dsimp only[↓bp,bq,br,seval,aR]at h0
    repeat'(first|(refine wn ?_;intro bx hbx;try simp only[fb]at hbx)|refine wi ?_|simp -dsimp only[↓bp,bq,br,seval,aR, *]|refine wz ?_|fail)
    exact⟨[],bK.refl _,rfl,rfl⟩
   ·obtain⟨A,h0,_⟩:=hw 2 (by decide+kernel)
    replace h0:ev 32=t.enc:=h0
    simp -dsimp only[↓bp,bq,br,seval,aR,h0]
    refine aJ.mono (l2 s) ?_
    rintro r s' ⟨S',a,b⟩
    exact⟨S',b,a⟩
   ·simp -dsimp only[↓bp,bq,br,seval,aR]
    refine aY fun b hb=> ⟨[b],bK.one hb _,b,rfl,rfl,AS.set_get⟩
   ·simp -dsimp only[↓bp,bq,br,seval,aR]
    refine aY fun b hb=> ⟨[b],bK.one hb _,b,rfl,rfl,AS.set_get⟩
  ·intro F ev s hF hQ hf
   have h1:cW s true h (ev 31) (F 1):=hQ 1 (by omega)
   have h2:cW s true t (ev 33) (F 3):=hQ 3 (by omega)
   obtain⟨b7,h7,e7,n7⟩:isB z7 s (ev 7) (F 4):=hQ 4 (by omega)
   obtain⟨b8,h8,e8,n8⟩:isB z7 s (ev 8) (F 5):=hQ 5 (by omega)
   obtain⟨l1,k1,t1,_,_,_,v1,_,g1,g2,g3⟩:=(bX _ _ _ _ _).1 h1
   obtain⟨l2',k2,t2',_,_,_,v2,_,g4,g5,g6⟩:=(bX _ _ _ _ _).1 h2
   obtain⟨u1,u2,u3⟩:=g1.one
   obtain⟨u4,u5,u6⟩:=g2.one
   obtain⟨u7,u8,u9⟩:=g3.one
   obtain⟨w1,w2,w3⟩:=g4.one
   obtain⟨w4,w5,w6⟩:=g5.one
   obtain⟨w7,w8,w9⟩:=g6.one
   rw[v1]at h1
   rw[v2]at h2
   clear g1 g2 g3 g4 g5 g6 hf hQ
   have h78:b7 ≠ b8:=fun e=>by have:=hF.dj 4 5 b7 (by rw[e7];simp) (by rw[e8,e];simp);omega
   have h87:(b8=b7)=False:=eq_false (Ne.symm h78)
   unfold z7 at n7 n8
   repeat'(first|(refine wn ?_;intro bx hbx;try simp only[fb]at hbx)|refine wi ?_|simp -dsimp only[↓bp,bq,br,seval,aR, *]|refine wz ?_|fail)
   exact B0g 1 3 4 5 hF h1 h2 e7 e8 (by decide)
 intro v s3 h3
 obtain⟨b7,b8,xl,xk,xt,yl,yk,yt,SX,SY,h7,h8,f7,f8,oX,oY,N3⟩:=h3
 simp -dsimp only[↓bp,bq,br,seval,aR]at h7 h8
 have lX:∀ s,s3.le s ->eI G s (.agg [.int .u8 h.knd, .bool h.neg,xl, .str h.text, .int .i64 h.num,xk,xt]) h.enc:=fun s hl=>dT (aK h _ SX oX (cM hl (eH h _ SX oX)))
 have lY:∀ s,s3.le s ->eI G s (.agg [.int .u8 t.knd, .bool t.neg,yl, .str t.text, .int .i64 t.num,yk,yt]) t.enc:=fun s hl=>dT (aK t _ SY oY (cM hl (eH t _ SY oY)))
 have qc:∀ s,s3.le s ->aJ Tryz.prog G 20 [(.agg [.int .u8 h.knd, .bool h.neg,xl, .str h.text, .int .i64 h.num,xk,xt]),(.agg [.int .u8 t.knd, .bool t.neg,yl, .str t.text, .int .i64 t.num,yk,yt])] s fun r s'=>∃ S',cW s' false C r S' /\ bK s s' S':=fun s hl=>A9r (c s.shut) (.cons (lX s hl) (.cons (lY s hl) .nil))
 have qs:∀ s,s3.le s ->aJ Tryz.prog G 21 [(.agg [.int .u8 t.knd, .bool t.neg,yl, .str t.text, .int .i64 t.num,yk,yt])] s (B0m (A,B,K) s):=fun s hl=>C6e (sp s.shut) (.cons (lY s hl) .nil)
 have f3':=N3.le.box _ _ f3
 have f4':=N3.le.box _ _ f4
 clear c sp lX lY l1 l2
 repeat'(first|(refine wn ?_;intro bx hbx;try simp only[fb]at hbx)|refine wi ?_|simp -dsimp only[↓bp,bq,br,seval,aR, *]|refine wz ?_|fail)
 refine rP mixed (fun ev s=>E1z false C C s3 s (ev 9) (ev 10)) ?_ ?_
 ·refine uS 8 (fun k=> [34,35,36,37,38,39,9,10].getD k 0) (fun k=>match k with|0=>wQ (.agg [.int .u8 h.knd, .bool h.neg,xl, .str h.text, .int .i64 h.num,xk,xt])|1=>wQ (.agg [.int .u8 t.knd, .bool t.neg,yl, .str t.text, .int .i64 t.num,yk,yt])|2=>A8j C|3=>wQ (.agg [.int .u8 h.knd, .bool h.neg,xl, .str h.text, .int .i64 h.num,xk,xt])|4=>wQ (.agg [.int .u8 t.knd, .bool t.neg,yl, .str t.text, .int .i64 t.num,yk,yt])|5=>A8j C|_=>isB z7) (by decide+kernel) (by decide) ?_ rfl rfl ?_ ?_
  ·intro k
   match k with
   |0|1|3|4=>exact lD _
   |2|5=>exact wB _
   |k+6=>exact rR _
  ·refine⟨⟨rfl,fun ev s hs hw hf=> ?_⟩,⟨rfl,fun ev s hs hw hf=> ?_⟩,⟨rfl,fun ev s hs hw hf=> ?_⟩,⟨rfl,fun ev s hs hw hf=> ?_⟩,⟨rfl,fun ev s hs hw hf=> ?_⟩,⟨rfl,fun ev s hs hw hf=> ?_⟩,⟨rfl,fun ev s hs hw hf=> ?_⟩,⟨rfl,fun ev s hs hw hf=> ?_⟩,trivial⟩
   ·have h0:=hf 7 (by decide)
    have hb:=hs.box _ _ f7
    simp -dsimp only[↓bp,bq,br,seval,aR]at h0
    repeat'(first|(refine wn ?_;intro bx hbx;try simp only[fb]at hbx)|refine wi ?_|simp -dsimp only[↓bp,bq,br,seval,aR, *]|refine wz ?_|fail)
    exact⟨[],bK.refl _,rfl,rfl⟩
   ·have h0:=hf 8 (by decide)
    have hb:=hs.box _ _ f8
    simp -dsimp only[↓bp,bq,br,seval,aR]at h0
    repeat'(first|(refine wn ?_;intro bx hbx;try simp only[fb]at hbx)|refine wi ?_|simp -dsimp only[↓bp,bq,br,seval,aR, *]|refine wz ?_|fail)
    exact⟨[],bK.refl _,rfl,rfl⟩
   ·obtain⟨_,h0,_⟩:=hw 0 (by decide+kernel)
    obtain⟨_,h1,_⟩:=hw 1 (by decide+kernel)
    replace h0:ev 34=(.agg [.int .u8 h.knd, .bool h.neg,xl, .str h.text, .int .i64 h.num,xk,xt]):=h0
    replace h1:ev 35=(.agg [.int .u8 t.knd, .bool t.neg,yl, .str t.text, .int .i64 t.num,yk,yt]):=h1
    simp -dsimp only[↓bp,bq,br,seval,aR,h0,h1]
    refine aJ.mono (qc s hs) ?_
    rintro r s' ⟨S',a,b⟩
    exact⟨S',b,a⟩
   ·have h0:=hf 7 (by decide)
    have hb:=hs.box _ _ f7
    simp -dsimp only[↓bp,bq,br,seval,aR]at h0
    repeat'(first|(refine wn ?_;intro bx hbx;try simp only[fb]at hbx)|refine wi ?_|simp -dsimp only[↓bp,bq,br,seval,aR, *]|refine wz ?_|fail)
    exact⟨[],bK.refl _,rfl,rfl⟩
   ·have h0:=hf 8 (by decide)
    have hb:=hs.box _ _ f8
    simp -dsimp only[↓bp,bq,br,seval,aR]at h0
    repeat'(first|(refine wn ?_;intro bx hbx;try simp only[fb]at hbx)|refine wi ?_|simp -dsimp only[↓bp,bq,br,seval,aR, *]|refine wz ?_|fail)
    exact⟨[],bK.refl _,rfl,rfl⟩
   ·obtain⟨_,h0,_⟩:=hw 3 (by decide+kernel)
    obtain⟨_,h1,_⟩:=hw 4 (by decide+kernel)
    replace h0:ev 37=(.agg [.int .u8 h.knd, .bool h.neg,xl, .str h.text, .int .i64 h.num,xk,xt]):=h0
    replace h1:ev 38=(.agg [.int .u8 t.knd, .bool t.neg,yl, .str t.text, .int .i64 t.num,yk,yt]):=h1
    simp -dsimp only[↓bp,bq,br,seval,aR,h0,h1]
    refine aJ.mono (qc s hs) ?_
    rintro r s' ⟨S',a,b⟩
    exact⟨S',b,a⟩
   ·simp -dsimp only[↓bp,bq,br,seval,aR]
    refine aY fun b hb=> ⟨[b],bK.one hb _,b,rfl,rfl,AS.set_get⟩
   ·simp -dsimp only[↓bp,bq,br,seval,aR]
    refine aY fun b hb=> ⟨[b],bK.one hb _,b,rfl,rfl,AS.set_get⟩
  ·intro F ev s hF hQ hf
   have h1:cW s false C (ev 36) (F 2):=hQ 2 (by omega)
   have h2:cW s false C (ev 39) (F 5):=hQ 5 (by omega)
   obtain⟨b7,h7,e7,n7⟩:isB z7 s (ev 9) (F 6):=hQ 6 (by omega)
   obtain⟨b8,h8,e8,n8⟩:isB z7 s (ev 10) (F 7):=hQ 7 (by omega)
   obtain⟨l1,k1,t1,_,_,_,v1,_,g1,g2,g3⟩:=(bX _ _ _ _ _).1 h1
   obtain⟨l2',k2,t2',_,_,_,v2,_,g4,g5,g6⟩:=(bX _ _ _ _ _).1 h2
   obtain⟨u1,u2,u3⟩:=g1.one
   obtain⟨u4,u5,u6⟩:=g2.one
   obtain⟨u7,u8,u9⟩:=g3.one
   obtain⟨w1,w2,w3⟩:=g4.one
   obtain⟨w4,w5,w6⟩:=g5.one
   obtain⟨w7,w8,w9⟩:=g6.one
   rw[v1]at h1
   rw[v2]at h2
   clear g1 g2 g3 g4 g5 g6 hf hQ
   have h78:b7 ≠ b8:=fun e=>by have:=hF.dj 6 7 b7 (by rw[e7];simp) (by rw[e8,e];simp);omega
   have h87:(b8=b7)=False:=eq_false (Ne.symm h78)
   unfold z7 at n7 n8
   repeat'(first|(refine wn ?_;intro bx hbx;try simp only[fb]at hbx)|refine wi ?_|simp -dsimp only[↓bp,bq,br,seval,aR, *]|refine wz ?_|fail)
   exact B0g 2 5 6 7 hF h1 h2 e7 e8 (by decide)
 intro v2 s4 h4'
 obtain⟨b9,b10,cl,ck,ct,dl,dk,dt,SC,SD,h9,h10,f9,f10,oC,oD,N4⟩:=h4'
 simp -dsimp only[↓bp,bq,br,seval,aR]at h9 h10
 replace f3:=N4.le.box _ _ f3'
 replace f4:=N4.le.box _ _ f4'
 have g7:=N4.le.box _ _ f7
 have g8:=N4.le.box _ _ f8
 clear qc f3' f4'
 repeat'(first|(refine wn ?_;intro bx hbx;try simp only[fb]at hbx)|refine wi ?_|simp -dsimp only[↓bp,bq,br,seval,aR, *]|refine wz ?_|fail)
 refine aJ.mono (qs s4 N4.le) ?_
 rintro r s5 ⟨xa,xb,SA,SB,rfl,oA,oB,N5⟩
 obtain⟨al,ak,at_,_,_,_,va,_,z1,z2,z3⟩:=(bX _ _ _ _ _).1 oA
 obtain⟨bl,bk,bt,_,_,_,vb,_,z4,z5,z6⟩:=(bX _ _ _ _ _).1 oB
 obtain⟨u1,u2,u3⟩:=z1.one
 obtain⟨u4,u5,u6⟩:=z2.one
 obtain⟨u7,u8,u9⟩:=z3.one
 obtain⟨w1,w2,w3⟩:=z4.one
 obtain⟨w4,w5,w6⟩:=z5.one
 obtain⟨w7,w8,w9⟩:=z6.one
 simp only at oA oB va vb
 subst va vb
 clear z1 z2 z3 z4 z5 z6 qs
 repeat'(first|(refine wn ?_;intro bx hbx;try simp only[fb]at hbx)|refine wi ?_|simp -dsimp only[↓bp,bq,br,seval,aR, *]|refine wz ?_|fail)
 rename_i b11 hb11
 rename Nat=>b12
 have hb12:s5.fresh b12 /\ ¬ b12=b11 /\ ¬ b11=b12:=by assumption
 obtain⟨hb12,n1,n2⟩:=hb12
 obtain⟨S6,hS6⟩:∃ S6:AS,S6=(((s5.setBox b11 [.int .u8 0, .bool false, .nil, .str [], .int .i64 0, .nil, .nil]).setBox b12 [.int .u8 0, .bool false, .nil, .str [], .int .i64 0, .nil, .nil]).setBox b11 [.int .u8 A.knd, .bool A.neg,al, .str A.text, .int .i64 A.num,ak,at_]).setBox b12 [.int .u8 B.knd, .bool B.neg,bl, .str B.text, .int .i64 B.num,bk,bt]:=⟨_,rfl⟩
 have l6:s5.le S6:=by rw[hS6];exact((((AS.le.refl s5).setBox hb11.1 _).setBox hb12.1 _).setBox hb11.1 _).setBox hb12.1 _
 have f11:S6.box b11=some [.int .u8 A.knd, .bool A.neg,al, .str A.text, .int .i64 A.num,ak,at_]:=by rw[hS6];simp only[AS.setBox,if_neg n2,if_true]
 have f12:S6.box b12=some [.int .u8 B.knd, .bool B.neg,bl, .str B.text, .int .i64 B.num,bk,bt]:=by rw[hS6];exact AS.set_get
 rw[<- hS6]
 clear hS6 n1 n2
 refine aJ.mono (of S6) ?_
 rintro xo s7 ⟨SO,oO,N7⟩
 obtain⟨ol,ok,ot,_,_,_,vo,_,z1,z2,z3⟩:=(bX _ _ _ _ _).1 oO
 obtain⟨p1,p2,p3⟩:=z1.one
 obtain⟨p4,p5,p6⟩:=z2.one
 obtain⟨p7,p8,p9⟩:=z3.one
 subst vo
 clear z1 z2 z3
 repeat'(first|(refine wn ?_;intro bx hbx;try simp only[fb]at hbx)|refine wi ?_|simp -dsimp only[↓bp,bq,br,seval,aR, *]|refine wz ?_|fail)
 refine aJ.mono (of s7) ?_
 rintro xp s8 ⟨SP,oP,N8⟩
 obtain⟨pl,pk,pt,_,_,_,vp,_,z1,z2,z3⟩:=(bX _ _ _ _ _).1 oP
 obtain⟨q1,q2,q3⟩:=z1.one
 obtain⟨q4,q5,q6⟩:=z2.one
 obtain⟨q7,q8,q9⟩:=z3.one
 subst vp
 clear z1 z2 z3
 have l58:s5.le s8:=(l6.trans N7.le).trans N8.le
 have l48:s4.le s8:=N5.le.trans l58
 have e3:=l48.box _ _ f3
 have e4:=l48.box _ _ f4
 have e7:=l48.box _ _ g7
 have e8:=l48.box _ _ g8
 repeat'(first|((first|refine q8h ?_|refine q8i ?_);intro bx hbx;(try simp only[fb]at hbx);try(have nn:=fresh_ne (c:=bx) e3 (by simp only[hbx]));try(have nn:=fresh_ne (c:=bx) e4 (by simp only[hbx]));try(have nn:=fresh_ne (c:=bx) e7 (by simp only[hbx]));try(have nn:=fresh_ne (c:=bx) e8 (by simp only[hbx])))|refine wi ?_|simp -dsimp only[↓bp,bq,br,seval,aR, *]|refine wz ?_|fail)
 rename_i b14 hb14 m1 m2 m3 m4 m5 m6 m7
 rename Nat=>b15
 have hb15:s8.fresh b15 /\ ¬ b15=b14 /\ ¬ b14=b15:=by assumption
 clear m1 m2 m3 m4 m5 m6 m7 nn
 obtain⟨hb15,n1,n2⟩:=hb15
 obtain⟨S9,hS9⟩:∃ S9:AS,S9=(((s8.setBox b14 [.int .u8 0, .bool false, .nil, .str [], .int .i64 0, .nil, .nil]).setBox b15 [.int .u8 0, .bool false, .nil, .str [], .int .i64 0, .nil, .nil]).setBox b14 [.int .u8 O.knd, .bool O.neg,ol, .str O.text, .int .i64 O.num,ok,ot]).setBox b15 [.int .u8 O.knd, .bool O.neg,pl, .str O.text, .int .i64 O.num,pk,pt]:=⟨_,rfl⟩
 have l9:s8.le S9:=by rw[hS9];exact((((AS.le.refl s8).setBox hb14.1 _).setBox hb15.1 _).setBox hb14.1 _).setBox hb15.1 _
 have f14:S9.box b14=some [.int .u8 O.knd, .bool O.neg,ol, .str O.text, .int .i64 O.num,ok,ot]:=by rw[hS9];simp only[AS.setBox,if_neg n2,if_true]
 have f15:S9.box b15=some [.int .u8 O.knd, .bool O.neg,pl, .str O.text, .int .i64 O.num,pk,pt]:=by rw[hS9];exact AS.set_get
 rw[<- hS9]
 clear hS9 n1 n2 of
 have l39:s3.le S9:=N4.le.trans (l48.trans l9)
 have l39':s3.le s8:=N4.le.trans l48
 have l35:s3.le s5:=N4.le.trans N5.le
 have y9:s3.box b9=none:=(N4.fr b9 (by simp)).1
 have y10:s3.box b10=none:=(N4.fr b10 (by simp)).1
 have y11:s3.box b11=none:=gU l35 hb11.1
 have y12:s3.box b12=none:=gU l35 hb12.1
 have y14:s3.box b14=none:=gU l39' hb14.1
 have y15:s3.box b15=none:=gU l39' hb15.1
 have j9:=l9.box _ _ (l48.box _ _ f9)
 have j10:=l9.box _ _ (l48.box _ _ f10)
 have j11:=l9.box _ _ (N8.le.box _ _ (N7.le.box _ _ f11))
 have j12:=l9.box _ _ (N8.le.box _ _ (N7.le.box _ _ f12))
 replace e3:=l9.box _ _ e3
 replace e4:=l9.box _ _ e4
 replace e7:=l9.box _ _ e7
 replace e8:=l9.box _ _ e8
 have NT:bK s3 S9 ((SC++SD)++((SA++SB)++(SO++SP))):=by
  have q1:bK s3 s4 (SC++SD):=⟨N4.le,fun b hb=>N4.fr b (List.mem_cons_of_mem _ (List.mem_cons_of_mem _ hb)),(List.nodup_cons.1 (List.nodup_cons.1 N4.nd).2).2,fun b hb=>N4.on b (List.mem_cons_of_mem _ (List.mem_cons_of_mem _ hb))⟩
  have q2:=q1.more N5.fr N5.nd (q1.le.trans N5.le) fun b hb=>by
   rcases List.mem_append.1 hb with hb|hb
   ·obtain⟨z,hz⟩:=q1.on b hb;exact⟨z,N5.le.box _ _ hz⟩
   ·exact N5.on b hb
  have q3:=q2.more (fun b hb=> ⟨gU l6 (N7.fr b hb).1,iL l6 (N7.fr b hb).2⟩) N7.nd (q2.le.trans (l6.trans N7.le)) fun b hb=>by
   rcases List.mem_append.1 hb with hb|hb
   ·obtain⟨z,hz⟩:=q2.on b hb;exact⟨z,(l6.trans N7.le).box _ _ hz⟩
   ·exact N7.on b hb
  have q4:=q3.more N8.fr N8.nd (q3.le.trans (N8.le.trans l9)) fun b hb=>by
   rcases List.mem_append.1 hb with hb|hb
   ·obtain⟨z,hz⟩:=q3.on b hb;exact⟨z,(N8.le.trans l9).box _ _ hz⟩
   ·obtain⟨z,hz⟩:=N8.on b hb;exact⟨z,l9.box _ _ hz⟩
  simpa only[List.append_assoc] using q4
 have oC9:=aK _ _ _ oC (cM (l48.trans l9) (eH _ _ _ oC))
 have oD9:=aK _ _ _ oD (cM (l48.trans l9) (eH _ _ _ oD))
 have oA9:=aK _ _ _ oA (cM (l58.trans l9) (eH _ _ _ oA))
 have oB9:=aK _ _ _ oB (cM (l58.trans l9) (eH _ _ _ oB))
 have oO9:=aK _ _ _ oO (cM (N8.le.trans l9) (eH _ _ _ oO))
 have oP9:=aK _ _ _ oP (cM l9 (eH _ _ _ oP))
 have hXY:∀ b,b ∈ SX++SY ->∃ z,s3.box b=some z:=fun b hb=>N3.on b (List.mem_cons_of_mem _ (List.mem_cons_of_mem _ hb))
 have nXY:(SX++SY).Nodup:=(List.nodup_cons.1 (List.nodup_cons.1 N3.nd).2).2
 have x3:b3 ∉ SX++SY:=fun hb=>by have:=(N3.fr b3 (List.mem_cons_of_mem _ (List.mem_cons_of_mem _ hb))).1;rw[f3o]at this;cases this
 have x4:b4 ∉ SX++SY:=fun hb=>by have:=(N3.fr b4 (List.mem_cons_of_mem _ (List.mem_cons_of_mem _ hb))).1;rw[f4o]at this;cases this
 have x8:b8 ∉ SX:=fun hb=> (List.nodup_cons.1 (List.nodup_cons.1 N3.nd).2).1 (List.mem_append_left _ hb)
 have fXY:∀ b,b ∈ SX++SY ->σ.box b=none:=fun b hb=>l0.noBox (N3.fr b (List.mem_cons_of_mem _ (List.mem_cons_of_mem _ hb))).1
 have lσ:σ.le S9:=(l0.trans N3.le).trans l39
 have z3σ:∀ b,s3.box b=none ->σ.box b=none:=fun b hb=>gU (l0.trans N3.le) hb
 have oX9:=aK _ _ _ oX (cM l39 (eH _ _ _ oX))
 have oY9:=aK _ _ _ oY (cM l39 (eH _ _ _ oY))
 clear N3 N4 N5 N7 N8 l48 l58 l6 l9 l39' l35 oC oD oA oB oO oP oX oY f3 f4 f7 f8 f9 f10 f11 f12 g7 g8 hb11 hb12 hb14 hb15 l0 f3o f4o
 have q4:eP Tryz.prog G 13 [(.agg [.int .u8 h.knd, .bool h.neg,xl, .str h.text, .int .i64 h.num,xk,xt]),h.enc] S9 (.bool true):=fun σ' hl=>k1.lend (σ:=σ') rfl (.cons (rA (aK _ _ _ oX9 (cM hl (eH _ _ _ oX9)))) (.cons (eI.id _) .nil))
 have q5:eP Tryz.prog G 13 [(.agg [.int .u8 t.knd, .bool t.neg,yl, .str t.text, .int .i64 t.num,yk,yt]),t.enc] S9 (.bool true):=fun σ' hl=>k2.lend (σ:=σ') rfl (.cons (rA (aK _ _ _ oY9 (cM hl (eH _ _ _ oY9)))) (.cons (eI.id _) .nil))
 have w10:=o1 S9 _ SX oX9 (List.nodup_append.1 nXY).1
 clear k1 k2 o1
 repeat'(first|(refine wn ?_;intro bx hbx;try simp only[fb]at hbx)|refine eP.use (q4) (by repeat' first|exact lr _|assumption|refine ls ?_ ?_|refine lt ?_ ?_|simp only[*];done|simp only[fb, *,not_false_eq_true,and_self];done|exact lf ‹_› (by simp only[*])) ?_|refine eP.use (q5) (by repeat' first|exact lr _|assumption|refine ls ?_ ?_|refine lt ?_ ?_|simp only[*];done|simp only[fb, *,not_false_eq_true,and_self];done|exact lf ‹_› (by simp only[*])) ?_|refine wi ?_|simp -dsimp only[↓bp,bq,br,seval,aR, *]|refine wz ?_|fail)
 refine aJ.mono w10 ?_
 rintro r s10 ⟨rfl,hX1⟩
 have dXY:∀ b,b ∈ SY ->b ∉ SX:=fun b hb hb'=> (List.nodup_append.1 nXY).2.2 b hb' b hb rfl
 have oY10:=aK _ _ _ oY9 (σ':=s10) fun b hb=>by
  obtain⟨z,hz⟩:=eH _ _ _ oY9 b hb
  rw[hz];exact hX1.box _ _ (dXY b hb) hz
 replace e8:=hX1.box _ _ x8 e8
 have w11:=o2 s10 _ SY oY10 (List.nodup_append.1 nXY).2.1
 clear q4 q5 w10 o2 oX9 oY9
 repeat'(first|(refine wn ?_;intro bx hbx;try simp only[fb]at hbx)|refine wi ?_|simp -dsimp only[↓bp,bq,br,seval,aR, *]|refine wz ?_|fail)
 refine aJ.mono w11 ?_
 rintro r s11 ⟨rfl,hX2⟩
 have hX:nM (fun c=>c ∈ SX++SY) S9 s11:=(hX1.wk fun c hc=>List.mem_append_left _ hc).trans (hX2.wk fun c hc=>List.mem_append_right _ hc)
 have kp:∀ b z,s3.box b=none ->S9.box b=some z ->s11.box b=some z:=fun b z h1 h2=>hX.box _ _ (fun hb=>by obtain⟨y,hy⟩:=hXY b hb;rw[h1]at hy;cases hy) h2
 have kt:∀ {x v S},cW S9 false x v S -> (∀ b,b ∈ S ->s3.box b=none) ->cW s11 false x v S:=fun ho hn=>aK _ _ _ ho fun b hb=>by
  obtain⟨z,hz⟩:=eH _ _ _ ho b hb
  rw[hz];exact kp b z (hn b hb) hz
 have hT3:∀ b,b ∈ (SC++SD)++((SA++SB)++(SO++SP)) ->s3.box b=none:=fun b hb=> (NT.fr b hb).1
 replace oC9:=kt oC9 fun b hb=>hT3 b (by simp[hb])
 replace oD9:=kt oD9 fun b hb=>hT3 b (by simp[hb])
 replace oA9:=kt oA9 fun b hb=>hT3 b (by simp[hb])
 replace oB9:=kt oB9 fun b hb=>hT3 b (by simp[hb])
 replace oO9:=kt oO9 fun b hb=>hT3 b (by simp[hb])
 replace oP9:=kt oP9 fun b hb=>hT3 b (by simp[hb])
 replace e3:=hX.box _ _ x3 e3
 replace e4:=hX.box _ _ x4 e4
 replace j9:=kp _ _ y9 j9
 replace j10:=kp _ _ y10 j10
 replace j11:=kp _ _ y11 j11
 replace j12:=kp _ _ y12 j12
 replace f14:=kp _ _ y14 f14
 replace f15:=kp _ _ y15 f15
 have l11:σ.le s11:=hX.le_of lσ fXY
 have nT:=NT.nd
 have hTσ:∀ b,b ∈ (SC++SD)++((SA++SB)++(SO++SP)) ->σ.box b=none:=fun b hb=>z3σ b (hT3 b hb)
 clear hX1 hX2 hX w11 oY10 dXY e7 e8 x3 x4 x8 fXY hXY nXY lσ kp kt NT hT3 z3σ l39 y9 y10 y11 y12 y14 y15
 repeat'(first|((first|refine q8h ?_|refine q8i ?_);intro bx hbx;(try simp only[fb]at hbx);try(have nn:=fresh_ne (c:=bx) e3 (by simp only[hbx]));try(have nn:=fresh_ne (c:=bx) e4 (by simp only[hbx]));try(have nn:=fresh_ne (c:=bx) j9 (by simp only[hbx]));try(have nn:=fresh_ne (c:=bx) j10 (by simp only[hbx]));try(have nn:=fresh_ne (c:=bx) j11 (by simp only[hbx]));try(have nn:=fresh_ne (c:=bx) j12 (by simp only[hbx]));try(have nn:=fresh_ne (c:=bx) f14 (by simp only[hbx]));try(have nn:=fresh_ne (c:=bx) f15 (by simp only[hbx])))|refine wp rs ?_|refine wi ?_|simp -dsimp only[↓bp,bq,br,seval,aR, *]|refine wz ?_|fail)
 rename_i b16 hb16 r1 r2 r3 r4 r5 r6 r7 r8 r9 r10 r11 r12 r13 r14 r15
 rename Nat=>b17
 have hb17:s11.fresh b17 /\ ¬ b17=b16 /\ ¬ b16=b17:=by assumption
 clear r1 r2 r3 r4 r5 r6 r7 r8 r9 r10 r11 r12 r13 r14 r15 nn
 obtain⟨hb17,n1,n2⟩:=hb17
 obtain⟨S12,hS12⟩:∃ S12:AS,S12=(((s11.setBox b16 [.int .u8 0, .bool false, .nil, .str [], .int .i64 0, .nil, .nil]).setBox b17 [.int .u8 0, .bool false, .nil, .str [], .int .i64 0, .nil, .nil]).setBox b16 [.int .u8 A.knd, .bool A.neg,bD A.limbs, .str A.text, .int .i64 A.num,aH A.items,aH A.tail]).setBox b17 [.int .u8 B.knd, .bool B.neg,bD B.limbs, .str B.text, .int .i64 B.num,aH B.items,aH B.tail]:=⟨_,rfl⟩
 have l12:s11.le S12:=by rw[hS12];exact((((AS.le.refl s11).setBox hb16.1 _).setBox hb17.1 _).setBox hb16.1 _).setBox hb17.1 _
 have f16:S12.box b16=some [.int .u8 A.knd, .bool A.neg,bD A.limbs, .str A.text, .int .i64 A.num,aH A.items,aH A.tail]:=by rw[hS12];simp only[AS.setBox,if_neg n2,if_true]
 have f17:S12.box b17=some [.int .u8 B.knd, .bool B.neg,bD B.limbs, .str B.text, .int .i64 B.num,aH B.items,aH B.tail]:=by rw[hS12];exact AS.set_get
 rw[<- hS12]
 clear hS12 n1 n2 hb16 hb17 rs
 replace l11:=l11.trans l12
 replace e3:=l12.box _ _ e3
 replace e4:=l12.box _ _ e4
 replace j9:=l12.box _ _ j9
 replace j10:=l12.box _ _ j10
 replace j11:=l12.box _ _ j11
 replace j12:=l12.box _ _ j12
 replace f14:=l12.box _ _ f14
 replace f15:=l12.box _ _ f15
 replace oC9:=aK _ _ _ oC9 (cM l12 (eH _ _ _ oC9))
 replace oD9:=aK _ _ _ oD9 (cM l12 (eH _ _ _ oD9))
 replace oA9:=aK _ _ _ oA9 (cM l12 (eH _ _ _ oA9))
 replace oB9:=aK _ _ _ oB9 (cM l12 (eH _ _ _ oB9))
 replace oO9:=aK _ _ _ oO9 (cM l12 (eH _ _ _ oO9))
 replace oP9:=aK _ _ _ oP9 (cM l12 (eH _ _ _ oP9))
 clear l12
 have qC:eP Tryz.prog G 18 [.agg [.int .u8 C.knd, .bool C.neg,cl, .str C.text, .int .i64 C.num,ck,ct],C.enc] S12 (.bool true):=fun σ' hl=>mC.lend (σ:=σ') rfl (.cons (dT (aK _ _ _ oC9 (cM hl (eH _ _ _ oC9)))) (.cons (eI.id _) .nil))
 have qA:eP Tryz.prog G 18 [.agg [.int .u8 A.knd, .bool A.neg,al, .str A.text, .int .i64 A.num,ak,at_],A.enc] S12 (.bool true):=fun σ' hl=>mA.lend (σ:=σ') rfl (.cons (dT (aK _ _ _ oA9 (cM hl (eH _ _ _ oA9)))) (.cons (eI.id _) .nil))
 have qB:eP Tryz.prog G 18 [.agg [.int .u8 B.knd, .bool B.neg,bl, .str B.text, .int .i64 B.num,bk,bt],B.enc] S12 (.bool true):=fun σ' hl=>mB.lend (σ:=σ') rfl (.cons (dT (aK _ _ _ oB9 (cM hl (eH _ _ _ oB9)))) (.cons (eI.id _) .nil))
 have qO:eP Tryz.prog G 18 [.agg [.int .u8 O.knd, .bool O.neg,ol, .str O.text, .int .i64 O.num,ok,ot],O.enc] S12 (.bool true):=fun σ' hl=>mO.lend (σ:=σ') rfl (.cons (dT (aK _ _ _ oO9 (cM hl (eH _ _ _ oO9)))) (.cons (eI.id _) .nil))
 clear mC mA mB mO
 refine A4m (by kernel_rfl) ?_
 repeat'(first|(refine wn ?_;intro bx hbx;try simp only[fb]at hbx)|refine wp rc ?_|refine wp ro ?_|(refine eP.head qC (AS.le.refl _) ?_)|(refine eP.head qA (AS.le.refl _) ?_)|(refine eP.head qB (AS.le.refl _) ?_)|(refine eP.head qO (AS.le.refl _) ?_)|((refine A4b tW rfl rfl (by omega) (fun cc hcc=> ?_);(try simp only[fb]at hcc);have q1:=fresh_ne (c:=cc) j10 (by simp only[hcc]);have q2:=fresh_ne (c:=cc) j11 (by simp only[hcc]);have q3:=fresh_ne (c:=cc) j12 (by simp only[hcc]);have q4:=fresh_ne (c:=cc) f14 (by simp only[hcc]);have q5:=fresh_ne (c:=cc) f15 (by simp only[hcc])))|refine wi ?_|simp -dsimp only[↓bp,bq,br,seval,aR, *]|refine wz ?_|fail)
 clear qC qA qB qO rc ro j9 j10 j11 j12 f14 f15 f16 f17 e3 e4
 rename_i c1 hc1 u11 u12 u13 u14 u15 c2 hc2 u21 u22 u23 u24 u25 c3 hc3 u31 u32 u33 u34 u35 c4 hc4 u41 u42 u43 u44 u45 c5 hc5 u51 u52 u53 u54 u55
 clear u11 u12 u13 u14 u15 u21 u22 u23 u24 u25 u31 u32 u33 u34 u35 u41 u42 u43 u44 u45 u51 u52 u53 u54 u55 q1 q2 q3 q4 q5
 have k2:S12.fresh c2:=by simp only[hc2]
 have k3:S12.fresh c3:=by simp only[hc3]
 have k4:S12.fresh c4:=by simp only[hc4]
 have k5:S12.fresh c5:=by simp only[hc5]
 have k6:S12.fresh cc:=by simp only[hcc]
 have hfr:∀ e,e ∈ ([⟨C, .agg [.int .u8 C.knd, .bool C.neg,cl, .str C.text, .int .i64 C.num,ck,ct],SC,c1⟩,⟨C, .agg [.int .u8 C.knd, .bool C.neg,dl, .str C.text, .int .i64 C.num,dk,dt],SD,c2⟩,⟨A, .agg [.int .u8 A.knd, .bool A.neg,al, .str A.text, .int .i64 A.num,ak,at_],SA,c3⟩,⟨B, .agg [.int .u8 B.knd, .bool B.neg,bl, .str B.text, .int .i64 B.num,bk,bt],SB,c4⟩,⟨O, .agg [.int .u8 O.knd, .bool O.neg,ol, .str O.text, .int .i64 O.num,ok,ot],SO,c5⟩,⟨O, .agg [.int .u8 O.knd, .bool O.neg,pl, .str O.text, .int .i64 O.num,pk,pt],SP,cc⟩]:List oE) ->S12.box e.c=none:=fun e he=>by
  simp only[List.mem_cons,List.not_mem_nil,or_false]at he
  rcases he with rfl|rfl|rfl|rfl|rfl|rfl
  ·exact hc1.1
  ·exact k2.1
  ·exact k3.1
  ·exact k4.1
  ·exact k5.1
  ·exact k6.1
 obtain⟨hO,hnd⟩:=D3p (σ:=S12) ([⟨C, .agg [.int .u8 C.knd, .bool C.neg,cl, .str C.text, .int .i64 C.num,ck,ct],SC,c1⟩,⟨C, .agg [.int .u8 C.knd, .bool C.neg,dl, .str C.text, .int .i64 C.num,dk,dt],SD,c2⟩,⟨A, .agg [.int .u8 A.knd, .bool A.neg,al, .str A.text, .int .i64 A.num,ak,at_],SA,c3⟩,⟨B, .agg [.int .u8 B.knd, .bool B.neg,bl, .str B.text, .int .i64 B.num,bk,bt],SB,c4⟩,⟨O, .agg [.int .u8 O.knd, .bool O.neg,ol, .str O.text, .int .i64 O.num,ok,ot],SO,c5⟩,⟨O, .agg [.int .u8 O.knd, .bool O.neg,pl, .str O.text, .int .i64 O.num,pk,pt],SP,cc⟩]:List oE) (fun e he=>by
  simp only[List.mem_cons,List.not_mem_nil,or_false]at he
  rcases he with rfl|rfl|rfl|rfl|rfl|rfl
  ·exact oC9
  ·exact oD9
  ·exact oA9
  ·exact oB9
  ·exact oO9
  ·exact oP9) (by simp[hc2,hc3,hc4,hc5,hcc]) hfr (by simpa [List.append_assoc] using nT)
 have hp:=ap _ _ .full _ hO hnd
 have lf:=D4a ([⟨C, .agg [.int .u8 C.knd, .bool C.neg,cl, .str C.text, .int .i64 C.num,ck,ct],SC,c1⟩,⟨C, .agg [.int .u8 C.knd, .bool C.neg,dl, .str C.text, .int .i64 C.num,dk,dt],SD,c2⟩,⟨A, .agg [.int .u8 A.knd, .bool A.neg,al, .str A.text, .int .i64 A.num,ak,at_],SA,c3⟩,⟨B, .agg [.int .u8 B.knd, .bool B.neg,bl, .str B.text, .int .i64 B.num,bk,bt],SB,c4⟩,⟨O, .agg [.int .u8 O.knd, .bool O.neg,ol, .str O.text, .int .i64 O.num,ok,ot],SO,c5⟩,⟨O, .agg [.int .u8 O.knd, .bool O.neg,pl, .str O.text, .int .i64 O.num,pk,pt],SP,cc⟩]:List oE) σ S12 l11 fun e he=>l11.noBox (hfr e he)
 have hfS:∀ b,b ∈ (([⟨C, .agg [.int .u8 C.knd, .bool C.neg,cl, .str C.text, .int .i64 C.num,ck,ct],SC,c1⟩,⟨C, .agg [.int .u8 C.knd, .bool C.neg,dl, .str C.text, .int .i64 C.num,dk,dt],SD,c2⟩,⟨A, .agg [.int .u8 A.knd, .bool A.neg,al, .str A.text, .int .i64 A.num,ak,at_],SA,c3⟩,⟨B, .agg [.int .u8 B.knd, .bool B.neg,bl, .str B.text, .int .i64 B.num,bk,bt],SB,c4⟩,⟨O, .agg [.int .u8 O.knd, .bool O.neg,ol, .str O.text, .int .i64 O.num,ok,ot],SO,c5⟩,⟨O, .agg [.int .u8 O.knd, .bool O.neg,pl, .str O.text, .int .i64 O.num,pk,pt],SP,cc⟩]:List oE).flatMap fun e=>e.c::e.S) ->σ.box b=none:=fun b hb=>by
  rcases A5j.1 hb with hb|hb
  ·obtain⟨e,he,rfl⟩:=List.mem_map.1 hb
   exact l11.noBox (hfr e he)
  ·exact hTσ b (by simpa [List.append_assoc] using hb)
 clear hO hnd hfr oC9 oD9 oA9 oB9 oO9 oP9 k2 k3 k4 k5 k6 hc1 hc2 hc3 hc4 hc5 hcc ap nT hTσ
 simp only[List.map_cons,List.map_nil,stF,List.foldl_cons,List.foldl_nil]at hp lf
 refine aJ.mono hp ?_
 rintro r s14 ⟨rfl,hX⟩
 have l14:=hX.le_of lf hfS
 clear hp hX hfS lf
 repeat'(first|(refine wn ?_;intro bx hbx;try simp only[fb]at hbx)|refine wp w ?_|refine wi ?_|simp -dsimp only[↓bp,bq,br,seval,aR, *]|refine wz ?_|fail)
 all_goals exact aE _ (AS.le.refl _) ⟨rfl,l14⟩
end
section
variable {G:Nat ->AV}
theorem pV(l r:List aA):iN (bA l r)=1+cK l+cK r:=lF _
theorem A9h(t:aA):1 <=iN t:=by rw[lF];omega
theorem xJ:iN cN=1:=by rw[lF];rfl
theorem C0d(h t:aA):iN (cons h t) <=iN h+iN t+1:=by
 have h1:=A9h h
 have h2:=lF t
 unfold cons
 split
 ·unfold fH
  split
  ·rw[pV];simp only[cK];omega
  ·rw[pV];simp only[cK];omega
 ·rw[xJ];omega
theorem B5g(t:aA):iN (dM t).1 <=iN t /\ iN (dM t).2.1 <=iN t:=by
 have h0:=A9h t
 have h2:=lF t
 have hz:=xJ
 by_cases hc:right t=true /\ t.knd=7 /\ t.items ≠ []
 ·obtain⟨et,h7,hne⟩:=hc
  cases hi:t.items with
  |nil=>exact absurd hi hne
  | cons x l=>
   cases l with
   | nil=>
    have e:dM t=(x,cR t,true):=by unfold dM split;rw[if_pos ⟨et,h7⟩,hi]
    rw[e]
    rw[hi]at h2
    simp only[cK]at h2
    refine⟨by simp only;omega,?_⟩
    simp only
    unfold cR
    cases htl:t.tail with
    |nil=>simp only[pV,cK];omega
    |cons y r=>rw[htl]at h2;simp only[cK]at h2 ⊢;omega
   | cons y r=>
    have e:dM t=(x,bA (y::r) t.tail,true):=by unfold dM split;rw[if_pos ⟨et,h7⟩,hi]
    rw[e]
    rw[hi]at h2
    simp only[cK]at h2
    refine⟨by simp only;omega,?_⟩
    simp only[pV,cK]
    omega
 ·have e:dM t=(cN,cN,false):=by
   unfold dM split
   split
   ·rename_i h r he
    split at he
    ·rename_i hh
     exfalso
     refine hc ⟨hh.1,hh.2,fun e=> ?_⟩
     rw[e]at he;cases he
    ·cases he
   ·rfl
  rw[e]
  simp only
  omega
theorem A2b:∀ (s:List UInt8),cK (gI s)=s.length
 |[]=>rfl
 | c::s=>by
  have h:=A2b s
  have h2:iN (hJ c.toNat)=1:=by rw[lF];rfl
  simp only[gI,List.map_cons,cK,List.length_cons]at*
  omega
theorem D2k(s:List UInt8):iN (ofS s) <=4098:=by
 unfold ofS
 split
 ·unfold zA
  rw[pV,A2b,List.length_take]
  simp only[cK]
  omega
 ·rw[xJ];omega
theorem C0z(t:aA):(dM t).1.bulk <=t.bulk+1 /\ (dM t).2.1.bulk <=t.bulk+1:=by
 have hbt:=t.bulk_eq
 by_cases hc:right t=true /\ t.knd=7 /\ t.items ≠ []
 ·obtain⟨et,h7,hne⟩:=hc
  cases hi:t.items with
  |nil=>exact absurd hi hne
  | cons x l=>
   cases l with
   | nil=>
    have e:dM t=(x,cR t,true):=by unfold dM split;rw[if_pos ⟨et,h7⟩,hi]
    rw[e]
    rw[hi]at hbt
    simp only[aV]at hbt
    refine⟨by simp only;omega,?_⟩
    simp only
    unfold cR
    cases htl:t.tail with
    |nil=>simp only[bA,aA.bulk,aV,List.length_nil];omega
    |cons y r=>rw[htl]at hbt;simp only[aV]at hbt ⊢;omega
   | cons y r=>
    have e:dM t=(x,bA (y::r) t.tail,true):=by unfold dM split;rw[if_pos ⟨et,h7⟩,hi]
    rw[e]
    rw[hi]at hbt
    simp only[aV]at hbt
    refine⟨by simp only;omega,?_⟩
    simp only[bA,aA.bulk,aV,List.length_nil]
    omega
 ·have e:dM t=(cN,cN,false):=by
   unfold dM split
   split
   ·rename_i h r he
    split at he
    ·rename_i hh
     exfalso
     refine hc ⟨hh.1,hh.2,fun e=> ?_⟩
     rw[e]at he;cases he
    ·cases he
   ·rfl
  rw[e]
  simp only[cN,aA.bulk,aV,List.length_nil]
  omega
theorem C4o(h t:aA):(cons h t).bulk <=h.bulk+t.bulk+1:=by
 unfold cons
 split
 ·exact pM h t
 ·simp only[cN,aA.bulk,aV,List.length_nil];omega
theorem B5m(s:List UInt8):(ofS s).bulk <=1000000:=by
 unfold ofS
 split
 ·exact A5k s
 ·simp only[cN,aA.bulk,aV,List.length_nil];omega
theorem xX(hg:A1j G)(h t:aA)(s:List UInt8)(hh:h.bulk <=2000000)(ht:t.bulk <=2000000)(hs:s.length <=2000000):aB Tryz.prog G 4 [h.enc,t.enc, .str s] (.bool true):=by
 have w:=sO hg
 have g:=(xG G [h,t] (by simp only[aV];omega)).lessArgs (.cons (kC [h,t]) .nil)
 simp only[List.map_cons,List.map_nil]at g
 cases hgr:A1y [h,t]with
 |true=>rw[hgr]at g;exact B2u w g
 | false=>
  rw[hgr]at g
  by_cases hl:10000 < s.length
  ·exact B7g (eq_true (by omega)) w g
  ·have hn:=A1z hgr
   simp only[cK]at hn
   have n1:=C0d h t
   obtain⟨n2,n3⟩:=B5g t
   have n4:=D2k s
   have b1:=C4o h t
   obtain⟨b2,b3⟩:=C0z t
   have b4:=B5m s
   have sm:∀ x:aA,x.bulk <=1000000000 ->aB Tryz.prog G 18 [x.enc,x.enc] (.bool true):=fun x hx=>by
    have:=sA G x x hx hx
    rw[(nH x x).2 rfl]at this
    exact this
   exact C6z (C:=cons h t) (A:=(dM t).1) (B:=(dM t).2.1) (O:=ofS s) (K:=(dM t).2.2) {
    w:=w,g:=g,hs:=eq_false (by omega)
    l1:=fun σ=>A5e G h (by omega) σ
    l2:=fun σ=>A5e G t (by omega) σ
    c:=C9f G h t (by omega) (by omega)
    sp:=fun σ=>C6u G t (by omega) σ
    of:=D2p G s (by omega)
    k1:=rS G h (by omega)
    k2:=rS G t (by omega)
    o1:=A5o G h (by omega)
    o2:=A5o G t (by omega)
    rs:=B6s G t (by omega)
    rc:=C0n G h t (by omega) (by omega)
    ro:=A8b G s (by omega)
    mC:=sm _ (by omega)
    mA:=sm _ (by omega)
    mB:=sm _ (by omega)
    mO:=sm _ (by omega)
    ap:=fun vs S g σ hO hd=>yF G [[cons h t],[cons h t],[(dM t).1],[(dM t).2.1],[ofS s],[ofS s]] vs S g σ hO hd (fun ks hk=>by
     simp only[List.mem_cons,List.not_mem_nil,or_false]at hk
     rcases hk with rfl|rfl|rfl|rfl|rfl|rfl <;> (simp only[aV];omega)) (by simp only[List.flatten_cons,List.flatten_nil,cK,List.cons_append,List.nil_append,List.length_cons,List.length_nil];omega)}
end
set_option maxRecDepth 20000
section
def aF:=And.intro (And.intro (And.intro (And.intro @jD @iZ) (And.intro @jJ (And.intro @eG @jE))) (And.intro (And.intro @sE @D4k) (And.intro @dL (And.intro @eN @dV)))) (And.intro (And.intro (And.intro @eD @aA.flat_enc) (And.intro @aA.isv_enc (And.intro @aA.fold_enc @aS))) (And.intro (And.intro @aN (And.intro @aU @bW)) (And.intro @bG (And.intro @aQ @aM))))
variable {G:Nat ->AV}
theorem C5w{σ s:AS}{S:List Nat}(h:bK σ s S):B0k σ s S:=fun b hb=> ⟨(h.fr b hb).1,(h.fr b hb).2,h.on b hb⟩
theorem D9h(s:List UInt8)(hs:s.length <=1000000000):aB Tryz.prog G 22 [.str s] (ofS s).enc:=fun σ=>by
 refine aJ.settle (tF _) ?_
 refine aJ.mono (D2p G s hs σ) ?_
 rintro r s1 ⟨S,hO,hN⟩
 exact⟨hN.le,A5r G hO (C5w hN)⟩
def A6q:List (List UInt8):=[[97,102,116,101,114],[97,110,100],[97,110,100,97,108,115,111],[98,101,103,105,110],[99,97,115,101],[100,105,118],[101,110,100],[102,117,110],[105,102],[110,111,116],[111,102],[111,114],[111,114,101,108,115,101],[114,101,99,101,105,118,101],[114,101,109],[116,114,121],[99,97,116,99,104],[119,104,101,110],[120,111,114],[97,110],[97,110,100,115],[97,95,64,57,90],[65],[95,97],[97,45,98]]
theorem C1k:(A6q.all fun x=>decide (x.length <=10))=true:=by decide
theorem E6z{n:Nat}{σ0 σ:AS}{v:AV}{xs:List AV}(h:kL n σ0 σ v xs):Av.one v=true:=by cases h <;>rfl
structure HdX(p:Prop):Prop where
 out:p
theorem D6h{P:Program}{t E:TypeId}(hE:el P t=some E){n:Nat}{σ0 σ:AS}{v:AV}{xs:List AV}(h:kL n σ0 σ v xs):lJ P t v=some xs:=by cases h <;>simp[lJ,hE]
def F1b(xs:List AV):wU:=fun _ x S=> (Le x (.sl .none xs []) /\ Av.one x=true) /\ S=[]
def F1c(xs:List AV):wU:=fun _ x S=> (∃ y,Le y (.sl .none xs []) /\ Av.one y=true /\ x= .agg [.int .u8 6, .bool false, .nil, .str [], .int .i64 0,y, .nil]) /\ S=[]
theorem B0f(v:AV)(h1:Av.one v=true):aB Tryz.prog G 32 [v] (.agg [.int .u8 6, .bool false, .nil, .str [], .int .i64 0,v, .nil]):=by
 obtain⟨q1,q2⟩:=lO h1
 refine aB.of_le fun σ=> ?_
 refine aJ.of_awp mixed Tryz.func32 rfl (by kernel_rfl) (by kernel_rfl) (by simp[Tryz.ntmps32]) Tryz.results32 ?_
 repeat'(first|refine xs ?_ ?_ <;>intros|(refine wn ?_;intro bx hbx;try simp only[fb]at hbx)|refine wj ?_|simp -dsimp only[↓bp,bq,br,seval,aF, *]|refine wz ?_|fail)
 exact aL (Le.refl _) (by repeat' first|exact lr _|assumption|refine ls ?_ ?_|refine lt ?_ ?_|simp only[*];done|simp only[fb, *,not_false_eq_true,and_self];done|exact lf ‹_› (by simp only[*]))
theorem D4o{v:AV}{l:List aA}(h:Le v (aH l)):Le (.agg [.int .u8 6, .bool false, .nil, .str [], .int .i64 0,v, .nil]) (gG l).enc:=yP (gG l) (.cons (Le.refl _) (.cons (Le.refl _) (.cons Le.nil (.cons (Le.refl _) (.cons (Le.refl _) (.cons h (.cons Le.nil .nil)))))))
theorem D8u{v B:AV}{b:aA}{l:List aA}{X:List AV}(hX:HdX (X=l.map aA.enc))(hB:B=b.enc)(h:Le v (.sl .none ([B]++X) [])):Le (.agg [.int .u8 6, .bool false, .nil, .str [], .int .i64 0,v, .nil]) (gG (b::l)).enc:=D4o (by rw[hX.out,hB]at h;exact h)
theorem C6n(i:Nat):(nG (i+1)).map aA.enc=(nG i).map aA.enc++[(cD [97]).enc]:=by
 unfold nG
 rw[List.replicate_succ',List.map_append];rfl
def A2p(n i:Nat):List UInt8:=List.replicate i 200++List.replicate (n - i) 0
theorem D3n(n i:Nat)(h:i <=n):(aX (A2p n i)).length=n:=by simp[aX,A2p];omega
theorem D3m(n:Nat):A2p n n=bsN n:=by simp[A2p,bsN]
theorem D3o(n i:Nat)(h:i < n):(aX (A2p n i)).take i++[.int .u8 200]++(aX (A2p n i)).drop (i+1)=aX (A2p n (i+1)):=by
 obtain⟨k,rfl⟩:∃ k,n=i+1+k:=⟨n - (i+1),by omega⟩
 have e1:i+1+k - i=k+1:=by omega
 have e2:i+1+k - (i+1)=k:=by omega
 unfold A2p aX
 rw[e1,e2,List.replicate_succ,List.replicate_succ']
 simp only[List.map_append,List.map_replicate,List.map_cons,List.map_nil,List.append_assoc,List.cons_append,List.nil_append]
 rw[List.take_left' (by simp)]
 congr 1
 congr 1
 rw[List.drop_append]
 simp
structure TN(G:Nat ->AV)(L:List aA):Prop where
 w:aB Tryz.prog G 7 [] (.bool true)
 s:aB Tryz.prog G 26 [] (aH L)
 r:∀ x,x ∈ L ->aB Tryz.prog G 9 [x.enc] (.bool true)
 be:∀ x (n:Nat),x ∈ L ->n < 17 ->∃ y:aA,aB Tryz.prog G 27 [x.enc, .int .i64 (n:Int)] y.enc /\ aB Tryz.prog G 3 [y.enc] (.bool true)
 to:∀ x y,x ∈ L ->y ∈ L ->aB Tryz.prog G 28 [x.enc,y.enc] (.bool true)
 tl:∀ x y,x ∈ L ->y ∈ L ->aB Tryz.prog G 4 [x.enc,y.enc, .str []] (.bool true)
 sm:∀ (i k:Nat) x y,L[i]? =some x ->L[k]? =some y ->aB Tryz.prog G 29 [x.enc,y.enc] (.bool (decide (i=k)))
 lL:L.length=32
 at_:∀ t:aA,t.bulk <=1000 ->aB Tryz.prog G 3 [t.enc] (.bool true)
 fs:aB Tryz.prog G 10 [(gG (nG 4095)).enc] (.int .i64 4096)
 mr:aB Tryz.prog G 9 [(gG (cD [98]::nG 4095)).enc] (.bool false)
 mt:aB Tryz.prog G 11 [(gG (cD [98]::nG 4095)).enc] (.str [])
 ms:aB Tryz.prog G 10 [(gG (cD [98]::nG 4095)).enc] (.int .i64 0)
 fl:aB Tryz.prog G 4 [(gG (nG 4095)).enc,(bA [] []).enc, .str []] (.bool true)
 li:∀ (x y:aA) (s:List UInt8),x.bulk <=100 ->y.bulk <=1000000 ->s.length <=10000 ->aB Tryz.prog G 4 [x.enc,y.enc, .str s] (.bool true)
set_option maxHeartbeats 4000000 in
def   E1t{L:List aA}(H:TN G L):PSigma fun Q:Prop=>HdX Q ->aB Tryz.prog G 5 [] (.bool true):=⟨_,fun hq=>by
 have H2:=H
 obtain⟨w,s,r,be,to,tl,sm,lL,at_,fs,mr,mt,ms,fl,li⟩:=H2
 intro σ
 refine aJ.back (Q:=fun r=>r= .bool true) ?_
 refine aJ.of_awp mixed Tryz.func5 rfl (by kernel_rfl) (by kernel_rfl) (by simp[Tryz.ntmps5]) Tryz.results5 ?_
 repeat'(first|refine xs ?_ ?_ <;>intros|(refine wn ?_;intro bx hbx;try simp only[fb]at hbx)|refine wp s ?_|refine wj ?_|simp -dsimp only[↓bp,bq,br,seval,aF, *]|refine wz ?_|fail)
 refine aI (fun n e σ'=>∃ k:Nat,k <=32 /\ n=32 - k /\ e 2= .int .i64 k /\ σ.le σ') 32 ⟨0,by omega,by omega,by first|(simp -dsimp only[↓bp,bq,br,seval,aF];done)|(simp -dsimp only[↓bp,bq,br,seval,aF];try rfl),AS.le.refl σ⟩ ?_
 rintro n e σ1 ⟨k,hk,rfl,h2,hl1⟩
 simp -dsimp only[↓bp,bq,br,seval,aF]at h2
 by_cases hlt:k < 32
 ·clear at_ li fs mr mt ms fl
  have hlt':((k:Int) < 32)=True:=eq_true (by omega)
  obtain⟨x,hx⟩:∃ x,L[k]? =some x:=⟨_,List.getElem?_eq_getElem (by omega)⟩
  have hxm:=List.mem_of_getElem? hx
  have hwk:IntKind.i64.wrap ((k:Int)+1)=((k+1:Nat):Int):=by rw[aC (by omega) (by omega)];rfl
  have t1:=r x hxm
  repeat'(first|refine xs ?_ ?_ <;>intros|(refine wn ?_;intro bx hbx;try simp only[fb]at hbx)|refine wp t1 ?_|refine wj ?_|simp -dsimp only[↓bp,bq,br,seval,aF,lL, *]|refine wz ?_|fail)
  clear t1
  refine aI (fun n e σ'=>∃ m:Nat,m <=17 /\ n=17 - m /\ e 3= .int .i64 m /\ σ.le σ') 17 ⟨0,by omega,by omega,by first|(simp -dsimp only[↓bp,bq,br,seval,aF];done)|(simp -dsimp only[↓bp,bq,br,seval,aF];try rfl),hl1⟩ ?_
  rintro n e2 σ2 ⟨m,hm,rfl,h3,hl2⟩
  simp -dsimp only[↓bp,bq,br,seval,aF]at h3
  by_cases hlm:m < 17
  ·have hlm':((m:Int) < 17)=True:=eq_true (by omega)
   have hwm:IntKind.i64.wrap ((m:Int)+1)=((m+1:Nat):Int):=by rw[aC (by omega) (by omega)];rfl
   obtain⟨y,t1,t2⟩:=be x m hxm hlm
   clear be r to tl sm s w
   repeat'(first|refine xs ?_ ?_ <;>intros|(refine wn ?_;intro bx hbx;try simp only[fb]at hbx)|refine wp t1 ?_|refine wp t2 ?_|refine wj ?_|simp -dsimp only[↓bp,bq,br,seval,aF,lL, *]|refine wz ?_|fail)
   all_goals exact⟨17 - (m+1),by omega,m+1,by omega,rfl,rfl⟩
  ·have:m=17:=by omega
   subst this
   have hlm':(((17:Nat):Int) < 17)=False:=eq_false (by omega)
   clear be r
   repeat'(first|refine xs ?_ ?_ <;>intros|(refine wn ?_;intro bx hbx;try simp only[fb]at hbx)|refine wj ?_|simp -dsimp only[↓bp,bq,br,seval,aF,lL, *]|refine wz ?_|fail)
   refine aI (fun n e σ'=>∃ q:Nat,q <=32 /\ n=32 - q /\ e 4= .int .i64 q /\ σ.le σ') 32 ⟨0,by omega,by omega,by first|(simp -dsimp only[↓bp,bq,br,seval,aF];done)|(simp -dsimp only[↓bp,bq,br,seval,aF];try rfl),hl2⟩ ?_
   rintro n e3 σ3 ⟨q,hq,rfl,h4,hl3⟩
   simp -dsimp only[↓bp,bq,br,seval,aF]at h4
   by_cases hlq:q < 32
   ·have hlq':((q:Int) < 32)=True:=eq_true (by omega)
    have hwq:IntKind.i64.wrap ((q:Int)+1)=((q+1:Nat):Int):=by rw[aC (by omega) (by omega)];rfl
    obtain⟨y,hy⟩:∃ y,L[q]? =some y:=⟨_,List.getElem?_eq_getElem (by omega)⟩
    have hym:=List.mem_of_getElem? hy
    have t1:=to x y hxm hym
    have t2:=sm k q x y hx hy
    have t3:=tl x y hxm hym
    clear to sm tl s w
    by_cases hkq:k=q
    ·have g1:((k:Int)=(q:Int))=True:=eq_true (by omega)
     rw[decide_eq_true hkq]at t2
     clear hkq
     repeat'(first|refine xs ?_ ?_ <;>intros|(refine wn ?_;intro bx hbx;try simp only[fb]at hbx)|refine wp t1 ?_|refine wp t2 ?_|refine wp t3 ?_|refine wj ?_|simp -dsimp only[↓bp,bq,br,seval,aF,lL, *]|refine wz ?_|fail)
     all_goals exact⟨32 - (q+1),by omega,q+1,by omega,rfl,rfl⟩
    ·have g1:((k:Int)=(q:Int))=False:=eq_false (by omega)
     rw[decide_eq_false hkq]at t2
     clear hkq
     repeat'(first|refine xs ?_ ?_ <;>intros|(refine wn ?_;intro bx hbx;try simp only[fb]at hbx)|refine wp t1 ?_|refine wp t2 ?_|refine wp t3 ?_|refine wj ?_|simp -dsimp only[↓bp,bq,br,seval,aF,lL, *]|refine wz ?_|fail)
     all_goals exact⟨32 - (q+1),by omega,q+1,by omega,rfl,rfl⟩
   ·have:q=32:=by omega
    subst this
    have hlq':(((32:Nat):Int) < 32)=False:=eq_false (by omega)
    clear to sm tl
    repeat'(first|refine xs ?_ ?_ <;>intros|(refine wn ?_;intro bx hbx;try simp only[fb]at hbx)|refine wj ?_|simp -dsimp only[↓bp,bq,br,seval,aF,lL, *]|refine wz ?_|fail)
    all_goals exact⟨32 - (k+1),by omega,k+1,by omega,rfl,rfl⟩
 ·have:k=32:=by omega
  subst this
  have hlt':(((32:Nat):Int) < 32)=False:=eq_false (by omega)
  clear be to tl sm r hlt hk
  repeat'(first|refine xs ?_ ?_ <;>intros|(refine wn ?_;intro bx hbx;try simp only[fb]at hbx)|refine wj ?_|simp -dsimp only[↓bp,bq,br,seval,aF,lL, *]|refine wz ?_|fail)
  clear h2 hlt' s w at_ fs mr mt ms fl li
  revert σ e σ1
  exact hq.out⟩
set_option maxHeartbeats 4000000 in
def E1u{L:List aA}(H:TN G L):PSigma fun Q:Prop=>HdX Q -> (E1t H).1:=⟨_,fun hq=>by
 have H2:=H
 obtain⟨w,s,r,be,to,tl,sm,lL,at_,fs,mr,mt,ms,fl,li⟩:=H2
 clear r be to tl sm lL
 intro σ e σ1 hl1
 refine aI (fun n e σ'=>∃ i:Nat,i <=25 /\ n=25 - i /\ e 6= .int .i64 i /\ σ.le σ') 25 ⟨0,by omega,by omega,by first|(simp -dsimp only[↓bp,bq,br,seval,aF];done)|(simp -dsimp only[↓bp,bq,br,seval,aF];try rfl),hl1⟩ ?_
 rintro n e2 σ2 ⟨i,hi,rfl,h6,hl2⟩
 simp -dsimp only[↓bp,bq,br,seval,aF]at h6
 by_cases hlt3:i < 25
 ·have hlt3':((i:Int) < 25)=True:=eq_true (by omega)
  obtain⟨v,hv⟩:∃ v,A6q[i]? =some v:=⟨_,List.getElem?_eq_getElem (by simpa [A6q] using hlt3)⟩
  have hv2:(A6q.map AV.str)[i]? =some (.str v):=by rw[List.getElem?_map,hv];rfl
  have hvl:=of_decide_eq_true (List.all_eq_true.1 C1k v (List.mem_of_getElem? hv))
  simp only[A6q,List.map_cons,List.map_nil]at hv2
  have hwi:IntKind.i64.wrap ((i:Int)+1)=((i+1:Nat):Int):=by rw[aC (by omega) (by omega)];rfl
  have t1:=eE (G:=G) v
  have t2:=at_ (cD v) (by simp only[cD,aA.bulk,aV,List.length_nil];omega)
  clear at_ li w s hv hvl fs mr mt ms fl
  repeat'(first|refine xs ?_ ?_ <;>intros|(refine wn ?_;intro bx hbx;try simp only[fb]at hbx)|refine wp t1 ?_|refine wp t2 ?_|refine wj ?_|simp -dsimp only[↓bp,bq,br,seval,aF, *]|refine wz ?_|fail)
  all_goals exact⟨25 - (i+1),by omega,i+1,by omega,rfl,rfl⟩
 ·have:i=25:=by omega
  subst this
  have hlt3':(((25:Nat):Int) < 25)=False:=eq_false (by omega)
  clear hlt3 hi
  repeat'(first|refine xs ?_ ?_ <;>intros|(refine wn ?_;intro bx hbx;try simp only[fb]at hbx)|refine wj ?_|simp -dsimp only[↓bp,bq,br,seval,aF, *]|refine wz ?_|fail)
  refine aI (fun n e σ'=>∃ c:Nat,c <=256 /\ n=256 - c /\ e 7= .int .i64 c /\ σ.le σ') 256 ⟨0,by omega,by omega,by first|(simp -dsimp only[↓bp,bq,br,seval,aF];done)|(simp -dsimp only[↓bp,bq,br,seval,aF];try rfl),hl2⟩ ?_
  rintro n e3 σ3 ⟨c,hc,rfl,h7,hl3⟩
  simp -dsimp only[↓bp,bq,br,seval,aF]at h7
  by_cases hlc:c < 256
  ·have hlc':((c:Int) < 256)=True:=eq_true (by omega)
   have hwc:IntKind.i64.wrap ((c:Int)+1)=((c+1:Nat):Int):=by rw[aC (by omega) (by omega)];rfl
   obtain⟨u,hu⟩:∃ u:UInt8,IntKind.u8.wrap (c:Int)=(u.toNat:Int):=⟨UInt8.ofNat c,by
    rw[UInt8.toNat_ofNat_of_lt' (by show _ < 256;omega)]
    unfold IntKind.wrap;simp[IntKind.signed,IntKind.bits];omega⟩
   have hb:iI [AV.int .u8 u.toNat]=some [u]:=bU [u]
   have t1:=eE (G:=G) [u]
   have t2:=at_ (cD [u]) (by simp[cD,aA.bulk,aV])
   have t3:=eE (G:=G) [97,u]
   have t4:=at_ (cD [97,u]) (by simp[cD,aA.bulk,aV])
   have t5:=eE (G:=G) [97,u,102]
   have t6:=at_ (cD [97,u,102]) (by simp[cD,aA.bulk,aV])
   have m2:(2 <=maxLen)=True:=eq_true (by unfold maxLen;omega)
   have m3:(3 <=maxLen)=True:=eq_true (by unfold maxLen;omega)
   clear at_ li w s fs mr mt ms fl
   repeat'(first|refine xs ?_ ?_ <;>intros|(refine wn ?_;intro bx hbx;try simp only[fb]at hbx)|refine wp t1 ?_|refine wp t2 ?_|refine wp t3 ?_|refine wp t4 ?_|refine wp t5 ?_|refine wp t6 ?_|refine wj ?_|simp -dsimp only[↓bp,bq,br,seval,aF, *]|refine wz ?_|fail)
   all_goals exact⟨256 - (c+1),by omega,c+1,by omega,rfl,rfl⟩
  ·have:c=256:=by omega
   subst this
   have hlc':(((256:Nat):Int) < 256)=False:=eq_false (by omega)
   clear hlc hc
   repeat'(first|refine xs ?_ ?_ <;>intros|(refine wn ?_;intro bx hbx;try simp only[fb]at hbx)|refine wj ?_|simp -dsimp only[↓bp,bq,br,seval,aF, *]|refine wz ?_|fail)
   clear h6 h7 hlt3' hlc' s w at_ fs mr mt ms fl li
   revert σ e σ1 e2 σ2 e3 σ3
   exact hq.out⟩
set_option maxHeartbeats 4000000 in
def E1v{L:List aA}(H:TN G L):PSigma fun Q:Prop=>HdX Q -> (E1u H).1:=⟨_,fun hq=>by
 have H2:=H
 obtain⟨w,s,r,be,to,tl,sm,lL,at_,fs,mr,mt,ms,fl,li⟩:=H2
 clear s r be to tl sm lL
 intro σ e σ1 hl1 e2 σ2 hl2 e3 σ3 hl3
 refine aI (fun n e σ'=>∃ c:Nat,1363 <=c /\ c <=1367 /\ n=1367 - c /\ e 9= .int .i64 c /\ σ.le σ') 4 ⟨1363,by omega,by omega,by omega,by first|(simp -dsimp only[↓bp,bq,br,seval,aF];done)|(simp -dsimp only[↓bp,bq,br,seval,aF];try rfl),hl3⟩ ?_
 rintro n e4 σ4 ⟨c,hc1,hc,rfl,h9,hl4⟩
 simp -dsimp only[↓bp,bq,br,seval,aF]at h9
 by_cases hlc:c < 1367
 ·have hlc':((c:Int) < 1367)=True:=eq_true (by omega)
  have hwc:IntKind.i64.wrap ((c:Int)+1)=((c+1:Nat):Int):=by rw[aC (by omega) (by omega)];rfl
  have hwp:IntKind.i64.wrap ((c:Int) - 1)=((c - 1:Nat):Int):=by rw[show(c:Int) - 1=((c - 1:Nat):Int)by omega,aC (by omega) (by omega)]
  obtain⟨zs,hzs⟩:∃ zs,IsZ zs (c - 1):=⟨_,⟨rfl⟩⟩
  obtain⟨zc,hzc⟩:∃ zs,IsZ zs c:=⟨_,⟨rfl⟩⟩
  have hzl:zs.length=c - 1:=by rw[hzs.e,List.length_replicate]
  have hv1:=vX zs hzl
  have m2:(c - 1+1 <=maxLen)=True:=eq_true (by unfold maxLen;omega)
  repeat'(first|refine xs ?_ ?_ <;>intros|(refine wn ?_;intro bx hbx;try simp only[fb]at hbx)|((refine tC (c - 1) (by omega) hzs (fun b1 hb1=> ?_);try simp only[fb]at hb1))|((refine tC c (by omega) hzc (fun b2 hb2=> ?_);try simp only[fb]at hb2))|refine wj ?_|simp -dsimp only[↓bp,bq,br,seval,aF,hv1, *]|refine wz ?_|fail)
  have y1:=gU hl4 hb1.1
  have y2:=gU hl4 hb2.1.1
  obtain⟨S,hS⟩:∃ S:AS,S=(σ4.setBox b1 (aX zs)).setBox b2 (aX zc):=⟨_,rfl⟩
  have hSl:σ.le S:=by rw[hS];exact(hl4.setBox y1 _).setBox y2 _
  have hSb:S.box b2=some (aX (A2p c 0)):=by rw[hS,AS.set_get,hzc.e];simp[A2p]
  rw[<- hS]
  clear hS hb1 hb2 y1 hzs hv1 m2 hzc
  refine aI (fun n e σ'=>∃ i:Nat,i <=c /\ n=c - i /\ e 12= .int .i64 i /\ σ.le σ' /\ σ'.box b2=some (aX (A2p c i))) c ⟨0,by omega,by omega,by first|(simp -dsimp only[↓bp,bq,br,seval,aF];done)|(simp -dsimp only[↓bp,bq,br,seval,aF];try rfl),hSl,hSb⟩ ?_
  rintro n e5 σ5 ⟨i,hi,rfl,h12,hl5,hb5⟩
  simp -dsimp only[↓bp,bq,br,seval,aF]at h12
  by_cases hli:i < c
  ·have hli':((i:Int) < c)=True:=eq_true (by omega)
   have hwi:IntKind.i64.wrap ((i:Int)+1)=((i+1:Nat):Int):=by rw[aC (by omega) (by omega)];rfl
   have hset:=D3o c i hli
   have hXl:=D3n c i hi
   generalize aX (A2p c i)=X at*
   have hX:(i+1 <=X.length)=True:=eq_true (by omega)
   clear at_ li w hwp hlc fs mr mt ms fl
   repeat'(first|refine xs ?_ ?_ <;>intros|(refine wn ?_;intro bx hbx;try simp only[fb]at hbx)|refine wj ?_|simp -dsimp only[↓bp,bq,br,seval,aF,hset, *]|refine wz ?_|fail)
   all_goals exact⟨c - (i+1),by omega,i+1,by omega,rfl,rfl,hl5.setBox y2 _,by rw[Nat.mul_one,hset]⟩
  ·have:c=i:=by omega
   subst this
   have hli':(((c:Nat):Int) < c)=False:=eq_false (by omega)
   rw[D3m]at hb5
   have hv2:=vX (bsN c) (n:=c) (by simp[bsN])
   have p1:=D9h (G:=G) (bsN c) (by simp[bsN];omega)
   have hBl:=E4x c hc1 hlc
   have hBb:=B5m (bsN c)
   have hsl:(bsN c).length=c:=by simp[bsN]
   generalize ofS (bsN c)=B at*
   generalize bsN c=N at*
   have p2:=nK (G:=G) 7 7 rfl
   have p3:=li (fI 7) B (zs++[1]) (by decide) hBb (by simp;omega)
   have p4:=eE (G:=G) [97]
   have p5:=li (cD [97]) B N (by decide) hBb (by omega)
   clear at_ li w fs mr mt ms fl hwp hSl hSb hzl hBb hsl hli hi
   have hfl:qP Tryz.prog 26 B.enc 5=some (aH B.items):=by rw[<- aA.fold_enc];rfl
   by_cases hc5:c <=1365
   ·have g5:((c:Int) <=1365)=True:=eq_true (by omega)
    have g6:((B.items.length:Int)=c)=True:=eq_true (by rw[hBl,if_pos hc5])
    clear hBl hc5
    repeat'(first|refine xs ?_ ?_ <;>intros|(refine wn ?_;intro bx hbx;try simp only[fb]at hbx)|refine wp p1 ?_|refine wp p2 ?_|refine wp p3 ?_|refine wp p4 ?_|refine wp p5 ?_|refine wj ?_|simp -dsimp only[↓bp,bq,br,seval,aF,hv2, *]|refine wz ?_|fail)
    all_goals exact⟨1367 - (c+1),by omega,c+1,by omega,by omega,rfl,rfl⟩
   ·have g5:((c:Int) <=1365)=False:=eq_false (by omega)
    have g6:((B.items.length:Int)=c)=False:=eq_false (by rw[hBl,if_neg hc5];omega)
    clear hBl hc5
    repeat'(first|refine xs ?_ ?_ <;>intros|(refine wn ?_;intro bx hbx;try simp only[fb]at hbx)|refine wp p1 ?_|refine wp p2 ?_|refine wp p3 ?_|refine wp p4 ?_|refine wp p5 ?_|refine wj ?_|simp -dsimp only[↓bp,bq,br,seval,aF,hv2, *]|refine wz ?_|fail)
    all_goals exact⟨1367 - (c+1),by omega,c+1,by omega,by omega,rfl,rfl⟩
 ·have:c=1367:=by omega
  subst this
  have hlc':(((1367:Nat):Int) < 1367)=False:=eq_false (by omega)
  clear hlc hc
  repeat'(first|refine xs ?_ ?_ <;>intros|(refine wn ?_;intro bx hbx;try simp only[fb]at hbx)|refine wj ?_|simp -dsimp only[↓bp,bq,br,seval,aF, *]|refine wz ?_|fail)
  clear h9 hlc' w at_ fs mr mt ms fl li
  revert σ e σ1 e2 σ2 e3 σ3 e4 σ4
  exact hq.out⟩
set_option maxHeartbeats 4000000 in
theorem E9v{L:List aA}(H:TN G L):(E1v H).1:=by
 have H2:=H
 obtain⟨w,s,r,be,to,tl,sm,lL,at_,fs,mr,mt,ms,fl,li⟩:=H2
 clear s r be to tl sm lL
 intro σ e σ1 hl1 e2 σ2 hl2 e3 σ3 hl3 e4 σ4 hl4
 have t0:=B0f (G:=G) .nil rfl
 have p4:=eE (G:=G) [97]
 have p5:=eE (G:=G) [98]
 have l0:aB Tryz.prog G 33 [.nil] (bA [] []).enc:=(kV (G:=G) []).lessArgs (.cons Le.nil .nil)
 clear at_ li
 repeat'(first|refine xs ?_ ?_ <;>intros|(refine wn ?_;intro bx hbx;try simp only[fb]at hbx)|refine wp t0 ?_|refine wj ?_|simp -dsimp only[↓bp,bq,br,seval,aF, *]|refine wz ?_|fail)
 rename Nat=>b3
 rename σ4.fresh b3=>hb3
 have y3:=gU hl4 hb3.1
 obtain⟨S,hS⟩:∃ S:AS,S=σ4.setBox b3 [.int .u8 6, .bool false, .nil, .str [], .int .i64 0, .nil, .nil]:=⟨_,rfl⟩
 have hSl:σ.le S:=by rw[hS];exact hl4.setBox y3 _
 have hSb:S.box b3=some [.int .u8 6, .bool false, .nil, .str [], .int .i64 0, .nil, .nil]:=by rw[hS];exact AS.set_get
 rw[<- hS]
 clear hS hb3
 refine aI (fun n e σ'=>∃ (i:Nat) (v:AV),i <=4095 /\ n=4095 - i /\ e 14= .int .i64 i /\ kL 7 σ σ' v ((nG i).map aA.enc) /\ σ'.box b3=some [.int .u8 6, .bool false, .nil, .str [], .int .i64 0,v, .nil]) 4095 ⟨0, .nil,by omega,by omega,by first|(simp -dsimp only[↓bp,bq,br,seval,aF];done)|(simp -dsimp only[↓bp,bq,br,seval,aF];try rfl), .nil hSl,hSb⟩ ?_
 rintro n e5 σ5 ⟨i,v,hi,rfl,h14,hB5,hb5⟩
 simp -dsimp only[↓bp,bq,br,seval,aF]at h14
 have o1:=hB5.flat
 have o2:=hB5.isv
 have o3:=E6z hB5
 by_cases hli:i < 4095
 ·have hli':((i:Int) < 4095)=True:=eq_true (by omega)
  have hwi:IntKind.i64.wrap ((i:Int)+1)=((i+1:Nat):Int):=by rw[aC (by omega) (by omega)];rfl
  have hrl:(nG i).length=i:=by simp[nG]
  clear fs mr mt ms fl w hSb
  repeat'(first|refine xs ?_ ?_ <;>intros|(refine wn ?_;intro bx hbx;try simp only[fb]at hbx)|refine wp p4 ?_|((refine iH (ys:=[(cD [97]).enc]) hB5 tW (bJ tfE) (fun a ha=>by simp at ha;subst ha;rw[aA.flat_enc];rfl) (by simp only[List.length_map,List.length_cons,List.length_nil];omega) (fun v6 σ6 hB6 hx6=> ?_);have o4:=hB6.flat;have o5:=hB6.isv;have o6:=E6z hB6))|refine wj ?_|simp -dsimp only[↓bp,bq,br,seval,aF, *]|refine wz ?_|fail)
  all_goals exact⟨4095 - (i+1),by omega,i+1,_,by omega,rfl,rfl,by rw[C6n];exact hB6.setBox y3 _,rfl⟩
 ·have:i=4095:=by omega
  subst this
  have hli':(((4095:Nat):Int) < 4095)=False:=eq_false (by omega)
  clear hli hi
  have lf:=D4o hB5.told
  have hsv:=D6h (P:=Tryz.prog) tfE hB5
  have hle5:=hB5.le
  obtain⟨X,hX⟩:∃ X,HdX (X=(nG 4095).map aA.enc):=⟨_,⟨rfl⟩⟩
  rw[<- hX.out]at hsv
  have hXl:∀ a,a ∈ X -> (flat a).length=7:=fun a ha=>by
   rw[hX.out]at ha
   obtain⟨y,_,rfl⟩:=List.mem_map.1 ha
   rw[y.flat_enc];rfl
  have hXn:X.length=4095:=by rw[hX.out];simp[nG]
  replace fs:=fs.lessArgs (.cons lf .nil)
  replace fl:=fl.lessArgs (.cons lf (.cons (Le.refl _) (.cons (Le.refl _) .nil)))
  have hk:=fun(v:AV) (h:Le v (.sl .none ([(cD [98]).enc]++X) []))=>D8u hX rfl h
  clear lf hB5 hSb hSl hX
  repeat'(first|(refine wn ?_;intro bx hbx;try simp only[fb]at hbx)|refine wi ?_|simp -dsimp only[↓bp,bq,br,seval,aF, *]|refine wz ?_|fail)
  refine rP mixed (fun ev s=>∃ b6 v6,ev 15= .ptr b6 0 /\ σ.le s /\ s.box b6=some [.int .u8 6, .bool false, .nil, .str [], .int .i64 0,v6, .nil] /\ s.box b3=some [.int .u8 6, .bool false, .nil, .str [], .int .i64 0,v, .nil] /\ Le v6 (.sl .none ([(cD [98]).enc]++X) []) /\ Av.one v6=true) ?_ ?_
  ·clear mr mt ms fs fl hk w l0
   refine uS 7 (fun k=> [184,185,186,187,188,189,15].getD k 0) (fun k=>match k with|0=>wQ (cD [98]).enc|1=>wQ (.sl .full [(cD [98]).enc] [])|2=>wQ (.ptr b3 5)|3=>wQ v|4=>F1b ([(cD [98]).enc]++X)|5=>F1c ([(cD [98]).enc]++X)|_=>isB [.int .u8 0, .bool false, .nil, .str [], .int .i64 0, .nil, .nil]) (by decide+kernel) (by decide) ?_ rfl rfl ?_ ?_
   ·intro k
    match k with
    |0|1|2|3=>exact lD _
    |4|5=>exact fun _ _ _ _ h _=>h
    |k+6=>exact rR _
   ·refine⟨⟨rfl,fun ev s hs hw hf=> ?_⟩,⟨rfl,fun ev s hs hw hf=> ?_⟩,⟨rfl,fun ev s hs hw hf=> ?_⟩,⟨rfl,fun ev s hs hw hf=> ?_⟩,⟨rfl,fun ev s hs hw hf=> ?_⟩,⟨rfl,fun ev s hs hw hf=> ?_⟩,⟨rfl,fun ev s hs hw hf=> ?_⟩,trivial⟩
    ·repeat'(first|(refine wn ?_;intro bx hbx;try simp only[fb]at hbx)|refine wp p5 ?_|refine wi ?_|simp -dsimp only[↓bp,bq,br,seval,aF, *]|refine wz ?_|fail)
     exact⟨[],bK.refl _,rfl,rfl⟩
    ·obtain⟨A,h0,_⟩:=hw 0 (by decide+kernel)
     replace h0:ev 184=(cD [98]).enc:=h0
     repeat'(first|(refine wn ?_;intro bx hbx;try simp only[fb]at hbx)|refine wi ?_|simp -dsimp only[↓bp,bq,br,seval,aF, *]|refine wz ?_|fail)
     exact⟨[],bK.refl _,rfl,rfl⟩
    ·have h0:=hf 13 (by decide)
     simp -dsimp only[↓bp,bq,br,seval,aF]at h0
     repeat'(first|(refine wn ?_;intro bx hbx;try simp only[fb]at hbx)|refine wi ?_|simp -dsimp only[↓bp,bq,br,seval,aF, *]|refine wz ?_|fail)
     exact⟨[],bK.refl _,rfl,rfl⟩
    ·obtain⟨A,h0,_⟩:=hw 2 (by decide+kernel)
     replace h0:ev 186= .ptr b3 5:=h0
     have hb:=hs.box _ _ hb5
     repeat'(first|(refine wn ?_;intro bx hbx;try simp only[fb]at hbx)|refine wi ?_|simp -dsimp only[↓bp,bq,br,seval,aF, *]|refine wz ?_|fail)
     exact⟨[],bK.refl _,rfl,rfl⟩
    ·obtain⟨A,h0,_⟩:=hw 1 (by decide+kernel)
     obtain⟨A',h1,_⟩:=hw 3 (by decide+kernel)
     replace h0:ev 185= .sl .full [(cD [98]).enc] []:=h0
     replace h1:ev 187=v:=h1
     repeat'(first|(refine wn ?_;intro bx hbx;try simp only[fb]at hbx)|((refine yG (xs:=[(cD [98]).enc]) (ys:=X) (AS.le.refl _) (fun a ha=>by simp at ha;subst ha;rw[aA.flat_enc];rfl) tW hsv hXl (by simp only[hXn,List.length_cons,List.length_nil];omega) (fun v6 σ6 hle6 hx6 hl6 ho6=> ?_)))|refine wi ?_|simp -dsimp only[↓bp,bq,br,seval,aF, *]|refine wz ?_|fail)
     exact⟨[],bK.none hle6,⟨hl6,ho6⟩,rfl⟩
    ·obtain⟨A,⟨h0,h1⟩,_⟩:=hw 4 (by decide+kernel)
     replace h0:Le (ev 188) (.sl .none ([(cD [98]).enc]++X) []):=h0
     replace h1:Av.one (ev 188)=true:=h1
     have t6:=B0f (G:=G) (ev 188) h1
     repeat'(first|(refine wn ?_;intro bx hbx;try simp only[fb]at hbx)|refine wp t6 ?_|refine wi ?_|simp -dsimp only[↓bp,bq,br,seval,aF, *]|refine wz ?_|fail)
     exact⟨[],bK.refl _,⟨_,h0,h1,rfl⟩,rfl⟩
    ·simp -dsimp only[↓bp,bq,br,seval,aF]
     refine aY fun b hb=> ⟨[b],bK.one hb _,b,rfl,rfl,AS.set_get⟩
   ·intro F ev s hF hQ hf
    obtain⟨⟨v6,h1,h2,h3⟩,_⟩:=hQ 5 (by omega)
    replace h3:ev 189= .agg [.int .u8 6, .bool false, .nil, .str [], .int .i64 0,v6, .nil]:=h3
    obtain⟨b6,h5,e5,n5⟩:isB [.int .u8 0, .bool false, .nil, .str [], .int .i64 0, .nil, .nil] s (ev 15) (F 6):=hQ 6 (by omega)
    obtain⟨q1,q2⟩:=lO h2
    have hfr:=hF.fr 6 b6 (by rw[e5];simp)
    have hb:=hF.le.box _ _ hb5
    have hne:b3 ≠ b6:=fun e=>by rw[<- e,hb5]at hfr;cases hfr.1
    have hle:=hle5.trans hF.le
    have y6:σ.box b6=none:=gU hle5 hfr.1
    clear hQ hf hF
    repeat'(first|(refine wn ?_;intro bx hbx;try simp only[fb]at hbx)|refine wi ?_|simp -dsimp only[↓bp,bq,br,seval,aF, *]|refine wz ?_|fail)
    exact⟨b6,v6,rfl,hle.setBox y6 _,if_pos rfl,h1,h2⟩
  rintro ev s6 ⟨b6,v6,h15,hl6',hb6,hb3',hl6,ho6⟩
  simp -dsimp only[↓bp,bq,br,seval,aF]at h15
  obtain⟨q1,q2⟩:=lO ho6
  have lm:=hk v6 hl6
  have m1:=mr.lessArgs (.cons lm .nil)
  have m2:=mt.lessArgs (.cons lm .nil)
  have m3:=ms.lessArgs (.cons lm .nil)
  clear hk mr mt ms hsv hXl hXn lm
  repeat'(first|refine xs ?_ ?_ <;>intros|(refine wn ?_;intro bx hbx;try simp only[fb]at hbx)|refine wp m1 ?_|refine wp m2 ?_|refine wp m3 ?_|refine wp fs ?_|refine wp fl ?_|refine wp l0 ?_|refine wp w ?_|refine wj ?_|simp -dsimp only[↓bp,bq,br,seval,aF, *]|refine wz ?_|fail)
  exact aE _ (AS.le.refl _) ⟨rfl,hl6'⟩
theorem E1b{L:List aA}(H:TN G L):aB Tryz.prog G 5 [] (.bool true):=(E1t H).2 ⟨(E1u H).2 ⟨(E1v H).2 ⟨E9v H⟩⟩⟩
end
end Go.Proofs.YtdhbdhopnpmboaaGreatDoor
