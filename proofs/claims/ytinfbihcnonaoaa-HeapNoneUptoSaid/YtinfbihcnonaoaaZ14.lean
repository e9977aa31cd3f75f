/- A list is got. -/
import Derived.Test.YtinfbihcnonaoaaZ13
import Derived.Test.YtinfbihcnonaoaaZ08
import Derived.Test.YtinfbihcnonaoaaRows
import Derived.Test.YtinfbihcnonaoaaZ07
set_option linter.unusedVariables false
set_option linter.unusedSimpArgs false
set_option maxRecDepth 20000
set_option linter.defProp false
namespace Go.Proofs.Ytinfbihcnonaoaa
open Go Go.Av
section
def pW:=And.intro (And.intro (And.intro (And.intro (And.intro @jN @rA) (And.intro @kI (And.intro @gT @eC))) (And.intro (And.intro @kJ @jO) (And.intro @gX (And.intro @gC @gY)))) (And.intro (And.intro (And.intro @fP @jF) (And.intro @jC (And.intro @jE @jD))) (And.intro (And.intro @gF @eY) (And.intro @eZ (And.intro @eQ @eJ))))) (And.intro (And.intro (And.intro (And.intro @eW @jM) (And.intro @cQ (And.intro @cP @cD))) (And.intro (And.intro @aE.flat_enc @aE.isv_enc) (And.intro @aE.fold_enc (And.intro @aW @aO)))) (And.intro (And.intro (And.intro @aP @aM) (And.intro @aX (And.intro @bP @aQ))) (And.intro (And.intro @bJ @cZ) (And.intro @dL (And.intro @cY @dA)))))
variable {G:Nat ->AV}
inductive nR(p:PH):List Int ->Int ->Int ->Prop
 |nil {w:Int} :nR p [] w w
 |cons {x r e:Int} {xs:List Int} (i:Nat) (ht:p.tags[i]? =some 4) (hi:i+2 <=p.words.length) (hw:(p.words.take (i+2)).drop i=[x,r]) (h:nR p xs r e):nR p (x::xs) (dU 4 i) e
theorem nR.next{p:PH}{ws:List Int}{w e:Int}{j:Nat}(h:nR p (ws.drop j) w e)(hj:j < ws.length):∃ i x r,ws[j]? =some x /\ w=dU 4 (i:Nat) /\ p.tags[i]? =some 4 /\ i+2 <=p.words.length /\ (p.words.take (i+2)).drop i=[x,r] /\ nR p (ws.drop (j+1)) r e:=by
 rw[List.drop_eq_getElem_cons hj]at h
 cases h with
 |cons i ht hi hw h=>exact⟨i,_,_,List.getElem?_eq_getElem hj,rfl,ht,hi,hw,h⟩
theorem C0r{σ:AS}{b c:Nat}{x y:List AV}(h: ¬ b=c):(σ.setBox b x).setBox c y=(σ.setBox c y).setBox b x:=by
 unfold AS.setBox
 simp only[AS.mk.injEq,and_true]
 funext d
 by_cases e:d=b
 ·subst e;simp[h]
 ·simp[e]
set_option maxHeartbeats 4000000 in
theorem B3m(p:PH)(n:Nat)(ks:List aE)(ws:List Int)(w:Int)(hA:gG G p ks ws n)(hS:nR p ws w (dU 3 0))(hpl:p.words.length <=1000000)(hwl:ws.length <=1000000)(σ0 σ:AS)(hb ab mb lb:Nat)(left:Int)(h:Hp σ0 σ hb ab mb p)(hl:σ0.box lb=some [.int .i64 left])(hk:((n+ws.length:Nat):Int) <=left)(hL:left <=1000000):aH Try.prog G 69 [.ptr hb 0, .int .u64 w, .ptr lb 0] σ fun r s=>r= .tup [(aE.mk 7 false [] [] 0 ks []).enc, .bool true] /\ s=σ.setBox lb [.int .i64 (left - ((n+ws.length:Nat):Int))]:=by
 obtain⟨oX,oW,oT,X,W,T,hF⟩:=id h
 have hbh:=hF.hbx
 have hlb:=hF.le.box _ _ hl
 have hfl:=bA hlb
 have hfl2:=dQ hlb
 have hfh:=bA hF.hbx
 have hlh:(hb=lb)=False:=eq_false (fun e=>by have:=hF.h0;rw[e,hl]at this;cases this)
 have hlh2:(lb=hb)=False:=eq_false (fun e=>of_eq_false hlh e.symm)
 have hlen:=hA.len
 have hT3:=lB (G:=G) (tag:=3) (n:=0) rfl
 clear hF
 refine aH.tell (Q:=fun r s'=>Le r (.tup [(aE.mk 7 false [] [] 0 ks []).enc, .bool true]) /\ s'=σ.setBox lb [.int .i64 (left - ((n+ws.length:Nat):Int))]) ?_ (fun r s' ⟨h1,h2⟩=> ⟨_,h1,rfl,h2⟩)
 refine aH.of_awp aG Try.func69 rfl (by kernel_rfl) (by kernel_rfl) (by simp[Try.ntmps69]) Try.results69 ?_
 repeat'(first|refine xs ?_ ?_ <;>intros|(refine wn ?_;intro bx hbx;try simp only[fb]at hbx)|refine bE ?_|(refine aB ?_;intro bx hbx;(try simp only[fb]at hbx))|refine aD ?_|((with_reducible refine And.intro ?_ ?_);omega)|refine aA (d':=⟨⟩) ?_|refine bG (by kernel_rfl) ?_|refine bD ?_ (by repeat' first|exact lr _|assumption|refine ls ?_ ?_|refine lt ?_ ?_|simp only[*];done|simp only[fb, *,not_false_eq_true,and_self];done|exact lf ‹_› (by simp only[*]))|refine aC ?_ (by repeat' first|exact lr _|assumption|refine ls ?_ ?_|refine lt ?_ ?_|simp only[*];done|simp only[fb, *,not_false_eq_true,and_self];done|exact lf ‹_› (by simp only[*]))|simp -dsimp only[↓bp,bq,br,seval,pW,hfl,hfl2,hfh,hlh,hlh2, *]|refine wz ?_|fail)
 rename_i b6 hb6
 have hn6: ¬ bx=b6:=hbx.2.1
 have hn6': ¬ b6=bx:=hbx.2.2
 have hnl: ¬ bx=lb:=of_eq_false (hfl2 _ hbx.1)
 have hnl': ¬ lb=bx:=of_eq_false (hfl _ hbx.1)
 have h6l: ¬ b6=lb:=of_eq_false (hfl2 _ hb6)
 have h6l': ¬ lb=b6:=of_eq_false (hfl _ hb6)
 have hh6: ¬ hb=b6:=of_eq_false (hfh _ hb6)
 have hh8: ¬ hb=bx:=of_eq_false (hfh _ hbx.1)
 have hleG:=fun L c=>A4t (z:=[.int .u8 0, .bool false, .nil, .str [], .int .i64 0, .nil, .nil]) (L:=L) (c:=c) hb6 hbx.1 h6l hnl
 have hlst:σ.setBox lb [.int .i64 left]=σ:=by
  cases σ with
  | mk box tip ty=>
   simp only[AS.setBox,AS.mk.injEq,and_true]
   funext b
   by_cases e:b=lb
   ·subst e;simp;exact hlb.symm
   ·simp[e]
 refine bM (fun m e σ'=>∃ (j:Nat) (v:AV) (nr:Nat) (wj:Int),e 1= .int .u64 wj /\ j+m=ws.length /\ nR p (ws.drop j) wj (dU 3 0) /\ gG G p (ks.drop j) (ws.drop j) nr /\ nr <=n /\ oY 7 (gB σ b6 lb bx [.int .u8 0, .bool false, .nil, .str [], .int .i64 0, .nil, .nil] (left - ((n:Int) - nr) - j) [.int .u8 7, .bool false, .nil, .str [], .int .i64 0,v, .nil]) σ' v ((ks.take j).map aE.enc)) ws.length ⟨0, .nil,n,w,by simp -dsimp only[↓bp,bq,br,seval,pW],by omega,hS,hA,Nat.le_refl _,?_⟩ ?_
 ·rw[show left - ((n:Int) - n) - ((0:Nat):Int)=left by omega]
  refine .nil ?_
  unfold gB
  rw[C0r h6l,hlst]
  exact AS.le.refl _
 rintro m e σ' ⟨j,v,nr,wj,h1',hjm,hsp,hG,hnr,hB⟩
 simp -dsimp only[↓bp,bq,br,seval,pW]at h1'
 have eh:σ'.box hb=some [.ptr ab 0,W,T, .int .i64 p.room, .int .i64 0]:=hB.le.box _ _ ((C1w hh8 (of_eq_false hlh) hh6).trans hbh)
 have el:=hB.le.box _ _ (A2t hnl')
 have e8:=hB.le.box _ _ wV
 have e6:=hB.le.box _ _ (B1r hn6' h6l)
 have fh:=bA eh
 have fl:=bA el
 have f8:=bA e8
 have f6:=bA e6
 have fl2:=dQ el
 have f82:=dQ e8
 have f62:=dQ e6
 have iv:=hB.isv
 have ov:=C0f hB
 have jv:=hB.flat
 by_cases hj:j < ws.length
 ·obtain⟨i,x,r,g1,hwj,ht,hi,hw,hsp2⟩:=hsp.next hj
  obtain⟨t,w',k,n2,h1,h2,hg,rfl,hr⟩:=hG.next (by omega) hj
  obtain rfl:x=w':=by rw[g1]at h2;exact Option.some.inj h2
  have hm:iH 4 i=true:=by rw[mA _ (by omega) (by omega)];simp;omega
  have hT:=lB (G:=G) hm
  have hN:=nK (G:=G) hm
  have hHp:Hp (σ0.setBox lb [.int .i64 (left - ((n:Int) - ((k+n2:Nat):Int)) - j)]) σ' hb ab mb p:=(h.setBox hl _).up ((hleG _ _).trans hB.le)
  have iS:=hg _ σ' hb ab mb lb _ hHp AS.set_get (by omega) (by omega)
  have hIs:=A3d (G:=G) hHp (.inl rfl) ht hm
  have hAt:=A2c (G:=G) hHp i 2 hi (by omega) (by omega)
  rw[hw]at hAt
  rw[<- hwj]at hT hN hIs
  simp only[List.map_cons,List.map_nil,eR]at hAt
  clear hg hHp hA h hleG
  have eL:left - ((n:Int) - ((k+n2:Nat):Int)) - (j:Int) - (k:Int)=left - ((n:Int) - n2) - j:=by omega
  have wL:IntKind.i64.wrap (left - ((n:Int) - n2) - j - 1)=left - ((n:Int) - n2) - ((j+1:Nat):Int):=by rw[aF (by omega) (by omega)];omega
  have cL:(left - ((n:Int) - ((k+n2:Nat):Int)) - (j:Int) < 0)=False:=eq_false (by omega)
  rw[eL]at iS
  clear hwj
  repeat'(first|refine xs ?_ ?_ <;>intros|(refine wn ?_;intro bx hbx;try simp only[fb]at hbx)|refine wp hT ?_|((refine aH.mono hIs ?_;rintro r s ⟨rfl,rfl⟩))|refine wp hN ?_|((refine aH.mono hAt ?_;rintro r s ⟨rfl,rfl⟩))|((refine aH.mono iS ?_;rintro r s ⟨rfl,rfl⟩))|((refine A4i (ys:=[t.enc]) ((kR hB [.int .i64 (left - ((n:Int) - n2) - j)]).newBox (dE.2 ⟨hbx.1,hbx.2.1⟩) _) tfN (iC tfE) (fun a ha=>by simp at ha;subst ha;rw[t.flat_enc];rfl) (by simp only[List.length_map,List.length_take,List.length_cons,List.length_nil];omega) (fun v3 σ3 hB4 hx4=> ?_);rw[B1s hnl']at hB4;have g8:=hB4.le.box _ _ wV;have gl:=hB4.le.box _ _ (A2t hnl');have i3:=hB4.isv;have o3:=C0f hB4;have j3:=hB4.flat))|refine bE ?_|(refine aB ?_;intro bx hbx;(try simp only[fb]at hbx))|refine aD ?_|((with_reducible refine And.intro ?_ ?_);omega)|refine aA (d':=⟨⟩) ?_|refine bG (by kernel_rfl) ?_|refine bD ?_ (by repeat' first|exact lr _|assumption|refine ls ?_ ?_|refine lt ?_ ?_|simp only[*];done|simp only[fb, *,not_false_eq_true,and_self];done|exact lf ‹_› (by simp only[*]))|refine aC ?_ (by repeat' first|exact lr _|assumption|refine ls ?_ ?_|refine lt ?_ ?_|simp only[*];done|simp only[fb, *,not_false_eq_true,and_self];done|exact lf ‹_› (by simp only[*]))|simp -dsimp only[↓bp,bq,br,seval,pW,h1,h2,wL,fh,fl,f8,f6,fl2,f82,f62,hnl,hnl', *]|refine wz ?_|fail)
  refine⟨m - 1,by omega,j+1,v3,n2,r,rfl,by omega,hsp2,hr,by omega,?_⟩
  rw[bV ks j t h1,List.map_append,<- B1s hnl' (L:=left - ((n:Int) - n2) - j),<- C1y (c:=[.int .u8 7, .bool false, .nil, .str [], .int .i64 0,v, .nil])]
  exact kR (kR hB4 _) _
 ·obtain rfl:j=ws.length:=by omega
  rw[List.drop_length]at hsp
  cases hsp
  generalize dU 3 0=w3 at*
  repeat'(first|refine xs ?_ ?_ <;>intros|(refine wn ?_;intro bx hbx;try simp only[fb]at hbx)|refine wp hT3 ?_|refine wp hT3 ?_|refine bE ?_|(refine aB ?_;intro bx hbx;(try simp only[fb]at hbx))|refine aD ?_|((with_reducible refine And.intro ?_ ?_);omega)|refine aA (d':=⟨⟩) ?_|refine bG (by kernel_rfl) ?_|refine bD ?_ (by repeat' first|exact lr _|assumption|refine ls ?_ ?_|refine lt ?_ ?_|simp only[*];done|simp only[fb, *,not_false_eq_true,and_self];done|exact lf ‹_› (by simp only[*]))|refine aC ?_ (by repeat' first|exact lr _|assumption|refine ls ?_ ?_|refine lt ?_ ?_|simp only[*];done|simp only[fb, *,not_false_eq_true,and_self];done|exact lf ‹_› (by simp only[*]))|simp -dsimp only[↓bp,bq,br,seval,pW,fh,fl,f8,f6,fl2,f82,f62, *]|refine wz ?_|fail)
  have hd:ks.drop ws.length=[]:=List.drop_eq_nil_of_le (by omega)
  have htk:ks.take ws.length=ks:=List.take_of_length_le (by omega)
  have hn0:nr=0:=by rw[hd,List.drop_length]at hG;cases hG;rfl
  subst hn0
  have hLe:=(kR (.nil hB.le:oY 7 _ _ .nil []) (c:=b6) [.int .u8 7, .bool false, .nil, .str [], .int .i64 0,v, .nil]).le
  rw[C1x hn6' h6l]at hLe
  have hLe2:=A4t (z:=[.int .u8 7, .bool false, .nil, .str [], .int .i64 0,v, .nil]) (L:=left - ((n:Int) - (0:Nat)) - ws.length) (c:=[.int .u8 7, .bool false, .nil, .str [], .int .i64 0,v, .nil]) hb6 hbx.1 h6l hnl
  have eL:left - ((n:Int) - ((0:Nat):Int)) - ws.length=left - ((n+ws.length:Nat):Int):=by omega
  have hv:=hB.told
  rw[htk]at hv
  rw[eL]at hLe hLe2
  refine⟨_,_,rfl,hLe2.trans hLe,?_,rfl⟩
  show Le (AV.tup _) _
  exact Le.tup (.cons (B3j _ (.cons (Le.refl _) (.cons (Le.refl _) (.cons Le.nil (.cons (Le.refl _) (.cons (Le.refl _) (.cons hv (.cons Le.nil .nil)))))))) (.cons (Le.refl _) .nil))
set_option maxHeartbeats 1000000 in
theorem B1x(p:PH)(i n:Nat)(ks:List aE)(ws:List Int)(hA:gG G p ks ws n)(hS:nR p ws (dU 4 i) (dU 3 0))(ht:p.tags[i]? =some 4)(hi:i <=p.words.length)(hpl:p.words.length <=1000000)(hwl:ws.length <=1000000):rE G p (.mk 7 false [] [] 0 ks []) (dU 4 i) (1+(n+ws.length)):=by
 intro σ0 σ hb ab mb lb left h hl hk hL
 have hm:iH 4 i=true:=by rw[mA _ (by omega) (by omega)];simp;omega
 have hT:=lB (G:=G) hm
 have hN:=nK (G:=G) hm
 have hn:=fun bx (hx:σ.fresh bx) xs ds=>h.count hl hx xs ds
 obtain⟨oX,oW,oT,X,W,T,hF⟩:=id h
 have hbh:=hF.hbx
 have hlb:=hF.le.box _ _ hl
 have hfl:=bA hlb
 have hfl2:=dQ hlb
 have hfh:=bA hF.hbx
 have hlh:(hb=lb)=False:=eq_false (fun e=>by have:=hF.h0;rw[e,hl]at this;cases this)
 have hlh2:(lb=hb)=False:=eq_false (fun e=>of_eq_false hlh e.symm)
 have w1:IntKind.i64.wrap (left - 1)=left - 1:=aF (by omega) (by omega)
 have c1:(left - 1 < 0)=False:=eq_false (by omega)
 have hls:∀ (σ0 σ:AS),Hp σ0 σ hb ab mb p ->σ0.box lb=some [.int .i64 (left - 1)] ->aH Try.prog G 69 [.ptr hb 0, .int .u64 (dU 4 i), .ptr lb 0] σ fun r s=>r= .tup [(aE.mk 7 false [] [] 0 ks []).enc, .bool true] /\ s=σ.setBox lb [.int .i64 (left - 1 - ((n+ws.length:Nat):Int))]:=fun σ0 σ h h2=>B3m p n ks ws _ hA hS hpl hwl σ0 σ hb ab mb lb (left - 1) h h2 (by omega) (by omega)
 have hIs:∀ (σ0 σ:AS),Hp σ0 σ hb ab mb p ->aH Try.prog G 44 [.ptr hb 0, .int .u64 (dU 4 i)] σ fun r s=>r= .bool true /\ s=σ:=fun σ0 σ h=>A3d h (.inl rfl) ht hm
 have hfe:=(aE.mk 7 false [] [] 0 ks []).flat_enc
 have eL:left - 1 - ((n+ws.length:Nat):Int)=left - ((1+(n+ws.length):Nat):Int):=by omega
 rw[eL]at hls
 clear hF h hA hS hk ht hm eL
 generalize(aE.mk 7 false [] [] 0 ks [])=t at*
 generalize dU 4 i=w at*
 refine aH.of_awp aG Try.func42 rfl (by kernel_rfl) (by kernel_rfl) (by simp[Try.ntmps42]) Try.results42 ?_
 repeat'(first|refine xs ?_ ?_ <;>intros|(refine wn ?_;intro bx hbx;try simp only[fb]at hbx)|((have hq:=hn _ (by assumption) [.int .u8 0, .bool false, .nil, .str [], .int .i64 0, .nil, .nil] [.int .i64 (left - 1)];refine aH.mono (hIs _ _ hq) ?_;rintro r s ⟨rfl,rfl⟩))|refine wp hN ?_|refine wp hT ?_|((refine aH.mono (hls _ _ hq AS.set_get) ?_;rintro r s ⟨rfl,rfl⟩))|refine bE ?_|(refine aB ?_;intro bx hbx;(try simp only[fb]at hbx))|refine aD ?_|((with_reducible refine And.intro ?_ ?_);omega)|refine aA (d':=⟨⟩) ?_|refine bG (by kernel_rfl) ?_|refine bD ?_ (by repeat' first|exact lr _|assumption|refine ls ?_ ?_|refine lt ?_ ?_|simp only[*];done|simp only[fb, *,not_false_eq_true,and_self];done|exact lf ‹_› (by simp only[*]))|refine aC ?_ (by repeat' first|exact lr _|assumption|refine ls ?_ ?_|refine lt ?_ ?_|simp only[*];done|simp only[fb, *,not_false_eq_true,and_self];done|exact lf ‹_› (by simp only[*]))|simp -dsimp only[↓bp,bq,br,seval,pW,w1,hfl,hfl2,hfh,hlh,hlh2, *]|refine wz ?_|fail)
 exact⟨_,_,rfl,sR hbx (of_eq_false (hfl2 _ hbx)),rfl,rfl⟩
end
set_option maxRecDepth 20000
section
def A4d:=And.intro (And.intro (And.intro (And.intro (And.intro @jN @rA) (And.intro @kI (And.intro @gT @eC))) (And.intro (And.intro @kJ @jO) (And.intro @gX (And.intro @gC @gY)))) (And.intro (And.intro (And.intro @fP @jF) (And.intro @jC (And.intro @jE @jD))) (And.intro (And.intro @gF @eY) (And.intro @eZ (And.intro @eQ @eJ))))) (And.intro (And.intro (And.intro (And.intro @eW @jM) (And.intro @cQ (And.intro @cP @cD))) (And.intro (And.intro @aE.flat_enc @aE.isv_enc) (And.intro @aE.fold_enc (And.intro @aW @aO)))) (And.intro (And.intro (And.intro @aP @aM) (And.intro @aX (And.intro @bP @aQ))) (And.intro (And.intro @bJ @cZ) (And.intro @dL (And.intro @cY @dA)))))
variable {G:Nat ->AV}
set_option maxHeartbeats 1000000 in
theorem B1v{σ0 σ:AS}{hb ab mb:Nat}{p:PH}(h:Hp σ0 σ hb ab mb p){t:aE}{w:Int}{k:Nat}(hg:rE G p t w k)(hk:k <=16384)(hr:right t=true)(hbt:t.bulk <=1000000000):aH Try.prog G 15 [.ptr hb 0, .int .u64 w] σ fun r s=>r= .tup [t.enc, .int .i64 0] /\ s=σ:=by
 have hR:=iV G t hbt
 rw[hr]at hR
 have hfe:=t.flat_enc
 have hn:=fun bx (hx:σ.fresh bx) xs=>h.newBox hx xs
 obtain⟨oX,oW,oT,X,W,T,hF⟩:=id h
 have hfh:=bA hF.hbx
 have hth:∀ bx (hx:σ.fresh bx) xs,aH Try.prog G 37 [.ptr hb 0] (σ.setBox bx xs) fun r s=>r= .bool true /\ s=σ.setBox bx xs:=fun bx hx xs=>kH (h.newBox hx xs)
 have hgg:∀ bx c (hx:σ.fresh bx) (hc:σ.fresh c /\ ¬ c=bx /\ ¬ bx=c) xs,aH Try.prog G 42 [.ptr hb 0, .int .u64 w, .ptr c 0] ((σ.setBox bx xs).setBox c [.int .i64 16384]) fun r s=>r= .tup [t.enc, .bool true] /\ s=(σ.setBox bx xs).setBox c [.int .i64 (16384 - (k:Int))]:=fun bx c hx hc xs=>by
  have:=hg _ _ hb ab mb c 16384 ((h.newBox hx xs).newBox (dE.2 ⟨hc.1,hc.2.1⟩) [.int .i64 16384]) AS.set_get (by omega) (by omega)
  rw[qZ]at this
  exact this
 clear hF hn h hg hk hr hbt
 refine aH.of_awp aG Try.func15 rfl (by kernel_rfl) (by kernel_rfl) (by simp[Try.ntmps15]) Try.results15 ?_
 repeat'(first|refine xs ?_ ?_ <;>intros|(refine wn ?_;intro bx hbx;try simp only[fb]at hbx)|((refine aH.mono (hth _ (by assumption) _) ?_;rintro r s ⟨rfl,rfl⟩))|((refine aH.mono (hgg _ _ (by assumption) (by assumption) _) ?_;rintro r s ⟨rfl,rfl⟩))|refine wp hR ?_|refine bE ?_|(refine aB ?_;intro bx hbx;(try simp only[fb]at hbx))|refine aD ?_|((with_reducible refine And.intro ?_ ?_);omega)|refine aA (d':=⟨⟩) ?_|refine bG (by kernel_rfl) ?_|refine bD ?_ (by repeat' first|exact lr _|assumption|refine ls ?_ ?_|refine lt ?_ ?_|simp only[*];done|simp only[fb, *,not_false_eq_true,and_self];done|exact lf ‹_› (by simp only[*]))|refine aC ?_ (by repeat' first|exact lr _|assumption|refine ls ?_ ?_|refine lt ?_ ?_|simp only[*];done|simp only[fb, *,not_false_eq_true,and_self];done|exact lf ‹_› (by simp only[*]))|simp -dsimp only[↓bp,bq,br,seval,A4d,hfh, *]|refine wz ?_|fail)
 exact⟨_,σ,rfl,by repeat' first|exact lr _|assumption|refine ls ?_ ?_|refine lt ?_ ?_|simp only[*];done|simp only[fb, *,not_false_eq_true,and_self];done|exact lf ‹_› (by simp only[*]),rfl,rfl⟩
set_option maxHeartbeats 1000000 in
theorem B3r{σ0 σ:AS}{hb ab mb:Nat}{p:PH}(h:Hp σ0 σ hb ab mb p)(hpl:p.words.length <=1000000)(w:Int)(hw:p.room - p.words.length < w)(row:AV)(hr:one row=true)(hf:flat row=[row]):aH Try.prog G 50 [.ptr hb 0, .int .i64 w,row] σ fun r s=>r= .bool false /\ s=σ:=by
 obtain⟨oX,oW,oT,X,W,T,hF⟩:=id h
 have hfh:=bA hF.hbx
 have c1:(w <=p.room - (p.words.length:Int))=False:=eq_false (by omega)
 have hth:∀ bx (hx:σ.fresh bx) xs,aH Try.prog G 37 [.ptr hb 0] (σ.setBox bx xs) fun r s=>r= .bool true /\ s=σ.setBox bx xs:=fun bx hx xs=>kH (h.newBox hx xs)
 have hro:∀ bx (hx:σ.fresh bx) xs,aH Try.prog G 30 [.ptr hb 0] (σ.setBox bx xs) fun r s=>r= .int .i64 (p.room - p.words.length) /\ s=σ.setBox bx xs:=fun bx hx xs=>sX (h.newBox hx xs) (by omega)
 clear hF h hw
 refine aH.of_awp aG Try.func50 rfl (by kernel_rfl) (by kernel_rfl) (by simp[Try.ntmps50]) Try.results50 ?_
 repeat'(first|refine xs ?_ ?_ <;>intros|(refine wn ?_;intro bx hbx;try simp only[fb]at hbx)|((refine aH.mono (hth _ (by assumption) _) ?_;rintro r s ⟨rfl,rfl⟩))|((refine aH.mono (hro _ (by assumption) _) ?_;rintro r s ⟨rfl,rfl⟩))|refine bE ?_|(refine aB ?_;intro bx hbx;(try simp only[fb]at hbx))|refine aD ?_|((with_reducible refine And.intro ?_ ?_);omega)|refine aA (d':=⟨⟩) ?_|refine bG (by kernel_rfl) ?_|refine bD ?_ (by repeat' first|exact lr _|assumption|refine ls ?_ ?_|refine lt ?_ ?_|simp only[*];done|simp only[fb, *,not_false_eq_true,and_self];done|exact lf ‹_› (by simp only[*]))|refine aC ?_ (by repeat' first|exact lr _|assumption|refine ls ?_ ?_|refine lt ?_ ?_|simp only[*];done|simp only[fb, *,not_false_eq_true,and_self];done|exact lf ‹_› (by simp only[*]))|simp -dsimp only[↓bp,bq,br,seval,A4d,hfh, *]|refine wz ?_|fail)
 all_goals skip
theorem A6r{σ0 σ:AS}{hb ab mb:Nat}{p:PH}(h:Hp σ0 σ hb ab mb p)(hpl:p.words.length <=1000000)(hw:p.room - p.words.length < 2)(a b:Int):aH Try.prog G 25 [.ptr hb 0, .int .u64 a, .int .u64 b] σ fun r s=>r= .tup [.int .u64 0, .bool false] /\ s=σ:=by
 have hs:=B3r (G:=G) h hpl 2 hw (.sl .full [.int .u64 a, .int .u64 b] []) rfl rfl
 clear h
 refine aH.of_awp aG Try.func25 rfl (by kernel_rfl) (by kernel_rfl) (by simp[Try.ntmps25]) Try.results25 ?_
 repeat'(first|refine xs ?_ ?_ <;>intros|(refine wn ?_;intro bx hbx;try simp only[fb]at hbx)|((refine aH.mono hs ?_;rintro r s ⟨rfl,rfl⟩))|refine bE ?_|(refine aB ?_;intro bx hbx;(try simp only[fb]at hbx))|refine aD ?_|((with_reducible refine And.intro ?_ ?_);omega)|refine aA (d':=⟨⟩) ?_|refine bG (by kernel_rfl) ?_|refine bD ?_ (by repeat' first|exact lr _|assumption|refine ls ?_ ?_|refine lt ?_ ?_|simp only[*];done|simp only[fb, *,not_false_eq_true,and_self];done|exact lf ‹_› (by simp only[*]))|refine aC ?_ (by repeat' first|exact lr _|assumption|refine ls ?_ ?_|refine lt ?_ ?_|simp only[*];done|simp only[fb, *,not_false_eq_true,and_self];done|exact lf ‹_› (by simp only[*]))|simp -dsimp only[↓bp,bq,br,seval,A4d, *]|refine wz ?_|fail)
 exact⟨_,s,rfl,AS.le.refl _,rfl,rfl⟩
end
set_option maxRecDepth 20000
section
def C6f:=And.intro (And.intro (And.intro (And.intro (And.intro @jN @rA) (And.intro @kI (And.intro @gT @eC))) (And.intro (And.intro @kJ @jO) (And.intro @gX (And.intro @gC @gY)))) (And.intro (And.intro (And.intro @fP @jF) (And.intro @jC (And.intro @jE @jD))) (And.intro (And.intro @gF @eY) (And.intro @eZ (And.intro @eQ @eJ))))) (And.intro (And.intro (And.intro (And.intro @eW @jM) (And.intro @D0d (And.intro @cQ @cP))) (And.intro (And.intro @cD @aE.flat_enc) (And.intro @aE.isv_enc (And.intro @aE.fold_enc @aW)))) (And.intro (And.intro (And.intro @aO @aP) (And.intro @aM (And.intro @aX @bP))) (And.intro (And.intro @aQ (And.intro @bJ @cZ)) (And.intro @dL (And.intro @cY @dA)))))
variable {G:Nat ->AV}
def p0(n:Int):PH:=⟨[],[],[jP],n⟩
def pE(n:Int):PH:=⟨[dU 1 1,dU 3 0,wZ 1 2,dU 2 1,dU 4 0],[4,0,5,0,0],[jP,[97]],n⟩
theorem C4y:A7s oP=some 1:=by decide
theorem C0j(n:Int):gA fW (p0 n)=(pE n,dU 5 2):=by
 have h1:∀ p,gA oP p=(p,dU 1 1):=fun p=>by rw[iJ,C4y];rfl
 have h2:∀ p,gA aT p=(p.addAtom [97],dU 2 (qR [97] p.atoms)):=fun p=>by rw[iJ];rfl
 have h3:∀ p,gA qT p=gD [dU 1 1] (dU 3 0) p:=fun p=>by
  rw[iJ]
  show gD (bN [oP] (fX [] p (dU 3 0)).1).2 (fX [] p (dU 3 0)).2 (bN [oP] (fX [] p (dU 3 0)).1).1=_
  simp only[fX,bN,h1]
 rw[iJ]
 show nE 1 (bN [aT,qT] (p0 n)).2 (bN [aT,qT] (p0 n)).1=_
 simp only[bN,h2,h3]
 have a1:qR [97] [jP]=1:=by decide
 have a2:oC [97] [jP]=[jP,[97]]:=by decide
 simp only[p0,pE,PH.addAtom,a1,a2,gD,nE,PH.lay,List.nil_append,List.length_nil,List.length_cons,List.cons_append,Nat.zero_add,Nat.reduceAdd,Nat.add_one_sub_one,List.replicate_one,List.replicate_succ,List.replicate_zero,Nat.reduceSub]
 rfl
theorem C9l:ofI 1=oP:=by rfl
theorem B7z(n:Int):rE G (pE n) fW (dU 5 2) 5:=by
 have h1:rE G (pE n) oP (dU 1 1) 1:=by
  have:=A7d (G:=G) (pE n) 1 (by omega) (by omega)
  rw[C9l]at this;exact this
 have h2:rE G (pE n) aT (dU 2 1) 1:=B1w (pE n) 1 [97] rfl (by omega)
 have h3:rE G (pE n) qT (dU 4 0) 3:=B1x (pE n) 0 1 [oP] [dU 1 1] (.cons h1 .nil) (.cons 0 rfl (by show(2:Nat) <=5;omega) rfl .nil) rfl (by omega) (by show(5:Nat) <=_;omega) (by show(1:Nat) <=_;omega)
 exact A7e (pE n) 2 4 [aT,qT] [dU 2 1,dU 4 0] (.cons h2 (.cons h3 .nil)) rfl rfl rfl (by show(5:Nat) <=_;omega) (by show(5:Nat) <=5;omega)
theorem B4y:B4z fW fW=true:=by decide
theorem C2r:oC jP []=[jP]:=by decide
set_option maxHeartbeats 4000000 in
theorem A2g:aN Try.prog G 8 [] (.bool true):=by
 intro σ
 have hp:=A8c (G:=G)
 have hs:=A3z G fW fW (by decide) (by decide)
 rw[B4y]at hs
 have hw:=A4g (G:=G) fW (by decide) pT
 rw[vK]at hw
 have hfe:=fW.flat_enc
 have hnew:∀ (s:AS) (ab mb:Nat),AtS σ s ab mb none .nil [] ->aH Try.prog G 11 [.ptr ab 0, .int .i64 5] s fun r s'=>∃ hb,r= .ptr hb 0 /\ Hp σ s' hb ab mb (p0 5):=fun s ab mb h=>by
  have:=A4v (G:=G) h (by simp) 5 (by omega) (by omega)
  rw[C2r]at this;exact this
 have hput:∀ (s:AS) (hb ab mb:Nat),Hp σ s hb ab mb (p0 5) ->aH Try.prog G 13 [.ptr hb 0,fW.enc] s fun r s'=>r= .tup [.int .u64 (dU 5 2), .bool true] /\ Hp σ s' hb ab mb (pE 5):=fun s hb ab mb h=>by
  have:=B4n (G:=G) h fW C9o pT (by rw[vK];show(5:Int) <=5 - (0:Nat);omega) ⟨by decide,by decide⟩
  rw[C0j]at this;exact this
 have hget:∀ (s:AS) (hb ab mb:Nat),Hp σ s hb ab mb (pE 5) ->aH Try.prog G 15 [.ptr hb 0, .int .u64 (dU 5 2)] s fun r s'=>r= .tup [fW.enc, .int .i64 0] /\ s'=s:=fun s hb ab mb h=>B1v h (B7z 5) (by omega) pT (by decide)
 have hcons:∀ (σ s:AS) (hb ab mb:Nat),Hp σ s hb ab mb (pE 5) ->aH Try.prog G 25 [.ptr hb 0, .int .u64 (dU 5 2), .int .u64 (dU 5 2)] s fun r s'=>r= .tup [.int .u64 0, .bool false] /\ s'=s:=fun σ s hb ab mb h=>A6r h (by show(5:Nat) <=_;omega) (by show(5:Int) - (5:Nat) < 2;omega) _ _
 have hused:∀ (σ s:AS) (hb ab mb:Nat),Hp σ s hb ab mb (pE 5) ->bB Try.prog G 27 [.ptr hb 0] s (.int .i64 5):=fun σ s hb ab mb h σ' hl=>B6a (h.up hl)
 have hroom:∀ (σ s:AS) (hb ab mb:Nat),Hp σ s hb ab mb (pE 5) ->bB Try.prog G 30 [.ptr hb 0] s (.int .i64 0):=fun σ s hb ab mb h σ' hl=>sX (h.up hl) (by show(5:Nat) <=_;omega)
 generalize fW=t at*
 generalize dU 5 2=w at*
 refine aH.of_awp aG Try.func8 rfl (by kernel_rfl) (by kernel_rfl) (by simp[Try.ntmps8]) Try.results8 ?_
 repeat'(first|refine xs ?_ ?_ <;>intros|(refine wn ?_;intro bx hbx;try simp only[fb]at hbx)|((refine aH.mono (oO _) ?_;rintro r s1 ⟨ab,mb,rfl,hA⟩))|((refine aH.mono (hnew _ _ _ hA) ?_;rintro r s2 ⟨hb,rfl,hH⟩))|refine wp hp ?_|((refine aH.mono (hput _ _ _ _ hH) ?_;rintro r s3 ⟨rfl,hE⟩))|((refine aH.mono (hget _ _ _ _ hE) ?_;rintro r s4 ⟨rfl,rfl⟩;have hle:=hE.le))|((have hE2:=hE.newBox (by assumption) [.int .u8 t.knd, .bool t.neg,cO t.limbs, .str t.text, .int .i64 t.num,bR t.items,bR t.tail];refine aH.mono (hcons _ _ _ _ _ hE2) ?_;rintro r s5 ⟨rfl,rfl⟩))|refine wp hp ?_|refine wp hs ?_|(refine bB.head (hused _ _ _ _ _ hE2) (AS.le.refl _) ?_)|(refine bB.head (hroom _ _ _ _ _ hE2) (AS.le.refl _) ?_)|refine wp hp ?_|refine wp hw ?_|refine bE ?_|(refine aB ?_;intro bx hbx;(try simp only[fb]at hbx))|refine aD ?_|((with_reducible refine And.intro ?_ ?_);omega)|refine aA (d':=⟨⟩) ?_|refine bG (by kernel_rfl) ?_|refine bD ?_ (by repeat' first|exact lr _|assumption|refine ls ?_ ?_|refine lt ?_ ?_|simp only[*];done|simp only[fb, *,not_false_eq_true,and_self];done|exact lf ‹_› (by simp only[*]))|refine aC ?_ (by repeat' first|exact lr _|assumption|refine ls ?_ ?_|refine lt ?_ ?_|simp only[*];done|simp only[fb, *,not_false_eq_true,and_self];done|exact lf ‹_› (by simp only[*]))|simp -dsimp only[↓bp,bq,br,seval,C6f, *]|refine wz ?_|fail)
end
set_option maxRecDepth 20000
section
def dT:=And.intro (And.intro (And.intro (And.intro (And.intro @jN @rA) (And.intro @kI (And.intro @gT @eC))) (And.intro (And.intro @kJ (And.intro @jO @gX)) (And.intro @gC (And.intro @gY @fP)))) (And.intro (And.intro (And.intro @jF @jC) (And.intro @jE (And.intro @jD @gF))) (And.intro (And.intro @eY (And.intro @eZ @eQ)) (And.intro @eJ (And.intro @eW @jM))))) (And.intro (And.intro (And.intro (And.intro @D0d @D1s) (And.intro @D1q (And.intro @D1r @cQ))) (And.intro (And.intro @cP (And.intro @cD @aE.flat_enc)) (And.intro @aE.isv_enc (And.intro @aE.fold_enc @aW)))) (And.intro (And.intro (And.intro @aO @aP) (And.intro @aM (And.intro @aX @bP))) (And.intro (And.intro @aQ (And.intro @bJ @cZ)) (And.intro @dL (And.intro @cY @dA)))))
variable {G:Nat ->AV}
def B0u(t:aE):List AV:=[.int .i64 0, .int .u8 t.knd, .bool t.neg,cO t.limbs, .str t.text, .int .i64 t.num,bR t.items,bR t.tail, .int .i64 0, .nil]
set_option maxHeartbeats 2000000 in
theorem A3j(t:aE)(hb:t.bulk <=1000000000):∃ b,aN Try.prog G 9 [.sl .full [.agg (B0u t)] []] (.bool b):=by
 have hT:=xU G t 600 (by omega) (by omega) hb
 have hr:=fL t 600
 have hfe:=t.flat_enc
 refine⟨decide (1+dF t 600 <=600),?_⟩
 have w1:IntKind.i64.wrap (1+dF t 600)=1+dF t 600:=aF (by omega) (by omega)
 intro σ
 unfold B0u
 generalize dF t 600=m at*
 clear hr
 refine aH.of_awp aG Try.func9 rfl (by kernel_rfl) (by kernel_rfl) (by simp[Try.ntmps9]) Try.results9 ?_
 repeat'(first|refine xs ?_ ?_ <;>intros|(refine wn ?_;intro bx hbx;try simp only[fb]at hbx)|refine bE ?_|(refine aB ?_;intro bx hbx;(try simp only[fb]at hbx))|refine aD ?_|((with_reducible refine And.intro ?_ ?_);omega)|refine aA (d':=⟨⟩) ?_|refine bG (by kernel_rfl) ?_|refine bD ?_ (by repeat' first|exact lr _|assumption|refine ls ?_ ?_|refine lt ?_ ?_|simp only[*];done|simp only[fb, *,not_false_eq_true,and_self];done|exact lf ‹_› (by simp only[*]))|refine aC ?_ (by repeat' first|exact lr _|assumption|refine ls ?_ ?_|refine lt ?_ ?_|simp only[*];done|simp only[fb, *,not_false_eq_true,and_self];done|exact lf ‹_› (by simp only[*]))|simp -dsimp only[↓bp,bq,br,seval,dT, *]|refine wz ?_|fail)
 refine bM (fun k e σ'=> (k=1 /\ e 4= .int .i64 0 /\ e 3= .int .i64 0 /\ σ'=σ) \/ (k=0 /\ e 4= .int .i64 1 /\ e 3= .int .i64 (1+m) /\ σ'=σ)) 1 (.inl ⟨rfl,by simp -dsimp only[↓bp,bq,br,seval,dT],by simp -dsimp only[↓bp,bq,br,seval,dT],rfl⟩) ?_
 rintro k e σ' (⟨rfl,h4,h3,rfl⟩|⟨rfl,h4,h3,rfl⟩)
 ·simp -dsimp only[↓bp,bq,br,seval,dT]at h4
  simp -dsimp only[↓bp,bq,br,seval,dT]at h3
  repeat'(first|refine xs ?_ ?_ <;>intros|(refine wn ?_;intro bx hbx;try simp only[fb]at hbx)|refine wp hT ?_|refine bE ?_|(refine aB ?_;intro bx hbx;(try simp only[fb]at hbx))|refine aD ?_|((with_reducible refine And.intro ?_ ?_);omega)|refine aA (d':=⟨⟩) ?_|refine bG (by kernel_rfl) ?_|refine bD ?_ (by repeat' first|exact lr _|assumption|refine ls ?_ ?_|refine lt ?_ ?_|simp only[*];done|simp only[fb, *,not_false_eq_true,and_self];done|exact lf ‹_› (by simp only[*]))|refine aC ?_ (by repeat' first|exact lr _|assumption|refine ls ?_ ?_|refine lt ?_ ?_|simp only[*];done|simp only[fb, *,not_false_eq_true,and_self];done|exact lf ‹_› (by simp only[*]))|simp -dsimp only[↓bp,bq,br,seval,dT,w1, *]|refine wz ?_|fail)
  have u1:IntKind.i64.wrap 1=1:=aF (by omega) (by omega)
  have u0:IntKind.i64.wrap 0=0:=aF (by omega) (by omega)
  exact⟨0,by omega, .inr ⟨rfl,by rw[u1],by rw[u1,w1,u0,Int.add_zero,w1]⟩⟩
 ·simp -dsimp only[↓bp,bq,br,seval,dT]at h4
  simp -dsimp only[↓bp,bq,br,seval,dT]at h3
  repeat'(first|refine xs ?_ ?_ <;>intros|(refine wn ?_;intro bx hbx;try simp only[fb]at hbx)|refine bE ?_|(refine aB ?_;intro bx hbx;(try simp only[fb]at hbx))|refine aD ?_|((with_reducible refine And.intro ?_ ?_);omega)|refine aA (d':=⟨⟩) ?_|refine bG (by kernel_rfl) ?_|refine bD ?_ (by repeat' first|exact lr _|assumption|refine ls ?_ ?_|refine lt ?_ ?_|simp only[*];done|simp only[fb, *,not_false_eq_true,and_self];done|exact lf ‹_› (by simp only[*]))|refine aC ?_ (by repeat' first|exact lr _|assumption|refine ls ?_ ?_|refine lt ?_ ?_|simp only[*];done|simp only[fb, *,not_false_eq_true,and_self];done|exact lf ‹_› (by simp only[*]))|simp -dsimp only[↓bp,bq,br,seval,dT,w1, *]|refine wz ?_|fail)
  all_goals skip
theorem gR.up{σ s:AS}{v:AV}(h:gR σ v)(hl:σ.le s):gR s v:=by
 rcases h with rfl|⟨hb,rfl,W,T,r,o,hbx⟩
 ·exact .inl rfl
 ·exact .inr ⟨hb,rfl,W,T,r,o,hl.box _ _ hbx⟩
structure C6u(G:Nat ->AV)(σ:AS)(v:AV)(t:aE)(w:Int):Prop where
 one:one v=true
 isv:isv v=true
 flat:flat v=[v]
 put:∀ s,σ.le s ->aH Try.prog G 13 [v,t.enc] s fun r s'=>r= .tup [.int .u64 0, .bool false] /\ s'=s
 get:∀ s,σ.le s ->aH Try.prog G 15 [v, .int .u64 w] s fun r s'=>r= .tup [.agg [.int .u8 0, .bool false, .nil, .str [], .int .i64 0, .nil, .nil], .int .i64 1] /\ s'=s
 tup:∀ s,σ.le s ->aH Try.prog G 21 [v, .nil] s fun r s'=>r= .tup [.int .u64 0, .bool false] /\ s'=s
 cons:∀ s,σ.le s ->aH Try.prog G 25 [v, .int .u64 w, .int .u64 w] s fun r s'=>r= .tup [.int .u64 0, .bool false] /\ s'=s
 fn:∀ s,σ.le s ->aH Try.prog G 24 [v, .int .i64 0, .nil] s fun r s'=>r= .tup [.int .u64 0, .bool false] /\ s'=s
 parts:∀ s,σ.le s ->aH Try.prog G 18 [v, .int .u64 w] s fun r s'=>r= .tup [.int .i64 0, .int .i64 0, .nil, .bool false] /\ s'=s
 used:bB Try.prog G 27 [v] σ (.int .i64 0)
 old:bB Try.prog G 29 [v] σ (.int .i64 0)
 room:bB Try.prog G 30 [v] σ (.int .i64 0)
 copy:bB Try.prog G 31 [v] σ .nilptr
theorem C9d{σ:AS}{v:AV}(h:gR σ v)(t:aE)(w:Int):C6u G σ v t w:=
 ⟨h.one,h.isv,h.flat,fun s hl=>C5t (h.up hl) t,fun s hl=>C3h (h.up hl) w,fun s hl=>B5r (h.up hl),fun s hl=>B7f (h.up hl) w w,fun s hl=>C3f (h.up hl),fun s hl=>B4j (h.up hl) w,fun s hl=>C1m (h.up hl),fun s hl=>C5o (h.up hl),fun s hl=>C0o (h.up hl),fun s hl=>B7g (h.up hl)⟩
theorem B3z{σ:AS}{ab:Nat}{X:AV}{n:Int}(h:σ.box ab=some [.raw (.map none),X]):aH Try.prog G 11 [.ptr ab 0, .int .i64 n] σ fun r s=>r= .nilptr /\ s=σ:=by
 have hn:=A0a (G:=G) h [116,114,117,101]
 refine aH.of_awp aG Try.func11 rfl (by kernel_rfl) (by kernel_rfl) (by simp[Try.ntmps11]) Try.results11 ?_
 repeat'(first|refine xs ?_ ?_ <;>intros|(refine wn ?_;intro bx hbx;try simp only[fb]at hbx)|((refine aH.mono hn ?_;rintro r s ⟨rfl,rfl⟩))|refine bE ?_|(refine aB ?_;intro bx hbx;(try simp only[fb]at hbx))|refine aD ?_|((with_reducible refine And.intro ?_ ?_);omega)|refine aA (d':=⟨⟩) ?_|refine bG (by kernel_rfl) ?_|refine bD ?_ (by repeat' first|exact lr _|assumption|refine ls ?_ ?_|refine lt ?_ ?_|simp only[*];done|simp only[fb, *,not_false_eq_true,and_self];done|exact lf ‹_› (by simp only[*]))|refine aC ?_ (by repeat' first|exact lr _|assumption|refine ls ?_ ?_|refine lt ?_ ?_|simp only[*];done|simp only[fb, *,not_false_eq_true,and_self];done|exact lf ‹_› (by simp only[*]))|simp -dsimp only[↓bp,bq,br,seval,dT, *]|refine wz ?_|fail)
 all_goals skip
set_option maxHeartbeats 8000000 in
theorem uD(t:aE)(w:Int)(hb:t.bulk <=1000000000):aN Try.prog G 6 [t.enc, .int .u64 w] (.bool true):=by
 intro σ
 have ha:=A2g (G:=G)
 obtain⟨b,hli⟩:=A3j (G:=G) t hb
 have hfe:=t.flat_enc
 unfold B0u at hli
 cases b with
 | false=>
  refine aH.of_awp aG Try.func6 rfl (by kernel_rfl) (by kernel_rfl) (by simp[Try.ntmps6]) Try.results6 ?_
  repeat'(first|refine xs ?_ ?_ <;>intros|(refine wn ?_;intro bx hbx;try simp only[fb]at hbx)|refine wp ha ?_|refine wp hli ?_|refine bE ?_|(refine aB ?_;intro bx hbx;(try simp only[fb]at hbx))|refine aD ?_|((with_reducible refine And.intro ?_ ?_);omega)|refine aA (d':=⟨⟩) ?_|refine bG (by kernel_rfl) ?_|refine bD ?_ (by repeat' first|exact lr _|assumption|refine ls ?_ ?_|refine lt ?_ ?_|simp only[*];done|simp only[fb, *,not_false_eq_true,and_self];done|exact lf ‹_› (by simp only[*]))|refine aC ?_ (by repeat' first|exact lr _|assumption|refine ls ?_ ?_|refine lt ?_ ?_|simp only[*];done|simp only[fb, *,not_false_eq_true,and_self];done|exact lf ‹_› (by simp only[*]))|simp -dsimp only[↓bp,bq,br,seval,dT, *]|refine wz ?_|fail)
  all_goals skip
 | true=>
  refine aH.of_awp aG Try.func6 rfl (by kernel_rfl) (by kernel_rfl) (by simp[Try.ntmps6]) Try.results6 ?_
  repeat'(first|refine xs ?_ ?_ <;>intros|(refine wn ?_;intro bx hbx;try simp only[fb]at hbx)|refine wp ha ?_|refine wp hli ?_|refine bE ?_|(refine aB ?_;intro bx hbx;(try simp only[fb]at hbx))|refine aD ?_|((with_reducible refine And.intro ?_ ?_);omega)|refine aA (d':=⟨⟩) ?_|refine bG (by kernel_rfl) ?_|refine bD ?_ (by repeat' first|exact lr _|assumption|refine ls ?_ ?_|refine lt ?_ ?_|simp only[*];done|simp only[fb, *,not_false_eq_true,and_self];done|exact lf ‹_› (by simp only[*]))|refine aC ?_ (by repeat' first|exact lr _|assumption|refine ls ?_ ?_|refine lt ?_ ?_|simp only[*];done|simp only[fb, *,not_false_eq_true,and_self];done|exact lf ‹_› (by simp only[*]))|simp -dsimp only[↓bp,bq,br,seval,dT, *]|refine wz ?_|fail)
  rename_i bT hbT
  clear ha hli
  have n1: ¬ bx=bT:=hbx.2.1
  have n2: ¬ bT=bx:=hbx.2.2
  refine bM (fun k e σ'=>∃ i:Nat,i <=2 /\ k=2 - i /\ e 6= .int .i64 i /\ σ.le σ' /\ σ'.box bT=some [.int .u8 t.knd, .bool t.neg,cO t.limbs, .str t.text, .int .i64 t.num,bR t.items,bR t.tail] /\ σ'.box bx=some [.nilptr, .nil, .nil, .int .i64 0, .int .i64 0]) 2 ⟨0,by omega,by omega,by simp -dsimp only[↓bp,bq,br,seval,dT],by repeat' first|exact lr _|assumption|refine ls ?_ ?_|refine lt ?_ ?_|simp only[*];done|simp only[fb, *,not_false_eq_true,and_self];done|exact lf ‹_› (by simp only[*]),(if_neg n2).trans AS.set_get,AS.set_get⟩ ?_
  rintro k e σ' ⟨i,hi,rfl,h6,hle,hT,hH⟩
  simp -dsimp only[↓bp,bq,br,seval,dT]at h6
  have f1:=bA hT
  have f2:=bA hH
  have f12:=dQ hT
  have f22:=dQ hH
  by_cases hi2:i=2
  ·subst hi2
   simp -dsimp only[↓bp,bq,br,seval,dT]at h6
   repeat'(first|refine xs ?_ ?_ <;>intros|(refine wn ?_;intro bx hbx;try simp only[fb]at hbx)|((refine aH.mono (B9p 5 _) ?_;rintro r s0 ⟨rfl,rfl⟩))|((refine aH.mono (B3z AS.set_get) ?_;rintro r s9 ⟨rfl,rfl⟩))|((refine aH.mono (oO _) ?_;rintro r s1 ⟨ab1,mb1,rfl,hA⟩))|((refine aH.mono (A4u hA (by simp) (-1) (.inl (by omega))) ?_;rintro r s2 ⟨rfl,hl2⟩))|((refine aH.mono (A4u hA (by simp) 1048577 (.inr (by omega))) ?_;rintro r s4 ⟨rfl,hl4⟩))|((refine aH.mono (A4v hA (by simp) 1048576 (by omega) (by omega)) ?_;rintro r s6 ⟨hb6,rfl,hH6⟩;have hlf:=(((hle.setBox (hle.fresh hbx).1 _).trans hl2).trans hl4).trans hH6.le))|refine bE ?_|(refine aB ?_;intro bx hbx;(try simp only[fb]at hbx))|refine aD ?_|((with_reducible refine And.intro ?_ ?_);omega)|refine aA (d':=⟨⟩) ?_|refine bG (by kernel_rfl) ?_|refine bD ?_ (by repeat' first|exact lr _|assumption|refine ls ?_ ?_|refine lt ?_ ?_|simp only[*];done|simp only[fb, *,not_false_eq_true,and_self];done|exact lf ‹_› (by simp only[*]))|refine aC ?_ (by repeat' first|exact lr _|assumption|refine ls ?_ ?_|refine lt ?_ ?_|simp only[*];done|simp only[fb, *,not_false_eq_true,and_self];done|exact lf ‹_› (by simp only[*]))|simp -dsimp only[↓bp,bq,br,seval,dT,f1,f2, *]|refine wz ?_|fail)
   all_goals skip
  ·obtain⟨v,hv,hvi⟩:∃ v,gR σ' v /\ ((i=0 /\ v= .nilptr) \/ (i=1 /\ v= .ptr bx 0)):=by
    have:i=0 \/ i=1:=by omega
    rcases this with rfl|rfl
    ·exact⟨_, .inl rfl, .inl ⟨rfl,rfl⟩⟩
    ·exact⟨_, .inr ⟨bx,rfl,_,_,_,_,hH⟩, .inr ⟨rfl,rfl⟩⟩
   obtain⟨o1,o2,o3,hPut,hGet,hTup,hCons,hFn,hParts,hUsed,hOld,hRoom,hCopy⟩:=C9d (G:=G) hv t w
   clear hv
   have u0:IntKind.i64.wrap 0=0:=aF (by omega) (by omega)
   have wz:IntKind.i64.wrap (IntKind.i64.wrap 0+0)=0:=by rw[u0];exact u0
   have wz2:(IntKind.i64.wrap (IntKind.i64.wrap 0+0)=0)=True:=eq_true wz
   have u1:IntKind.i64.wrap 1=1:=aF (by omega) (by omega)
   have u2:IntKind.i64.wrap 2=2:=aF (by omega) (by omega)
   rcases hvi with⟨rfl,rfl⟩|⟨rfl,rfl⟩
   ·simp -dsimp only[↓bp,bq,br,seval,dT]at h6
    repeat'(first|refine xs ?_ ?_ <;>intros|(refine wn ?_;intro bx hbx;try simp only[fb]at hbx)|((first|refine bB.head hPut (AS.le.refl _) ?_|refine bB.use hPut (AS.le.refl _) ?_))|((first|refine bB.head hGet (AS.le.refl _) ?_|refine bB.use hGet (AS.le.refl _) ?_))|((first|refine bB.head hTup (cA hbx.1 _) ?_|refine bB.use hTup (cA hbx.1 _) ?_))|((first|refine bB.head hCons (cA hbx.1 _) ?_|refine bB.use hCons (cA hbx.1 _) ?_))|((first|refine bB.head hFn (cA hbx.1 _) ?_|refine bB.use hFn (cA hbx.1 _) ?_))|((first|refine bB.head hParts (cA hbx.1 _) ?_|refine bB.use hParts (cA hbx.1 _) ?_))|((first|refine bB.head hUsed (cA hbx.1 _) ?_|refine bB.use hUsed (cA hbx.1 _) ?_))|((first|refine bB.head hOld (cA hbx.1 _) ?_|refine bB.use hOld (cA hbx.1 _) ?_))|((first|refine bB.head hRoom (cA hbx.1 _) ?_|refine bB.use hRoom (cA hbx.1 _) ?_))|((first|refine bB.head hCopy (cA hbx.1 _) ?_|refine bB.use hCopy (cA hbx.1 _) ?_))|refine bE ?_|(refine aB ?_;intro bx hbx;(try simp only[fb]at hbx))|refine aD ?_|((with_reducible refine And.intro ?_ ?_);omega)|refine aA (d':=⟨⟩) ?_|refine bG (by kernel_rfl) ?_|refine bD ?_ (by repeat' first|exact lr _|assumption|refine ls ?_ ?_|refine lt ?_ ?_|simp only[*];done|simp only[fb, *,not_false_eq_true,and_self];done|exact lf ‹_› (by simp only[*]))|refine aC ?_ (by repeat' first|exact lr _|assumption|refine ls ?_ ?_|refine lt ?_ ?_|simp only[*];done|simp only[fb, *,not_false_eq_true,and_self];done|exact lf ‹_› (by simp only[*]))|simp -dsimp only[↓bp,bq,br,seval,dT,f1,f2,f12,f22,wz,wz2,u1,u2, *]|refine wz ?_|fail)
    exact⟨1,by omega,1,by omega,by omega,rfl,hle.setBox (hle.fresh hbx).1 _⟩
   ·simp -dsimp only[↓bp,bq,br,seval,dT]at h6
    repeat'(first|refine xs ?_ ?_ <;>intros|(refine wn ?_;intro bx hbx;try simp only[fb]at hbx)|((first|refine bB.head hPut (AS.le.refl _) ?_|refine bB.use hPut (AS.le.refl _) ?_))|((first|refine bB.head hGet (AS.le.refl _) ?_|refine bB.use hGet (AS.le.refl _) ?_))|((first|refine bB.head hTup (cA hbx.1 _) ?_|refine bB.use hTup (cA hbx.1 _) ?_))|((first|refine bB.head hCons (cA hbx.1 _) ?_|refine bB.use hCons (cA hbx.1 _) ?_))|((first|refine bB.head hFn (cA hbx.1 _) ?_|refine bB.use hFn (cA hbx.1 _) ?_))|((first|refine bB.head hParts (cA hbx.1 _) ?_|refine bB.use hParts (cA hbx.1 _) ?_))|((first|refine bB.head hUsed (cA hbx.1 _) ?_|refine bB.use hUsed (cA hbx.1 _) ?_))|((first|refine bB.head hOld (cA hbx.1 _) ?_|refine bB.use hOld (cA hbx.1 _) ?_))|((first|refine bB.head hRoom (cA hbx.1 _) ?_|refine bB.use hRoom (cA hbx.1 _) ?_))|((first|refine bB.head hCopy (cA hbx.1 _) ?_|refine bB.use hCopy (cA hbx.1 _) ?_))|refine bE ?_|(refine aB ?_;intro bx hbx;(try simp only[fb]at hbx))|refine aD ?_|((with_reducible refine And.intro ?_ ?_);omega)|refine aA (d':=⟨⟩) ?_|refine bG (by kernel_rfl) ?_|refine bD ?_ (by repeat' first|exact lr _|assumption|refine ls ?_ ?_|refine lt ?_ ?_|simp only[*];done|simp only[fb, *,not_false_eq_true,and_self];done|exact lf ‹_› (by simp only[*]))|refine aC ?_ (by repeat' first|exact lr _|assumption|refine ls ?_ ?_|refine lt ?_ ?_|simp only[*];done|simp only[fb, *,not_false_eq_true,and_self];done|exact lf ‹_› (by simp only[*]))|simp -dsimp only[↓bp,bq,br,seval,dT,f1,f2,f12,f22,wz,wz2,u1,u2, *]|refine wz ?_|fail)
    exact⟨0,by omega,2,by omega,by omega,rfl,hle.setBox (hle.fresh hbx).1 _⟩
end
set_option maxRecDepth 100000
section
open Go Go.Av Go.RowKit
variable {H:Type}
theorem zA{l:List aE}{xs:List (DataW H)}(hl:l.length=xs.length)(h:∀ (i:Nat) x a,xs[i]? =some x ->l[i]? =some a ->a.bulk <=Rows.uptoBulk x):aL l <=Rows.uptoBulkAll xs:=by
 induction l generalizing xs with
 |nil=>simp[aL]
 | cons a l ih=>
  cases xs with
  |nil=>simp at hl
  | cons x xs=>
   have h0:=h 0 x a rfl rfl
   have h1:=ih (xs:=xs) (by simpa using hl) (fun i y b hy hb=>h (i+1) y b (by simpa using hy) (by simpa using hb))
   simp only[aL,Rows.uptoBulkAll];omega
theorem B9j{l:List UInt32}{xs:List (DataW H)}(hl:l.length=xs.length)(h:∀ (i:Nat) x (a:UInt32),xs[i]? =some x ->l[i]? =some a ->1 <=Rows.uptoBulk x):l.length <=Rows.uptoBulkAll xs:=by
 induction l generalizing xs with
 |nil=>simp
 | cons a l ih=>
  cases xs with
  |nil=>simp at hl
  | cons x xs=>
   have h0:=h 0 x a rfl rfl
   have h1:=ih (xs:=xs) (by simpa using hl) (fun i y b hy hb=>h (i+1) y b (by simpa using hy) (by simpa using hb))
   simp only[List.length_cons,Rows.uptoBulkAll];omega
theorem D0e{m:Int}(h:(Lit.int .u8 m).wf=true):∃ k:UInt8,m=(k.toNat:Int):=by
 have hr:0 <=m /\ m < 256:=by
  have h0:IntKind.u8.min=0:=by decide
  have h1:IntKind.u8.max=255:=by decide
  simp only[Lit.wf,Bool.and_eq_true,decide_eq_true_eq,h0,h1]at h
  omega
 refine⟨UInt8.ofNat m.toNat,?_⟩
 rw[UInt8.toNat_ofNat']
 omega
theorem C6i{m:Int}(h:(Lit.int .u32 m).wf=true):∃ k:UInt32,m=(k.toNat:Int):=by
 have hr:0 <=m /\ m < 4294967296:=by
  have h0:IntKind.u32.min=0:=by decide
  have h1:IntKind.u32.max=4294967295:=by decide
  simp only[Lit.wf,Bool.and_eq_true,decide_eq_true_eq,h0,h1]at h
  omega
 refine⟨UInt32.ofNat m.toNat,?_⟩
 rw[UInt32.toNat_ofNat']
 omega
theorem A8f:∀ (n:Nat) (d:DataW H),tM Try.prog n 34 d ->∃ t:aE,hP d=t.enc /\ t.bulk <=Rows.uptoBulk d:=by
 intro n
 induction n using Nat.strongRecOn with
 | _ n ih=>
  intro d h
  obtain⟨ds,m,rfl,rfl,hl,hf⟩:=A4e h Try.underlying34
  match ds,hl with
  | [d0,d1,d2,d3,d4,d5,d6],_=>
   obtain⟨k,rfl,hk⟩:=rB (hf 0 _ d0 rfl rfl) Try.underlying30
   obtain⟨g,rfl⟩:=B5t (hf 1 _ d1 rfl rfl) Try.underlying4
   obtain⟨xs,sp,q,hx,hq,hxs⟩:=pY (hf 2 _ d2 rfl rfl) Try.underlying31
   obtain⟨s,rfl,_⟩:=C1j (hf 3 _ d3 rfl rfl) Try.underlying9
   obtain⟨nn,rfl,_⟩:=rB (hf 4 _ d4 rfl rfl) Try.underlying3
   obtain⟨ys,sq,q2,hy,hq2,hys⟩:=pY (hf 5 _ d5 rfl rfl) Try.underlying32
   obtain⟨zs,sr,q3,hz,hq3,hzs⟩:=pY (hf 6 _ d6 rfl rfl) Try.underlying32
   obtain⟨k',rfl⟩:=D0e hk
   obtain⟨l,h1,h2,h3⟩:=mO (enc:=kV) (good:=fun x _=>1 <=Rows.uptoBulk x) (fun x hx=>by
    obtain⟨z,rfl,hz⟩:=rB hx Try.underlying87
    obtain⟨z',rfl⟩:=C6i hz
    exact⟨z',by simp[hP,kV],by simp[Rows.uptoBulk]⟩) xs hxs
   obtain⟨l2,i1,i2,i3⟩:=mO (enc:=aE.enc) (good:=fun x a=>a.bulk <=Rows.uptoBulk x) (fun x hx=>ih q2 (by omega) x hx) ys hys
   obtain⟨l3,j1,j2,j3⟩:=mO (enc:=aE.enc) (good:=fun x a=>a.bulk <=Rows.uptoBulk x) (fun x hx=>ih q3 (by omega) x hx) zs hzs
   have hb:=B9j h2 h3
   have hb2:=zA i2 i3
   have hb3:=zA j2 j3
   refine⟨.mk k' g l s nn l2 l3,?_,?_⟩
   ·have e1:flat (hP d2)=[cO l]:=by
     rcases hx with⟨rfl,rfl⟩|rfl
     ·simp only[sC,List.length_nil,List.length_eq_zero_iff]at h1 h2
      subst h2
      simp[hP,flat,cO]
     ·simp[hP,flat,cO,h1]
    have e2:flat (hP d5)=[.sl .none (l2.map aE.enc) []]:=by
     rcases hy with⟨rfl,rfl⟩|rfl
     ·simp only[sC,List.length_nil,List.length_eq_zero_iff]at i1 i2
      subst i2
      simp[hP,flat]
     ·simp[hP,flat,i1]
    have e3:flat (hP d6)=[.sl .none (l3.map aE.enc) []]:=by
     rcases hz with⟨rfl,rfl⟩|rfl
     ·simp only[sC,List.length_nil,List.length_eq_zero_iff]at j1 j2
      subst j2
      simp[hP,flat]
     ·simp[hP,flat,j1]
    have e4:hP (.agg [.lit (.int .u8 (k'.toNat:Int)), .lit (.bool g),d2, .lit (.string s), .lit (.int .i64 nn),d5,d6]:DataW H)= .agg (flat (.int .u8 (k'.toNat:Int))++(flat (.bool g)++(flat (hP d2)++(flat (.str s)++(flat (.int .i64 nn)++(flat (hP d5)++(flat (hP d6)++[]))))))):=by
     simp[hP,nG]
    rw[e4,e1,e2,e3]
    simp[flat,aE.enc,cO]
   ·rw[aE.bulk]
    rcases hx with⟨rfl,rfl⟩|rfl <;>rcases hy with⟨rfl,rfl⟩|rfl <;>rcases hz with⟨rfl,rfl⟩|rfl <;>simp only[Rows.uptoBulk,Rows.uptoBulkAll]at hb hb2 hb3 ⊢ <;>omega
end
end Go.Proofs.Ytinfbihcnonaoaa
