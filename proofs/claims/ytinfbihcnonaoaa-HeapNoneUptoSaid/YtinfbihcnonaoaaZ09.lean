/- What may be written is lent to a function that only tells: it is read as told, and is as it was afterwards. -/
import Derived.Test.YtinfbihcnonaoaaZ08
import Derived.Test.YtinfbihcnonaoaaZ07
set_option linter.unusedVariables false
set_option linter.unusedSimpArgs false
set_option linter.defProp false
namespace Go.Av
open Go Go.RowKit
def aJ.lent(K:aJ)(σ:AS)(w:World):aJ:=
 {imm:=fun b o=>match σ.box b with|some cs=>if o < cs.length then w.cell? ⟨b,o,none⟩else K.imm b o|none=>K.imm b o,row:=K.row,base:=w.heap.size,W:=w,obs:=fun _=>none}
def tyT:Option (mR × Nat) ->Option (mR × Nat)
 |some (.t E,n)=>some (.t E,n)
 |_=>none
theorem B5s{x:Option (mR × Nat)}{y:mR × Nat}(h:tyT x=some y):∃ E n,x=some (.t E,n) /\ y=(.t E,n):=by
 unfold tyT at h
 split at h
 ·cases h;exact⟨_,_,rfl,rfl⟩
 ·cases h
def AS.shut(σ:AS):AS:= {box:=fun _=>none,tip:=fun _=>none,ty:=fun b=>tyT (σ.ty b)}
section
variable {G:Nat ->AV} {K:aJ} {σ:AS} {w:World}
theorem sT(h:aZ G K σ w):∀ b o v,K.imm b o=some v -> (K.lent σ w).imm b o=some v:=by
 intro b o v hv
 unfold aJ.lent
 simp only
 cases e:σ.box b with
 |none=>exact hv
 | some cs=>
  obtain⟨_,_,_,h4,_⟩:=h.box b cs e
  rw[h4 o]at hv;cases hv
theorem VR.lent(h:aZ G K σ w){a:AV}{v:Value}(k:VR K a v):VR (K.lent σ w) a v:=
 VR.mono2 (sT h) (fun b x hx=>hx) (fun b hb=> ⟨Nat.lt_of_lt_of_le hb h.bs,h.below.b.block b hb⟩) k
theorem aZ.lent(h:aZ G K σ w):aZ G (K.lent σ w) σ.shut w:=by
 refine⟨fun b o v hv=> ?_,fun b cap s E hr=> ?_,fun b cs hb=> (by cases hb),fun b n s ht=> (by cases ht),fun b E n ht=> ?_,fun g=> (h.glob g).lent h,⟨Below.refl _ _,fun _ _ h=> (by cases h)⟩,Nat.le_refl _⟩
 ·unfold aJ.lent at hv
  simp only at hv
  cases e:σ.box b with
  |none=>rw[e]at hv;exact h.imm b o v hv
  | some cs=>
   rw[e]at hv
   simp only at hv
   split at hv
   ·exact hv
   ·exact h.imm b o v hv
 ·obtain⟨cur,fz,h1,h2,h3,_⟩:=h.row b cap s E hr
  exact⟨cur,fz,h1,h2,h3,fun⟨x,hx⟩=>by cases hx⟩
 ·obtain⟨E',n',h1,h2⟩:=B5s ht
  cases h2
  exact h.ty b _ _ h1
end
def pA(G:Nat ->AV)(σ:AS)(a a':AV):Prop:=∀ K w u,aZ G K σ w ->VR K a u ->VR (K.lent σ w) a' u
inductive jU(G:Nat ->AV)(σ:AS):List AV ->List AV ->Prop
 |nil:jU G σ [] []
 |cons {a a':AV} {l l':List AV} (h:pA G σ a a') (t:jU G σ l l'):jU G σ (a::l) (a'::l')
theorem pA.id{G:Nat ->AV}{σ:AS}(a:AV):pA G σ a a:=fun K w u hr h=>h.lent hr
theorem pA.le{G:Nat ->AV}{σ:AS}{a b c:AV}(h:pA G σ a b)(k:Le b c):pA G σ a c:=fun K w u hr hv=>k _ _ (h K w u hr hv)
theorem jU.length{G:Nat ->AV}{σ:AS}{l l':List AV}(h:jU G σ l l'):l.length=l'.length:=by
 induction h with
 |nil=>rfl
 |cons _ _ ih=>simp[ih]
theorem jU.at_{G:Nat ->AV}{σ:AS}{l l':List AV}(h:jU G σ l l'):∀ j (h1:j < l.length) (h2:j < l'.length),pA G σ l[j] l'[j]:=by
 induction h with
 |nil=>intro j h1;cases h1
 | cons h _ ih=>
  intro j h1 h2
  cases j with
  |zero=>exact h
  |succ j=>exact ih j (by simpa using h1) (by simpa using h2)
theorem jU.append{G:Nat ->AV}{σ:AS}{a a' b b':List AV}(h:jU G σ a a')(k:jU G σ b b'):jU G σ (a++b) (a'++b'):=by
 induction h with
 |nil=>exact k
 |cons h _ ih=>exact .cons h ih
theorem pA.row {G:Nat ->AV} {σ:AS} {b s:Nat} {E:TypeId} {cs ds:List AV} (hb:σ.box b=some cs) (hl:jU G σ (cs.take ds.length) ds) (hd:ds.length <=cs.length) {xs sp:List AV} (hx:(xs++sp).flatMap flat=ds) (hs0:0 < s)
  (hsz:∀ e,e ∈ xs++sp -> (flat e).length=s /\ isv e=true /\ ∀ c,c ∈ flat e ->one c=true):pA G σ (.bs b xs.length s E) (.sl .none xs sp):=by
 intro K w u hr hv
 obtain⟨g1,g2,g3,g4,g5,c,F,hc,hs,hvv⟩:=hr.box b cs hb
 generalize hn:xs.length=n at hv
 cases hv with
 | bs _ _ _ cap _ hrow hn' hm=>
  obtain⟨cur,fz,h1,h2,h3,_⟩:=hr.row b cap s E hrow
  rw[hc]at h1
  simp only[Option.some.injEq,Obj.cells.injEq]at h1
  obtain⟨rfl,_,_⟩:=h1
  have hlen:ds.length=(xs.length+sp.length)*s:=by
   rw[<- hx]
   have:∀ l:List AV,(∀ e,e ∈ l -> (flat e).length=s) -> (l.flatMap flat).length=l.length*s:=by
    intro l
    induction l with
    |nil=>intro _;simp
    | cons x l ih=>
     intro h
     rw[List.flatMap_cons,List.length_append,h x (by simp),ih (fun e he=>h e (by simp[he])),List.length_cons,Nat.add_mul,Nat.one_mul,Nat.add_comm]
   rw[this _ (fun e he=> (hsz e he).1),List.length_append]
  have hcap:xs.length+sp.length <=cap:=by
   have:(xs.length+sp.length)*s <=cap*s:=by omega
   exact Nat.le_of_mul_le_mul_right this hs0
  have hval:=VR.sl (K:=K.lent σ w) .none xs sp s b 0 cap (fun j=>c.getD j Go.undef) hsz hcap hm
   (fun j hj=>by
     rw[hx]at hj
     rw[Nat.zero_add]
     unfold aJ.lent
     simp only[hb]
     rw[if_pos (by omega),cell_of_row w b j c F (0,0) hc]
     have:j < c.size:=by omega
     simp[this])
   (fun j hj=>by
     have hj':j < ds.length:=by rw[<- hx];exact hj
     have e:((xs++sp).flatMap flat)[j]=ds[j]:=by simp only[hx]
     rw[e]
     have h4:=hl.at_ j (by rw[List.length_take];omega) hj'
     have h5:(cs.take ds.length)[j]'(by rw[List.length_take];omega)=cs[j]'(by omega):=List.getElem_take
     rw[h5]at h4
     exact h4 K w _ hr (hvv j (by omega)))
   trivial
  rw[hn]at hval
  exact hval
theorem pA.agg{G:Nat ->AV}{σ:AS}{l l':List AV}(h:jU G σ l l')(h1:∀ c,c ∈ l' ->one c=true):pA G σ (.agg l) (.agg l'):=by
 intro K w u hr hv
 cases hv with
 | agg _ vs hl _ hv=>
  have hlen:=h.length
  exact .agg l' vs (by omega) h1 (fun j hj=>h.at_ j (by omega) hj K w _ hr (hv j (by omega)))
section
variable {G:Nat ->AV} {K K':aJ} {σ s:AS} {w w':World}
end
def Mk.row(n s:Nat)(E:TypeId)(cs:List AV):Mk:=⟨fun b=> .bs b n s E,cs⟩
end Go.Av
namespace Go.Av
open Go Go.RowKit
mutual
def gS:AV ->Bool
 | .undef=>true
 | .bool _=>true
 | .int _ _=>true
 | .str _=>true
 | .nil=>true
 | .sl _ xs sp=>gV xs && gV sp
 | .agg cs=>gV cs
 | .tup cs=>gV cs
 | .ptr _ _=>true
 | .rp cs=>gV cs
 | .nilptr=>true
 | .fn _ cs=>gV cs
 | .nilfn=>true
 | .bs _ _ _ _=>true
 | .bp _ _ _=>true
 | .raw _=>true
 | .tab _=>false
def gV:List AV ->Bool
 |[]=>true
 |a::l=>gS a && gV l
end
theorem eP:∀ (l:List AV),gV l=true ↔ ∀ a,a ∈ l ->gS a=true
 |[]=>by simp[gV]
 |a::l=>by simp[gV,eP l]
theorem A3n{a:AV}(h:gS a=true):∀ c,c ∈ flat a ->gS c=true:=by
 cases a with
 |agg cs=>intro c hc;exact(eP cs).1 (by simpa [gS] using h) c hc
 |_=>intro c hc;simp[flat]at hc;subst hc;exact h
theorem zY{l:List AV}(h:∀ a,a ∈ l ->gS a=true):∀ c,c ∈ l.flatMap flat ->gS c=true:=fun c hc=>by
 obtain⟨a,ha,hca⟩:=List.mem_flatMap.1 hc
 exact A3n (h a ha) c hca
theorem VR.mono3{K K':aJ}(hi:∀ b o v,K.imm b o=some v ->K'.imm b o=some v)(hr:∀ b x,K.row b=some x ->K'.row b=some x){a:AV}{v:Value}(k:VR K a v):gS a=true ->VR K' a v:=by
 induction k with
 |undef v=>intro _;exact .undef v
 |bool b=>intro _;exact .bool b
 |int k n=>intro _;exact .int k n
 |str s=>intro _;exact .str s
 |nil=>intro _;exact .nil
 | sl g xs sp sz b off cap f hsz hcap hml himm hv hg ih=>
  intro hn
  have hn':∀ a,a ∈ xs++sp ->gS a=true:=by
   simp only[gS,Bool.and_eq_true,eP]at hn
   intro a ha
   rcases List.mem_append.1 ha with h|h
   ·exact hn.1 a h
   ·exact hn.2 a h
  refine .sl g xs sp sz b off cap f hsz hcap hml (fun j hj=>hi _ _ _ (himm j hj)) (fun j hj=>ih j hj (zY hn' _ (List.getElem_mem hj))) ?_
  cases g with
  |none=>exact hg
  |full=>exact hg
  |own b'=>obtain⟨h1,h2,E,s,h3⟩:=hg;exact⟨h1,h2,E,s,hr _ _ h3⟩
 |sl0 a=>intro _;exact .sl0 a
 |agg cs vs hl h1 hv ih=>intro hn;exact .agg cs vs hl h1 fun j hj=>ih j hj ((eP cs).1 (by simpa [gS] using hn) _ (List.getElem_mem hj))
 |tup cs vs hl hv ih=>intro hn;exact .tup cs vs hl fun j hj=>ih j hj ((eP cs).1 (by simpa [gS] using hn) _ (List.getElem_mem hj))
 |ptr b o=>intro _;exact .ptr b o
 |rp cs b off f h1 himm hv ih=>intro hn;exact .rp cs b off f h1 (fun j hj=>hi _ _ _ (himm j hj)) fun j hj=>ih j hj ((eP cs).1 (by simpa [gS] using hn) _ (List.getElem_mem hj))
 |nilptr=>intro _;exact .nilptr
 |fn f caps vs hl hv ih=>intro hn;exact .fn f caps vs hl fun j hj=>ih j hj ((eP caps).1 (by simpa [gS] using hn) _ (List.getElem_mem hj))
 |nilfn=>intro _;exact .nilfn
 |bs b n s cap E hr' hn hm=>intro _;exact .bs b n s cap E (hr _ _ hr') hn hm
 |bp b s cap E hr'=>intro _;exact .bp b s cap E (hr _ _ hr')
 |raw v=>intro _;exact .raw v
 |tab vs b E fz hb hw=>intro hn;cases hn
def AS.minus(σ' σ:AS):AS:= {box:=fun b=>if(σ.box b).isNone && (σ.tip b).isNone then σ'.box b else none,tip:=fun _=>none,ty:=fun _=>none}
theorem AS.minus_le(σ' σ:AS):(σ'.minus σ).le σ':=by
 refine⟨fun b cs h=> ?_,fun _ _ h=> (by cases h),fun _ _ h=> (by cases h)⟩
 have h':(if(σ.box b).isNone && (σ.tip b).isNone then σ'.box b else none)=some cs:=h
 split at h'
 ·exact h'
 ·cases h'
theorem AS.minus_box{σ' σ:AS}{b:Nat}{cs:List AV}(h:σ'.box b=some cs)(h0:σ.box b=none)(h1:σ.tip b=none):(σ'.minus σ).box b=some cs:=by
 show(if(σ.box b).isNone && (σ.tip b).isNone then σ'.box b else none)=some cs
 rw[h0,h1];exact h
def aJ.kept(K:aJ)(σ:AS)(w:World):aJ:= {K with imm:=(K.lent σ w).imm}
theorem aZ.settle{G:Nat ->AV}{K:aJ}{σ σ':AS}{w:World}(h:aZ G K σ' w)(hl:σ.le σ'):aZ G (K.kept (σ'.minus σ) w) σ w:=by
 have h1:=h.weaken (AS.minus_le σ' σ)
 have hi:=sT h1
 have hk:K.le (K.kept (σ'.minus σ) w):=⟨hi,fun _ _ h=>h,rfl,rfl,fun _ _ h=>h⟩
 have h2:=h1.lent
 have hno:∀ b,(σ'.minus σ).box b=none ->∀ o,(K.kept (σ'.minus σ) w).imm b o=K.imm b o:=fun b hb o=>by
  unfold aJ.kept aJ.lent
  simp only[hb]
 have hnb:∀ b,(σ.box b).isNone=false \/ (σ.tip b).isNone=false -> (σ'.minus σ).box b=none:=fun b hb=>by
  show(if(σ.box b).isNone && (σ.tip b).isNone then σ'.box b else none)=none
  rcases hb with hb|hb <;>rw[hb] <;>simp
 refine⟨h2.imm,fun b cap s E hr=> ?_,fun b cs hb=> ?_,fun b n s ht=> ?_,fun b E n ht=> (h.ty b E n (hl.ty _ _ ht)).mono hk,fun g=> (h.glob g).mono hk,⟨h.below.b,fun b o ho=> ⟨(h.below.d b o ho).1,(h.below.d b o ho).2.1,fun a n e=> (h.below.d b o ho).2.2.1 a n (hl.ty _ _ e),(h.below.d b o ho).2.2.2⟩⟩,h.bs⟩
 ·obtain⟨cur,fz,q1,q2,q3,q4⟩:=h.row b cap s E hr
  exact⟨cur,fz,q1,q2,q3,fun⟨x,hx⟩=>q4 ⟨x,hl.tip _ _ hx⟩⟩
 ·obtain⟨q1,q2,q3,q4,q5,c,E,q6,q7,q8⟩:=h.box b cs (hl.box _ _ hb)
  refine⟨q1,?_,q3,fun o=>by rw[hno b (hnb b (.inl (by rw[hb];rfl)))];exact q4 o,q5,c,E,q6,q7,fun j hj=> (q8 j hj).mono hk⟩
  cases e:σ.tip b with
  |none=>rfl
  |some x=>rw[hl.tip _ _ e]at q2;cases q2
 ·obtain⟨q1,cap,E,q2,q3,q4⟩:=h.tip b n s (hl.tip _ _ ht)
  exact⟨q1,cap,E,q2,q3,fun o ho=>by rw[hno b (hnb b (.inr (by rw[ht];rfl)))];exact q4 o ho⟩
theorem aH.settle{P:Program}{G:Nat ->AV}{f:FuncId}{args:List AV}{σ:AS}{v:AV}(hv:gS v=true)(h:aH P G f args σ fun r σ'=>σ.le σ' /\ pA G (σ'.minus σ) r v):aH P G f args σ fun r σ'=>r=v /\ σ'=σ:=
 ⟨h.1,fun K w vals hr hvl=> (h.2 K w vals hr hvl).mono fun e w' ⟨u,r,σ',K',he,⟨hl,hL⟩,h1,h2,h3⟩=>by
   have q1:=h2.weaken (AS.minus_le σ' σ)
   have q2:=hL K' w' u q1 h1
   exact⟨u,v,σ,K'.kept (σ'.minus σ) w',he,⟨rfl,rfl⟩,VR.mono3 (K:=K'.lent (σ'.minus σ) w') (K':=K'.kept (σ'.minus σ) w') (fun _ _ _ h=>h) (fun _ _ h=>h) q2 hv,h2.settle hl,h3.trans ⟨sT q1,fun _ _ h=>h,rfl,rfl,fun _ _ h=>h⟩⟩⟩
section
variable {P:Program} {e:aK} {σ:AS}
end
end Go.Av
namespace Go.Av
open Go Go.RowKit
end Go.Av
set_option maxRecDepth 20000
namespace Go.Proofs.Ytinfbihcnonaoaa
open Go Go.Av
def D0c:=And.intro (And.intro (And.intro (And.intro @jN @rA) (And.intro @kI @gT)) (And.intro (And.intro @eC @kJ) (And.intro @jO (And.intro @gX @gC)))) (And.intro (And.intro (And.intro @gY @fP) (And.intro @jF (And.intro @jC @jE))) (And.intro (And.intro @jD @gF) (And.intro @cQ (And.intro @cP @cD))))
variable {G:Nat ->AV}
theorem A3i{σ:AS}{b:Nat}{a:AV}(f:FuncId)(hb:σ.box b=some [a]):pA G σ (.fn f [.ptr b 0]) (.fn f [.rp [a]]):=fun K w u hr hv=>by
 cases hv with
 | fn _ _ vs hl hvv=>
  refine .fn f _ vs (by simpa using hl) fun j hj=> ?_
  have hj0:j=0:=by simpa using hj
  subst hj0
  have h1:=hvv 0 (by simp)
  simp only[List.getElem_cons_zero]at h1 ⊢
  rw[VR.ptr_iff]at h1
  rw[h1]
  obtain⟨_,_,_,_,h5,c,E,hc,hs,hvc⟩:=hr.box b [a] hb
  have hs':0 < c.size:=Nat.lt_of_lt_of_le (by simp) hs
  have hcell:w.cell? ⟨b,0,none⟩=some (c.getD 0 Go.undef):=by
   simp[World.cell?,hc,hs']
  refine .rp _ b 0 (fun _=>c.getD 0 Go.undef) h5 (fun j hj=> ?_) (fun j hj=> ?_)
  ·have:j=0:=by simpa using hj
   subst this
   show(K.lent σ w).imm b (0+0)=_
   unfold aJ.lent
   simp only[hb]
   rw[if_pos (by simp)];exact hcell
  ·have:j=0:=by simpa using hj
   subst this
   exact(hvc 0 (by simp)).lent hr
theorem zZ(g:Gh)(ws:List Int)(f:FuncId):gS (.fn f [.rp [.sl g (ws.map eR) []]])=true:=by
 have h:gV (ws.map eR)=true:=(eP _).2 fun a ha=>by obtain⟨x,_,rfl⟩:=List.mem_map.1 ha;rfl
 simp[gS,gV,h]
set_option maxHeartbeats 1000000 in
theorem wJ(g:Gh)(ws:List Int)(σ:AS):aH Try.prog G 66 [.sl g (ws.map eR) []] σ fun r s=>r= .fn 95 [.rp [.sl g (ws.map eR) []]] /\ s=σ:=by
 refine aH.settle (zZ g ws _) ?_
 refine aH.of_awp aG Try.func66 rfl (by kernel_rfl) (by kernel_rfl) (by simp[Try.ntmps66]) Try.results66 ?_
 repeat'(first|refine xs ?_ ?_ <;>intros|(refine wn ?_;intro bx hbx;try simp only[fb]at hbx)|refine bE ?_|(refine aB ?_;intro bx hbx;(try simp only[fb]at hbx))|refine aD ?_|((with_reducible refine And.intro ?_ ?_);omega)|refine aA (d':=⟨⟩) ?_|refine bG (by kernel_rfl) ?_|refine bD ?_ (by repeat' first|exact lr _|assumption|refine ls ?_ ?_|refine lt ?_ ?_|simp only[*];done|simp only[fb, *,not_false_eq_true,and_self];done|exact lf ‹_› (by simp only[*]))|refine aC ?_ (by repeat' first|exact lr _|assumption|refine ls ?_ ?_|refine lt ?_ ?_|simp only[*];done|simp only[fb, *,not_false_eq_true,and_self];done|exact lf ‹_› (by simp only[*]))|simp -dsimp only[↓bp,bq,br,seval,D0c, *]|refine wz ?_|fail)
 exact⟨_,_,rfl,AS.le.refl _,(AS.le.refl σ).setBox hbx.1 _,A3i _ (AS.minus_box AS.set_get hbx.1 hbx.2.1)⟩
theorem HpF.newBox{σ0 σ:AS}{hb ab mb c:Nat}{oX oW oT:Option Nat}{X W T:AV}{p:PH}(h:HpF σ0 σ hb ab mb oX oW oT X W T p)(hc:σ.fresh c)(cs:List AV):HpF (σ0.setBox c cs) (σ.setBox c cs) hb ab mb oX oW oT X W T p:=by
 have hch:hb ≠ c:=fun e=>by have:=h.hbx;rw[e,hc.1]at this;cases this
 have hca:ab ≠ c:=fun e=>by have:=h.abx;rw[e,hc.1]at this;cases this
 refine⟨⟨fun b x hb=> ?_,h.le.tip,h.le.ty⟩,(if_neg hch).trans h.hbx,(if_neg hca).trans h.abx,(if_neg hch).trans h.h0,(if_neg hca).trans h.a0,h.ne,h.ty,h.m0,h.rX,h.rW,h.rT,h.d1,h.d2,h.d3,h.tl,h.room⟩
 have hb':(if b=c then some cs else σ0.box b)=some x:=hb
 show(if b=c then some cs else σ.box b)=some x
 split
 ·rename_i e;rw[if_pos e]at hb';exact hb'
 ·rename_i e;rw[if_neg e]at hb';exact h.le.box b x hb'
theorem Hp.newBox{σ0 σ:AS}{hb ab mb c:Nat}{p:PH}(h:Hp σ0 σ hb ab mb p)(hc:σ.fresh c)(cs:List AV):Hp (σ0.setBox c cs) (σ.setBox c cs) hb ab mb p:=by
 obtain⟨oX,oW,oT,X,W,T,h⟩:=h
 exact⟨oX,oW,oT,X,W,T,h.newBox hc cs⟩
theorem HpF.setBox{σ0 σ:AS}{hb ab mb c:Nat}{oX oW oT:Option Nat}{X W T:AV}{p:PH}(h:HpF σ0 σ hb ab mb oX oW oT X W T p){ds:List AV}(hc:σ0.box c=some ds)(cs:List AV):HpF (σ0.setBox c cs) (σ.setBox c cs) hb ab mb oX oW oT X W T p:=by
 have hch:hb ≠ c:=fun e=>by have:=h.h0;rw[e,hc]at this;cases this
 have hca:ab ≠ c:=fun e=>by have:=h.a0;rw[e,hc]at this;cases this
 refine⟨⟨fun b x hb=> ?_,h.le.tip,h.le.ty⟩,(if_neg hch).trans h.hbx,(if_neg hca).trans h.abx,(if_neg hch).trans h.h0,(if_neg hca).trans h.a0,h.ne,h.ty,h.m0,h.rX,h.rW,h.rT,h.d1,h.d2,h.d3,h.tl,h.room⟩
 have hb':(if b=c then some cs else σ0.box b)=some x:=hb
 show(if b=c then some cs else σ.box b)=some x
 split
 ·rename_i e;rw[if_pos e]at hb';exact hb'
 ·rename_i e;rw[if_neg e]at hb';exact h.le.box b x hb'
theorem Hp.setBox{σ0 σ:AS}{hb ab mb c:Nat}{p:PH}(h:Hp σ0 σ hb ab mb p){ds:List AV}(hc:σ0.box c=some ds)(cs:List AV):Hp (σ0.setBox c cs) (σ.setBox c cs) hb ab mb p:=by
 obtain⟨oX,oW,oT,X,W,T,h⟩:=h
 exact⟨oX,oW,oT,X,W,T,h.setBox hc cs⟩
theorem HpF.from{σ0 σ1 σ:AS}{hb ab mb:Nat}{oX oW oT:Option Nat}{X W T:AV}{p:PH}(h:HpF σ1 σ hb ab mb oX oW oT X W T p)(hl:σ0.le σ1):HpF σ0 σ hb ab mb oX oW oT X W T p:=by
 have nb:∀ b,σ1.box b=none ->σ0.box b=none:=fun b hb=>by
  cases e:σ0.box b with
  |none=>rfl
  |some x=>rw[hl.box _ _ e]at hb;cases hb
 have nt:∀ b,σ1.tip b=none ->σ0.tip b=none:=fun b hb=>by
  cases e:σ0.tip b with
  |none=>rfl
  |some x=>rw[hl.tip _ _ e]at hb;cases hb
 refine⟨hl.trans h.le,h.hbx,h.abx,nb _ h.h0,nb _ h.a0,h.ne,h.ty,?_,h.rX.keep (fun b e=>nt b (h.rX.free b e)) (fun _ _ _ h=>h),h.rW.keep (fun b e=>nt b (h.rW.free b e)) (fun _ _ _ h=>h),h.rT.keep (fun b e=>nt b (h.rT.free b e)) (fun _ _ _ h=>h),h.d1,h.d2,h.d3,h.tl,h.room⟩
 cases e:σ0.ty mb with
 |none=>rfl
 |some x=>have:=hl.ty _ _ e;rw[h.m0]at this;cases this
theorem Hp.from{σ0 σ1 σ:AS}{hb ab mb:Nat}{p:PH}(h:Hp σ1 σ hb ab mb p)(hl:σ0.le σ1):Hp σ0 σ hb ab mb p:=by
 obtain⟨oX,oW,oT,X,W,T,h⟩:=h
 exact⟨oX,oW,oT,X,W,T,h.from hl⟩
theorem Hp.le{σ0 σ:AS}{hb ab mb:Nat}{p:PH}(h:Hp σ0 σ hb ab mb p):σ0.le σ:=by
 obtain⟨oX,oW,oT,X,W,T,h⟩:=h
 exact h.le
theorem cA{σ:AS}{c:Nat}(hc:σ.box c=none)(cs:List AV):σ.le (σ.setBox c cs):=(AS.le.refl σ).setBox hc cs
def B9k(t:aE):Int:=if t.neg then -(val t.limbs:Int)else val t.limbs
def A7s(t:aE):Option Int:=if t.limbs.length <=2 /\ -576460752303423488 <=B9k t /\ B9k t < 576460752303423488 then some (B9k t)else none
def PH.addAtom(p:PH)(s:List UInt8):PH:= {p with atoms:=oC s p.atoms}
def gD:List Int ->Int ->PH ->PH × Int
 |[],r,p=> (p,r)
 |x::ws,r,p=> ((gD ws r p).1.lay 4 [x,(gD ws r p).2],dU 4 (gD ws r p).1.words.length)
mutual
def gA:aE ->PH ->PH × Int
 | .mk k g l s n ks ts,p=>
  if k=1 then(match A7s (.mk k g l s n ks ts)with
   |some v=> (p,dU 1 v)
   |none=>nE 2 (dU 1 (if g then 1 else 0)::l.map fun x=>dU 1 x.toNat) p)
  else if k=2 then(p.addAtom s,dU 2 (qR s p.atoms))
  else if k=3 then(p,dU 7 n)
  else if k=5 then(p,dU 6 n)
  else if k=6 then nE 1 (bN ks p).2 (bN ks p).1
  else if k=4 then nE 3 (dU 1 n::(bN ks p).2) (bN ks p).1
  else gD (bN ks (fX ts p (dU 3 0)).1).2 (fX ts p (dU 3 0)).2 (bN ks (fX ts p (dU 3 0)).1).1
def bN:List aE ->PH ->PH × List Int
 |[],p=> (p,[])
 |t::ts,p=> ((bN ts (gA t p).1).1,(gA t p).2::(bN ts (gA t p).1).2)
def fX:List aE ->PH ->Int ->PH × Int
 |[],p,r=> (p,r)
 |t::ts,p,_=>fX ts (gA t p).1 (gA t p).2
end
end Go.Proofs.Ytinfbihcnonaoaa
set_option maxRecDepth 20000
namespace Go.Proofs.Ytinfbihcnonaoaa
open Go Go.Av
variable {G:Nat ->AV}
theorem iJ(t:aE)(p:PH):gA t p=if t.kind=1 then(match A7s t with
   |some v=> (p,dU 1 v)
   |none=>nE 2 (dU 1 (if t.neg then 1 else 0)::t.limbs.map fun x=>dU 1 x.toNat) p)
  else if t.kind=2 then(p.addAtom t.text,dU 2 (qR t.text p.atoms))
  else if t.kind=3 then(p,dU 7 t.num)
  else if t.kind=5 then(p,dU 6 t.num)
  else if t.kind=6 then nE 1 (bN t.items p).2 (bN t.items p).1
  else if t.kind=4 then nE 3 (dU 1 t.num::(bN t.items p).2) (bN t.items p).1
  else gD (bN t.items (fX t.tail p (dU 3 0)).1).2 (fX t.tail p (dU 3 0)).2 (bN t.items (fX t.tail p (dU 3 0)).1).1:=by
 cases t;rw[gA];rfl
structure Gr(p q:PH)(w a:Nat):Prop where
 words:q.words.length <=p.words.length+w
 atoms:q.atoms.length <=p.atoms.length+a
 room:q.room=p.room
theorem Gr.trans{p q r:PH}{w a w' a':Nat}(h:Gr p q w a)(k:Gr q r w' a'):Gr p r (w+w') (a+a'):=⟨by have:=h.words;have:=k.words;omega,by have:=h.atoms;have:=k.atoms;omega,k.room.trans h.room⟩
theorem Gr.mono{p q:PH}{w a w' a':Nat}(h:Gr p q w a)(hw:w <=w')(ha:a <=a'):Gr p q w' a':=⟨by have:=h.words;omega,by have:=h.atoms;omega,h.room⟩
theorem Gr.refl(p:PH)(w a:Nat):Gr p p w a:=⟨by omega,by omega,rfl⟩
theorem A5x(s:List UInt8)(l:List (List UInt8)):(oC s l).length <=l.length+1:=by unfold oC;split <;>simp
theorem wN(kind:Int)(l:List Int)(p:PH):Gr p (nE kind l p).1 (l.length+1) 0:=⟨by simp[nE,PH.lay],by simp[nE,PH.lay],rfl⟩
theorem sH:∀ (ws:List Int) (r:Int) (p:PH),Gr p (gD ws r p).1 (2*ws.length) 0
 |[],r,p=>Gr.refl _ _ _
 | x::ws,r,p=>by
  have ih:=sH ws r p
  refine⟨?_,?_,ih.room⟩
  ·have:=ih.words
   simp only[gD,PH.lay,List.length_append,List.length_cons,List.length_nil];omega
  ·have:=ih.atoms
   simp only[gD,PH.lay];omega
def B6l(t:aE):Prop:=∀ p,Gr p (gA t p).1 (4*t.bulk - 2) t.bulk
theorem B0h(t:aE):1 <=t.bulk:=by cases t;rw[aE.bulk];omega
theorem fA:∀ (ks:List aE),(∀ k,k ∈ ks ->B6l k) ->∀ p,Gr p (bN ks p).1 (4*aL ks - 2*ks.length) (aL ks) /\ (bN ks p).2.length=ks.length /\ 2*ks.length <=4*aL ks
 |[],_,p=> ⟨by rw[bN];exact Gr.refl _ _ _,by rw[bN];rfl,by simp⟩
 | t::ts,h,p=>by
  have h1:=h t (by simp) p
  obtain⟨h2,h3,h4⟩:=fA ts (fun k hk=>h k (by simp[hk])) (gA t p).1
  have hb:=B0h t
  rw[bN,aL]
  refine⟨(h1.trans h2).mono ?_ (by omega),by simp[h3],?_⟩ <;>simp only[List.length_cons] <;>omega
theorem qY:∀ (ks:List aE),(∀ k,k ∈ ks ->B6l k) ->∀ p r,Gr p (fX ks p r).1 (4*aL ks) (aL ks)
 |[],_,p,r=>by rw[fX];exact Gr.refl _ _ _
 | t::ts,h,p,r=>by
  have h1:=h t (by simp) p
  have h2:=qY ts (fun k hk=>h k (by simp[hk])) (gA t p).1 (gA t p).2
  rw[fX,aL]
  exact(h1.trans h2).mono (by omega) (by omega)
theorem kX(t:aE):B6l t:=by
 refine aE.ind (P:=B6l) (fun t h1 h2 p=> ?_) t
 have hb:t.bulk=t.limbs.length+t.text.length+aL t.items+aL t.tail+1:=by cases t;rw[aE.bulk];rfl
 rw[iJ]
 split
 ·split
  ·exact Gr.refl _ _ _
  ·exact(wN _ _ _).mono (by simp only[List.length_cons,List.length_map];omega) (by omega)
 split
 ·refine⟨by simp[PH.addAtom],?_,rfl⟩
  have:=A5x t.text p.atoms
  simp only[PH.addAtom];omega
 split
 ·exact Gr.refl _ _ _
 split
 ·exact Gr.refl _ _ _
 obtain⟨i1,i2,i3⟩:=fA t.items h1 p
 split
 ·exact(i1.trans (wN _ _ _)).mono (by omega) (by omega)
 split
 ·exact(i1.trans (wN _ _ _)).mono (by simp only[List.length_cons];omega) (by omega)
 ·have l1:=qY t.tail h2 p (dU 3 0)
  obtain⟨i1,i2,i3⟩:=fA t.items h1 (fX t.tail p (dU 3 0)).1
  exact((l1.trans i1).trans (sH _ _ _)).mono (by omega) (by omega)
def Rm(p:PH)(b:Nat):Prop:=p.words.length+4*b <=500000 /\ p.atoms.length+b <=500000
theorem Rm.gr{p q:PH}{b w a c:Nat}(h:Rm p b)(hg:Gr p q w a)(hw:w+4*c <=4*b)(ha:a+c <=b):Rm q c:=⟨by have:=hg.words;have:=h.1;omega,by have:=hg.atoms;have:=h.2;omega⟩
def pB(G:Nat ->AV)(t:aE):Prop:=∀ (σ0 σ:AS) (hb ab mb:Nat) (p:PH),Hp σ0 σ hb ab mb p ->Rm p t.bulk ->aH Try.prog G 39 [.ptr hb 0,t.enc] σ fun r s=>r= .int .u64 (gA t p).2 /\ Hp σ0 s hb ab mb (gA t p).1
def rN(σ0:AS)(o:Option Nat)(n:Nat):AS:=match o with|some b=>σ0.setTip b (n,1)|none=>σ0
theorem qX{σ0:AS}{o:Option Nat}(h:∀ b,o=some b ->σ0.tip b=none)(n:Nat):σ0.le (rN σ0 o n):=by
 cases o with
 |none=>exact AS.le.refl _
 |some b=>exact(AS.le.refl σ0).setTip (h b rfl) _
theorem Hp.app{σ0 σ1 s s2:AS}{hb ab mb:Nat}{p:PH}{o o':Option Nat}{v:AV}{xs:List AV}(h:Hp σ1 s hb ab mb p)(hl:σ0.le σ1)(ho:∀ b,o=some b ->∃ x,σ1.tip b=some x)(h0:∀ b,o=some b ->σ0.tip b=none)(hc:Chg s o s2 o')(hr:Rw σ0.tip s2.tip o' v xs):Hp (rN σ0 o' xs.length) s2 hb ab mb p:=by
 have hF:=h.from hl
 obtain⟨oX,oW,oT,X,W,T,h⟩:=h
 have nd:∀ {o2:Option Nat} {t:Nat ->Option (Nat × Nat)} {u:AV} {ys:List AV},Rw σ1.tip t o2 u ys ->dj o o2:=fun hR c hc2 h2=>by
  obtain⟨x,hx⟩:=ho c hc2
  have:=hR.free c h2
  rw[hx]at this;cases this
 have nt:∀ b,σ1.tip b=none ->σ0.tip b=none:=fun b hb=>by
  cases e:σ0.tip b with
  |none=>rfl
  |some x=>rw[hl.tip _ _ e]at hb;cases hb
 have nb:∀ b,σ1.box b=none ->σ0.box b=none:=fun b hb=>by
  cases e:σ0.box b with
  |none=>rfl
  |some x=>rw[hl.box _ _ e]at hb;cases hb
 have mv:∀ {o2:Option Nat} {u:AV} {ys:List AV},Rw σ1.tip s.tip o2 u ys ->Rw (rN σ0 o' xs.length).tip s2.tip o2 u ys:=fun hR=>by
  have hd:=nd hR
  refine hR.keep (fun b hb=> ?_) (fun b x hb hx=>hc.tip b x (fun e=>hd b e hb) hx)
  have hb0:=nt b (hR.free b hb)
  cases o' with
  |none=>exact hb0
  | some b'=>
   have hne:b ≠ b':=fun e=>by
    subst e
    rcases hc.new b rfl with e2|e2
    ·exact hd b e2 hb
    ·have:=hR.tip b hb;rw[e2.2.1]at this;cases this
   show(if b=b' then _ else σ0.tip b)=none
   rw[if_neg hne];exact hb0
 have m0:σ0.ty mb=none:=by
  cases e:σ0.ty mb with
  |none=>rfl
  |some x=>have:=hl.ty _ _ e;rw[h.m0]at this;cases this
 have eb:(rN σ0 o' xs.length).box=σ0.box:=by cases o' <;>rfl
 have et:(rN σ0 o' xs.length).ty=σ0.ty:=by cases o' <;>rfl
 have hle:σ0.le s2:=hc.le (hl.trans h.le) h0
 have hle2:(rN σ0 o' xs.length).le s2:=by
  cases o' with
  |none=>exact hle
  | some b'=>
   refine⟨hle.box,fun b x hb=> ?_,hle.ty⟩
   have hb':(if b=b' then some (xs.length,1)else σ0.tip b)=some x:=hb
   split at hb'
   ·rename_i e;subst e;cases hb';exact hr.tip b rfl
   ·exact hle.tip b x hb'
 refine⟨oX,oW,oT,X,W,T,hle2,(congrFun hc.box hb).trans h.hbx,(congrFun hc.box ab).trans h.abx,?_,?_,h.ne,?_,?_,mv h.rX,mv h.rW,mv h.rT,h.d1,h.d2,h.d3,h.tl,h.room⟩
 ·rw[eb];exact nb _ h.h0
 ·rw[eb];exact nb _ h.a0
 ·obtain⟨k,hk⟩:=h.ty
  exact⟨k,(congrFun hc.ty mb).trans hk⟩
 ·rw[et];exact m0
theorem nM:∀ (l:List aE) (x:aE) (p:PH),bN (l++[x]) p=((gA x (bN l p).1).1,(bN l p).2++[(gA x (bN l p).1).2])
 |[],x,p=>by simp[bN]
 | t::l,x,p=>by
  have ih:=nM l x (gA t p).1
  rw[List.cons_append,bN,ih,bN];rfl
theorem lU(l:List aE)(i:Nat):aL (l.take i) <=aL l:=by
 induction l generalizing i with
 |nil=>simp
 | cons x l ih=>
  cases i with
  |zero=>simp[aL]
  |succ i=>rw[List.take_succ_cons,aL,aL];have:=ih i;omega
theorem sF(l:List aE)(x:aE):aL (l++[x])=aL l+x.bulk:=by
 induction l with
 |nil=>simp[aL]
 |cons y l ih=>rw[List.cons_append,aL,aL,ih];omega
end Go.Proofs.Ytinfbihcnonaoaa
set_option maxRecDepth 20000
namespace Go.Proofs.Ytinfbihcnonaoaa
open Go Go.Av
def vJ:=And.intro (And.intro (And.intro (And.intro (And.intro @jN @rA) (And.intro @kI @gT)) (And.intro (And.intro @eC @kJ) (And.intro @jO @gX))) (And.intro (And.intro (And.intro @gC @gY) (And.intro @fP @jF)) (And.intro (And.intro @jC @jE) (And.intro @jD (And.intro @gF @eY))))) (And.intro (And.intro (And.intro (And.intro @eZ @eQ) (And.intro @eJ @eW)) (And.intro (And.intro @cQ @cP) (And.intro @cD (And.intro @aE.flat_enc @aE.isv_enc)))) (And.intro (And.intro (And.intro @aE.fold_enc @aW) (And.intro @aO @aP)) (And.intro (And.intro @aM @aX) (And.intro @bP (And.intro @aQ @bJ)))))
variable {G:Nat ->AV}
theorem A4s{σ0 σ:AS}{o:Option Nat}{n c:Nat}{cs:List AV}(h:σ0.le σ)(hc:σ.fresh c)(ho:∀ b,o=some b ->σ0.tip b=none):σ0.le ((rN σ0 o n).setBox c cs):=
 (qX ho n).setBox (h.fresh hc).1 cs
theorem yN{σ0:AS}{o:Option Nat}{n:Nat} :∀ b,o=some b -> (rN σ0 o n).tip b=some (n,1):=fun b hb=>by
 subst hb
 show(if b=b then some (n,1)else _)=_
 rw[if_pos rfl]
theorem B4w{σ0 σ' s:AS}{c n:Nat}{cs:List AV}{o:Option Nat}{v:AV}{xs:List AV}(hR:Rw σ0.tip σ'.tip o v xs)(hn:xs.length=n)(hl:((rN σ0 o n).setBox c cs).le s):Rw σ0.tip s.tip o v xs:=
 hR.keep hR.free fun b x hb hx=>by
  have h1:=hR.tip b hb
  rw[hx]at h1
  cases h1
  refine hl.tip b _ ?_
  rw[hn]
  exact yN b hb
set_option maxHeartbeats 2000000 in
theorem zG{σ0 σ:AS}{hb ab mb c1:Nat}{p:PH}(h:Hp σ0 σ hb ab mb p)(hc1:σ0.box c1=some [.ptr hb 0])(ks:List aE)(ih:∀ k,k ∈ ks ->pB G k)(hrm:Rm p (aL ks)):
  aH Try.prog G 65 [bR ks, .ptr c1 0] σ fun r s=>r= .sl .none ((bN ks p).2.map eR) [] /\ Hp σ0 s hb ab mb (bN ks p).1:=by
 refine aH.tell (Q:=fun r s=>Le r (.sl .none ((bN ks p).2.map eR) []) /\ Hp σ0 s hb ab mb (bN ks p).1) ?_ (fun r s ⟨h1,h2⟩=> ⟨_,h1,rfl,h2⟩)
 have hlk:ks.length <=500000:=by
  have:=(fA ks (fun k _=>kX k) p).2.2
  have:=hrm.1
  omega
 refine aH.of_awp aG Try.func65 rfl (by kernel_rfl) (by kernel_rfl) (by simp[Try.ntmps65]) Try.results65 ?_
 repeat'(first|refine xs ?_ ?_ <;>intros|(refine wn ?_;intro bx hbx;try simp only[fb]at hbx)|refine bE ?_|(refine aB ?_;intro bx hbx;(try simp only[fb]at hbx))|refine aD ?_|((with_reducible refine And.intro ?_ ?_);omega)|refine aA (d':=⟨⟩) ?_|refine bG (by kernel_rfl) ?_|refine bD ?_ (by repeat' first|exact lr _|assumption|refine ls ?_ ?_|refine lt ?_ ?_|simp only[*];done|simp only[fb, *,not_false_eq_true,and_self];done|exact lf ‹_› (by simp only[*]))|refine aC ?_ (by repeat' first|exact lr _|assumption|refine ls ?_ ?_|refine lt ?_ ?_|simp only[*];done|simp only[fb, *,not_false_eq_true,and_self];done|exact lf ‹_› (by simp only[*]))|simp -dsimp only[↓bp,bq,br,seval,vJ, *]|refine wz ?_|fail)
 refine bM (fun m e σ'=>∃ (i:Nat) (o:Option Nat) (v:AV),e 9= .int .i64 i /\ e 4=v /\ i+m=ks.length /\ Hp (rN σ0 o i) σ' hb ab mb (bN (ks.take i) p).1 /\ Rw σ0.tip σ'.tip o v ((bN (ks.take i) p).2.map eR)) ks.length ⟨0,none, .nil,by simp -dsimp only[↓bp,bq,br,seval,vJ],by simp -dsimp only[↓bp,bq,br,seval,vJ],by omega,by simpa [bN,rN] using h,by rw[List.take_zero,bN];exact .nil⟩ ?_
 rintro m e σ' ⟨i,o,v,h9,h4,him,hH,hR⟩
 simp -dsimp only[↓bp,bq,br,seval,vJ]at h9 h4
 have hwi:IntKind.i64.wrap ((i:Int)+1)=((i+1:Nat):Int):=by rw[aF (by omega) (by omega)];omega
 by_cases hi:i < ks.length
 ·obtain⟨x,hx⟩:∃ x,ks[i]? =some x:=⟨ks[i],List.getElem?_eq_getElem hi⟩
  have hxm:x ∈ ks:=List.mem_of_getElem? hx
  have htk:ks.take (i+1)=ks.take i++[x]:=bV ks i x hx
  have c1':((i:Int) < ks.length)=True:=eq_true (by omega)
  have hg:=(fA (ks.take i) (fun k _=>kX k) p).1
  have hl2:=(fA (ks.take i) (fun k _=>kX k) p).2.1
  have hbt:aL (ks.take i)+x.bulk <=aL ks:=by
   rw[<- sF,<- htk];exact lU _ _
  have hrx:Rm (bN (ks.take i) p).1 x.bulk:=hrm.gr hg (by omega) (by omega)
  have hput:=ih x hxm
  have hbc:σ'.box c1=some [.ptr hb 0]:=(hH.le.box _ _ (by cases o <;>exact hc1))
  have hfr:∀ b,σ'.fresh b -> (c1=b)=False:=fun b hb=>eq_false fun e=>by subst e;rw[hb.1]at hbc;cases hbc
  have hpl:=(fA ks (fun k _=>kX k) p).2.2
  have hbk:=hrm.1
  clear hrm ih
  repeat'(first|refine xs ?_ ?_ <;>intros|(refine wn ?_;intro bx hbx;try simp only[fb]at hbx)|((refine aH.mono (hput _ _ hb ab mb _ (hH.newBox (by assumption) _) hrx) ?_;rintro r s ⟨rfl,hs⟩))|((refine wD (B4w hR (by rw[List.length_map,hl2,List.length_take];omega) hs.le) rfl ((A4s ((qX hR.free _).trans hH.le) (by assumption) hR.free).trans hs.le) C5w (iC qJ) (xV [_]) (by simp only[List.length_map,hl2,List.length_take,List.length_cons,List.length_nil];omega) (fun v2 σ2 o2 hR2 hC2=> ?_)))|refine bE ?_|(refine aB ?_;intro bx hbx;(try simp only[fb]at hbx))|refine aD ?_|((with_reducible refine And.intro ?_ ?_);omega)|refine aA (d':=⟨⟩) ?_|refine bG (by kernel_rfl) ?_|refine bD ?_ (by repeat' first|exact lr _|assumption|refine ls ?_ ?_|refine lt ?_ ?_|simp only[*];done|simp only[fb, *,not_false_eq_true,and_self];done|exact lf ‹_› (by simp only[*]))|refine aC ?_ (by repeat' first|exact lr _|assumption|refine ls ?_ ?_|refine lt ?_ ?_|simp only[*];done|simp only[fb, *,not_false_eq_true,and_self];done|exact lf ‹_› (by simp only[*]))|simp -dsimp only[↓bp,bq,br,seval,vJ,hwi,hx,hfr, *]|refine wz ?_|fail)
  have hA:=hs.app (A4s ((qX hR.free _).trans hH.le) (by assumption) hR.free) (fun b hb=> ⟨_,yN b hb⟩) hR.free hC2 hR2
  have hln:(List.map eR (bN (List.take i ks) p).2++[AV.int .u64 (gA x (bN (List.take i ks) p).1).2]).length=i+1:=by
   simp only[List.length_append,List.length_map,hl2,List.length_take,List.length_cons,List.length_nil];omega
  rw[hln]at hA
  refine⟨m - 1,by omega,i+1,o2,v2,rfl,rfl,by omega,?_,?_⟩
  ·rw[htk,nM];exact hA
  ·rw[htk,nM,List.map_append];exact hR2
 ·have c1':((i:Int) < ks.length)=False:=eq_false (by omega)
  obtain rfl:i=ks.length:=by omega
  rw[List.take_length]at hH hR
  have fin:Le v (.sl .none ((bN ks p).2.map eR) []) /\ Hp σ0 σ' hb ab mb (bN ks p).1:=⟨hR.told,hH.from (qX hR.free _)⟩
  clear hrm ih hH hR
  repeat'(first|refine xs ?_ ?_ <;>intros|(refine wn ?_;intro bx hbx;try simp only[fb]at hbx)|refine bE ?_|(refine aB ?_;intro bx hbx;(try simp only[fb]at hbx))|refine aD ?_|((with_reducible refine And.intro ?_ ?_);omega)|refine aA (d':=⟨⟩) ?_|refine bG (by kernel_rfl) ?_|refine bD ?_ (by repeat' first|exact lr _|assumption|refine ls ?_ ?_|refine lt ?_ ?_|simp only[*];done|simp only[fb, *,not_false_eq_true,and_self];done|exact lf ‹_› (by simp only[*]))|refine aC ?_ (by repeat' first|exact lr _|assumption|refine ls ?_ ?_|refine lt ?_ ?_|simp only[*];done|simp only[fb, *,not_false_eq_true,and_self];done|exact lf ‹_› (by simp only[*]))|simp -dsimp only[↓bp,bq,br,seval,vJ, *]|refine wz ?_|fail)
  exact dX _ (AS.le.refl _) fin
end Go.Proofs.Ytinfbihcnonaoaa
set_option maxRecDepth 20000
namespace Go.Proofs.Ytinfbihcnonaoaa
open Go Go.Av
def C2i:=And.intro (And.intro (And.intro (And.intro (And.intro @jN @rA) (And.intro @kI @gT)) (And.intro (And.intro @eC @kJ) (And.intro @jO @gX))) (And.intro (And.intro (And.intro @gC @gY) (And.intro @fP @jF)) (And.intro (And.intro @jC @jE) (And.intro @jD (And.intro @gF @eY))))) (And.intro (And.intro (And.intro (And.intro @eZ @eQ) (And.intro @eJ @eW)) (And.intro (And.intro @cQ @cP) (And.intro @cD (And.intro @aE.flat_enc @aE.isv_enc)))) (And.intro (And.intro (And.intro @aE.fold_enc @aW) (And.intro @aO @aP)) (And.intro (And.intro @aM @aX) (And.intro @bP (And.intro @aQ @bJ)))))
variable {G:Nat ->AV}
def iZ(σ:AS)(ab mb:Nat)(o:Option Nat):AS:= {box:=fun b=>if b=ab then none else σ.box b,tip:=fun b=>if o=some b then none else σ.tip b,ty:=fun b=>if b=mb then none else σ.ty b}
theorem vD(σ:AS)(ab mb:Nat)(o:Option Nat):(iZ σ ab mb o).le σ:=by
 refine⟨fun b x h=> ?_,fun b x h=> ?_,fun b x h=> ?_⟩
 ·have h':(if b=ab then none else σ.box b)=some x:=h
  split at h'
  ·cases h'
  ·exact h'
 ·have h':(if o=some b then none else σ.tip b)=some x:=h
  split at h'
  ·cases h'
  ·exact h'
 ·have h':(if b=mb then none else σ.ty b)=some x:=h
  split at h'
  ·cases h'
  ·exact h'
theorem B9t{σ0 σ:AS}{hb ab mb:Nat}{p:PH}(h:Hp σ0 σ hb ab mb p){s:List UInt8}(hs:s.length <=40)(hl:p.atoms.length <=1048576):
  aH Try.prog G 35 [.ptr ab 0, .str s] σ fun r s'=>r= .int .i64 (qR s p.atoms) /\ Hp σ0 s' hb ab mb (p.addAtom s):=by
 obtain⟨oX,oW,oT,X,W,T,h⟩:=h
 have hA:AtS (iZ σ ab mb oX) σ ab mb oX X p.atoms:=⟨vD _ _ _ _,h.abx,by simp[iZ],h.ty,by simp[iZ],h.rX.keep (fun b e=>by simp[iZ,e]) (fun _ _ _ h=>h)⟩
 refine(nL hA hs hl).mono ?_
 rintro r s' ⟨rfl,o',X',hB⟩
 refine⟨rfl,o',oW,oT,X',W,T,?_⟩
 have h0s:σ0.le (iZ σ ab mb oX):=by
  refine⟨fun b x hb=> ?_,fun b x hb=> ?_,fun b x hb=> ?_⟩
  ·show(if b=ab then none else σ.box b)=some x
   rw[if_neg (fun e=>by subst e;rw[h.a0]at hb;cases hb)];exact h.le.box b x hb
  ·show(if oX=some b then none else σ.tip b)=some x
   rw[if_neg (fun e=>by rw[h.rX.free b e]at hb;cases hb)];exact h.le.tip b x hb
  ·show(if b=mb then none else σ.ty b)=some x
   rw[if_neg (fun e=>by subst e;rw[h.m0]at hb;cases hb)];exact h.le.ty b x hb
 have kt:∀ {o2:Option Nat} {v:AV} {xs:List AV},Rw σ0.tip σ.tip o2 v xs ->dj oX o2 ->Rw σ0.tip s'.tip o2 v xs:=fun hR hd=>hR.keep hR.free fun b x hb hx=>hB.le.tip b x (by
  show(if oX=some b then none else σ.tip b)=some x
  rw[if_neg (fun e=>hd b e hb)];exact hx)
 have kd:∀ {o2:Option Nat} {v:AV} {xs:List AV},Rw σ0.tip σ.tip o2 v xs ->dj oX o2 ->dj o' o2:=fun hR hd c hc h2=>by
  have h3:=hB.row.free c hc
  have h4:(if oX=some c then none else σ.tip c)=none:=h3
  rw[if_neg (fun e=>hd c e h2),hR.tip c h2]at h4;cases h4
 have nt:∀ b,(iZ σ ab mb oX).tip b=none ->σ0.tip b=none:=fun b hb=>by
  cases e:σ0.tip b with
  |none=>rfl
  |some x=>rw[h0s.tip _ _ e]at hb;cases hb
 exact⟨h0s.trans hB.le,hB.le.box _ _ ((if_neg h.ne).trans h.hbx),hB.box,h.h0,h.a0,h.ne,hB.ty,h.m0,hB.row.keep (fun b e=>nt b (hB.row.free b e)) (fun _ _ _ h=>h),kt h.rW h.d1,kt h.rT h.d2,kd h.rW h.d1,kd h.rT h.d2,h.d3,h.tl,h.room⟩
theorem Hp.two{σ0 σ:AS}{hb ab mb c1 c2:Nat}{p:PH}(h:Hp σ0 σ hb ab mb p)(h1:σ.fresh c1)(h2:σ.fresh c2 /\ ¬ c2=c1 /\ ¬ c1=c2)(x y:List AV):Hp ((σ0.setBox c1 x).setBox c2 y) ((σ.setBox c1 x).setBox c2 y) hb ab mb p:=
 (h.newBox h1 x).newBox (dE.2 ⟨h2.1,h2.2.1⟩) y
theorem Hp.back{σ0 σ s:AS}{hb ab mb c1 c2:Nat}{p q:PH}{x y:List AV}(hs:Hp ((σ0.setBox c1 x).setBox c2 y) s hb ab mb q)(h:Hp σ0 σ hb ab mb p)(h1:σ.fresh c1)(h2:σ.fresh c2 /\ ¬ c2=c1 /\ ¬ c1=c2):Hp σ0 s hb ab mb q /\ s.box c1=some x /\ s.box c2=some y:=by
 have f1:=(h.le.fresh h1).1
 have f2:=(h.le.fresh h2.1).1
 refine⟨hs.from (((AS.le.refl σ0).setBox f1 x).setBox f2 y),?_,?_⟩
 ·exact hs.le.box _ _ ((if_neg h2.2.2).trans AS.set_get)
 ·exact hs.le.box _ _ AS.set_get
theorem fV{t:aE}{k:UInt8}(h:t.kind=k)(n:Int):(t.knd=n)=((k.toNat:Int)=n):=by unfold aE.knd;rw[h]
theorem bA{σ:AS}{hb:Nat}{cs:List AV}(h:σ.box hb=some cs):∀ b,σ.fresh b -> (hb=b)=False:=fun b hf=>eq_false fun e=>by subst e;rw[hf.1]at h;cases h
set_option maxHeartbeats 2000000 in
theorem B4o(t:aE)(hk:t.kind=2)(htx:t.text.length <=40):pB G t:=by
 intro σ0 σ hb ab mb p h hrm
 have hpe:gA t p=(p.addAtom t.text,dU 2 (qR t.text p.atoms)):=by rw[iJ,hk];simp
 rw[hpe]
 dsimp only
 have e1:(t.knd=1)=False:=by rw[fV hk];simp
 have e2:(t.knd=2)=True:=by rw[fV hk];simp
 have hal:p.atoms.length <=1048576:=by have:=hrm.2;omega
 have hm:=iT (G:=G) 2 (qR t.text p.atoms) (by omega) (by omega)
 obtain⟨oX,oW,oT,X,W,T,hF⟩:=id h
 have hbx:=hF.hbx
 have hfr:=bA hbx
 clear hF
 refine aH.of_awp aG Try.func39 rfl (by kernel_rfl) (by kernel_rfl) (by simp[Try.ntmps39]) Try.results39 ?_
 repeat'(first|refine xs ?_ ?_ <;>intros|(refine wn ?_;intro bx hbx;try simp only[fb]at hbx)|refine wp hm ?_|(refine sI 6 (by kernel_rfl) rfl rfl ?_)|((refine aH.mono (B9t (h.two (by assumption) (by assumption) _ _) htx hal) ?_;rintro r s ⟨rfl,hs⟩;replace hs:=hs.back h (by assumption) (by assumption);obtain⟨hs,hsa,hsb⟩:=hs))|refine bE ?_|(refine aB ?_;intro bx hbx;(try simp only[fb]at hbx))|refine aD ?_|((with_reducible refine And.intro ?_ ?_);omega)|refine aA (d':=⟨⟩) ?_|refine bG (by kernel_rfl) ?_|refine bD ?_ (by repeat' first|exact lr _|assumption|refine ls ?_ ?_|refine lt ?_ ?_|simp only[*];done|simp only[fb, *,not_false_eq_true,and_self];done|exact lf ‹_› (by simp only[*]))|refine aC ?_ (by repeat' first|exact lr _|assumption|refine ls ?_ ?_|refine lt ?_ ?_|simp only[*];done|simp only[fb, *,not_false_eq_true,and_self];done|exact lf ‹_› (by simp only[*]))|simp -dsimp only[↓bp,bq,br,seval,C2i,e1,e2,hfr, *]|refine wz ?_|fail)
 exact mL hs
theorem aC{σ0 σ:AS}{hb ab mb c1 c2:Nat}{p:PH}{v:AV}{x y:List AV}(h:Hp σ0 σ hb ab mb p)(h1:σ.fresh c1)(h2:σ.fresh c2 /\ ¬ c2=c1 /\ ¬ c1=c2){d:Dum ((σ.setBox c1 x).setBox c2 y)}{d':Dum fun r s'=>r=v /\ Hp σ0 s' hb ab mb p} :
  jK (some [v]) ((σ.setBox c1 x).setBox c2 y) (fun r s'=>r=v /\ Hp σ0 s' hb ab mb p) d d':=⟨[v],σ,rfl,(((AS.le.refl σ).setBox h1.1 x).setBox h2.1.1 y),rfl,h⟩
set_option maxHeartbeats 2000000 in
theorem C0k(t:aE)(hk:t.kind=1)(n:Int)(hn:A7s t=some n)(hl:aN Try.prog G 64 [t.enc] (.tup [.int .i64 n, .bool true])):pB G t:=by
 intro σ0 σ hb ab mb p h hrm
 have hpe:gA t p=(p,dU 1 n):=by rw[iJ,hk,hn];simp
 rw[hpe]
 dsimp only
 have e1:(t.knd=1)=True:=by rw[fV hk];simp
 have hm:=iT (G:=G) 1 n (by omega) (by omega)
 obtain⟨oX,oW,oT,X,W,T,hF⟩:=id h
 have hbx:=hF.hbx
 have hfr:=bA hbx
 clear hF
 refine aH.of_awp aG Try.func39 rfl (by kernel_rfl) (by kernel_rfl) (by simp[Try.ntmps39]) Try.results39 ?_
 repeat'(first|refine xs ?_ ?_ <;>intros|(refine wn ?_;intro bx hbx;try simp only[fb]at hbx)|refine wp hl ?_|refine wp hm ?_|refine bE ?_|(refine aB ?_;intro bx hbx;(try simp only[fb]at hbx))|refine aD ?_|((with_reducible refine And.intro ?_ ?_);omega)|refine aA (d':=⟨⟩) ?_|refine bG (by kernel_rfl) ?_|refine bD ?_ (by repeat' first|exact lr _|assumption|refine ls ?_ ?_|refine lt ?_ ?_|simp only[*];done|simp only[fb, *,not_false_eq_true,and_self];done|exact lf ‹_› (by simp only[*]))|refine aC ?_ (by repeat' first|exact lr _|assumption|refine ls ?_ ?_|refine lt ?_ ?_|simp only[*];done|simp only[fb, *,not_false_eq_true,and_self];done|exact lf ‹_› (by simp only[*]))|simp -dsimp only[↓bp,bq,br,seval,C2i,e1,hfr, *]|refine wz ?_|fail)
 exact aC h (by assumption) (by assumption)
theorem Rm.items{t:aE}{p:PH}(h:Rm p t.bulk):Rm p (aL t.items):=by
 have hb:t.bulk=t.limbs.length+t.text.length+aL t.items+aL t.tail+1:=by cases t;rw[aE.bulk];rfl
 exact h.gr (Gr.refl p 0 0) (by omega) (by omega)
end Go.Proofs.Ytinfbihcnonaoaa
namespace Go.Proofs.Ytinfbihcnonaoaa
open Go Go.Av
section
variable {P:Program} {G:Nat ->AV}
def A1f(P:Program)(G:Nat ->AV)(σb σ:AS)(e:aK)(n m:Nat)(sl:Nat ->Nat)(val:Nat ->AV)(Q:AV ->AS ->Prop):Nat ->List Oper ->Prop
 |_,[]=>True
 | k,o::r=> (o.dst=some (sl k) /\ ∀ e' σ',σb.le σ' -> (∀ j,j ∈ oS o ->j ≠ m ->e' (sl j)=val j) -> (∀ t,(∀ j,j < n ->sl j ≠ t) ->e' t=e t) ->
   (k=m ->σ'=σ ->dJ P G o e' σ Q) /\ (k ≠ m ->dJ P G o e' σ' (fun r s=>r=val k /\ s=σ'))) /\ A1f P G σb σ e n m sl val Q (k+1) r
def C6v(σ:AS)(e:aK)(n m:Nat)(sl:Nat ->Nat)(val:Nat ->AV)(Q:AV ->AS ->Prop)(D:Nat ->Bool)(e':aK)(σ':AS):Prop:=
 (∀ t,(∀ j,j < n ->sl j ≠ t) ->e' t=e t) /\ (∀ k,k < n ->k ≠ m ->D k=true ->e' (sl k)=val k) /\ (D m=true ->Q (e' (sl m)) σ') /\ (D m=false ->σ'=σ)
theorem A0v{σb σ:AS}(hb0:σb.le σ){e:aK}{n m:Nat}{sl:Nat ->Nat}{val:Nat ->AV}{Q:AV ->AS ->Prop}(hm:m < n)(hQ:∀ r s,Q r s ->σb.le s)(hi:∀ i,i < n ->∀ j,j < n ->sl i=sl j ->i=j):∀ (l:List Oper) (k:Nat),k+l.length <=n -> (∀ o,o ∈ l ->∀ j,j ∈ oS o ->j < n) ->A1f P G σb σ e n m sl val Q k l ->mE P G (C6v σ e n m sl val Q) k l
 |[],_,_,_,_=>trivial
 | o ::r,k,hl,hw,⟨⟨hd,h⟩,hr⟩=>by
  simp only[List.length_cons]at hl
  refine⟨?_,A0v hb0 hm hQ hi r (k+1) (by omega) (fun o' ho=>hw o' (List.mem_cons_of_mem _ ho)) hr⟩
  rintro D e' σ' hD hwt ⟨hfr,hv,hq,hn⟩
  have hle:σb.le σ':=by
   cases hDm:D m with
   |true=>exact hQ _ _ (hq hDm)
   |false=>rw[hn hDm];exact hb0
  obtain⟨ha,hb⟩:=h e' σ' hle (fun j hj hjm=>hv j (hw o List.mem_cons_self j hj) hjm (hwt j hj)) hfr
  have frame:∀ v t,(∀ j,j < n ->sl j ≠ t) -> (e'.upd (some (sl k)) v) t=e t:=fun v t ht=>by
   rw[<- hfr t ht]
   exact aK.upd_other fun y hy hyu=>by cases hy;exact ht k (by omega) hyu
  have other:∀ v j,j < n ->j ≠ k -> (e'.upd (some (sl k)) v) (sl j)=e' (sl j):=fun v j hj hjk=>
   aK.upd_other fun y hy hyu=>by cases hy;exact hjk (hi k (by omega) j hj hyu).symm
  have own:∀ v,(e'.upd (some (sl k)) v) (sl k)=v:=fun v=>by simp[aK.upd]
  have dn:∀ j,j ≠ k ->A4f D k j=D j:=fun j hj=>by unfold A4f;rw[if_neg hj]
  have dk:A4f D k k=true:=by unfold A4f;rw[if_pos rfl]
  by_cases hkm:k=m
  ·subst hkm
   have he:=hn hD
   subst he
   refine eB (fun v s hq'=> ?_) (ha rfl rfl)
   rw[hd]
   refine⟨frame v,fun j hj hjm hDj=> ?_,fun _=>by rw[own];exact hq',fun hx=>by rw[dk]at hx;cases hx⟩
   rw[other v j hj hjm]
   exact hv j hj hjm (by rw[<- dn j hjm];exact hDj)
  ·refine eB ?_ (hb hkm)
   rintro v s ⟨rfl,rfl⟩
   rw[hd]
   refine⟨frame _,fun j hj hjm hDj=> ?_,fun hx=> ?_,fun hx=>hn (by rw[<- dn m (Ne.symm hkm)];exact hx)⟩
   ·by_cases hjk:j=k
    ·subst hjk;exact own _
    ·rw[other _ j hj hjk];exact hv j hj hjm (by rw[<- dn j hjk];exact hDj)
   ·rw[other _ m hm (Ne.symm hkm)];exact hq (by rw[<- dn m (Ne.symm hkm)];exact hx)
theorem A6y {R:aK ->AS ->Prop} {e:aK} {σb σ:AS} (hb0:σb.le σ) {l:List Oper} {d:Dum l.toArray} {d':Dum R} {d2:Dum e} {d3:Dum σ} (n m:Nat) (sl:Nat ->Nat) (val:Nat ->AV) (Q:AV ->AS ->Prop) (hn:A0m l.toArray n=true) (hm:m < n) (hi:∀ i,i < n ->∀ j,j < n ->sl i=sl j ->i=j) (hQ:∀ r s,Q r s ->σb.le s)
  {hd tl:List Oper} (h1:l.take n=hd) (h2:l.drop n=tl) (hs:A1f P G σb σ e n m sl val Q 0 hd)
  (hq:∀ e' s,(∀ k,k < n ->k ≠ m ->e' (sl k)=val k) ->Q (e' (sl m)) s -> (∀ t,(∀ k,k < n ->sl k ≠ t) ->e' t=e t) ->cI P G l R tl e' s):uT P G l.toArray R e σ d d' d2 d3:=by
 refine B0y n (C6v σ e n m sl val Q) hn h1 h2 (fun _=> ⟨fun _ _=>rfl,fun k _ _ h=> (by cases h),fun h=> (by cases h),fun _=>rfl⟩) ?_ (fun D e' s hD ⟨hfr,hv,hq',_⟩=>hq e' s (fun k hk hkm=>hv k hk hkm (hD k hk)) (hq' (hD m hm)) hfr)
 unfold A0m at hn
 simp only[Bool.and_eq_true,decide_eq_true_eq,List.all_eq_true,List.mem_range]at hn
 obtain⟨⟨⟨hns,hb⟩,_⟩,_⟩:=hn
 refine A0v hb0 hm hQ hi hd 0 (by rw[<- h1];simp only[List.length_take];omega) (fun o ho j hj=> ?_) hs
 subst h1
 obtain⟨i,hio⟩:=List.getElem?_of_mem ho
 have hin:i < n:=by
  have:=(List.getElem?_eq_some_iff.1 hio).1
  simp only[List.length_take]at this;omega
 rw[List.getElem?_take_of_lt hin]at hio
 have:=hb i hin
 simp only[List.getElem?_toArray,hio,Bool.and_eq_true,List.all_eq_true,decide_eq_true_eq]at this
 have:=this.2 j hj
 omega
end
end Go.Proofs.Ytinfbihcnonaoaa
set_option maxRecDepth 20000
namespace Go.Proofs.Ytinfbihcnonaoaa
open Go Go.Av
def mW:=And.intro (And.intro (And.intro (And.intro (And.intro @jN @rA) (And.intro @kI @gT)) (And.intro (And.intro @eC @kJ) (And.intro @jO @gX))) (And.intro (And.intro (And.intro @gC @gY) (And.intro @fP @jF)) (And.intro (And.intro @jC @jE) (And.intro @jD (And.intro @gF @eY))))) (And.intro (And.intro (And.intro (And.intro @eZ @eQ) (And.intro @eJ @eW)) (And.intro (And.intro @cQ @cP) (And.intro @cD (And.intro @aE.flat_enc @aE.isv_enc)))) (And.intro (And.intro (And.intro @aE.fold_enc @aW) (And.intro @aO @aP)) (And.intro (And.intro @aM @aX) (And.intro @bP (And.intro @aQ @bJ)))))
variable {G:Nat ->AV}
def C1i(c1 c2:Nat)(x y:List AV):AS:= {box:=fun b=>if b=c1 then some x else if b=c2 then some y else none,tip:=fun _=>none,ty:=fun _=>none}
theorem A5d{c1 c2:Nat}{x y:List AV}{s:AS}(h1:s.box c1=some x)(h2:s.box c2=some y):(C1i c1 c2 x y).le s:=by
 refine⟨fun b z h=> ?_,fun _ _ h=> (by cases h),fun _ _ h=> (by cases h)⟩
 have h':(if b=c1 then some x else if b=c2 then some y else none)=some z:=h
 split at h'
 ·rename_i e;subst e;cases h';exact h1
 ·split at h'
  ·rename_i e;subst e;cases h';exact h2
  ·cases h'
theorem A8o{c1 c2:Nat}{x y:List AV}{s:AS}(h:(C1i c1 c2 x y).le s):s.box c1=some x:=h.box _ _ (if_pos rfl)
theorem A8p{c1 c2:Nat}{x y:List AV}{s:AS}(h:(C1i c1 c2 x y).le s)(ne: ¬ c2=c1):s.box c2=some y:=h.box _ _ ((if_neg ne).trans (if_pos rfl))
set_option maxHeartbeats 2000000 in
theorem A8e(t:aE)(hk:t.kind=6)(ih:∀ k,k ∈ t.items ->pB G k):pB G t:=by
 intro σ0 σ hb ab mb p h hrm
 have hpe:gA t p=nE 1 (bN t.items p).2 (bN t.items p).1:=by rw[iJ,hk];simp
 rw[hpe]
 have hbk:t.bulk=t.limbs.length+t.text.length+aL t.items+aL t.tail+1:=by cases t;rw[aE.bulk];rfl
 have hgr:=fA t.items (fun k _=>kX k) p
 have hb1:(bN t.items p).1.words.length+(bN t.items p).2.length <=1000000:=by
  have:=hgr.1.words;have:=hgr.2.1;have:=hgr.2.2;have:=hrm.1;omega
 have e1:(t.knd=1)=False:=by rw[fV hk];simp
 have e2:(t.knd=2)=False:=by rw[fV hk];simp
 have e3:(t.knd=3)=False:=by rw[fV hk];simp
 have e4:(t.knd=5)=False:=by rw[fV hk];simp
 have e5:(t.knd=6)=True:=by rw[fV hk];simp
 have hri:=hrm.items
 obtain⟨oX,oW,oT,X,W,T,hF⟩:=id h
 have hbx:=hF.hbx
 have hfr:=bA hbx
 clear hF hrm
 refine aH.of_awp aG Try.func39 rfl (by kernel_rfl) (by kernel_rfl) (by simp[Try.ntmps39]) Try.results39 ?_
 repeat'(first|(refine wn ?_;intro bx hbx;try simp only[fb]at hbx)|refine bE ?_|(refine aB ?_;intro bx hbx;(try simp only[fb]at hbx))|refine aD ?_|((with_reducible refine And.intro ?_ ?_);omega)|refine aA (d':=⟨⟩) ?_|refine bD ?_ (by repeat' first|exact lr _|assumption|refine ls ?_ ?_|refine lt ?_ ?_|simp only[*];done|simp only[fb, *,not_false_eq_true,and_self];done|exact lf ‹_› (by simp only[*]))|refine aC ?_ (by repeat' first|exact lr _|assumption|refine ls ?_ ?_|refine lt ?_ ?_|simp only[*];done|simp only[fb, *,not_false_eq_true,and_self];done|exact lf ‹_› (by simp only[*]))|simp -dsimp only[↓bp,bq,br,seval,mW,e1,e2,e3,e4,e5,hfr, *]|refine wz ?_|fail)
 rename_i c1 hc1
 have hb1':((σ.setBox c1 [.ptr hb 0]).setBox bx (flat t.enc)).box c1=some [.ptr hb 0]:=(if_neg hbx.2.2).trans AS.set_get
 have hb2':((σ.setBox c1 [.ptr hb 0]).setBox bx (flat t.enc)).box bx=some (flat t.enc):=AS.set_get
 have hfe:flat t.enc=[.int .u8 t.knd, .bool t.neg,cO t.limbs, .str t.text, .int .i64 t.num,bR t.items,bR t.tail]:=t.flat_enc
 refine A6y (σb:=C1i c1 bx [.ptr hb 0] (flat t.enc)) (by rw[<- hfe];exact A5d hb1' hb2') 5 4 (fun k=>75+k) (fun k=> [.ptr hb 0, .fn 65 [.ptr c1 0], .ptr bx 5,bR t.items].getD k .undef) (fun r s=>r= .sl .none ((bN t.items p).2.map eR) [] /\ Hp σ0 s hb ab mb (bN t.items p).1 /\ s.box c1=some [.ptr hb 0] /\ s.box bx=some (flat t.enc)) (by decide+kernel) (by decide) (by intro i _ j _ h;simpa using h) ?_ rfl rfl ?_ ?_
 ·rintro r s ⟨_,_,h1,h2⟩
  exact A5d h1 h2
 ·refine⟨?_,?_,?_,?_,?_,trivial⟩
  ·refine⟨rfl,fun e' s hs hw hf=> ⟨fun hk=>absurd hk (by decide),fun hk=> ?_⟩⟩
   have h0:=hf 2 (by decide)
   have hq:=A8o hs
   simp -dsimp only[↓bp,bq,br,seval,mW]at h0
   simp -dsimp only[↓bp,bq,br,seval,mW,h0,hq]
  ·refine⟨rfl,fun e' s hs hw hf=> ⟨fun hk=>absurd hk (by decide),fun hk=> ?_⟩⟩
   have h0:=hf 5 (by decide)
   simp -dsimp only[↓bp,bq,br,seval,mW]at h0
   simp -dsimp only[↓bp,bq,br,seval,mW,h0]
  ·refine⟨rfl,fun e' s hs hw hf=> ⟨fun hk=>absurd hk (by decide),fun hk=> ?_⟩⟩
   have h0:=hf 3 (by decide)
   simp -dsimp only[↓bp,bq,br,seval,mW]at h0
   simp -dsimp only[↓bp,bq,br,seval,mW,h0]
  ·refine⟨rfl,fun e' s hs hw hf=> ⟨fun hk=>absurd hk (by decide),fun hk=> ?_⟩⟩
   have h2:e' 77= .ptr bx 5:=hw 2 (by decide+kernel) (by decide)
   have hq:=A8p hs hbx.2.1
   rw[hfe]at hq
   simp -dsimp only[↓bp,bq,br,seval,mW,h2,hq]
  ·refine⟨rfl,fun e' s hs hw hf=> ⟨fun hk he=> ?_,fun hk=>absurd rfl hk⟩⟩
   have h1:e' 76= .fn 65 [.ptr c1 0]:=hw 1 (by decide+kernel) (by decide)
   have h3:e' 78=bR t.items:=hw 3 (by decide+kernel) (by decide)
   subst he
   simp -dsimp only[↓bp,bq,br,seval,mW,h1,h3]
   refine aH.mono (zG (h.two hc1 hbx _ _) ((if_neg hbx.2.2).trans AS.set_get) t.items ih hri) ?_
   rintro r s ⟨rfl,hs2⟩
   obtain⟨q1,q2,q3⟩:=hs2.back h hc1 hbx
   exact⟨rfl,q1,q2,by rw[hfe];exact q3⟩
 ·intro e' s hv hQ hf
  have hv0:e' 75= .ptr hb 0:=hv 0 (by decide) (by decide)
  obtain⟨hr,hs,hsa,hsb⟩:=hQ
  have hr':e' 79= .sl .none ((bN t.items p).2.map eR) []:=hr
  repeat'(first|refine xs ?_ ?_ <;>intros|(refine wn ?_;intro bx hbx;try simp only[fb]at hbx)|((refine aH.mono (B7c hs 1 _ (by omega) (by omega) hb1) ?_;rintro r s2 ⟨rfl,hs2⟩))|refine bE ?_|(refine aB ?_;intro bx hbx;(try simp only[fb]at hbx))|refine aD ?_|((with_reducible refine And.intro ?_ ?_);omega)|refine aA (d':=⟨⟩) ?_|refine bG (by kernel_rfl) ?_|refine bD ?_ (by repeat' first|exact lr _|assumption|refine ls ?_ ?_|refine lt ?_ ?_|simp only[*];done|simp only[fb, *,not_false_eq_true,and_self];done|exact lf ‹_› (by simp only[*]))|refine aC ?_ (by repeat' first|exact lr _|assumption|refine ls ?_ ?_|refine lt ?_ ?_|simp only[*];done|simp only[fb, *,not_false_eq_true,and_self];done|exact lf ‹_› (by simp only[*]))|simp -dsimp only[↓bp,bq,br,seval,mW,hv0,hr', *]|refine wz ?_|fail)
  exact mL hs2
end Go.Proofs.Ytinfbihcnonaoaa
set_option maxRecDepth 20000
namespace Go.Proofs.Ytinfbihcnonaoaa
open Go Go.Av
variable {G:Nat ->AV}
def sP:Option (mR × Nat) ->Bool
 |some (.ob _,_)=>true
 |_=>false
def noTy(s σ:AS):AS:= {s with ty:=fun b=>if sP (s.ty b)=true /\ sP (σ.ty b)=false then none else s.ty b}
theorem B9s(s σ:AS):(noTy s σ).le s:=by
 refine⟨fun _ _ h=>h,fun _ _ h=>h,fun b x h=> ?_⟩
 have h':(if sP (s.ty b)=true /\ sP (σ.ty b)=false then none else s.ty b)=some x:=h
 split at h'
 ·cases h'
 ·exact h'
theorem A8a{σ s σk:AS}(h:iI σ σk):iI σ (noTy s σk):=fun b a n hb=>by
 have hb':(if sP (s.ty b)=true /\ sP (σk.ty b)=false then none else s.ty b)=some (.ob a,n):=hb
 split at hb'
 ·cases hb'
 ·rename_i hn
  have h1:sP (s.ty b)=true:=by rw[hb'];rfl
  cases e:σk.ty b with
  |none=>exact absurd ⟨h1,by rw[e];rfl⟩ hn
  | some x=>
   obtain⟨x,m⟩:=x
   cases x with
   |t E=>exact absurd ⟨h1,by rw[e];rfl⟩ hn
   |ob o=>exact h b o m e
theorem Hp.noTy{σ0 σ s:AS}{hb ab mb hb2 ab2:Nat}{p q:PH}(h:Hp σ0 s hb ab mb p)(hσ:Hp σ0 σ hb2 ab2 mb q):Hp σ0 (noTy s σ) hb ab mb p:=by
 obtain⟨oX,oW,oT,X,W,T,h⟩:=h
 obtain⟨_,_,_,_,_,_,k⟩:=hσ
 refine⟨oX,oW,oT,X,W,T,⟨h.le.box,h.le.tip,fun b x hx=> ?_⟩,h.hbx,h.abx,h.h0,h.a0,h.ne,?_,h.m0,h.rX,h.rW,h.rT,h.d1,h.d2,h.d3,h.tl,h.room⟩
 ·show(if sP (s.ty b)=true /\ sP (σ.ty b)=false then none else s.ty b)=some x
  have h1:=h.le.ty b x hx
  have h2:=k.le.ty b x hx
  rw[if_neg]
  ·exact h1
  ·rw[h1,h2];rintro⟨a,b⟩;rw[a]at b;cases b
 ·obtain⟨j,hj⟩:=h.ty
  obtain⟨j2,hj2⟩:=k.ty
  refine⟨j,?_⟩
  show(if sP (s.ty mb)=true /\ sP (σ.ty mb)=false then none else s.ty mb)=_
  rw[if_neg]
  ·exact hj
  ·rw[hj2];rintro⟨_,b⟩;cases b
theorem aH.less{P:Program}{f:FuncId}{args:List AV}{σ:AS}{Q Q':AV ->AS ->Prop}(h:aH P G f args σ Q)(hq:∀ r s,Q r s ->∃ s',s'.le s /\ Q' r s'):aH P G f args σ Q':=
 ⟨h.1,fun K w vals hr hv=> (h.2 K w vals hr hv).mono fun e w' ⟨v,r,s,K',he,hQ,h1,h2,h3⟩=>by
   obtain⟨s',hl,hQ'⟩:=hq r s hQ
   exact⟨v,r,s',K',he,hQ',h1,h2.weaken hl,h3⟩⟩
theorem B4i{σ0 σ:AS}{hb ab mb:Nat}{p:PH}(h:Hp σ0 σ hb ab mb p)(g:Gh)(x r:Int)(hbd:p.words.length <=1000000):aH Try.prog G 53 [.ptr hb 0, .int .i64 4, .sl g [eR x, .int .u64 r] []] σ fun v s=>v= .int .i64 p.words.length /\ Hp σ0 s hb ab mb (p.lay 4 [x,r]) /\ ∀ σa,iI σa σ ->iI σa s:=by
 have h0:=h
 obtain⟨oX,oW,oT,X,W,T,h⟩:=h
 refine aH.weaken (.cons (Le.refl _) (.cons (Le.refl _) (.cons Le.gh .nil))) (aH.less (A4r h 4 [x,r] (by simp) (by simp only[List.length_cons,List.length_nil];omega)) ?_)
 rintro v s ⟨rfl,oW',oT',W',T',h2⟩
 exact⟨_,B9s s σ,rfl,Hp.noTy ⟨_,_,_,_,_,_,h2⟩ h0,fun σa ha=>A8a ha⟩
theorem vC:∀ (l:List aE) (x:aE) (p:PH) (r:Int),fX (l++[x]) p r=gA x (fX l p r).1
 |[],x,p,r=>by simp[fX]
 |t::l,x,p,r=>by rw[List.cons_append,fX,vC l x];rw[fX]
theorem C5s(p:PH)(r:Int):fX [] p r=(p,r):=by rw[fX]
def Rs(σ0:AS)(c1 c2 c3 hb:Nat)(y:List AV)(r:Int):AS:=((σ0.setBox c1 [.ptr hb 0]).setBox c2 y).setBox c3 [.int .u64 r]
theorem C2p{σ0:AS}{c1 c2 c3 hb:Nat}{y:List AV}{r r':Int} :(Rs σ0 c1 c2 c3 hb y r).setBox c3 [.int .u64 r']=Rs σ0 c1 c2 c3 hb y r':=qZ
theorem Hp.turn{σ0 s:AS}{c1 c2 c3 hb ab mb:Nat}{y:List AV}{r:Int}{p:PH}(h:Hp (Rs σ0 c1 c2 c3 hb y r) s hb ab mb p)(r':Int):Hp (Rs σ0 c1 c2 c3 hb y r') (s.setBox c3 [.int .u64 r']) hb ab mb p:=by
 have:=h.setBox (c:=c3) AS.set_get [.int .u64 r']
 rw[C2p]at this
 exact this
end Go.Proofs.Ytinfbihcnonaoaa
set_option maxRecDepth 20000
namespace Go.Proofs.Ytinfbihcnonaoaa
open Go Go.Av
def tF:=And.intro (And.intro (And.intro (And.intro (And.intro @jN @rA) (And.intro @kI @gT)) (And.intro (And.intro @eC @kJ) (And.intro @jO @gX))) (And.intro (And.intro (And.intro @gC @gY) (And.intro @fP @jF)) (And.intro (And.intro @jC @jE) (And.intro @jD (And.intro @gF @eY))))) (And.intro (And.intro (And.intro (And.intro @eZ @eQ) (And.intro @eJ @eW)) (And.intro (And.intro @cQ @cP) (And.intro @cD (And.intro @aE.flat_enc @aE.isv_enc)))) (And.intro (And.intro (And.intro @aE.fold_enc @aW) (And.intro @aO @aP)) (And.intro (And.intro @aM @aX) (And.intro @bP (And.intro @aQ @bJ)))))
variable {G:Nat ->AV}
theorem Rm.tail{t:aE}{p:PH}(h:Rm p t.bulk):Rm p (aL t.tail+aL t.items):=by
 have hb:t.bulk=t.limbs.length+t.text.length+aL t.items+aL t.tail+1:=by cases t;rw[aE.bulk];rfl
 exact h.gr (Gr.refl p 0 0) (by omega) (by omega)
theorem B6m{σ0:AS}{c1 c2 c3 hb:Nat}{y:List AV}{r:Int}(h2: ¬ c1=c2)(h3: ¬ c1=c3):(Rs σ0 c1 c2 c3 hb y r).box c1=some [.ptr hb 0]:=(if_neg h3).trans ((if_neg h2).trans AS.set_get)
theorem D0w{σ0:AS}{c1 c2 c3 hb:Nat}{y:List AV}{r:Int}(h3: ¬ c2=c3):(Rs σ0 c1 c2 c3 hb y r).box c2=some y:=(if_neg h3).trans AS.set_get
theorem A8x{σ0:AS}{c1 c2 c3 hb:Nat}{y:List AV}{r:Int} :(Rs σ0 c1 c2 c3 hb y r).box c3=some [.int .u64 r]:=AS.set_get
theorem sM{σ:AS}{c:Nat}{cs:List AV}(h:σ.box c=some cs):∀ b,σ.fresh b -> (c=b)=False:=bA h
theorem A6z(ws:List Int)(k:Nat)(h:k < ws.length):ws.drop (ws.length - (k+1))=(ws[ws.length - 1 - k]?.getD 0)::ws.drop (ws.length - k):=by
 have e:ws.length - (k+1)=ws.length - 1 - k:=by omega
 have e2:ws.length - k=ws.length - 1 - k+1:=by omega
 have hl:ws.length - 1 - k < ws.length:=by omega
 rw[e,e2,List.drop_eq_getElem_cons hl,List.getElem?_eq_getElem hl];rfl
set_option maxHeartbeats 4000000 in
theorem B4p(t:aE)(hk:t.kind=7)(ih:∀ k,k ∈ t.items ->pB G k)(ih2:∀ k,k ∈ t.tail ->pB G k):pB G t:=by
 intro σ0 σ hb ab mb p h hrm
 have hpe:gA t p=gD (bN t.items (fX t.tail p (dU 3 0)).1).2 (fX t.tail p (dU 3 0)).2 (bN t.items (fX t.tail p (dU 3 0)).1).1:=by rw[iJ,hk];simp
 rw[hpe]
 have e1:(t.knd=1)=False:=by rw[fV hk];simp
 have e2:(t.knd=2)=False:=by rw[fV hk];simp
 have e3:(t.knd=3)=False:=by rw[fV hk];simp
 have e4:(t.knd=5)=False:=by rw[fV hk];simp
 have e5:(t.knd=6)=False:=by rw[fV hk];simp
 have e6:(t.knd=4)=False:=by rw[fV hk];simp
 have hrt:=hrm.tail
 have hm3:=iT (G:=G) 3 0 (by omega) (by omega)
 have hfe:flat t.enc=[.int .u8 t.knd, .bool t.neg,cO t.limbs, .str t.text, .int .i64 t.num,bR t.items,bR t.tail]:=t.flat_enc
 obtain⟨oX,oW,oT,X,W,T,hF⟩:=id h
 have hfr:=bA hF.hbx
 clear hF hrm hpe
 generalize dU 3 0=r0 at*
 refine aH.of_awp aG Try.func39 rfl (by kernel_rfl) (by kernel_rfl) (by simp[Try.ntmps39]) Try.results39 ?_
 repeat'(first|refine xs ?_ ?_ <;>intros|(refine wn ?_;intro bx hbx;try simp only[fb]at hbx)|refine wp hm3 ?_|refine bE ?_|(refine aB ?_;intro bx hbx;(try simp only[fb]at hbx))|refine aD ?_|((with_reducible refine And.intro ?_ ?_);omega)|refine aA (d':=⟨⟩) ?_|refine bG (by kernel_rfl) ?_|refine bD ?_ (by repeat' first|exact lr _|assumption|refine ls ?_ ?_|refine lt ?_ ?_|simp only[*];done|simp only[fb, *,not_false_eq_true,and_self];done|exact lf ‹_› (by simp only[*]))|refine aC ?_ (by repeat' first|exact lr _|assumption|refine ls ?_ ?_|refine lt ?_ ?_|simp only[*];done|simp only[fb, *,not_false_eq_true,and_self];done|exact lf ‹_› (by simp only[*]))|simp -dsimp only[↓bp,bq,br,seval,tF,e1,e2,e3,e4,e5,e6,hfr, *]|refine wz ?_|fail)
 rename_i c1 hc1 c2 hc2
 have n12: ¬ c1=c2:=hc2.2.2
 have n13: ¬ c1=bx:=hbx.1.2.2
 have n23: ¬ c2=bx:=hbx.2.2
 have H0:Hp (Rs σ0 c1 c2 bx hb (flat t.enc) r0) (((σ.setBox c1 [.ptr hb 0]).setBox c2 (flat t.enc)).setBox bx [.int .u64 r0]) hb ab mb p:=(h.two hc1 hc2 _ _).newBox (dE.2 ⟨dE.2 ⟨hbx.1.1,hbx.1.2.1⟩,hbx.2.1⟩) _
 rw[hfe]at H0
 have hRl:∀ r,σ0.le (Rs σ0 c1 c2 bx hb (flat t.enc) r):=fun r=> (((AS.le.refl σ0).setBox (h.le.fresh hc1).1 _).setBox (h.le.fresh hc2.1).1 _).setBox (h.le.fresh hbx.1.1).1 _
 have hlt:t.tail.length <=500000:=by
  have:=(fA t.tail (fun k _=>kX k) p).2.2
  have:=hrt.1
  omega
 clear hm3 hfr
 refine bM (fun m e σ'=>∃ i:Nat,e 98= .int .i64 i /\ i+m=t.tail.length /\ Hp (Rs σ0 c1 c2 bx hb (flat t.enc) (fX (t.tail.take i) p r0).2) σ' hb ab mb (fX (t.tail.take i) p r0).1) t.tail.length ⟨0,by simp -dsimp only[↓bp,bq,br,seval,tF],by omega,by rw[List.take_zero,C5s,hfe];exact H0⟩ ?_
 rintro m e σ' ⟨i,h98,him,hH⟩
 simp -dsimp only[↓bp,bq,br,seval,tF]at h98
 have hwi:IntKind.i64.wrap ((i:Int)+1)=((i+1:Nat):Int):=by rw[aF (by omega) (by omega)];omega
 have hb1:=hH.le.box _ _ (B6m n12 n13)
 have hb2:=hH.le.box _ _ (D0w n23)
 have hb3:=hH.le.box _ _ A8x
 rw[hfe]at hb2
 have f1:=sM hb1
 have f3:=sM hb3
 have f2:=sM hb2
 clear H0
 by_cases hi:i < t.tail.length
 ·obtain⟨x,hx⟩:∃ x,t.tail[i]? =some x:=⟨t.tail[i],List.getElem?_eq_getElem hi⟩
  have hxm:x ∈ t.tail:=List.mem_of_getElem? hx
  have htk:t.tail.take (i+1)=t.tail.take i++[x]:=bV t.tail i x hx
  have c1':((i:Int) < t.tail.length)=True:=eq_true (by omega)
  have hbt:aL (t.tail.take i)+x.bulk <=aL t.tail:=by
   rw[<- sF,<- htk];exact lU _ _
  have hrx:Rm (fX (t.tail.take i) p r0).1 x.bulk:=hrt.gr (qY (t.tail.take i) (fun k _=>kX k) p r0) (by omega) (by omega)
  have hput:=ih2 x hxm
  clear hrt ih ih2
  repeat'(first|refine xs ?_ ?_ <;>intros|(refine wn ?_;intro bx hbx;try simp only[fb]at hbx)|((refine aH.mono (hput _ _ hb ab mb _ (hH.newBox (by assumption) _) hrx) ?_;rintro r s ⟨rfl,hs⟩;have g1:=hs.le.box _ _ ((if_neg (of_eq_false (f1 _ (by assumption)))).trans (B6m n12 n13));have g3:=hs.le.box _ _ ((if_neg (of_eq_false (f3 _ (by assumption)))).trans A8x)))|refine bE ?_|(refine aB ?_;intro bx hbx;(try simp only[fb]at hbx))|refine aD ?_|((with_reducible refine And.intro ?_ ?_);omega)|refine aA (d':=⟨⟩) ?_|refine bG (by kernel_rfl) ?_|refine bD ?_ (by repeat' first|exact lr _|assumption|refine ls ?_ ?_|refine lt ?_ ?_|simp only[*];done|simp only[fb, *,not_false_eq_true,and_self];done|exact lf ‹_› (by simp only[*]))|refine aC ?_ (by repeat' first|exact lr _|assumption|refine ls ?_ ?_|refine lt ?_ ?_|simp only[*];done|simp only[fb, *,not_false_eq_true,and_self];done|exact lf ‹_› (by simp only[*]))|simp -dsimp only[↓bp,bq,br,seval,tF,hwi,hx,f1,f2,f3, *]|refine wz ?_|fail)
  refine⟨m - 1,by omega,i+1,rfl,by omega,?_⟩
  rw[htk,vC]
  rw[<- hfe]
  exact(hs.from (cA (hH.le.fresh (by assumption)).1 _)).turn _
 ·have c1':((i:Int) < t.tail.length)=False:=eq_false (by omega)
  obtain rfl:i=t.tail.length:=by omega
  rw[List.take_length]at hH hb3
  have hgl:=qY t.tail (fun k _=>kX k) p r0
  generalize fX t.tail p r0=q at*
  obtain⟨p1,r1⟩:=q
  simp only at*
  have hri:Rm p1 (aL t.items):=hrt.gr hgl (by omega) (by omega)
  have hgs:=fA t.items (fun k _=>kX k) p1
  clear hgl
  repeat'(first|refine xs ?_ ?_ <;>intros|(refine wn ?_;intro bx hbx;try simp only[fb]at hbx)|((refine aH.mono (zG hH (B6m n12 n13) t.items ih hri) ?_;rintro r s ⟨rfl,hs⟩))|((refine aH.mono (wJ _ _ _) ?_;rintro r s2 ⟨rfl,rfl⟩))|refine bE ?_|(refine aB ?_;intro bx hbx;(try simp only[fb]at hbx))|refine aD ?_|((with_reducible refine And.intro ?_ ?_);omega)|refine aA (d':=⟨⟩) ?_|refine bG (by kernel_rfl) ?_|refine bD ?_ (by repeat' first|exact lr _|assumption|refine ls ?_ ?_|refine lt ?_ ?_|simp only[*];done|simp only[fb, *,not_false_eq_true,and_self];done|exact lf ‹_› (by simp only[*]))|refine aC ?_ (by repeat' first|exact lr _|assumption|refine ls ?_ ?_|refine lt ?_ ?_|simp only[*];done|simp only[fb, *,not_false_eq_true,and_self];done|exact lf ‹_› (by simp only[*]))|simp -dsimp only[↓bp,bq,br,seval,tF,f1,f2,f3, *]|refine wz ?_|fail)
  generalize bN t.items p1=q at*
  obtain⟨p2,ws⟩:=q
  simp only at*
  have hwl:ws.length <=1000000:=by have:=hgs.2;have:=hri.1;omega
  refine⟨_,_,lT ws,rfl,A7n ws hwl,fun x hx=>by obtain⟨y,_,rfl⟩:=List.mem_map.1 hx;rfl,fun k σ'=>Hp (Rs σ0 c1 c2 bx hb (flat t.enc) (gD (ws.drop (ws.length - k)) r1 p2).2) σ' hb ab mb (gD (ws.drop (ws.length - k)) r1 p2).1,?_,?_,?_⟩
  ·show Hp _ _ _ _ _ _
   rw[Nat.sub_zero,List.drop_length];exact hs
  ·intro k hk σk hHk hok
   have hkl:k < ws.length:=by simpa [lT] using hk
   have hit:(lT ws)[k]=[.int .i64 ((ws.length - 1 - k:Nat):Int), .int .u64 (ws[ws.length - 1 - k]?.getD 0)]:=by simp[lT,eR]
   have hdr:ws.drop (ws.length - (k+1))=(ws[ws.length - 1 - k]?.getD 0)::ws.drop (ws.length - k):=A6z ws k hkl
   have hcg:=sH (ws.drop (ws.length - k)) r1 p2
   rw[List.length_drop]at hcg
   have hbd:(gD (ws.drop (ws.length - k)) r1 p2).1.words.length <=1000000:=by
    have:=hcg.words;have:=hgs.1.words;have:=hri.1;have:=hgs.2;omega
   dsimp(config:= {proj:=false,iota:=false,zeta:=false}) only;rw[hit,hdr]
   clear hs hH h hgs hri hit hdr hcg hb1 hb2 hb3 f1 f2 f3 ih ih2 hrt him hi c1'
   simp only[uQ,gD]
   generalize ws[ws.length - 1 - k]?.getD 0=x
   generalize gD (ws.drop (ws.length - k)) r1 p2=q at*
   obtain⟨p3,r3⟩:=q
   simp only at*
   have hb1:=hHk.le.box _ _ (B6m n12 n13)
   have hb3:=hHk.le.box _ _ A8x
   have hm:=iT (G:=G) 4 p3.words.length (by omega) (by omega)
   repeat'(first|refine xs ?_ ?_ <;>intros|(refine wn ?_;intro bx hbx;try simp only[fb]at hbx)|((refine aH.mono (B4i hHk _ _ _ hbd) ?_;rintro r s ⟨rfl,hs,hob⟩;have hb3:=hs.le.box _ _ A8x))|refine wp hm ?_|refine bE ?_|(refine aB ?_;intro bx hbx;(try simp only[fb]at hbx))|refine aD ?_|((with_reducible refine And.intro ?_ ?_);omega)|refine aA (d':=⟨⟩) ?_|refine bG (by kernel_rfl) ?_|refine bD ?_ (by repeat' first|exact lr _|assumption|refine ls ?_ ?_|refine lt ?_ ?_|simp only[*];done|simp only[fb, *,not_false_eq_true,and_self];done|exact lf ‹_› (by simp only[*]))|refine aC ?_ (by repeat' first|exact lr _|assumption|refine ls ?_ ?_|refine lt ?_ ?_|simp only[*];done|simp only[fb, *,not_false_eq_true,and_self];done|exact lf ‹_› (by simp only[*]))|simp -dsimp only[↓bp,bq,br,seval,tF, *]|refine wz ?_|fail)
   rw[<- hfe]
   exact⟨hob _ hok,hs.turn _⟩
  ·intro σk hHk hok
   have hlI:(lT ws).length=ws.length:=by simp[lT]
   rw[hlI,Nat.sub_self,List.drop_zero]at hHk
   clear hs hH h hgs hri hb1 hb2 hb3 f1 f2 f3 ih ih2 hrt him hi c1'
   have hb3:=hHk.le.box _ _ A8x
   generalize gD ws r1 p2=q at*
   obtain⟨p3,r3⟩:=q
   simp only at*
   repeat'(first|refine xs ?_ ?_ <;>intros|(refine wn ?_;intro bx hbx;try simp only[fb]at hbx)|refine bE ?_|(refine aB ?_;intro bx hbx;(try simp only[fb]at hbx))|refine aD ?_|((with_reducible refine And.intro ?_ ?_);omega)|refine aA (d':=⟨⟩) ?_|refine bG (by kernel_rfl) ?_|refine bD ?_ (by repeat' first|exact lr _|assumption|refine ls ?_ ?_|refine lt ?_ ?_|simp only[*];done|simp only[fb, *,not_false_eq_true,and_self];done|exact lf ‹_› (by simp only[*]))|refine aC ?_ (by repeat' first|exact lr _|assumption|refine ls ?_ ?_|refine lt ?_ ?_|simp only[*];done|simp only[fb, *,not_false_eq_true,and_self];done|exact lf ‹_› (by simp only[*]))|simp -dsimp only[↓bp,bq,br,seval,tF, *]|refine wz ?_|fail)
   exact mL (hHk.from (hRl _))
end Go.Proofs.Ytinfbihcnonaoaa
set_option maxRecDepth 20000
namespace Go.Proofs.Ytinfbihcnonaoaa
open Go Go.Av
variable (G:Nat ->AV)
mutual
def C5x:aE ->aE ->Bool
 | .mk k g l s n ks ts,u=>decide ((k.toNat:Int)=u.knd) && (g==u.neg) && decide (l=u.limbs) && decide (s=u.text) && decide (n=u.num) && B5a ks u.items && B5a ts u.tail
def B5a:List aE ->List aE ->Bool
 |[],[]=>true
 |a::l,b::r=>C5x a b && B5a l r
 |_,_=>false
end
end Go.Proofs.Ytinfbihcnonaoaa
