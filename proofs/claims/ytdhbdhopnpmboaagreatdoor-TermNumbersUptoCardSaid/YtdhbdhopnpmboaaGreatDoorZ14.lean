/- The reference's integers: made of an amount and a sign. -/
import Derived.Test.YtdhbdhopnpmboaaGreatDoorZ13
import Derived.Test.YtdhbdhopnpmboaaGreatDoorZ10
set_option linter.unusedVariables false
set_option linter.unusedSimpArgs false
set_option maxRecDepth 20000
set_option linter.defProp false
namespace Go.Proofs.YtdhbdhopnpmboaaGreatDoor
open Go Go.Av
section
def eT:=And.intro (And.intro (And.intro (And.intro @jD @iZ) (And.intro @jJ (And.intro @eG @qI))) (And.intro (And.intro @tf2 @jE) (And.intro @dL (And.intro @eN @dV)))) (And.intro (And.intro (And.intro @eD @wT) (And.intro @lU (And.intro @kB @iU))) (And.intro (And.intro @lE @hU) (And.intro @aQ (And.intro @aM @aZ))))
variable (G:Nat ->AV)
theorem C7b:dU Tryz.prog 23=some (47,1,4):=dL.2.2.2.2.2.2
theorem C7a:el Tryz.prog 23=some 47:=dL.2.2.2.1
theorem aJ.wbufC {P:Program} {G:Nat ->AV} {f:FuncId} {args:List AV} {σ:AS} {n:Nat} {E:TypeId} {xs:List AV} {C:AV ->AV} {T:AV} (hh:∀ b m,Has b m n (C (.bs b m n E))) (hz:∀ b m ys,Frz b m n (.sl (.own b) ys []) (C (.bs b m n E)) (C (.sl (.own b) ys []))) (hl:∀ v,Le v (.sl .none xs []) ->Le (C v) T)
  (h:aJ P G f args σ fun r σ'=>∃ v,r=C v /\ fP n E σ σ' v xs):aJ P G f args σ fun r σ'=>Le r T /\ σ'=σ:=by
 refine aJ.back ⟨h.1,fun K w vals hr hv=> (h.2 K w vals hr hv).mono fun e w' ⟨v,r,σ',K',he,⟨x,hx,hQ⟩,h1,h2,h3⟩=> ?_⟩
 subst hx
 cases hQ with
 |nil hle=>exact⟨v,_,σ',K',he,⟨hl _ Le.nil,hle⟩,h1,h2,h3⟩
 | row b xs hle h0 ht hb hx=>
  obtain⟨cap,F,g1,g2,g3⟩:=hh b xs.length K' v h1
  obtain⟨K2,k1,k2,k3⟩:=oJ h2 hb ⟨rfl,rfl,hx⟩ g1 g2 g3
  exact⟨v,_,_,K2,he,⟨hl _ Le.gh,AS.froze_le hle h0 ht⟩,k3 _ _ _ (hz b xs.length xs) h1,k2,h3.trans k1⟩
theorem D8s(L:List UInt32):∀ a,a ∈ L.map bC -> (flat a).length=1 /\ isv a=true:=fun a ha=>by
 obtain⟨x,_,rfl⟩:=List.mem_map.1 ha
 exact⟨rfl,rfl⟩
theorem A4w(L:List UInt32):(L.map bC).flatMap flat=L.map bC:=by
 induction L with
 |nil=>rfl
 |cons x l ih=>rw[List.map_cons,List.flatMap_cons,ih];rfl
theorem D2e(L:List UInt32):(L++[0]).map bC=L.map bC++[.int .u32 0]:=by simp[bC]
theorem E1e{k:Nat}(h:k < 18446744073709551616):IntKind.u64.wrap (k:Int)=k:=by
 have e:IntKind.u64.wrap (k:Int)=(k:Int) % 18446744073709551616:=by first|rfl|simp[IntKind.wrap]
 rw[e];omega
structure TB(σ0 σ:AS)(b4 bt:Nat)(z:List AV)(g:Bool)(L:List UInt32)(v:AV):Prop where
 box:σ.box bt=some [.int .u8 1, .bool g,v, .str [], .int .i64 0, .nil, .nil]
 res:σ.box b4=some z
 buf:fP 1 47 σ0 σ v (L.map bC)
 n1:cS v bt
 n2:cS v b4
 ne:b4 ≠ bt
 o1:σ0.box bt=none
 o2:σ0.box b4=none
theorem TB.app{σ0 σ σ':AS}{b4 bt:Nat}{z:List AV}{g:Bool}{L:List UInt32}{v v':AV}(h:TB σ0 σ b4 bt z g L v)(ha:B7p 1 47 σ0 σ v (L.map bC++[.int .u32 0]) v' σ'):
  ∃ r,v'= .bs r (L.length+1) 1 47 /\ σ'.box bt=some [.int .u8 1, .bool g,v, .str [], .int .i64 0, .nil, .nil] /\ TB σ0 (σ'.setBox bt [.int .u8 1, .bool g, .bs r (L.length+1) 1 47, .str [], .int .i64 0, .nil, .nil]) b4 bt z g (L++[0]) (.bs r (L.length+1) 1 47):=by
 obtain⟨k1,k2⟩:=ha.keep bt _ h.box h.n1
 obtain⟨k3,k4⟩:=ha.keep b4 _ h.res h.n2
 obtain⟨r,e,g1,g2,g3⟩:=ha.buf.form (by simp)
 have hB:=ha.buf
 rw[e]at hB k2 k4
 rw[List.length_append,List.length_map,List.length_cons,List.length_nil]at e hB k2 k4
 refine⟨r,e,k1,by simp[AS.setBox],by simp only[AS.setBox,if_neg h.ne];exact k3,?_,k2,k4,h.ne,h.o1,h.o2⟩
 rw[D2e]
 exact hB.setOther h.o1 k2 _
theorem TB.row{σ0 σ:AS}{b4 bt:Nat}{z:List AV}{g:Bool}{L:List UInt32}{v:AV}(h:TB σ0 σ b4 bt z g L v)(hL:L ≠ []):∃ r,v= .bs r L.length 1 47 /\ σ.box r=some (L.map bC):=by
 obtain⟨r,e,g1,_⟩:=h.buf.form (by simpa using hL)
 rw[List.length_map]at e
 rw[A4w]at g1
 exact⟨r,e,g1⟩
theorem sC(L:List UInt32)(q:Nat)(h:q < L.length)(y:UInt32):(L.map bC).take q++[bC y]++(L.map bC).drop (q+1)=(L.set q y).map bC:=by
 rw[List.set_eq_take_append_cons_drop,if_pos h]
 simp
theorem TB.put{σ0 σ:AS}{b4 bt:Nat}{z:List AV}{g:Bool}{L:List UInt32}{r n:Nat}(h:TB σ0 σ b4 bt z g L (.bs r n 1 47))(hL:L ≠ [])(q:Nat)(y:UInt32):TB σ0 (σ.setBox r ((L.set q y).map bC)) b4 bt z g (L.set q y) (.bs r n 1 47):=by
 obtain⟨r',e,g1,g2,g3⟩:=h.buf.form (by simpa using hL)
 rw[List.length_map]at e
 simp only[AV.bs.injEq]at e
 obtain⟨rfl,rfl,_⟩:=e
 have n1:bt ≠ r:=h.n1
 have n2:b4 ≠ r:=h.n2
 refine⟨by simp only[AS.setBox,if_neg n1];exact h.box,by simp only[AS.setBox,if_neg n2];exact h.res,?_,h.n1,h.n2,h.ne,h.o1,h.o2⟩
 have hb:=fP.row (E:=47) (n:=1) (σ0:=σ0) (σ:=σ.setBox r ((L.set q y).map bC)) r ((L.set q y).map bC) (h.buf.le.setBox g2 _) g2 g3 (by rw[A4w];simp[AS.setBox]) (D8s _)
 rw[List.length_map,List.length_set]at hb
 exact hb
theorem TB.le{σ0 σ:AS}{b4 bt:Nat}{z:List AV}{g:Bool}{L:List UInt32}{v:AV}(h:TB σ0 σ b4 bt z g L v):σ0.le σ:=h.buf.le
theorem A5i{L:List UInt32}{l:List Bool}(hv:val L=bv l)(hl:L.length=(l.length+31) / 32):L=eM l:=by
 refine C3e ?_ ?_
 ·rw[hl,pU]
 ·rw[hv,tB]
theorem xY{i x:Nat}(hx:x < 2 ^ (i % 32)):x+2 ^ (i % 32) < 4294967296:=by
 have:2 ^ (i % 32) <=2 ^ 31:=Nat.pow_le_pow_right (by omega) (by omega)
 have h4:(2:Nat) ^ 31=2147483648:=by decide
 omega
theorem wG{L:List UInt32}{i:Nat}{x:UInt32}(hx:L[i / 32]? =some x)(ht:x.toNat < 2 ^ (i % 32)):val (L.set (i / 32) (UInt32.ofNat (x.toNat+2 ^ (i % 32))))=val L+2 ^ i:=by
 rw[C3g L (i / 32) x _ (2 ^ (i % 32)) hx (by rw[UInt32.toNat_ofNat',Nat.mod_eq_of_lt (xY ht)]),C6i]
theorem oZ{L:List UInt32}{q:Nat}{x:UInt32}(hx:L[q]? =some x):(L.map bC).drop q=AV.int .u32 x.toNat::(L.map bC).drop (q+1):=by
 have:(L.map bC)[q]? =some (bC x):=by rw[List.getElem?_map,hx];rfl
 rw[dC _ _ _ this];rfl
set_option maxHeartbeats 4000000 in
theorem D9u(l0:List Bool)(hl0:l0.length <=100000)(hc:(cL l0).length <=1024):aB Tryz.prog G 109 [fM l0, .bool false] (.tup [(jA false (eM (cL l0))).enc, .bool true]):=by
 have hcut:=pO G l0 (by omega)
 generalize cL l0=l at*
 have hgt:((1024:Int) < l.length)=False:=eq_false (by omega)
 refine aB.of_le fun σ=>aJ.wbufC (n:=1) (E:=47) (xs:=(eM l).map bC) (C:=fun v=> .tup [.agg [.int .u8 1, .bool false,v, .str [], .int .i64 0, .nil, .nil], .bool true]) ?_ ?_ ?_ ?_
 ·exact fun b m=>Has.tup 0 (by simp) (Has.agg 2 (by simp) Has.bs)
 ·intro b m ys
  refine .tup _ _ rfl fun j h1 h2=> ?_
  match j,h1 with
  | 0,_=>
   refine .agg _ _ rfl (fun c hc=>by simp at hc;rcases hc with rfl|rfl|rfl|rfl|rfl|rfl|rfl <;>rfl) fun j h1 h2=> ?_
   match j,h1 with
   |0,_=>exact .same _
   |1,_=>exact .same _
   |2,_=>exact .here _
   |3,_=>exact .same _
   |4,_=>exact .same _
   |5,_=>exact .same _
   |6,_=>exact .same _
  |1,_=>exact .same _
 ·exact fun v hv=>Le.tup (.cons (Le.trans (Le.agg (.cons (Le.refl _) (.cons (Le.refl _) (.cons hv (xZ.refl _)))) (fun d hd=>by simp at hd;rcases hd with rfl|rfl|rfl|rfl|rfl|rfl|rfl <;>rfl)) (yS _ _)) (.cons (Le.refl _) .nil))
 refine aJ.of_awp mixed Tryz.func109 rfl (by kernel_rfl) (by kernel_rfl) (by simp[Tryz.ntmps109]) Tryz.results109 ?_
 simp -dsimp only[↓bp,bq,br,seval,eT]
 refine aY fun b4 h4=> ?_
 obtain⟨S,hS⟩:∃ S,S=σ.setBox b4 [.int .u8 0, .bool false, .nil, .str [], .int .i64 0, .nil, .nil]:=⟨_,rfl⟩
 have hSb:S.box b4=some [.int .u8 0, .bool false, .nil, .str [], .int .i64 0, .nil, .nil]:=by rw[hS];simp[AS.setBox]
 have hle:σ.le S:=by rw[hS];exact(AS.le.refl σ).setBox h4.1 _
 rw[<- hS]
 clear hS
 repeat'(first|refine xs ?_ ?_ <;>intros|((first|refine q8h ?_|refine q8i ?_);intro bx hbx;(try simp only[fb]at hbx);try(have nn:=fresh_ne (c:=bx) hSb (by simp only[hbx])))|refine wp hcut ?_|refine wj ?_|simp -dsimp only[↓bp,bq,br,seval,eT, *]|refine wz ?_|fail)
 refine aI (fun n e σ'=>∃ (i:Nat) (L:List UInt32) (v:AV),i <=l.length /\ n=l.length - i /\ e 7= .int .i64 i /\ TB σ σ' b4 bx [.int .u8 0, .bool false, .nil, .str [], .int .i64 0, .nil, .nil] false L v /\ val L=bv (l.take i) /\ L.length=(i+31) / 32) l.length
  ⟨0,[], .nil,by omega,by omega,by first|(simp -dsimp only[↓bp,bq,br,seval,eT];done)|(simp -dsimp only[↓bp,bq,br,seval,eT];try rfl),⟨by simp[AS.setBox],by simp[AS.setBox,nn.1,hSb], .nil (hle.setBox (hle.fresh hbx).1 _),trivial,trivial,nn.1,(hle.fresh hbx).1,h4.1⟩,rfl,rfl⟩ ?_
 have ho:=(hle.fresh hbx).1
 clear nn hbx hle hSb
 rintro n e σ2 ⟨i,L,v,hi,rfl,h7,hT,hv,hl⟩
 simp -dsimp only[↓bp,bq,br,seval,eT]at h7
 have hbx2:=hT.box
 have hb42:=hT.res
 by_cases hlt:(i:Int) < l.length
 ·obtain⟨d,hx⟩:∃ d,l[i]? =some d:=⟨_,List.getElem?_eq_getElem (by omega)⟩
  have hlt':=eq_true hlt
  have hq:(i:Int).tdiv 32=((i / 32:Nat):Int):=rfl
  have hr:(i:Int).tmod 32=((i % 32:Nat):Int):=rfl
  have hwq:IntKind.i64.wrap ((i / 32:Nat):Int)=((i / 32:Nat):Int):=aC (by omega) (by omega)
  have hwr:IntKind.i64.wrap ((i % 32:Nat):Int)=((i % 32:Nat):Int):=aC (by omega) (by omega)
  have hwi:IntKind.i64.wrap ((i:Int)+1)=((i+1:Nat):Int):=by rw[aC (by omega) (by omega)];rfl
  have hur:IntKind.u64.wrap ((i % 32:Nat):Int)=((i % 32:Nat):Int):=E1e (by omega)
  have htk:=aW _ _ _ hx
  have hbnd:L.length <=40:=by omega
  have hbt:bv (l.take (i+1))=bv (l.take i)+2 ^ i*d.toNat:=by
   rw[htk,vV,List.length_take,Nat.min_eq_left (by omega)]
   simp[bv]
  have hlti:val L < 2 ^ i:=by
   rw[hv]
   refine Nat.lt_of_lt_of_le (B3z _) (Nat.pow_le_pow_right (by omega) ?_)
   rw[List.length_take];omega
  have hnext:∀ (L1:List UInt32) (σ5:AS) (v5:AV),TB σ σ5 b4 bx [.int .u8 0, .bool false, .nil, .str [], .int .i64 0, .nil, .nil] false L1 v5 ->val L1=bv (l.take (i+1)) ->L1.length=i / 32+1 ->∃ m,m < l.length - i /\ ∃ (i_1:Nat) (L:List UInt32) (v:AV),i_1 <=l.length /\ m=l.length - i_1 /\ AV.int .i64 ((i+1:Nat):Int)= .int .i64 i_1 /\ TB σ σ5 b4 bx [.int .u8 0, .bool false, .nil, .str [], .int .i64 0, .nil, .nil] false L v /\ val L=bv (l.take i_1) /\ L.length=(i_1+31) / 32:=
   fun L1 σ5 v5 h1 h2 h3=> ⟨l.length - (i+1),by omega,i+1,L1,v5,by omega,rfl,rfl,h1,h2,by omega⟩
  have hq32:i % 32 < 32:=by omega
  by_cases h32:i % 32=0
  ·have hc0:=eq_true (show((i % 32:Nat):Int)=0 by omega)
   cases d with
   | false=>
    have hfin:val (L++[0])=bv (l.take (i+1)):=by rw[jW,hbt,hv];simp[val]
    have hL1l:(L++[0]).length=i / 32+1:=by simp;omega
    clear hi hlt hcut h32 hlti hbt htk hq hwq hur hv hl hq32
    repeat'(first|refine xs ?_ ?_ <;>intros|(refine wn ?_;intro bx hbx;try simp only[fb]at hbx)|((refine gB (ys:=[.int .u32 0]) hT.buf C7b (bJ C7a) (fun a ha=>by simp at ha;subst ha;exact⟨rfl,rfl⟩) (by simp;omega) (fun v3 σ3 hA=> ?_);obtain⟨r,rfl,hk,hT1⟩:=hT.app hA))|refine wj ?_|simp -dsimp only[↓bp,bq,br,seval,eT, *]|refine wz ?_|fail)
    all_goals exact hnext _ _ _ hT1 hfin hL1l
   | true=>
    have hL1l:(L++[0]).length=i / 32+1:=by simp;omega
    have hL1v:val (L++[0])=bv (l.take i):=by rw[jW,hv];simp[val]
    have hap:∀ {v3:AV} {σ3:AS},B7p 1 47 σ σ2 v (L.map bC++[.int .u32 0]) v3 σ3 ->_:=fun {v3 σ3} hA=>hT.app hA
    have hm:L.length+1=i / 32+1:=by omega
    rw[hm]at hap
    clear hm
    generalize L++[0]=L1 at*
    have hlti':val L1 < 2 ^ i:=by rw[hL1v,<- hv];exact hlti
    obtain⟨x,hx1⟩:∃ x,L1[i / 32]? =some x:=⟨_,List.getElem?_eq_getElem (by omega)⟩
    have hxt:=wI hlti' hx1
    have hor:=A0r hq32 hxt
    rw[Int.toNat_natCast]at hor
    have hp0:=eq_false (show ¬ ((i % 32:Nat):Int) < 0 by omega)
    have hfin:=wG hx1 hxt
    have hya:((x.toNat+2 ^ (i % 32):Nat):Int)=((UInt32.ofNat (x.toNat+2 ^ (i % 32))).toNat:Int):=by rw[UInt32.toNat_ofNat',Nat.mod_eq_of_lt (xY hxt)]
    rw[hya]at hor
    clear hya
    have hset:=sC L1 (i / 32) (by omega) (UInt32.ofNat (x.toNat+2 ^ (i % 32)))
    have hL2l:(L1.set (i / 32) (UInt32.ofNat (x.toNat+2 ^ (i % 32)))).length=i / 32+1:=by rw[List.length_set];exact hL1l
    have hdrop:=oZ hx1
    have hcl:(L1.map bC).length=i / 32+1:=by rw[List.length_map];exact hL1l
    rw[hL1v]at hfin
    have hfin:val (L1.set (i / 32) (UInt32.ofNat (x.toNat+2 ^ (i % 32))))=bv (l.take (i+1)):=by rw[hfin,hbt];simp
    have hne1:L1 ≠ []:=fun e=>by rw[e]at hL1l;simp at hL1l
    generalize UInt32.ofNat (x.toNat+2 ^ (i % 32))=y at*
    have hset':∀ (r:Nat) (σ5:AS),TB σ σ5 b4 bx [.int .u8 0, .bool false, .nil, .str [], .int .i64 0, .nil, .nil] false L1 (.bs r (i / 32+1) 1 47) ->TB σ (σ5.setBox r ((L1.map bC).take (i / 32)++[AV.int .u32 y.toNat]++(L1.map bC).drop (i / 32+1))) b4 bx [.int .u8 0, .bool false, .nil, .str [], .int .i64 0, .nil, .nil] false (L1.set (i / 32) y) (.bs r (i / 32+1) 1 47):=fun r σ5 h5=>by
     have:=h5.put hne1 (i / 32) y
     rw[<- hset]at this
     exact this
    have hit:=eq_true (show((i / 32:Nat):Int) < ((i / 32+1:Nat):Int)by omega)
    have hle0:=eq_true (show i / 32+1 <=(L1.map bC).length by omega)
    clear hi hlt hcut h32 hlti hbt htk hv hl hL1v hq32 hL1l hlti' hx1 hxt hset
    generalize i / 32=q at*
    generalize i % 32=p at*
    generalize 2 ^ p=pw at*
    repeat'(first|refine xs ?_ ?_ <;>intros|(refine wn ?_;intro bx hbx;try simp only[fb]at hbx)|((refine gB (ys:=[.int .u32 0]) hT.buf C7b (bJ C7a) (fun a ha=>by simp at ha;subst ha;exact⟨rfl,rfl⟩) (by simp;omega) (fun v3 σ3 hA=> ?_);obtain⟨r,rfl,hk,hT1⟩:=hap hA;obtain⟨r',er,hr1⟩:=hT1.row hne1;obtain⟨rfl, -⟩:=AV.bs.inj er;have hT2:=hset' _ _ hT1;have hnr:(bx=r)=False:=eq_false hT1.n1;have hnr':(r=bx)=False:=eq_false (Ne.symm hT1.n1);simp only[AS.setBox,hnr',if_false]at hr1;clear er hA hT1))|refine wj ?_|simp -dsimp only[↓bp,bq,br,seval,eT,Nat.mul_one, *]|refine wz ?_|fail)
    all_goals exact hnext _ _ _ hT2 hfin hL2l
  ·have hc0:=eq_false (show ¬ ((i % 32:Nat):Int)=0 by omega)
   have hL1l:L.length=i / 32+1:=by omega
   cases d with
   | false=>
    have hfin:val L=bv (l.take (i+1)):=by rw[hbt,hv];simp
    clear hi hlt hcut h32 hlti hbt htk hq hwq hur hv hl hq32
    repeat'(first|refine xs ?_ ?_ <;>intros|(refine wn ?_;intro bx hbx;try simp only[fb]at hbx)|refine wj ?_|simp -dsimp only[↓bp,bq,br,seval,eT, *]|refine wz ?_|fail)
    all_goals exact hnext _ _ _ hT hfin hL1l
   | true=>
    have hL1v:=hv
    obtain⟨L1,hLL⟩:∃ L1,L1=L:=⟨_,rfl⟩
    rw[<- hLL]at hL1l hL1v hT
    have hlti':val L1 < 2 ^ i:=by rw[hL1v,<- hv];exact hlti
    obtain⟨x,hx1⟩:∃ x,L1[i / 32]? =some x:=⟨_,List.getElem?_eq_getElem (by omega)⟩
    have hxt:=wI hlti' hx1
    have hor:=A0r hq32 hxt
    rw[Int.toNat_natCast]at hor
    have hp0:=eq_false (show ¬ ((i % 32:Nat):Int) < 0 by omega)
    have hfin:=wG hx1 hxt
    have hya:((x.toNat+2 ^ (i % 32):Nat):Int)=((UInt32.ofNat (x.toNat+2 ^ (i % 32))).toNat:Int):=by rw[UInt32.toNat_ofNat',Nat.mod_eq_of_lt (xY hxt)]
    rw[hya]at hor
    clear hya
    have hset:=sC L1 (i / 32) (by omega) (UInt32.ofNat (x.toNat+2 ^ (i % 32)))
    have hL2l:(L1.set (i / 32) (UInt32.ofNat (x.toNat+2 ^ (i % 32)))).length=i / 32+1:=by rw[List.length_set];exact hL1l
    have hdrop:=oZ hx1
    have hcl:(L1.map bC).length=i / 32+1:=by rw[List.length_map];exact hL1l
    rw[hL1v]at hfin
    have hfin:val (L1.set (i / 32) (UInt32.ofNat (x.toNat+2 ^ (i % 32))))=bv (l.take (i+1)):=by rw[hfin,hbt];simp
    have hne1:L1 ≠ []:=fun e=>by rw[e]at hL1l;simp at hL1l
    generalize UInt32.ofNat (x.toNat+2 ^ (i % 32))=y at*
    have hset':∀ (r:Nat) (σ5:AS),TB σ σ5 b4 bx [.int .u8 0, .bool false, .nil, .str [], .int .i64 0, .nil, .nil] false L1 (.bs r (i / 32+1) 1 47) ->TB σ (σ5.setBox r ((L1.map bC).take (i / 32)++[AV.int .u32 y.toNat]++(L1.map bC).drop (i / 32+1))) b4 bx [.int .u8 0, .bool false, .nil, .str [], .int .i64 0, .nil, .nil] false (L1.set (i / 32) y) (.bs r (i / 32+1) 1 47):=fun r σ5 h5=>by
     have:=h5.put hne1 (i / 32) y
     rw[<- hset]at this
     exact this
    have hit:=eq_true (show((i / 32:Nat):Int) < ((i / 32+1:Nat):Int)by omega)
    have hle0:=eq_true (show i / 32+1 <=(L1.map bC).length by omega)
    obtain⟨r,rfl,hr1⟩:=hT.row hne1
    rw[hL1l]at hT hbx2
    have hT2:=hset' _ _ hT
    have hnr:(bx=r)=False:=eq_false hT.n1
    have hnr':(r=bx)=False:=eq_false (Ne.symm hT.n1)
    clear hi hlt hcut h32 hlti hbt htk hv hl hL1v hq32 hL1l hlti' hx1 hxt hset hLL hT
    generalize i / 32=q at*
    generalize i % 32=p at*
    generalize 2 ^ p=pw at*
    repeat'(first|refine xs ?_ ?_ <;>intros|(refine wn ?_;intro bx hbx;try simp only[fb]at hbx)|refine wj ?_|simp -dsimp only[↓bp,bq,br,seval,eT,Nat.mul_one, *]|refine wz ?_|fail)
    all_goals exact hnext _ _ _ hT2 hfin hL2l
 ·have:i=l.length:=by omega
  subst this
  rw[List.take_length]at hv
  have hLL:=A5i hv hl
  subst hLL
  have hirr:=eq_false (Int.lt_irrefl (l.length:Int))
  have hfin:fP 1 47 σ (σ2.setBox b4 [.int .u8 1, .bool false,v, .str [], .int .i64 0, .nil, .nil]) v ((eM l).map bC):=hT.buf.setOther h4.1 hT.n2 _
  clear hlt hi hv hl hT
  repeat'(first|refine xs ?_ ?_ <;>intros|(refine wn ?_;intro bx hbx;try simp only[fb]at hbx)|refine wj ?_|simp -dsimp only[↓bp,bq,br,seval,eT,gP,iJ,gO,gQ, *]|refine wz ?_|fail)
  exact aE _ (AS.le.refl _) ⟨v,rfl,hfin⟩
set_option maxHeartbeats 4000000 in
theorem D9v(l0:List Bool)(hl0:l0.length <=100000)(hc:(cL l0).length <=1024)(hp:0 < (cL l0).length):aB Tryz.prog G 109 [fM l0, .bool true] (.tup [(jA true (eM (cL l0))).enc, .bool true]):=by
 have hcut:=pO G l0 (by omega)
 generalize cL l0=l at*
 have hgt:((1024:Int) < l.length)=False:=eq_false (by omega)
 refine aB.of_le fun σ=>aJ.wbufC (n:=1) (E:=47) (xs:=(eM l).map bC) (C:=fun v=> .tup [.agg [.int .u8 1, .bool true,v, .str [], .int .i64 0, .nil, .nil], .bool true]) ?_ ?_ ?_ ?_
 ·exact fun b m=>Has.tup 0 (by simp) (Has.agg 2 (by simp) Has.bs)
 ·intro b m ys
  refine .tup _ _ rfl fun j h1 h2=> ?_
  match j,h1 with
  | 0,_=>
   refine .agg _ _ rfl (fun c hc=>by simp at hc;rcases hc with rfl|rfl|rfl|rfl|rfl|rfl|rfl <;>rfl) fun j h1 h2=> ?_
   match j,h1 with
   |0,_=>exact .same _
   |1,_=>exact .same _
   |2,_=>exact .here _
   |3,_=>exact .same _
   |4,_=>exact .same _
   |5,_=>exact .same _
   |6,_=>exact .same _
  |1,_=>exact .same _
 ·exact fun v hv=>Le.tup (.cons (Le.trans (Le.agg (.cons (Le.refl _) (.cons (Le.refl _) (.cons hv (xZ.refl _)))) (fun d hd=>by simp at hd;rcases hd with rfl|rfl|rfl|rfl|rfl|rfl|rfl <;>rfl)) (yS _ _)) (.cons (Le.refl _) .nil))
 refine aJ.of_awp mixed Tryz.func109 rfl (by kernel_rfl) (by kernel_rfl) (by simp[Tryz.ntmps109]) Tryz.results109 ?_
 simp -dsimp only[↓bp,bq,br,seval,eT]
 refine aY fun b4 h4=> ?_
 obtain⟨S,hS⟩:∃ S,S=σ.setBox b4 [.int .u8 0, .bool false, .nil, .str [], .int .i64 0, .nil, .nil]:=⟨_,rfl⟩
 have hSb:S.box b4=some [.int .u8 0, .bool false, .nil, .str [], .int .i64 0, .nil, .nil]:=by rw[hS];simp[AS.setBox]
 have hle:σ.le S:=by rw[hS];exact(AS.le.refl σ).setBox h4.1 _
 rw[<- hS]
 have hp:((0:Int) < l.length)=True:=eq_true (by omega)
 clear hS
 repeat'(first|refine xs ?_ ?_ <;>intros|((first|refine q8h ?_|refine q8i ?_);intro bx hbx;(try simp only[fb]at hbx);try(have nn:=fresh_ne (c:=bx) hSb (by simp only[hbx])))|refine wp hcut ?_|refine wj ?_|simp -dsimp only[↓bp,bq,br,seval,eT, *]|refine wz ?_|fail)
 clear hp
 refine aI (fun n e σ'=>∃ (i:Nat) (L:List UInt32) (v:AV),i <=l.length /\ n=l.length - i /\ e 7= .int .i64 i /\ TB σ σ' b4 bx [.int .u8 0, .bool false, .nil, .str [], .int .i64 0, .nil, .nil] true L v /\ val L=bv (l.take i) /\ L.length=(i+31) / 32) l.length
  ⟨0,[], .nil,by omega,by omega,by first|(simp -dsimp only[↓bp,bq,br,seval,eT];done)|(simp -dsimp only[↓bp,bq,br,seval,eT];try rfl),⟨by simp[AS.setBox],by simp[AS.setBox,nn.1,hSb], .nil (hle.setBox (hle.fresh hbx).1 _),trivial,trivial,nn.1,(hle.fresh hbx).1,h4.1⟩,rfl,rfl⟩ ?_
 have ho:=(hle.fresh hbx).1
 clear nn hbx hle hSb
 rintro n e σ2 ⟨i,L,v,hi,rfl,h7,hT,hv,hl⟩
 simp -dsimp only[↓bp,bq,br,seval,eT]at h7
 have hbx2:=hT.box
 have hb42:=hT.res
 by_cases hlt:(i:Int) < l.length
 ·obtain⟨d,hx⟩:∃ d,l[i]? =some d:=⟨_,List.getElem?_eq_getElem (by omega)⟩
  have hlt':=eq_true hlt
  have hq:(i:Int).tdiv 32=((i / 32:Nat):Int):=rfl
  have hr:(i:Int).tmod 32=((i % 32:Nat):Int):=rfl
  have hwq:IntKind.i64.wrap ((i / 32:Nat):Int)=((i / 32:Nat):Int):=aC (by omega) (by omega)
  have hwr:IntKind.i64.wrap ((i % 32:Nat):Int)=((i % 32:Nat):Int):=aC (by omega) (by omega)
  have hwi:IntKind.i64.wrap ((i:Int)+1)=((i+1:Nat):Int):=by rw[aC (by omega) (by omega)];rfl
  have hur:IntKind.u64.wrap ((i % 32:Nat):Int)=((i % 32:Nat):Int):=E1e (by omega)
  have htk:=aW _ _ _ hx
  have hbnd:L.length <=40:=by omega
  have hbt:bv (l.take (i+1))=bv (l.take i)+2 ^ i*d.toNat:=by
   rw[htk,vV,List.length_take,Nat.min_eq_left (by omega)]
   simp[bv]
  have hlti:val L < 2 ^ i:=by
   rw[hv]
   refine Nat.lt_of_lt_of_le (B3z _) (Nat.pow_le_pow_right (by omega) ?_)
   rw[List.length_take];omega
  have hnext:∀ (L1:List UInt32) (σ5:AS) (v5:AV),TB σ σ5 b4 bx [.int .u8 0, .bool false, .nil, .str [], .int .i64 0, .nil, .nil] true L1 v5 ->val L1=bv (l.take (i+1)) ->L1.length=i / 32+1 ->∃ m,m < l.length - i /\ ∃ (i_1:Nat) (L:List UInt32) (v:AV),i_1 <=l.length /\ m=l.length - i_1 /\ AV.int .i64 ((i+1:Nat):Int)= .int .i64 i_1 /\ TB σ σ5 b4 bx [.int .u8 0, .bool false, .nil, .str [], .int .i64 0, .nil, .nil] true L v /\ val L=bv (l.take i_1) /\ L.length=(i_1+31) / 32:=
   fun L1 σ5 v5 h1 h2 h3=> ⟨l.length - (i+1),by omega,i+1,L1,v5,by omega,rfl,rfl,h1,h2,by omega⟩
  have hq32:i % 32 < 32:=by omega
  by_cases h32:i % 32=0
  ·have hc0:=eq_true (show((i % 32:Nat):Int)=0 by omega)
   cases d with
   | false=>
    have hfin:val (L++[0])=bv (l.take (i+1)):=by rw[jW,hbt,hv];simp[val]
    have hL1l:(L++[0]).length=i / 32+1:=by simp;omega
    clear hi hlt hcut h32 hlti hbt htk hq hwq hur hv hl hq32
    repeat'(first|refine xs ?_ ?_ <;>intros|(refine wn ?_;intro bx hbx;try simp only[fb]at hbx)|((refine gB (ys:=[.int .u32 0]) hT.buf C7b (bJ C7a) (fun a ha=>by simp at ha;subst ha;exact⟨rfl,rfl⟩) (by simp;omega) (fun v3 σ3 hA=> ?_);obtain⟨r,rfl,hk,hT1⟩:=hT.app hA))|refine wj ?_|simp -dsimp only[↓bp,bq,br,seval,eT, *]|refine wz ?_|fail)
    all_goals exact hnext _ _ _ hT1 hfin hL1l
   | true=>
    have hL1l:(L++[0]).length=i / 32+1:=by simp;omega
    have hL1v:val (L++[0])=bv (l.take i):=by rw[jW,hv];simp[val]
    have hap:∀ {v3:AV} {σ3:AS},B7p 1 47 σ σ2 v (L.map bC++[.int .u32 0]) v3 σ3 ->_:=fun {v3 σ3} hA=>hT.app hA
    have hm:L.length+1=i / 32+1:=by omega
    rw[hm]at hap
    clear hm
    generalize L++[0]=L1 at*
    have hlti':val L1 < 2 ^ i:=by rw[hL1v,<- hv];exact hlti
    obtain⟨x,hx1⟩:∃ x,L1[i / 32]? =some x:=⟨_,List.getElem?_eq_getElem (by omega)⟩
    have hxt:=wI hlti' hx1
    have hor:=A0r hq32 hxt
    rw[Int.toNat_natCast]at hor
    have hp0:=eq_false (show ¬ ((i % 32:Nat):Int) < 0 by omega)
    have hfin:=wG hx1 hxt
    have hya:((x.toNat+2 ^ (i % 32):Nat):Int)=((UInt32.ofNat (x.toNat+2 ^ (i % 32))).toNat:Int):=by rw[UInt32.toNat_ofNat',Nat.mod_eq_of_lt (xY hxt)]
    rw[hya]at hor
    clear hya
    have hset:=sC L1 (i / 32) (by omega) (UInt32.ofNat (x.toNat+2 ^ (i % 32)))
    have hL2l:(L1.set (i / 32) (UInt32.ofNat (x.toNat+2 ^ (i % 32)))).length=i / 32+1:=by rw[List.length_set];exact hL1l
    have hdrop:=oZ hx1
    have hcl:(L1.map bC).length=i / 32+1:=by rw[List.length_map];exact hL1l
    rw[hL1v]at hfin
    have hfin:val (L1.set (i / 32) (UInt32.ofNat (x.toNat+2 ^ (i % 32))))=bv (l.take (i+1)):=by rw[hfin,hbt];simp
    have hne1:L1 ≠ []:=fun e=>by rw[e]at hL1l;simp at hL1l
    generalize UInt32.ofNat (x.toNat+2 ^ (i % 32))=y at*
    have hset':∀ (r:Nat) (σ5:AS),TB σ σ5 b4 bx [.int .u8 0, .bool false, .nil, .str [], .int .i64 0, .nil, .nil] true L1 (.bs r (i / 32+1) 1 47) ->TB σ (σ5.setBox r ((L1.map bC).take (i / 32)++[AV.int .u32 y.toNat]++(L1.map bC).drop (i / 32+1))) b4 bx [.int .u8 0, .bool false, .nil, .str [], .int .i64 0, .nil, .nil] true (L1.set (i / 32) y) (.bs r (i / 32+1) 1 47):=fun r σ5 h5=>by
     have:=h5.put hne1 (i / 32) y
     rw[<- hset]at this
     exact this
    have hit:=eq_true (show((i / 32:Nat):Int) < ((i / 32+1:Nat):Int)by omega)
    have hle0:=eq_true (show i / 32+1 <=(L1.map bC).length by omega)
    clear hi hlt hcut h32 hlti hbt htk hv hl hL1v hq32 hL1l hlti' hx1 hxt hset
    generalize i / 32=q at*
    generalize i % 32=p at*
    generalize 2 ^ p=pw at*
    repeat'(first|refine xs ?_ ?_ <;>intros|(refine wn ?_;intro bx hbx;try simp only[fb]at hbx)|((refine gB (ys:=[.int .u32 0]) hT.buf C7b (bJ C7a) (fun a ha=>by simp at ha;subst ha;exact⟨rfl,rfl⟩) (by simp;omega) (fun v3 σ3 hA=> ?_);obtain⟨r,rfl,hk,hT1⟩:=hap hA;obtain⟨r',er,hr1⟩:=hT1.row hne1;obtain⟨rfl, -⟩:=AV.bs.inj er;have hT2:=hset' _ _ hT1;have hnr:(bx=r)=False:=eq_false hT1.n1;have hnr':(r=bx)=False:=eq_false (Ne.symm hT1.n1);simp only[AS.setBox,hnr',if_false]at hr1;clear er hA hT1))|refine wj ?_|simp -dsimp only[↓bp,bq,br,seval,eT,Nat.mul_one, *]|refine wz ?_|fail)
    all_goals exact hnext _ _ _ hT2 hfin hL2l
  ·have hc0:=eq_false (show ¬ ((i % 32:Nat):Int)=0 by omega)
   have hL1l:L.length=i / 32+1:=by omega
   cases d with
   | false=>
    have hfin:val L=bv (l.take (i+1)):=by rw[hbt,hv];simp
    clear hi hlt hcut h32 hlti hbt htk hq hwq hur hv hl hq32
    repeat'(first|refine xs ?_ ?_ <;>intros|(refine wn ?_;intro bx hbx;try simp only[fb]at hbx)|refine wj ?_|simp -dsimp only[↓bp,bq,br,seval,eT, *]|refine wz ?_|fail)
    all_goals exact hnext _ _ _ hT hfin hL1l
   | true=>
    have hL1v:=hv
    obtain⟨L1,hLL⟩:∃ L1,L1=L:=⟨_,rfl⟩
    rw[<- hLL]at hL1l hL1v hT
    have hlti':val L1 < 2 ^ i:=by rw[hL1v,<- hv];exact hlti
    obtain⟨x,hx1⟩:∃ x,L1[i / 32]? =some x:=⟨_,List.getElem?_eq_getElem (by omega)⟩
    have hxt:=wI hlti' hx1
    have hor:=A0r hq32 hxt
    rw[Int.toNat_natCast]at hor
    have hp0:=eq_false (show ¬ ((i % 32:Nat):Int) < 0 by omega)
    have hfin:=wG hx1 hxt
    have hya:((x.toNat+2 ^ (i % 32):Nat):Int)=((UInt32.ofNat (x.toNat+2 ^ (i % 32))).toNat:Int):=by rw[UInt32.toNat_ofNat',Nat.mod_eq_of_lt (xY hxt)]
    rw[hya]at hor
    clear hya
    have hset:=sC L1 (i / 32) (by omega) (UInt32.ofNat (x.toNat+2 ^ (i % 32)))
    have hL2l:(L1.set (i / 32) (UInt32.ofNat (x.toNat+2 ^ (i % 32)))).length=i / 32+1:=by rw[List.length_set];exact hL1l
    have hdrop:=oZ hx1
    have hcl:(L1.map bC).length=i / 32+1:=by rw[List.length_map];exact hL1l
    rw[hL1v]at hfin
    have hfin:val (L1.set (i / 32) (UInt32.ofNat (x.toNat+2 ^ (i % 32))))=bv (l.take (i+1)):=by rw[hfin,hbt];simp
    have hne1:L1 ≠ []:=fun e=>by rw[e]at hL1l;simp at hL1l
    generalize UInt32.ofNat (x.toNat+2 ^ (i % 32))=y at*
    have hset':∀ (r:Nat) (σ5:AS),TB σ σ5 b4 bx [.int .u8 0, .bool false, .nil, .str [], .int .i64 0, .nil, .nil] true L1 (.bs r (i / 32+1) 1 47) ->TB σ (σ5.setBox r ((L1.map bC).take (i / 32)++[AV.int .u32 y.toNat]++(L1.map bC).drop (i / 32+1))) b4 bx [.int .u8 0, .bool false, .nil, .str [], .int .i64 0, .nil, .nil] true (L1.set (i / 32) y) (.bs r (i / 32+1) 1 47):=fun r σ5 h5=>by
     have:=h5.put hne1 (i / 32) y
     rw[<- hset]at this
     exact this
    have hit:=eq_true (show((i / 32:Nat):Int) < ((i / 32+1:Nat):Int)by omega)
    have hle0:=eq_true (show i / 32+1 <=(L1.map bC).length by omega)
    obtain⟨r,rfl,hr1⟩:=hT.row hne1
    rw[hL1l]at hT hbx2
    have hT2:=hset' _ _ hT
    have hnr:(bx=r)=False:=eq_false hT.n1
    have hnr':(r=bx)=False:=eq_false (Ne.symm hT.n1)
    clear hi hlt hcut h32 hlti hbt htk hv hl hL1v hq32 hL1l hlti' hx1 hxt hset hLL hT
    generalize i / 32=q at*
    generalize i % 32=p at*
    generalize 2 ^ p=pw at*
    repeat'(first|refine xs ?_ ?_ <;>intros|(refine wn ?_;intro bx hbx;try simp only[fb]at hbx)|refine wj ?_|simp -dsimp only[↓bp,bq,br,seval,eT,Nat.mul_one, *]|refine wz ?_|fail)
    all_goals exact hnext _ _ _ hT2 hfin hL2l
 ·have:i=l.length:=by omega
  subst this
  rw[List.take_length]at hv
  have hLL:=A5i hv hl
  subst hLL
  have hirr:=eq_false (Int.lt_irrefl (l.length:Int))
  have hfin:fP 1 47 σ (σ2.setBox b4 [.int .u8 1, .bool true,v, .str [], .int .i64 0, .nil, .nil]) v ((eM l).map bC):=hT.buf.setOther h4.1 hT.n2 _
  clear hlt hi hv hl hT
  repeat'(first|refine xs ?_ ?_ <;>intros|(refine wn ?_;intro bx hbx;try simp only[fb]at hbx)|refine wj ?_|simp -dsimp only[↓bp,bq,br,seval,eT,gP,iJ,gO,gQ, *]|refine wz ?_|fail)
  exact aE _ (AS.le.refl _) ⟨v,rfl,hfin⟩
set_option maxHeartbeats 4000000 in
theorem D9w(l0:List Bool)(hl0:l0.length <=100000)(hc:(cL l0).length <=1024)(hp: ¬ 0 < (cL l0).length):aB Tryz.prog G 109 [fM l0, .bool true] (.tup [(jA false (eM (cL l0))).enc, .bool true]):=by
 have hcut:=pO G l0 (by omega)
 generalize cL l0=l at*
 have hgt:((1024:Int) < l.length)=False:=eq_false (by omega)
 refine aB.of_le fun σ=>aJ.wbufC (n:=1) (E:=47) (xs:=(eM l).map bC) (C:=fun v=> .tup [.agg [.int .u8 1, .bool false,v, .str [], .int .i64 0, .nil, .nil], .bool true]) ?_ ?_ ?_ ?_
 ·exact fun b m=>Has.tup 0 (by simp) (Has.agg 2 (by simp) Has.bs)
 ·intro b m ys
  refine .tup _ _ rfl fun j h1 h2=> ?_
  match j,h1 with
  | 0,_=>
   refine .agg _ _ rfl (fun c hc=>by simp at hc;rcases hc with rfl|rfl|rfl|rfl|rfl|rfl|rfl <;>rfl) fun j h1 h2=> ?_
   match j,h1 with
   |0,_=>exact .same _
   |1,_=>exact .same _
   |2,_=>exact .here _
   |3,_=>exact .same _
   |4,_=>exact .same _
   |5,_=>exact .same _
   |6,_=>exact .same _
  |1,_=>exact .same _
 ·exact fun v hv=>Le.tup (.cons (Le.trans (Le.agg (.cons (Le.refl _) (.cons (Le.refl _) (.cons hv (xZ.refl _)))) (fun d hd=>by simp at hd;rcases hd with rfl|rfl|rfl|rfl|rfl|rfl|rfl <;>rfl)) (yS _ _)) (.cons (Le.refl _) .nil))
 refine aJ.of_awp mixed Tryz.func109 rfl (by kernel_rfl) (by kernel_rfl) (by simp[Tryz.ntmps109]) Tryz.results109 ?_
 simp -dsimp only[↓bp,bq,br,seval,eT]
 refine aY fun b4 h4=> ?_
 obtain⟨S,hS⟩:∃ S,S=σ.setBox b4 [.int .u8 0, .bool false, .nil, .str [], .int .i64 0, .nil, .nil]:=⟨_,rfl⟩
 have hSb:S.box b4=some [.int .u8 0, .bool false, .nil, .str [], .int .i64 0, .nil, .nil]:=by rw[hS];simp[AS.setBox]
 have hle:σ.le S:=by rw[hS];exact(AS.le.refl σ).setBox h4.1 _
 rw[<- hS]
 have hp:((0:Int) < l.length)=False:=eq_false (by omega)
 clear hS
 repeat'(first|refine xs ?_ ?_ <;>intros|((first|refine q8h ?_|refine q8i ?_);intro bx hbx;(try simp only[fb]at hbx);try(have nn:=fresh_ne (c:=bx) hSb (by simp only[hbx])))|refine wp hcut ?_|refine wj ?_|simp -dsimp only[↓bp,bq,br,seval,eT, *]|refine wz ?_|fail)
 clear hp
 refine aI (fun n e σ'=>∃ (i:Nat) (L:List UInt32) (v:AV),i <=l.length /\ n=l.length - i /\ e 7= .int .i64 i /\ TB σ σ' b4 bx [.int .u8 0, .bool false, .nil, .str [], .int .i64 0, .nil, .nil] false L v /\ val L=bv (l.take i) /\ L.length=(i+31) / 32) l.length
  ⟨0,[], .nil,by omega,by omega,by first|(simp -dsimp only[↓bp,bq,br,seval,eT];done)|(simp -dsimp only[↓bp,bq,br,seval,eT];try rfl),⟨by simp[AS.setBox],by simp[AS.setBox,nn.1,hSb], .nil (hle.setBox (hle.fresh hbx).1 _),trivial,trivial,nn.1,(hle.fresh hbx).1,h4.1⟩,rfl,rfl⟩ ?_
 have ho:=(hle.fresh hbx).1
 clear nn hbx hle hSb
 rintro n e σ2 ⟨i,L,v,hi,rfl,h7,hT,hv,hl⟩
 simp -dsimp only[↓bp,bq,br,seval,eT]at h7
 have hbx2:=hT.box
 have hb42:=hT.res
 by_cases hlt:(i:Int) < l.length
 ·obtain⟨d,hx⟩:∃ d,l[i]? =some d:=⟨_,List.getElem?_eq_getElem (by omega)⟩
  have hlt':=eq_true hlt
  have hq:(i:Int).tdiv 32=((i / 32:Nat):Int):=rfl
  have hr:(i:Int).tmod 32=((i % 32:Nat):Int):=rfl
  have hwq:IntKind.i64.wrap ((i / 32:Nat):Int)=((i / 32:Nat):Int):=aC (by omega) (by omega)
  have hwr:IntKind.i64.wrap ((i % 32:Nat):Int)=((i % 32:Nat):Int):=aC (by omega) (by omega)
  have hwi:IntKind.i64.wrap ((i:Int)+1)=((i+1:Nat):Int):=by rw[aC (by omega) (by omega)];rfl
  have hur:IntKind.u64.wrap ((i % 32:Nat):Int)=((i % 32:Nat):Int):=E1e (by omega)
  have htk:=aW _ _ _ hx
  have hbnd:L.length <=40:=by omega
  have hbt:bv (l.take (i+1))=bv (l.take i)+2 ^ i*d.toNat:=by
   rw[htk,vV,List.length_take,Nat.min_eq_left (by omega)]
   simp[bv]
  have hlti:val L < 2 ^ i:=by
   rw[hv]
   refine Nat.lt_of_lt_of_le (B3z _) (Nat.pow_le_pow_right (by omega) ?_)
   rw[List.length_take];omega
  have hnext:∀ (L1:List UInt32) (σ5:AS) (v5:AV),TB σ σ5 b4 bx [.int .u8 0, .bool false, .nil, .str [], .int .i64 0, .nil, .nil] false L1 v5 ->val L1=bv (l.take (i+1)) ->L1.length=i / 32+1 ->∃ m,m < l.length - i /\ ∃ (i_1:Nat) (L:List UInt32) (v:AV),i_1 <=l.length /\ m=l.length - i_1 /\ AV.int .i64 ((i+1:Nat):Int)= .int .i64 i_1 /\ TB σ σ5 b4 bx [.int .u8 0, .bool false, .nil, .str [], .int .i64 0, .nil, .nil] false L v /\ val L=bv (l.take i_1) /\ L.length=(i_1+31) / 32:=
   fun L1 σ5 v5 h1 h2 h3=> ⟨l.length - (i+1),by omega,i+1,L1,v5,by omega,rfl,rfl,h1,h2,by omega⟩
  have hq32:i % 32 < 32:=by omega
  by_cases h32:i % 32=0
  ·have hc0:=eq_true (show((i % 32:Nat):Int)=0 by omega)
   cases d with
   | false=>
    have hfin:val (L++[0])=bv (l.take (i+1)):=by rw[jW,hbt,hv];simp[val]
    have hL1l:(L++[0]).length=i / 32+1:=by simp;omega
    clear hi hlt hcut h32 hlti hbt htk hq hwq hur hv hl hq32
    repeat'(first|refine xs ?_ ?_ <;>intros|(refine wn ?_;intro bx hbx;try simp only[fb]at hbx)|((refine gB (ys:=[.int .u32 0]) hT.buf C7b (bJ C7a) (fun a ha=>by simp at ha;subst ha;exact⟨rfl,rfl⟩) (by simp;omega) (fun v3 σ3 hA=> ?_);obtain⟨r,rfl,hk,hT1⟩:=hT.app hA))|refine wj ?_|simp -dsimp only[↓bp,bq,br,seval,eT, *]|refine wz ?_|fail)
    all_goals exact hnext _ _ _ hT1 hfin hL1l
   | true=>
    have hL1l:(L++[0]).length=i / 32+1:=by simp;omega
    have hL1v:val (L++[0])=bv (l.take i):=by rw[jW,hv];simp[val]
    have hap:∀ {v3:AV} {σ3:AS},B7p 1 47 σ σ2 v (L.map bC++[.int .u32 0]) v3 σ3 ->_:=fun {v3 σ3} hA=>hT.app hA
    have hm:L.length+1=i / 32+1:=by omega
    rw[hm]at hap
    clear hm
    generalize L++[0]=L1 at*
    have hlti':val L1 < 2 ^ i:=by rw[hL1v,<- hv];exact hlti
    obtain⟨x,hx1⟩:∃ x,L1[i / 32]? =some x:=⟨_,List.getElem?_eq_getElem (by omega)⟩
    have hxt:=wI hlti' hx1
    have hor:=A0r hq32 hxt
    rw[Int.toNat_natCast]at hor
    have hp0:=eq_false (show ¬ ((i % 32:Nat):Int) < 0 by omega)
    have hfin:=wG hx1 hxt
    have hya:((x.toNat+2 ^ (i % 32):Nat):Int)=((UInt32.ofNat (x.toNat+2 ^ (i % 32))).toNat:Int):=by rw[UInt32.toNat_ofNat',Nat.mod_eq_of_lt (xY hxt)]
    rw[hya]at hor
    clear hya
    have hset:=sC L1 (i / 32) (by omega) (UInt32.ofNat (x.toNat+2 ^ (i % 32)))
    have hL2l:(L1.set (i / 32) (UInt32.ofNat (x.toNat+2 ^ (i % 32)))).length=i / 32+1:=by rw[List.length_set];exact hL1l
    have hdrop:=oZ hx1
    have hcl:(L1.map bC).length=i / 32+1:=by rw[List.length_map];exact hL1l
    rw[hL1v]at hfin
    have hfin:val (L1.set (i / 32) (UInt32.ofNat (x.toNat+2 ^ (i % 32))))=bv (l.take (i+1)):=by rw[hfin,hbt];simp
    have hne1:L1 ≠ []:=fun e=>by rw[e]at hL1l;simp at hL1l
    generalize UInt32.ofNat (x.toNat+2 ^ (i % 32))=y at*
    have hset':∀ (r:Nat) (σ5:AS),TB σ σ5 b4 bx [.int .u8 0, .bool false, .nil, .str [], .int .i64 0, .nil, .nil] false L1 (.bs r (i / 32+1) 1 47) ->TB σ (σ5.setBox r ((L1.map bC).take (i / 32)++[AV.int .u32 y.toNat]++(L1.map bC).drop (i / 32+1))) b4 bx [.int .u8 0, .bool false, .nil, .str [], .int .i64 0, .nil, .nil] false (L1.set (i / 32) y) (.bs r (i / 32+1) 1 47):=fun r σ5 h5=>by
     have:=h5.put hne1 (i / 32) y
     rw[<- hset]at this
     exact this
    have hit:=eq_true (show((i / 32:Nat):Int) < ((i / 32+1:Nat):Int)by omega)
    have hle0:=eq_true (show i / 32+1 <=(L1.map bC).length by omega)
    clear hi hlt hcut h32 hlti hbt htk hv hl hL1v hq32 hL1l hlti' hx1 hxt hset
    generalize i / 32=q at*
    generalize i % 32=p at*
    generalize 2 ^ p=pw at*
    repeat'(first|refine xs ?_ ?_ <;>intros|(refine wn ?_;intro bx hbx;try simp only[fb]at hbx)|((refine gB (ys:=[.int .u32 0]) hT.buf C7b (bJ C7a) (fun a ha=>by simp at ha;subst ha;exact⟨rfl,rfl⟩) (by simp;omega) (fun v3 σ3 hA=> ?_);obtain⟨r,rfl,hk,hT1⟩:=hap hA;obtain⟨r',er,hr1⟩:=hT1.row hne1;obtain⟨rfl, -⟩:=AV.bs.inj er;have hT2:=hset' _ _ hT1;have hnr:(bx=r)=False:=eq_false hT1.n1;have hnr':(r=bx)=False:=eq_false (Ne.symm hT1.n1);simp only[AS.setBox,hnr',if_false]at hr1;clear er hA hT1))|refine wj ?_|simp -dsimp only[↓bp,bq,br,seval,eT,Nat.mul_one, *]|refine wz ?_|fail)
    all_goals exact hnext _ _ _ hT2 hfin hL2l
  ·have hc0:=eq_false (show ¬ ((i % 32:Nat):Int)=0 by omega)
   have hL1l:L.length=i / 32+1:=by omega
   cases d with
   | false=>
    have hfin:val L=bv (l.take (i+1)):=by rw[hbt,hv];simp
    clear hi hlt hcut h32 hlti hbt htk hq hwq hur hv hl hq32
    repeat'(first|refine xs ?_ ?_ <;>intros|(refine wn ?_;intro bx hbx;try simp only[fb]at hbx)|refine wj ?_|simp -dsimp only[↓bp,bq,br,seval,eT, *]|refine wz ?_|fail)
    all_goals exact hnext _ _ _ hT hfin hL1l
   | true=>
    have hL1v:=hv
    obtain⟨L1,hLL⟩:∃ L1,L1=L:=⟨_,rfl⟩
    rw[<- hLL]at hL1l hL1v hT
    have hlti':val L1 < 2 ^ i:=by rw[hL1v,<- hv];exact hlti
    obtain⟨x,hx1⟩:∃ x,L1[i / 32]? =some x:=⟨_,List.getElem?_eq_getElem (by omega)⟩
    have hxt:=wI hlti' hx1
    have hor:=A0r hq32 hxt
    rw[Int.toNat_natCast]at hor
    have hp0:=eq_false (show ¬ ((i % 32:Nat):Int) < 0 by omega)
    have hfin:=wG hx1 hxt
    have hya:((x.toNat+2 ^ (i % 32):Nat):Int)=((UInt32.ofNat (x.toNat+2 ^ (i % 32))).toNat:Int):=by rw[UInt32.toNat_ofNat',Nat.mod_eq_of_lt (xY hxt)]
    rw[hya]at hor
    clear hya
    have hset:=sC L1 (i / 32) (by omega) (UInt32.ofNat (x.toNat+2 ^ (i % 32)))
    have hL2l:(L1.set (i / 32) (UInt32.ofNat (x.toNat+2 ^ (i % 32)))).length=i / 32+1:=by rw[List.length_set];exact hL1l
    have hdrop:=oZ hx1
    have hcl:(L1.map bC).length=i / 32+1:=by rw[List.length_map];exact hL1l
    rw[hL1v]at hfin
    have hfin:val (L1.set (i / 32) (UInt32.ofNat (x.toNat+2 ^ (i % 32))))=bv (l.take (i+1)):=by rw[hfin,hbt];simp
    have hne1:L1 ≠ []:=fun e=>by rw[e]at hL1l;simp at hL1l
    generalize UInt32.ofNat (x.toNat+2 ^ (i % 32))=y at*
    have hset':∀ (r:Nat) (σ5:AS),TB σ σ5 b4 bx [.int .u8 0, .bool false, .nil, .str [], .int .i64 0, .nil, .nil] false L1 (.bs r (i / 32+1) 1 47) ->TB σ (σ5.setBox r ((L1.map bC).take (i / 32)++[AV.int .u32 y.toNat]++(L1.map bC).drop (i / 32+1))) b4 bx [.int .u8 0, .bool false, .nil, .str [], .int .i64 0, .nil, .nil] false (L1.set (i / 32) y) (.bs r (i / 32+1) 1 47):=fun r σ5 h5=>by
     have:=h5.put hne1 (i / 32) y
     rw[<- hset]at this
     exact this
    have hit:=eq_true (show((i / 32:Nat):Int) < ((i / 32+1:Nat):Int)by omega)
    have hle0:=eq_true (show i / 32+1 <=(L1.map bC).length by omega)
    obtain⟨r,rfl,hr1⟩:=hT.row hne1
    rw[hL1l]at hT hbx2
    have hT2:=hset' _ _ hT
    have hnr:(bx=r)=False:=eq_false hT.n1
    have hnr':(r=bx)=False:=eq_false (Ne.symm hT.n1)
    clear hi hlt hcut h32 hlti hbt htk hv hl hL1v hq32 hL1l hlti' hx1 hxt hset hLL hT
    generalize i / 32=q at*
    generalize i % 32=p at*
    generalize 2 ^ p=pw at*
    repeat'(first|refine xs ?_ ?_ <;>intros|(refine wn ?_;intro bx hbx;try simp only[fb]at hbx)|refine wj ?_|simp -dsimp only[↓bp,bq,br,seval,eT,Nat.mul_one, *]|refine wz ?_|fail)
    all_goals exact hnext _ _ _ hT2 hfin hL2l
 ·have:i=l.length:=by omega
  subst this
  rw[List.take_length]at hv
  have hLL:=A5i hv hl
  subst hLL
  have hirr:=eq_false (Int.lt_irrefl (l.length:Int))
  have hfin:fP 1 47 σ (σ2.setBox b4 [.int .u8 1, .bool false,v, .str [], .int .i64 0, .nil, .nil]) v ((eM l).map bC):=hT.buf.setOther h4.1 hT.n2 _
  clear hlt hi hv hl hT
  repeat'(first|refine xs ?_ ?_ <;>intros|(refine wn ?_;intro bx hbx;try simp only[fb]at hbx)|refine wj ?_|simp -dsimp only[↓bp,bq,br,seval,eT,gP,iJ,gO,gQ, *]|refine wz ?_|fail)
  exact aE _ (AS.le.refl _) ⟨v,rfl,hfin⟩
theorem C0o(l0:List Bool)(hl0:l0.length <=100000)(neg:Bool)(hc:(cL l0).length <=1024):aB Tryz.prog G 109 [fM l0, .bool neg] (.tup [(jA (neg && decide (0 < (cL l0).length)) (eM (cL l0))).enc, .bool true]):=by
 cases neg with
 |false=>exact D9u G l0 hl0 hc
 | true=>
  by_cases h:0 < (cL l0).length
  ·rw[decide_eq_true h];exact D9v G l0 hl0 hc h
  ·rw[decide_eq_false h];exact D9w G l0 hl0 hc h
end
set_option maxRecDepth 20000
section
def jI:=And.intro (And.intro (And.intro (And.intro @jD (And.intro @iZ @jJ)) (And.intro @eG (And.intro @qI @tf2))) (And.intro (And.intro @jE (And.intro @dL @eN)) (And.intro @dV (And.intro @eD @wT)))) (And.intro (And.intro (And.intro @lU (And.intro @aA.flat_enc @aA.isv_enc)) (And.intro @aA.fold_enc (And.intro @kB @iU))) (And.intro (And.intro @lE (And.intro @hU @aQ)) (And.intro (And.intro @aM @aZ) (And.intro @aS @aN))))
variable (G:Nat ->AV)
theorem C8x{m:Nat}(h:m < 18446744073709551616):decide (IntKind.u64.wrap ↑(BitVec.ofInt IntKind.u64.bits (m:Int) &&& BitVec.ofInt IntKind.u64.bits 1).toNat=1)=decide (m % 2=1):=by
 have e:(BitVec.ofInt IntKind.u64.bits (m:Int) &&& BitVec.ofInt IntKind.u64.bits 1).toNat=m &&& 1:=by
  show(BitVec.ofInt 64 (m:Int) &&& BitVec.ofInt 64 1).toNat=_
  rw[BitVec.toNat_and,BitVec.ofInt_natCast,BitVec.toNat_ofNat]
  have e1:(BitVec.ofInt 64 1).toNat=1:=by decide
  rw[e1,Nat.mod_eq_of_lt h]
 rw[e,Nat.and_one_is_mod,E1e (by omega),Bool.eq_iff_iff,decide_eq_true_eq,decide_eq_true_eq]
 omega
theorem D3w(m:Nat):(m:Int).fdiv (2 ^ min 1 IntKind.u64.bits)=((m / 2:Nat):Int):=by
 have hm:min 1 IntKind.u64.bits=1:=by have:IntKind.u64.bits=64:=rfl;omega
 rw[hm,Int.fdiv_eq_ediv_of_nonneg _ (by decide)]
 simp
def ofT(n:Int):aA:=jA (decide (n < 0)) (eM (cL (gR n.natAbs)))
theorem B2k{n:Int}(h0: -9223372036854775808 <=n)(h1:n <=9223372036854775807):(gR n.natAbs).length <=64:=by
 refine zY 64 _ ?_
 have:(2:Nat) ^ 64=18446744073709551616:=by decide
 omega
theorem C2n{n:Int} :(decide (n < 0) && decide (0 < (cL (gR n.natAbs)).length))=decide (n < 0):=by
 by_cases h:n < 0
 ·have h2:0 < (cL (gR n.natAbs)).length:=by
   refine Nat.pos_of_ne_zero fun e=> ?_
   have:=(yK _).1 e
   rw[uM]at this
   omega
  simp[h,h2]
 ·simp[h]
theorem E4w{n:Int}(h0: -9223372036854775808 <=n)(h1:n <=9223372036854775807):wr (ofT n)=true:=by
 refine E1i (Nat.le_trans (iK _) (Nat.le_trans (B2k h0 h1) (by omega))) fun h=> ?_
 have:=C2n (n:=n)
 rw[h,Bool.true_and]at this
 exact of_decide_eq_true this
theorem D2o(n:Int):tX (ofT n)=itoa n:=by
 have h1:(ofT n).neg=decide (n < 0):=rfl
 have h2:(ofT n).limbs=eM (cL (gR n.natAbs)):=rfl
 unfold tX itoa
 rw[h1,h2,tB,nN,uM]
 by_cases h:n < 0 <;>simp[h]
theorem D2n{n:Int}(h0: -9223372036854775808 <=n)(h1:n <=9223372036854775807):(ofT n).bulk <=1000000:=by
 have h:=pU (cL (gR n.natAbs))
 have h2:=iK (gR n.natAbs)
 have h3:=B2k h0 h1
 have e:(ofT n).bulk=_:=(ofT n).bulk_eq
 have e1:(ofT n).limbs=eM (cL (gR n.natAbs)):=rfl
 have e2:(ofT n).text=[]:=rfl
 have e3:(ofT n).items=[]:=rfl
 have e4:(ofT n).tail=[]:=rfl
 rw[e,e1,e2,e3,e4]
 simp only[List.length_nil,aV]
 omega
set_option maxHeartbeats 2000000 in
theorem B6j(n:Int)(h0: -9223372036854775808 <=n)(h1:n <=9223372036854775807):aB Tryz.prog G 65 [.int .i64 n] (ofT n).enc:=by
 have hlen:=B2k h0 h1
 have hmade:=C0o G (gR n.natAbs) (by omega) (decide (n < 0)) (Nat.le_trans (iK _) (by omega))
 rw[C2n]at hmade
 have hmade:aB Tryz.prog G 109 [fM (gR n.natAbs), .bool (decide (n < 0))] (.tup [(ofT n).enc, .bool true]):=hmade
 generalize hO:ofT n=O at*
 clear hO
 obtain⟨N,hN⟩:∃ N,N=n.natAbs:=⟨_,rfl⟩
 rw[<- hN]at hlen hmade
 have hN64:N < 18446744073709551616:=by omega
 have hu:∀ k:Int,IntKind.u64.wrap k=k % 18446744073709551616:=fun k=>by first|rfl|simp[IntKind.wrap]
 refine aB.of_le fun σ=> ?_
 refine aJ.of_awp mixed Tryz.func65 rfl (by kernel_rfl) (by kernel_rfl) (by simp[Tryz.ntmps65]) Tryz.results65 ?_
 simp -dsimp only[↓bp,bq,br,seval,jI]
 refine aY fun b2 hb2=> ?_
 obtain⟨S,hS⟩:∃ S,S=σ.setBox b2 [.int .u8 0, .bool false, .nil, .str [], .int .i64 0, .nil, .nil]:=⟨_,rfl⟩
 have hSb:S.box b2=some [.int .u8 0, .bool false, .nil, .str [], .int .i64 0, .nil, .nil]:=by rw[hS];simp[AS.setBox]
 have hle:σ.le S:=by rw[hS];exact(AS.le.refl σ).setBox hb2.1 _
 rw[<- hS]
 clear hS
 by_cases hn:n < 0
 ·have hw1:IntKind.u64.wrap n=(((n+18446744073709551616).toNat:Nat):Int):=by rw[hu];omega
  have hw2:IntKind.u64.wrap (0 - (((n+18446744073709551616).toNat:Nat):Int))=(N:Int):=by rw[hu];omega
  have hn':=eq_true hn
  rw[decide_eq_true hn]at hmade
  clear hu hN h0 h1 hn
  repeat'(first|refine xs ?_ ?_ <;>intros|(refine wn ?_;intro bx hbx;try simp only[fb]at hbx)|refine wj ?_|simp -dsimp only[↓bp,bq,br,seval,jI, *]|refine wz ?_|fail)
  refine aI (fun k e σ'=>∃ (m:Nat) (B:List Bool) (v:AV),m=k /\ m < 18446744073709551616 /\ e 3= .int .u64 m /\ e 4=v /\ kL 1 S σ' v (B.map AV.bool) /\ B++gR m=gR N) N
   ⟨N,[], .nil,rfl,hN64,by first|(simp -dsimp only[↓bp,bq,br,seval,jI];done)|(simp -dsimp only[↓bp,bq,br,seval,jI];try rfl),by first|(simp -dsimp only[↓bp,bq,br,seval,jI];done)|(simp -dsimp only[↓bp,bq,br,seval,jI];try rfl), .nil (AS.le.refl S),rfl⟩ ?_
  clear hN64
  rintro k e σ2 ⟨m,B,v,rfl,hm,h3,h4,hB,hBB⟩
  simp -dsimp only[↓bp,bq,br,seval,jI]at h3 h4
  have hSb2:=hB.le.box _ _ hSb
  have hBl:B.length <=64:=by have:=congrArg List.length hBB;rw[List.length_append]at this;omega
  by_cases hz:m=0
  ·subst hz
   rw[pH,List.append_nil]at hBB
   subst hBB
   have hp:=hmade.lessArgs (.cons hB.told (.cons (Le.refl _) .nil))
   have hc0:=eq_false (show ¬ (0:Int) < ((0:Nat):Int)by omega)
   have hle2:=hle.trans hB.le
   clear hmade hB hBl
   repeat'(first|refine xs ?_ ?_ <;>intros|((first|refine q8h ?_|refine q8i ?_);intro bx hbx;(try simp only[fb]at hbx);try(have nn:=fresh_ne (c:=bx) hSb2 (by simp only[hbx])))|refine wp hp ?_|refine wj ?_|simp -dsimp only[↓bp,bq,br,seval,jI, *]|refine wz ?_|fail)
   all_goals exact aL (Le.refl _) ((hle2.setBox (hle2.fresh hbx).1 _).setBox hb2.1 _)
  ·have hc0:=eq_true (show(0:Int) < (m:Int)by omega)
   have hbit:=C8x hm
   have hshr:=D3w m
   have hst:=sP hz
   have hfin:(B++[decide (m % 2=1)])++gR (m / 2)=gR N:=by rw[<- hBB,hst];simp
   have hlt:m / 2 < m:=by omega
   have hm2:m / 2 < 18446744073709551616:=by omega
   generalize decide (m % 2=1)=d at*
   clear hmade hst hBB hz hm
   repeat'(first|refine xs ?_ ?_ <;>intros|(refine wn ?_;intro bx hbx;try simp only[fb]at hbx)|(refine eK tbB (a:= .bool d) rfl rfl (by omega) ?_)|(refine iH (ys:=[.bool d]) hB tbB (bJ B7e) (fun a ha=>by simp at ha;subst ha;rfl) (by simp;omega) (fun v5 σ5 hB5 hx5=> ?_))|refine wj ?_|simp -dsimp only[↓bp,bq,br,seval,jI, *]|refine wz ?_|fail)
   all_goals exact⟨m / 2,hlt,m / 2,B++[d],v5,rfl,hm2,rfl,rfl,by rw[List.map_append];exact hB5,hfin⟩
 ·have hw1:IntKind.u64.wrap n=(N:Int):=by rw[hu];omega
  have hn':=eq_false hn
  rw[decide_eq_false hn]at hmade
  clear hu hN h0 h1 hn
  repeat'(first|refine xs ?_ ?_ <;>intros|(refine wn ?_;intro bx hbx;try simp only[fb]at hbx)|refine wj ?_|simp -dsimp only[↓bp,bq,br,seval,jI, *]|refine wz ?_|fail)
  refine aI (fun k e σ'=>∃ (m:Nat) (B:List Bool) (v:AV),m=k /\ m < 18446744073709551616 /\ e 3= .int .u64 m /\ e 4=v /\ kL 1 S σ' v (B.map AV.bool) /\ B++gR m=gR N) N
   ⟨N,[], .nil,rfl,hN64,by first|(simp -dsimp only[↓bp,bq,br,seval,jI];done)|(simp -dsimp only[↓bp,bq,br,seval,jI];try rfl),by first|(simp -dsimp only[↓bp,bq,br,seval,jI];done)|(simp -dsimp only[↓bp,bq,br,seval,jI];try rfl), .nil (AS.le.refl S),rfl⟩ ?_
  clear hN64
  rintro k e σ2 ⟨m,B,v,rfl,hm,h3,h4,hB,hBB⟩
  simp -dsimp only[↓bp,bq,br,seval,jI]at h3 h4
  have hSb2:=hB.le.box _ _ hSb
  have hBl:B.length <=64:=by have:=congrArg List.length hBB;rw[List.length_append]at this;omega
  by_cases hz:m=0
  ·subst hz
   rw[pH,List.append_nil]at hBB
   subst hBB
   have hp:=hmade.lessArgs (.cons hB.told (.cons (Le.refl _) .nil))
   have hc0:=eq_false (show ¬ (0:Int) < ((0:Nat):Int)by omega)
   have hle2:=hle.trans hB.le
   clear hmade hB hBl
   repeat'(first|refine xs ?_ ?_ <;>intros|((first|refine q8h ?_|refine q8i ?_);intro bx hbx;(try simp only[fb]at hbx);try(have nn:=fresh_ne (c:=bx) hSb2 (by simp only[hbx])))|refine wp hp ?_|refine wj ?_|simp -dsimp only[↓bp,bq,br,seval,jI, *]|refine wz ?_|fail)
   all_goals exact aL (Le.refl _) ((hle2.setBox (hle2.fresh hbx).1 _).setBox hb2.1 _)
  ·have hc0:=eq_true (show(0:Int) < (m:Int)by omega)
   have hbit:=C8x hm
   have hshr:=D3w m
   have hst:=sP hz
   have hfin:(B++[decide (m % 2=1)])++gR (m / 2)=gR N:=by rw[<- hBB,hst];simp
   have hlt:m / 2 < m:=by omega
   have hm2:m / 2 < 18446744073709551616:=by omega
   generalize decide (m % 2=1)=d at*
   clear hmade hst hBB hz hm
   repeat'(first|refine xs ?_ ?_ <;>intros|(refine wn ?_;intro bx hbx;try simp only[fb]at hbx)|(refine eK tbB (a:= .bool d) rfl rfl (by omega) ?_)|(refine iH (ys:=[.bool d]) hB tbB (bJ B7e) (fun a ha=>by simp at ha;subst ha;rfl) (by simp;omega) (fun v5 σ5 hB5 hx5=> ?_))|refine wj ?_|simp -dsimp only[↓bp,bq,br,seval,jI, *]|refine wz ?_|fail)
   all_goals exact⟨m / 2,hlt,m / 2,B++[d],v5,rfl,hm2,rfl,rfl,by rw[List.map_append];exact hB5,hfin⟩
theorem C6m(n:Int)(h0: -9223372036854775808 <=n)(h1:n <=9223372036854775807):aB Tryz.prog G 87 [.int .i64 n] (.str (itoa n)):=by
 have hp:=B6j G n h0 h1
 have hq:=A2f G (ofT n) (D2n h0 h1)
 rw[E4w h0 h1,if_pos rfl,D2o]at hq
 clear h0 h1
 intro σ
 refine aJ.of_awp mixed Tryz.func87 rfl (by kernel_rfl) (by kernel_rfl) (by simp[Tryz.ntmps87]) Tryz.results87 ?_
 repeat'(first|refine xs ?_ ?_ <;>intros|(refine wn ?_;intro bx hbx;try simp only[fb]at hbx)|refine wp hp ?_|refine wp hq ?_|refine wj ?_|simp -dsimp only[↓bp,bq,br,seval,jI, *]|refine wz ?_|fail)
 all_goals rfl
end
set_option maxRecDepth 20000
section
def lH:=And.intro (And.intro (And.intro (And.intro @jD (And.intro @iZ @jJ)) (And.intro @eG (And.intro @jE @dL))) (And.intro (And.intro @eN (And.intro @dV @eD)) (And.intro @qJ (And.intro @aA.flat_enc @aA.isv_enc)))) (And.intro (And.intro (And.intro @aA.fold_enc (And.intro @aS @aN)) (And.intro @aU (And.intro @bW @bG))) (And.intro (And.intro @aQ (And.intro @aM @aZ)) (And.intro @cH (And.intro @bQ @bB))))
variable (G:Nat ->AV)
theorem cP(t:aA)(hb:t.bulk <=1000000000):aB Tryz.prog G 9 [t.enc] (.bool (right t)):=by
 have h:=B0a G t hb
 unfold right
 intro σ
 refine aJ.of_awp mixed Tryz.func9 rfl (by kernel_rfl) (by kernel_rfl) (by simp[Tryz.ntmps9]) Tryz.results9 ?_
 repeat'(first|refine xs ?_ ?_ <;>intros|(refine wn ?_;intro bx hbx;try simp only[fb]at hbx)|refine wp h ?_|refine wj ?_|simp -dsimp only[↓bp,bq,br,seval,lH, *]|refine wz ?_|fail)
 all_goals rfl
theorem mX(t:aA)(hb:t.bulk <=1000000000):aB Tryz.prog G 10 [t.enc] (.int .i64 (size t)):=by
 have h:=B0a G t hb
 intro σ
 refine aJ.of_awp mixed Tryz.func10 rfl (by kernel_rfl) (by kernel_rfl) (by simp[Tryz.ntmps10]) Tryz.results10 ?_
 repeat'(first|refine xs ?_ ?_ <;>intros|(refine wn ?_;intro bx hbx;try simp only[fb]at hbx)|refine wp h ?_|refine wj ?_|simp -dsimp only[↓bp,bq,br,seval,lH, *]|refine wz ?_|fail)
 all_goals rfl
theorem sV(a b:aA)(ha:a.bulk <=1000000000)(hb:b.bulk <=1000000000):aB Tryz.prog G 36 [a.enc,b.enc] (.int .i64 (sU a b)):=by
 have ra:=cP G a ha
 have rb:=cP G b hb
 have ho:=A5m G a b ha hb
 unfold sU
 intro σ
 cases ea:right a with
 | false=>
  rw[ea]at ra
  rw[if_neg (by simp)]
  clear ho
  refine aJ.of_awp mixed Tryz.func36 rfl (by kernel_rfl) (by kernel_rfl) (by simp[Tryz.ntmps36]) Tryz.results36 ?_
  repeat'(first|refine xs ?_ ?_ <;>intros|(refine wn ?_;intro bx hbx;try simp only[fb]at hbx)|refine wp ra ?_|refine wp rb ?_|refine wj ?_|simp -dsimp only[↓bp,bq,br,seval,lH, *]|refine wz ?_|fail)
  all_goals rfl
 | true=>cases eb:right b with
  | false=>
   rw[ea]at ra
   rw[eb]at rb
   rw[if_neg (by simp)]
   clear ho
   refine aJ.of_awp mixed Tryz.func36 rfl (by kernel_rfl) (by kernel_rfl) (by simp[Tryz.ntmps36]) Tryz.results36 ?_
   repeat'(first|refine xs ?_ ?_ <;>intros|(refine wn ?_;intro bx hbx;try simp only[fb]at hbx)|refine wp ra ?_|refine wp rb ?_|refine wj ?_|simp -dsimp only[↓bp,bq,br,seval,lH, *]|refine wz ?_|fail)
   all_goals rfl
  | true=>
   rw[ea]at ra
   rw[eb]at rb
   rw[if_pos ⟨rfl,rfl⟩]
   have ho:=ho ea eb
   refine aJ.of_awp mixed Tryz.func36 rfl (by kernel_rfl) (by kernel_rfl) (by simp[Tryz.ntmps36]) Tryz.results36 ?_
   repeat'(first|refine xs ?_ ?_ <;>intros|(refine wn ?_;intro bx hbx;try simp only[fb]at hbx)|refine wp ra ?_|refine wp rb ?_|refine wp ho ?_|refine wj ?_|simp -dsimp only[↓bp,bq,br,seval,lH, *]|refine wz ?_|fail)
   all_goals rfl
theorem tJ(a b:aA)(ha:a.bulk <=1000000000)(hb:b.bulk <=1000000000):aB Tryz.prog G 29 [a.enc,b.enc] (.bool (wR a b)):=by
 have ra:=cP G a ha
 have rb:=cP G b hb
 have ho:=A5m G a b ha hb
 unfold wR
 intro σ
 cases ea:right a with
 | false=>
  rw[ea]at ra
  rw[Bool.false_and,Bool.false_and]
  clear ho
  refine aJ.of_awp mixed Tryz.func29 rfl (by kernel_rfl) (by kernel_rfl) (by simp[Tryz.ntmps29]) Tryz.results29 ?_
  repeat'(first|refine xs ?_ ?_ <;>intros|(refine wn ?_;intro bx hbx;try simp only[fb]at hbx)|refine wp ra ?_|refine wp rb ?_|refine wj ?_|simp -dsimp only[↓bp,bq,br,seval,lH, *]|refine wz ?_|fail)
  all_goals rfl
 | true=>cases eb:right b with
  | false=>
   rw[ea]at ra
   rw[eb]at rb
   rw[Bool.true_and,Bool.false_and]
   clear ho
   refine aJ.of_awp mixed Tryz.func29 rfl (by kernel_rfl) (by kernel_rfl) (by simp[Tryz.ntmps29]) Tryz.results29 ?_
   repeat'(first|refine xs ?_ ?_ <;>intros|(refine wn ?_;intro bx hbx;try simp only[fb]at hbx)|refine wp ra ?_|refine wp rb ?_|refine wj ?_|simp -dsimp only[↓bp,bq,br,seval,lH, *]|refine wz ?_|fail)
   all_goals rfl
  | true=>
   rw[ea]at ra
   rw[eb]at rb
   rw[Bool.true_and,Bool.true_and]
   have ho:=ho ea eb
   refine aJ.of_awp mixed Tryz.func29 rfl (by kernel_rfl) (by kernel_rfl) (by simp[Tryz.ntmps29]) Tryz.results29 ?_
   repeat'(first|refine xs ?_ ?_ <;>intros|(refine wn ?_;intro bx hbx;try simp only[fb]at hbx)|refine wp ra ?_|refine wp rb ?_|refine wp ho ?_|refine wj ?_|simp -dsimp only[↓bp,bq,br,seval,lH, *]|refine wz ?_|fail)
   all_goals rfl
theorem qU(l:List aA):LeE (.sl .full (l.map aA.enc) []) (aH l):=LeE.of Le.gh rfl rfl rfl
theorem A4h(h:aA)(hb:h.bulk <=1000000000):aB Tryz.prog G 50 [.sl .full [.sl .full [h.enc] []] []] (.sl .none [h.enc] []):=by
 have k:=(uP G [[h]] (by simp) (by simp) (fun x hx=>by simp at hx;subst hx;exact oV G x hb)).lessArgs (args:=[.sl .full [.sl .full [h.enc] []] []]) (.cons (Le.sl (.cons (qU [h]) .nil)) .nil)
 simpa [aH] using k
theorem B4f(h:aA)(l:List aA)(hh:h.bulk <=1000000000)(hb:aV l < 1000000000):aB Tryz.prog G 50 [.sl .full [.sl .full [h.enc] [],aH l] []] (aH (h::l)):=by
 have hl:=dY l
 have k:=(uP G [[h],l] (by simp) (by simp;omega) (fun x hx=>by
  simp at hx
  rcases hx with rfl|hx
  ·exact oV G _ hh
  ·exact oV G x (by have:=eQ hx;omega))).lessArgs (args:=[.sl .full [.sl .full [h.enc] [],aH l] []]) (.cons (Le.sl (.cons (qU [h]) (.cons (LeE.of (Le.refl _) rfl rfl rfl) .nil))) .nil)
 simpa using k
theorem xF(l:List aA)(hb:aV l < 1000000000):aB Tryz.prog G 50 [.sl .full [aH l] []] (aH l):=
 sW G l (by have:=dY l;omega) fun x hx=>oV G x (by have:=eQ hx;omega)
theorem pM(h t:aA):(fH h t).bulk <=h.bulk+t.bulk+1:=by
 have:=t.bulk_eq
 unfold fH
 split <;>simp only[bA,aA.bulk,aV,List.length_nil] <;>omega
theorem rU(l r:List aA):Le (.agg [.int .u8 7, .bool false, .nil, .str [], .int .i64 0,aH l,aH r]) (bA l r).enc:=by
 rw[<- aA.fold_enc (bA l r)]
 refine Le.agg ?_ (fun d hd=>ones (bA l r) d (by rw[aA.flat_enc];exact hd))
 exact .cons (Le.refl _) (.cons (Le.refl _) (.cons Le.nil (.cons (Le.refl _) (.cons (Le.refl _) (.cons (Le.refl _) (.cons (Le.refl _) .nil))))))
end
set_option maxRecDepth 20000
section
def mN:=And.intro (And.intro (And.intro (And.intro @jD (And.intro @iZ @jJ)) (And.intro @eG (And.intro @jE @dL))) (And.intro (And.intro @eN (And.intro @dV @eD)) (And.intro @qJ (And.intro @aA.flat_enc @aA.isv_enc)))) (And.intro (And.intro (And.intro @aA.fold_enc (And.intro @aS @aN)) (And.intro @aU (And.intro @bW @bG))) (And.intro (And.intro @aQ (And.intro @aM @aZ)) (And.intro @cH (And.intro @bQ @bB))))
variable (G:Nat ->AV)
theorem A9t(l r:List aA)(hb:aV l+aV r < 900000000):aB Tryz.prog G 9 [.agg [.int .u8 7, .bool false, .nil, .str [], .int .i64 0,aH l,aH r]] (.bool (right (bA l r))):=
 (cP G (bA l r) (by simp[bA,aA.bulk];omega)).lessArgs (.cons (rU l r) .nil)
set_option maxHeartbeats 1000000 in
theorem C4p(h t:aA)(hh:h.bulk <=300000000)(ht:t.bulk <=300000000):aB Tryz.prog G 20 [h.enc,t.enc] (cons h t).enc:=by
 have rh:=cP G h (by omega)
 have rt:=cP G t (by omega)
 have c1:=A4h G h (by omega)
 have c2:=A4h G t (by omega)
 have hbt:=t.bulk_eq
 refine aB.of_le fun σ=> ?_
 cases eh:right h with
 | false=>
  rw[rO (by simp[eh])]
  rw[eh]at rh
  refine aJ.of_awp mixed Tryz.func20 rfl (by kernel_rfl) (by kernel_rfl) (by simp[Tryz.ntmps20]) Tryz.results20 ?_
  repeat'(first|refine xs ?_ ?_ <;>intros|(refine wn ?_;intro bx hbx;try simp only[fb]at hbx)|refine wp rh ?_|refine wp rt ?_|refine wj ?_|simp -dsimp only[↓bp,bq,br,seval,mN, *]|refine wz ?_|fail)
  exact aL (gT 0 false [] 0) (by repeat' first|exact lr _|assumption|refine ls ?_ ?_|refine lt ?_ ?_|simp only[*];done|simp only[fb, *,not_false_eq_true,and_self];done|exact lf ‹_› (by simp only[*]))
 | true=>cases et:right t with
  | false=>
   rw[rO (by simp[et])]
   rw[eh]at rh
   rw[et]at rt
   refine aJ.of_awp mixed Tryz.func20 rfl (by kernel_rfl) (by kernel_rfl) (by simp[Tryz.ntmps20]) Tryz.results20 ?_
   repeat'(first|refine xs ?_ ?_ <;>intros|(refine wn ?_;intro bx hbx;try simp only[fb]at hbx)|refine wp rh ?_|refine wp rt ?_|refine wj ?_|simp -dsimp only[↓bp,bq,br,seval,mN, *]|refine wz ?_|fail)
   exact aL (gT 0 false [] 0) (by repeat' first|exact lr _|assumption|refine ls ?_ ?_|refine lt ?_ ?_|simp only[*];done|simp only[fb, *,not_false_eq_true,and_self];done|exact lf ‹_› (by simp only[*]))
  | true=>
   rw[eh]at rh
   rw[et]at rt
   by_cases h7:t.knd=7
   ·have hc0:fH h t=bA (h::t.items) t.tail:=by unfold fH;rw[if_pos h7]
    have c3:=B4f G h t.items (by omega) (by omega)
    have c4:=xF G t.tail (by omega)
    have r1:=A9t G (h::t.items) t.tail (by simp only[aV];omega)
    rw[<- hc0]at r1
    have k7:=eq_true h7
    clear h7
    cases er:right (fH h t)with
    | false=>
     have e:cons h t=cN:=by unfold cons;rw[if_neg (by simp[er])]
     rw[e]
     rw[er]at r1
     refine aJ.of_awp mixed Tryz.func20 rfl (by kernel_rfl) (by kernel_rfl) (by simp[Tryz.ntmps20]) Tryz.results20 ?_
     repeat'(first|refine xs ?_ ?_ <;>intros|(refine wn ?_;intro bx hbx;try simp only[fb]at hbx)|refine wp rh ?_|refine wp rt ?_|refine wp c1 ?_|refine wp c2 ?_|refine wp c3 ?_|refine wp c4 ?_|refine wp r1 ?_|refine wj ?_|simp -dsimp only[↓bp,bq,br,seval,mN, *]|refine wz ?_|fail)
     exact aL (gT 0 false [] 0) (by repeat' first|exact lr _|assumption|refine ls ?_ ?_|refine lt ?_ ?_|simp only[*];done|simp only[fb, *,not_false_eq_true,and_self];done|exact lf ‹_› (by simp only[*]))
    | true=>
     have e:cons h t=bA (h::t.items) t.tail:=by unfold cons;rw[if_pos ⟨eh,et,er⟩,hc0]
     rw[e]
     rw[er]at r1
     refine aJ.of_awp mixed Tryz.func20 rfl (by kernel_rfl) (by kernel_rfl) (by simp[Tryz.ntmps20]) Tryz.results20 ?_
     repeat'(first|refine xs ?_ ?_ <;>intros|(refine wn ?_;intro bx hbx;try simp only[fb]at hbx)|refine wp rh ?_|refine wp rt ?_|refine wp c1 ?_|refine wp c2 ?_|refine wp c3 ?_|refine wp c4 ?_|refine wp r1 ?_|refine wj ?_|simp -dsimp only[↓bp,bq,br,seval,mN, *]|refine wz ?_|fail)
     exact aL (rU _ _) (by repeat' first|exact lr _|assumption|refine ls ?_ ?_|refine lt ?_ ?_|simp only[*];done|simp only[fb, *,not_false_eq_true,and_self];done|exact lf ‹_› (by simp only[*]))
   ·have hc0:fH h t=bA [h] [t]:=by unfold fH;rw[if_neg h7]
    have r1:=A9t G [h] [t] (by simp only[aV];omega)
    rw[<- hc0]at r1
    simp only[aH,List.map_cons,List.map_nil]at r1
    have k7:=eq_false h7
    clear h7
    cases er:right (fH h t)with
    | false=>
     have e:cons h t=cN:=by unfold cons;rw[if_neg (by simp[er])]
     rw[e]
     rw[er]at r1
     refine aJ.of_awp mixed Tryz.func20 rfl (by kernel_rfl) (by kernel_rfl) (by simp[Tryz.ntmps20]) Tryz.results20 ?_
     repeat'(first|refine xs ?_ ?_ <;>intros|(refine wn ?_;intro bx hbx;try simp only[fb]at hbx)|refine wp rh ?_|refine wp rt ?_|refine wp c1 ?_|refine wp c2 ?_|refine wp r1 ?_|refine wj ?_|simp -dsimp only[↓bp,bq,br,seval,mN, *]|refine wz ?_|fail)
     exact aL (gT 0 false [] 0) (by repeat' first|exact lr _|assumption|refine ls ?_ ?_|refine lt ?_ ?_|simp only[*];done|simp only[fb, *,not_false_eq_true,and_self];done|exact lf ‹_› (by simp only[*]))
    | true=>
     have e:cons h t=bA [h] [t]:=by unfold cons;rw[if_pos ⟨eh,et,er⟩,hc0]
     rw[e]
     rw[er]at r1
     refine aJ.of_awp mixed Tryz.func20 rfl (by kernel_rfl) (by kernel_rfl) (by simp[Tryz.ntmps20]) Tryz.results20 ?_
     repeat'(first|refine xs ?_ ?_ <;>intros|(refine wn ?_;intro bx hbx;try simp only[fb]at hbx)|refine wp rh ?_|refine wp rt ?_|refine wp c1 ?_|refine wp c2 ?_|refine wp r1 ?_|refine wj ?_|simp -dsimp only[↓bp,bq,br,seval,mN, *]|refine wz ?_|fail)
     exact aL (rU [h] [t]) (by repeat' first|exact lr _|assumption|refine ls ?_ ?_|refine lt ?_ ?_|simp only[*];done|simp only[fb, *,not_false_eq_true,and_self];done|exact lf ‹_› (by simp only[*]))
end
end Go.Proofs.YtdhbdhopnpmboaaGreatDoor
