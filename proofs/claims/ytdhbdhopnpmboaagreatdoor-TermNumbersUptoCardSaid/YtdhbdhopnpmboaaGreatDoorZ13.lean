/- strings.Builder's check whether it was copied, on the machine. -/
import Derived.Test.YtdhbdhopnpmboaaGreatDoorZ06
import Derived.Shelf.Strings.BuilderX
import Derived.Lib.Strings
import Derived.Lib.Slices
import Derived.Lib.Walk
import Derived.Lib.Builder
import Derived.Lib.AppendStr
import Derived.Lib.UnsafeStr
import Derived.Lib.MakeNoZero
import Derived.Laws.Externs
import Derived.Test.YtdhbdhopnpmboaaGreatDoorChecked
import Derived.KernelRfl
import Derived.Test.YtdhbdhopnpmboaaGreatDoorZ07
import Derived.Laws.Tables
import Derived.Test.YtdhbdhopnpmboaaGreatDoorZ10
import Derived.Test.YtdhbdhopnpmboaaGreatDoorZ08
import Derived.Test.YtdhbdhopnpmboaaGreatDoorZ12
import Derived.Test.YtdhbdhopnpmboaaGreatDoorZ11
set_option linter.unusedVariables false
set_option linter.unusedSimpArgs false
set_option linter.defProp false
namespace Go.Proofs.YtdhbdhopnpmboaaGreatDoor
open Go Go.Av
section
open Go Go.RowKit
set_option maxHeartbeats 1000000 in
set_option maxRecDepth 100000 in
theorem A4i(b:Nat)(w:World)(h0:w.cell? ⟨b,0,none⟩=some (.pointer (some ⟨b,0,none⟩))):
  Calls Tryz.prog 75 #[.pointer (some ⟨b,0,none⟩)] w fun e w'=>e= .returned (.tuple #[]) /\ w'=w:=by
 have mixed:Tryz.prog.follows .mixedOrders=true:=by kernel_rfl
 have t72:=Tryz.underlying56;have a72:=Tryz.isAgg56;have z72:=Tryz.sizeOf56;have v72:=Tryz.zeroValue56;have u72:=run_underlying Tryz.underlying56
 have t70:=Tryz.underlying54;have a70:=Tryz.isAgg54;have z70:=Tryz.sizeOf54;have v70:=Tryz.zeroValue54;have u70:=run_underlying Tryz.underlying54
 have t4:=Tryz.underlying4;have a4:=Tryz.isAgg4;have z4:=Tryz.sizeOf4;have v4:=Tryz.zeroValue4;have u4:=run_underlying Tryz.underlying4
 obtain⟨j,hj,_⟩:∃ j,Tryz.prog.info? 56=some j /\ j.size=2:=⟨_,rfl,by kernel_rfl⟩
 go_enter Tryz.func75,Tryz.ntmps75
 go_wp2
 rw[Lib.run_neq_ptr_same w _ Tryz.underlying54 hj]
 go_wp2
 go_end0
 exact⟨rfl,rfl⟩
set_option maxHeartbeats 1000000 in
set_option maxRecDepth 100000 in
theorem A2n(b:Nat)(w:World)(h0:w.cell? ⟨b,0,none⟩=some (.pointer none))(hsh:w.shape? b=some (56,2))(hfz:w.frozen? ⟨b,0,none⟩=false):
  Calls Tryz.prog 75 #[.pointer (some ⟨b,0,none⟩)] w fun e w'=>e= .returned (.tuple #[]) /\ w'=w.setCell ⟨b,0,none⟩ (.pointer (some ⟨b,0,none⟩)):=by
 have mixed:Tryz.prog.follows .mixedOrders=true:=by kernel_rfl
 have t72:=Tryz.underlying56;have a72:=Tryz.isAgg56;have z72:=Tryz.sizeOf56;have v72:=Tryz.zeroValue56;have u72:=run_underlying Tryz.underlying56
 have t70:=Tryz.underlying54;have a70:=Tryz.isAgg54;have z70:=Tryz.sizeOf54;have v70:=Tryz.zeroValue54;have u70:=run_underlying Tryz.underlying54
 have t4:=Tryz.underlying4;have a4:=Tryz.isAgg4;have z4:=Tryz.sizeOf4;have v4:=Tryz.zeroValue4;have u4:=run_underlying Tryz.underlying4
 have t164:=Tryz.underlying136;have a164:=Tryz.isAgg136;have z164:=Tryz.sizeOf136;have v164:=Tryz.zeroValue136;have u164:=run_underlying Tryz.underlying136
 obtain⟨j,hj,hjs⟩:∃ j,Tryz.prog.info? 56=some j /\ j.size=2:=⟨_,rfl,by kernel_rfl⟩
 go_enter Tryz.func75,Tryz.ntmps75
 go_wp2
 rw[Lib.run_to_unsafe w ⟨b,0,none⟩ t70 t164 hj (by rw[hjs];decide) hsh (Nat.zero_lt_succ 1)]
 simp only[Result.andThen]
 rw[Oper.upon_value]
 go_wp2
 rw[run_callFunc_extern Tryz.func120 (by kernel_rfl) (by kernel_rfl) (by kernel_rfl) (e:=Extern.AbiNoEscape.same) (by kernel_rfl)]
 rw[Lib.run_noEscape]
 simp only[Result.andThen]
 rw[Oper.upon_value]
 go_wp2
 rw[Lib.run_from_unsafe w ⟨b,0,none⟩ t164 t70 hj hsh (by kernel_rfl)]
 simp only[Result.andThen]
 rw[Oper.upon_value]
 go_wp2
 go_end0
 exact⟨rfl,rfl⟩
end
set_option maxRecDepth 100000
section
theorem F1h:tk Tryz.prog 58=some (false,1) /\ sk Tryz.prog 58= .oth /\ (Tryz.prog.underlying 58).isSome=true /\ el Tryz.prog 58=none /\ bZ Tryz.prog 58=some 16 /\ ifc Tryz.prog 58=true:=⟨by kernel_rfl,by kernel_rfl,by kernel_rfl,by kernel_rfl,by kernel_rfl,by kernel_rfl⟩
theorem E1s:tk Tryz.prog 107=some (false,1) /\ sk Tryz.prog 107= .ptr 5 /\ (Tryz.prog.underlying 107).isSome=true /\ el Tryz.prog 107=none /\ zc Tryz.prog 107=some [.nilptr] /\ bZ Tryz.prog 107=some 8:=⟨by kernel_rfl,by kernel_rfl,by kernel_rfl,by kernel_rfl,by kernel_rfl,by kernel_rfl⟩
end
set_option maxRecDepth 20000
section
def C2w:=And.intro (And.intro (And.intro @jD @iZ) (And.intro @jJ @jE)) (And.intro (And.intro @sE @C1e) (And.intro @C1f (And.intro @F1h @E1s)))
variable (G:Nat ->AV)
abbrev Bl(σ0 σ:AS)(b:Nat)(xs:List UInt8):Prop:=Bld 56 5 σ0 σ b xs
theorem A8t{σ:AS}{b:Nat}{p v:AV}(hb:σ.box b=some [p,v])(ht:σ.ty b=some (.t 56,2))(hp:p= .nilptr \/ p= .ptr b 0):
  aJ Tryz.prog G 75 [.ptr b 0] σ fun r σ'=>r= .tup [] /\ σ'=σ.setBox b [.ptr b 0,v]:=by
 refine⟨by kernel_rfl,fun K w vals hr hv=> ?_⟩
 match vals,hv with
 | [x],⟨hx,_⟩=>
  rw[VR.ptr_iff]at hx
  subst hx
  obtain⟨k1,k2,k3,k4,k5,c,E,hc,hl,hcv⟩:=hr.box b _ hb
  obtain⟨c2,fz,hc2,hn2⟩:=hr.ty b _ _ ht
  rw[hc]at hc2
  simp only[Option.some.injEq,Obj.cells.injEq]at hc2
  obtain⟨rfl,rfl,rfl⟩:=hc2
  have h0:=hcv 0 (by simp)
  have h1:=hcv 1 (by simp)
  simp only[List.getElem_cons_zero,List.getElem_cons_succ]at h0 h1
  have hsz:c.size=2:=hn2
  have hcell:w.cell? ⟨b,0,none⟩=some (c.getD 0 Go.undef):=by
   rw[Lib.cell_of_heap hc]
   simp[hsz]
  rcases hp with rfl|rfl
  ·rw[VR.nilptr_iff]at h0
   rw[h0]at hcell
   refine(A2n b w hcell (by simp[World.shape?,hc,hsz]) (by simp[World.frozen?,hc])).mono ?_
   rintro e w' ⟨rfl,rfl⟩
   refine⟨_, .tup [],_,K,rfl,⟨rfl,rfl⟩, .tup [] #[] rfl (fun j h=>by cases h),?_,bO.le.refl K⟩
   have e1:w.setCell ⟨b,0,none⟩ (.pointer (some ⟨b,0,none⟩))=w.setRow b (c.setIfInBounds 0 (.pointer (some ⟨b,0,none⟩))):=by
    exact setCell_eq_setRow w b 0 c _ _ _ hc
   rw[e1]
   refine hr.setBox hb hc _ (by simp) (by simp[hsz]) (fun a ha=> ?_) (fun j hj=> ?_)
   ·simp at ha
    rcases ha with rfl|rfl
    ·rfl
    ·exact k5 _ (by simp)
   ·match j,hj with
    |0,_=>simp[hsz];exact .ptr b 0
    |1,_=>simp only[List.getElem_cons_succ,List.getElem_cons_zero];rw[show(c.setIfInBounds 0 (Value.pointer (some ⟨b,0,none⟩))).getD 1 Go.undef=c.getD 1 Go.undef by simp[Array.getD_eq_getD_getElem?]];exact h1
  ·rw[VR.ptr_iff]at h0
   rw[h0]at hcell
   refine(A4i b w hcell).mono ?_
   rintro e w' ⟨rfl,rfl⟩
   exact⟨_, .tup [],σ,K,rfl,⟨rfl,(A0y hb).symm⟩, .tup [] #[] rfl (fun j h=>by cases h),hr,bO.le.refl K⟩
theorem tfB:dU Tryz.prog 45=some (5,1,1):=sE.2.2.2.2.2.2
theorem E0z:el Tryz.prog 45=some 5:=sE.2.2.2.1
theorem eY(xs:List UInt8):(aX xs).length=xs.length:=by simp[aX]
theorem oW(c:UInt8):isv (pJ c)=true:=rfl
theorem mF(c:UInt8):flat (pJ c)=[pJ c]:=rfl
theorem B3w{σ0 σ:AS}{v:AV}{l:List AV}(h:fP 1 5 σ0 σ v l):flat v=[v]:=by cases h <;>rfl
theorem C1v{σ0 σ:AS}{v:AV}{l:List AV}(h:fP 1 5 σ0 σ v l):isv v=true:=by cases h <;>rfl
theorem A8i{σ0 σ:AS}{b:Nat}{xs:List UInt8}(h:Bl σ0 σ b xs)(hl:xs.length <=1000000000)(c:UInt8):
  aJ Tryz.prog G 42 [.ptr b 0,pJ c] σ fun r σ'=>Bl σ0 σ' b (xs++[c]):=by
 obtain⟨p,v,h1,h2,h3,h4,h5⟩:=h.box
 have hc:=A8t G (v:=v) h1 h.ty h2
 have h3':=h3.setOther h.out h4 [.ptr b 0,v]
 have hB':Bl σ0 (σ.setBox b [.ptr b 0,v]) b xs:=⟨h.le.setBox h.out _,h.out,h.ty,_,v,by simp[AS.setBox], .inr rfl,h3',h4,h5⟩
 have hbx:(σ.setBox b [.ptr b 0,v]).box b=some [.ptr b 0,v]:=by simp[AS.setBox]
 generalize σ.setBox b [.ptr b 0,v]=σ1 at*
 refine aJ.of_awp mixed Tryz.func42 rfl (by kernel_rfl) (by kernel_rfl) (by simp[Tryz.ntmps42]) Tryz.results42 ?_
 repeat'(first|refine xs ?_ ?_ <;>intros|(refine wn ?_;intro bx hbx;try simp only[fb]at hbx)|((refine aJ.mono hc ?_;rintro r s ⟨rfl,rfl⟩))|((refine gB (ys:=aX [c]) h3' tfB (bJ E0z) (pK [c]) (by rw[eY,eY];simp;omega) (fun v2 s2 ha=> ?_);have k1:=(ha.keep b _ hbx h4).1;have k2:=B3w ha.buf;have k3:=C1v ha.buf))|refine wj ?_|simp -dsimp only[↓bp,bq,br,seval,C2w,pJ, *]|refine wz ?_|fail)
 exact aE _ (AS.le.refl _) (hB'.push hbx h4 ha h5)
theorem B8i(s:List UInt8):lJ Tryz.prog 9 (.str s)=some (aX s):=C8g jE.2.1
theorem dF{σ0 σ:AS}{b:Nat}{xs:List UInt8}(h:Bl σ0 σ b xs)(ys:List UInt8)(hl:xs.length+ys.length <=1000000000000):
  aJ Tryz.prog G 41 [.ptr b 0, .str ys] σ fun r σ'=>Bl σ0 σ' b (xs++ys):=by
 obtain⟨p,v,h1,h2,h3,h4,h5⟩:=h.box
 have hc:=A8t G (v:=v) h1 h.ty h2
 have h3':=h3.setOther h.out h4 [.ptr b 0,v]
 have hB':Bl σ0 (σ.setBox b [.ptr b 0,v]) b xs:=⟨h.le.setBox h.out _,h.out,h.ty,_,v,by simp[AS.setBox], .inr rfl,h3',h4,h5⟩
 have hbx:(σ.setBox b [.ptr b 0,v]).box b=some [.ptr b 0,v]:=by simp[AS.setBox]
 generalize σ.setBox b [.ptr b 0,v]=σ1 at*
 refine aJ.of_awp mixed Tryz.func41 rfl (by kernel_rfl) (by kernel_rfl) (by simp[Tryz.ntmps41]) Tryz.results41 ?_
 repeat'(first|refine xs ?_ ?_ <;>intros|(refine wn ?_;intro bx hbx;try simp only[fb]at hbx)|((refine aJ.mono hc ?_;rintro r s ⟨rfl,rfl⟩))|((refine gB (ys:=aX ys) h3' tfB (B8i ys) (pK ys) (by rw[eY,eY];omega) (fun v2 s2 ha=> ?_);have k1:=(ha.keep b _ hbx h4).1;have k2:=B3w ha.buf;have k3:=C1v ha.buf))|refine wj ?_|simp -dsimp only[↓bp,bq,br,seval,C2w, *]|refine wz ?_|fail)
 exact aE _ (AS.le.refl _) (hB'.push hbx h4 ha h5)
theorem A6l{σ0 σ:AS}{b:Nat}{xs:List UInt8}(h:Bl σ0 σ b xs)(hl:xs.length <=1000000000000):
  aJ Tryz.prog G 48 [.ptr b 0] σ fun r σ'=>r= .str xs /\ σ'=σ0:=by
 obtain⟨p,v,h1,h2,h3,h4,h5⟩:=h.box
 revert h3
 generalize hbs:aX xs=bs
 intro h3
 cases h3 with
 | nil hle=>
  have hx:xs=[]:=by cases xs with|nil=>rfl|cons _ _=>cases hbs
  subst hx
  clear h5
  refine aJ.of_awp mixed Tryz.func48 rfl (by kernel_rfl) (by kernel_rfl) (by simp[Tryz.ntmps48]) Tryz.results48 ?_
  repeat'(first|refine xs ?_ ?_ <;>intros|(refine wn ?_;intro bx hbx;try simp only[fb]at hbx)|refine wj ?_|simp -dsimp only[↓bp,bq,br,seval,C2w, *]|refine wz ?_|fail)|row r _ hle g0 g1 gb gx=>
  have hne:xs ≠ []:=h5 (by simp)
  have hlen:bs.length=xs.length:=by rw[<- hbs,eY]
  have hp:(0:Int) < bs.length:=by rw[hlen];have:=List.length_pos_iff.2 hne;omega
  have hp':0 < bs.length:=by omega
  have gb':σ.box r=some (xs.map fun c=> .int .u8 c.toNat):=by rw[gb,<- hbs,A1w];rfl
  clear h5 gx
  have hdel:σ0.le (σ.delBox r):=⟨fun i cs hi=>by
   have hne:i ≠ r:=fun e=>by subst e;rw[g0]at hi;cases hi
   show(if i=r then none else σ.box i)=some cs
   rw[if_neg hne];exact h.le.box _ _ hi,fun i m hi=>h.le.tip _ _ hi,h.le.ty⟩
  refine aJ.of_awp mixed Tryz.func48 rfl (by kernel_rfl) (by kernel_rfl) (by simp[Tryz.ntmps48]) Tryz.results48 ?_
  repeat'(first|refine xs ?_ ?_ <;>intros|(refine wn ?_;intro bx hbx;try simp only[fb]at hbx)|(refine C7h (E:=5) (l:=xs) E1s.2.1 (by kernel_rfl) gb' hne rfl ?_)|refine wj ?_|simp -dsimp only[↓bp,bq,br,seval,C2w, *]|refine wz ?_|fail)
  all_goals skip
end
set_option maxRecDepth 20000
section
def A2k:=And.intro (And.intro @jD (And.intro @iZ @jJ)) (And.intro (And.intro @jE @sE) (And.intro @oW @mF))
variable (G:Nat ->AV)
theorem A4e(s:List UInt8)(i:Nat)(c:UInt8)(h:i < s.length):(aX s).take i++[pJ c]++(aX s).drop (i+1)=aX (s.set i c):=by
 unfold aX
 rw[List.append_assoc,<- List.map_take,<- List.map_drop,List.set_eq_take_append_cons_drop,if_pos h,List.map_append,List.map_cons]
 rfl
theorem A4d(s:List UInt8)(i:Nat):(aX s)[i]? =(s[i]?).map pJ:=by simp[aX]
def zR(s t:List UInt8)(i:Nat):Prop:=t.length=s.length /\ ∀ k,k < s.length ->t[k]? =if k < i \/ s.length - i <=k then s[s.length - 1 - k]? else s[k]?
theorem zR.step{s t:List UInt8}{i:Nat}(h:zR s t i)(hi:i+i+1 < s.length){x y:UInt8}(hx:t[i]? =some x)(hy:t[s.length - 1 - i]? =some y):zR s ((t.set i y).set (s.length - 1 - i) x) (i+1):=by
 obtain⟨h1,h2⟩:=h
 have gx:=h2 i (by omega)
 have gy:=h2 (s.length - 1 - i) (by omega)
 rw[if_neg (by omega),hx]at gx
 rw[if_neg (by omega),hy]at gy
 refine⟨by simp[h1],fun k hk=> ?_⟩
 rw[List.getElem?_set]
 by_cases e1:s.length - 1 - i=k
 ·rw[if_pos e1,if_pos (by simp;omega),if_pos (by omega)]
  rw[gx];congr 1;omega
 ·rw[if_neg e1,List.getElem?_set]
  by_cases e2:i=k
  ·rw[if_pos e2,if_pos (by omega),if_pos (by omega),gy];subst e2;rfl
  ·rw[if_neg e2,h2 k hk]
   by_cases e3:k < i \/ s.length - i <=k
   ·rw[if_pos e3,if_pos (by omega)]
   ·rw[if_neg e3,if_neg (by omega)]
theorem zR.done{s t:List UInt8}{i:Nat}(h:zR s t i)(hi:s.length <=i+i+1):t=s.reverse:=by
 obtain⟨h1,h2⟩:=h
 refine List.ext_getElem? fun k=> ?_
 by_cases hk:k < s.length
 ·rw[h2 k hk,List.getElem?_reverse hk]
  split
  ·rfl
  ·congr 1;omega
 ·rw[List.getElem?_eq_none (by omega),List.getElem?_eq_none (by simp;omega)]
theorem B6h(s:List UInt8)(hl:s.length <=1000000000)(σ:AS)(b:Nat)(hb:σ.box b=some (aX s)):
  aJ Tryz.prog G 78 [.bs b s.length 1 5] σ fun r σ'=>σ'=σ.setBox b (aX s.reverse):=by
 have hw0:IntKind.i64.wrap ((s.length:Int) - 1)=s.length - 1:=aC (by omega) (by omega)
 refine aJ.of_awp mixed Tryz.func78 rfl (by kernel_rfl) (by kernel_rfl) (by simp[Tryz.ntmps78]) Tryz.results78 ?_
 repeat'(first|refine xs ?_ ?_ <;>intros|(refine wn ?_;intro bx hbx;try simp only[fb]at hbx)|refine wj ?_|simp -dsimp only[↓bp,bq,br,seval,A2k,Nat.mul_one,List.head?_drop, *]|refine wz ?_|fail)
 refine aI (fun n e σ'=>∃ (i:Nat) (t:List UInt8),i <=s.length /\ n=s.length - i /\ e 2= .int .i64 i /\ e 3= .int .i64 ((s.length:Int) - 1 - i) /\ zR s t i /\ σ'=σ.setBox b (aX t)) s.length
  ⟨0,s,by omega,by omega,by first|(simp -dsimp only[↓bp,bq,br,seval,A2k,Nat.mul_one,List.head?_drop];done)|(simp -dsimp only[↓bp,bq,br,seval,A2k,Nat.mul_one,List.head?_drop];try rfl),by first|(simp -dsimp only[↓bp,bq,br,seval,A2k,Nat.mul_one,List.head?_drop];done)|(simp -dsimp only[↓bp,bq,br,seval,A2k,Nat.mul_one,List.head?_drop];simp),⟨rfl,fun k hk=>by rw[if_neg (by omega)]⟩,(A0y hb).symm⟩ ?_
 rintro n v σ' ⟨i,t,hi,rfl,h2,h3,ht,rfl⟩
 simp -dsimp only[↓bp,bq,br,seval,A2k,Nat.mul_one,List.head?_drop]at h2 h3
 by_cases hlt:i+i+1 < s.length
 ·obtain⟨x,hx⟩:∃ x,t[i]? =some x:=⟨_,List.getElem?_eq_getElem (by rw[ht.1];omega)⟩
  obtain⟨y,hy⟩:∃ y,t[s.length - 1 - i]? =some y:=⟨_,List.getElem?_eq_getElem (by rw[ht.1];omega)⟩
  have hst:=ht.step hlt hx hy
  have c1:(i:Int) < (s.length:Int) - 1 - i:=by omega
  have hj:(s.length:Int) - 1 - i=((s.length - 1 - i:Nat):Int):=by omega
  have hbx:(aX t)[i]? =some (pJ x):=by rw[A4d,hx];rfl
  have hby:(aX t)[s.length - 1 - i]? =some (pJ y):=by rw[A4d,hy];rfl
  obtain⟨j,hjj⟩:∃ j,s.length - 1 - i=j:=⟨_,rfl⟩
  rw[hjj]at hj hby hst
  rw[hj]at h3 c1
  have hb1:(0:Int) <=i /\ (i:Int) < s.length:=by omega
  have hb2:(0:Int) <=j /\ (j:Int) < s.length:=by omega
  have hl1:i+1 <=(aX t).length:=by rw[eY,ht.1];omega
  have hset1:=A4e t i y (by rw[ht.1];omega)
  have hset2:=A4e (t.set i y) j x (by simp;rw[ht.1];omega)
  have hl2:j+1 <=(aX (t.set i y)).length:=by rw[eY];simp;rw[ht.1];omega
  clear hx hy ht hlt hi hw0 hb
  repeat'(first|refine xs ?_ ?_ <;>intros|(refine wn ?_;intro bx hbx;try simp only[fb]at hbx)|(refine B8y [(13,2),(13,3)] (by kernel_rfl) (by kernel_rfl) ?_)|refine wj ?_|simp -dsimp only[↓bp,bq,br,seval,A2k,Nat.mul_one,List.head?_drop, *]|refine wz ?_|fail)
  have h3':IntKind.i64.wrap ((j:Int) - 1)=(s.length:Int) - 1 - ((i+1:Nat):Int):=by rw[aC (by omega) (by omega)];omega
  have h2':IntKind.i64.wrap ((i:Int)+1)=((i+1:Nat):Int):=by rw[aC (by omega) (by omega)];rfl
  refine⟨s.length - (i+1),by omega,i+1,_,by omega,rfl,by rw[h2'],by rw[h3'],hst,?_⟩
  rfl
 ·have hd:=ht.done (by omega)
  subst hd
  have c1: ¬ (i:Int) < (s.length:Int) - 1 - i:=by omega
  clear hi hlt ht hw0
  repeat'(first|refine xs ?_ ?_ <;>intros|(refine wn ?_;intro bx hbx;try simp only[fb]at hbx)|refine wj ?_|simp -dsimp only[↓bp,bq,br,seval,A2k,Nat.mul_one,List.head?_drop, *]|refine wz ?_|fail)
  exact aE _ (AS.le.refl _) rfl
end
set_option maxRecDepth 20000
section
def vN:=And.intro (And.intro (And.intro (And.intro @jD (And.intro @iZ @jJ)) (And.intro @eG (And.intro @qI @lU))) (And.intro (And.intro @jE (And.intro @dL @eN)) (And.intro @dV (And.intro @eD @aA.flat_enc)))) (And.intro (And.intro (And.intro @aA.isv_enc (And.intro @aA.fold_enc @aQ)) (And.intro @aM (And.intro @aZ @cH))) (And.intro (And.intro @bQ (And.intro @bB @gP)) (And.intro @iJ (And.intro @gO @gQ))))
variable (G:Nat ->AV)
def fR:List UInt32 ->List UInt32
 |[]=> []
 |x::l=>if fR l=[] /\ x=0 then[]else x::fR l
theorem B0d:∀ l,val (fR l)=val l
 |[]=>rfl
 | x::l=>by
  have ih:=B0d l
  simp only[fR]
  split
  ·rename_i h
   obtain⟨h1,rfl⟩:=h
   rw[h1]at ih
   simp only[val]at ih ⊢
   rw[<- ih];rfl
  ·simp only[val,ih]
theorem xS:∀ l,fR (l++[0])=fR l
 |[]=>by simp[fR]
 |x::l=>by simp only[List.cons_append,fR,xS l]
theorem xR:∀ (l:List UInt32) (x:UInt32),x ≠ 0 ->fR (l++[x])=l++[x]
 |[],x,h=>by simp[fR,h]
 |y::l,x,h=>by simp only[List.cons_append,fR,xR l x h];simp
theorem A1d:∀ l,(fR l).length <=l.length
 |[]=>by simp[fR]
 | x::l=>by
  have:=A1d l
  simp only[fR]
  split <;>simp <;>omega
theorem A6m:∀ l,fR l=[] \/ ∃ m x,fR l=m++[x] /\ x ≠ 0
 |[]=> .inl rfl
 | x::l=>by
  simp only[fR]
  rcases A6m l with h|⟨m,y,h,hy⟩
  ·by_cases hx:x=0
   ·rw[if_pos ⟨h,hx⟩];exact .inl rfl
   ·rw[if_neg (fun c=>hx c.2),h];exact .inr ⟨[],x,rfl,hx⟩
  ·rw[if_neg (fun c=>by rw[h]at c;simp at c),h];exact .inr ⟨x::m,y,rfl,hy⟩
def jA(neg:Bool)(m:List UInt32):aA:= .mk 1 neg m [] 0 [] []
def yY(l:List UInt32)(neg:Bool):AV:=if(fR l).length <=32 then .tup [(jA (neg && decide (0 < ((fR l).length:Int))) (fR l)).enc, .bool true]else .tup [cN.enc, .bool false]
theorem yS(g:Bool)(m:List UInt32):Le (.agg [.int .u8 1, .bool g,bD m, .str [], .int .i64 0, .nil, .nil]) (jA g m).enc:=by
 rw[<- aA.fold_enc (jA g m)]
 refine Le.agg ?_ (fun d hd=>ones (jA g m) d (by rw[aA.flat_enc];exact hd))
 exact .cons (Le.refl _) (.cons (Le.refl _) (.cons (Le.refl _) (.cons (Le.refl _) (.cons (Le.refl _) (.cons Le.nil (.cons Le.nil .nil))))))
theorem C5s(l:List UInt32)(neg:Bool)(hl:l.length <=1000000000):aB Tryz.prog G 77 [bD l, .bool neg] (yY l neg):=by
 refine aB.of_le fun σ=> ?_
 have hc:∀ m:List UInt32,m.length <=1000000000 ->aB Tryz.prog G 49 [bD m] (bD m):=fun m hm=>aB.of_le (A8u G m hm)
 refine aJ.of_awp mixed Tryz.func77 rfl (by kernel_rfl) (by kernel_rfl) (by simp[Tryz.ntmps77]) Tryz.results77 ?_
 repeat'(first|refine xs ?_ ?_ <;>intros|(refine wn ?_;intro bx hbx;try simp only[fb]at hbx)|refine wj ?_|simp -dsimp only[↓bp,bq,br,seval,vN, *]|refine wz ?_|fail)
 refine aI (fun n e σ'=>∃ m:List UInt32,n=m.length /\ m.length <=l.length /\ fR m=fR l /\ e 0=bD m /\ σ'=σ.setBox bx [.int .u8 0, .bool false, .nil, .str [], .int .i64 0, .nil, .nil]) l.length ⟨l,rfl,Nat.le_refl _,rfl,by first|(simp -dsimp only[↓bp,bq,br,seval,vN];done)|(simp -dsimp only[↓bp,bq,br,seval,vN];try rfl),rfl⟩ ?_
 rintro n v σ' ⟨m,rfl,hml,hst,h0,rfl⟩
 simp -dsimp only[↓bp,bq,br,seval,vN]at h0
 rcases List.eq_nil_or_concat m with rfl|⟨m',x,rfl⟩
 ·have hs:fR l=[]:=by rw[<- hst];rfl
  have hcm:=hc [] (by simp)
  have hlz:(([]:List UInt32).length:Int)=0:=rfl
  have hr:yY l neg= .tup [(jA false []).enc, .bool true]:=by unfold yY;rw[hs];simp
  rw[hr]
  generalize hnil:([]:List UInt32)=q at*
  clear hc hs hst hml hr
  repeat'(first|refine xs ?_ ?_ <;>intros|(refine wn ?_;intro bx hbx;try simp only[fb]at hbx)|refine wp hcm ?_|refine wj ?_|simp -dsimp only[↓bp,bq,br,seval,vN,hlz, *]|refine wz ?_|fail)
  all_goals
   refine aE σ (by repeat' first|exact lr _|assumption|refine ls ?_ ?_|refine lt ?_ ?_|simp only[*];done|simp only[fb, *,not_false_eq_true,and_self];done|exact lf ‹_› (by simp only[*])) ?_
   exact⟨Le.tup (.cons (yS _ _) (.cons (Le.refl _) .nil)),rfl⟩
 ·simp only[List.concat_eq_append]at*
  have hlen:((m'++[x]).length:Int)=m'.length+1:=by simp
  have hlen':(m'++[x]).length=m'.length+1:=by simp
  have hw:IntKind.i64.wrap ((m'.length:Int)+1 - 1)=m'.length:=by rw[aC (by omega) (by omega)];omega
  have hget:(m'++[x])[m'.length]? =some x:=by simp
  have htake:(m'++[x]).take m'.length=m':=by simp
  have hcm:=hc (m'++[x]) (by omega)
  have hp:(0:Int) < m'.length+1:=by omega
  have hmm:m'.length <=(m'++[x]).length:=by omega
  by_cases hx:x=0
  ·subst hx
   rw[xS]at hst
   have hz:((0:UInt32).toNat:Int)=0:=rfl
   have hml':m'.length <=l.length:=by omega
   generalize hq:m'++[0]=q at*
   clear hc hml hlen'
   repeat'(first|refine xs ?_ ?_ <;>intros|(refine wn ?_;intro bx hbx;try simp only[fb]at hbx)|refine wj ?_|simp -dsimp only[↓bp,bq,br,seval,vN,hlen,hw,bC,hz,zH, *]|refine wz ?_|fail)
   all_goals exact⟨m'.length,by rw[<- hq];simp,m',rfl,hml',hst,rfl⟩
  ·have hs:fR l=m'++[x]:=by rw[<- hst,xR _ _ hx]
   have hz: ¬ (x.toNat:Int)=0:=fun e=>hx (UInt32.toNat_inj.1 (by simpa using e))
   by_cases h32:m'.length+1 <=32
   ·have hr:yY l neg= .tup [(jA (neg && true) (m'++[x])).enc, .bool true]:=by unfold yY;rw[hs,hlen',if_pos h32];congr 5;simp
    rw[hr]
    have h32': ¬ (32:Int) < m'.length+1:=by omega
    generalize hq:m'++[x]=q at*
    clear hc hs hst hml hr h32 hlen'
    repeat'(first|refine xs ?_ ?_ <;>intros|(refine wn ?_;intro bx hbx;try simp only[fb]at hbx)|refine wp hcm ?_|refine wj ?_|simp -dsimp only[↓bp,bq,br,seval,vN,hlen,hw,bC,hz,zH, *]|refine wz ?_|fail)
    all_goals
     refine aE σ (by repeat' first|exact lr _|assumption|refine ls ?_ ?_|refine lt ?_ ?_|simp only[*];done|simp only[fb, *,not_false_eq_true,and_self];done|exact lf ‹_› (by simp only[*])) ?_
     cases neg <;>first|exact⟨Le.tup (.cons (yS _ _) (.cons (Le.refl _) .nil)),rfl⟩|(exfalso;simp_all;done)
   ·have hr:yY l neg= .tup [cN.enc, .bool false]:=by unfold yY;rw[hs,hlen',if_neg h32]
    rw[hr]
    have h32':(32:Int) < m'.length+1:=by omega
    generalize hq:m'++[x]=q at*
    clear hc hs hst hml hr h32 hlen'
    repeat'(first|refine xs ?_ ?_ <;>intros|(refine wn ?_;intro bx hbx;try simp only[fb]at hbx)|refine wp hcm ?_|refine wj ?_|simp -dsimp only[↓bp,bq,br,seval,vN,hlen,hw,bC,hz,zH, *]|refine wz ?_|fail)
    all_goals
     refine aE σ (by repeat' first|exact lr _|assumption|refine ls ?_ ?_|refine lt ?_ ?_|simp only[*];done|simp only[fb, *,not_false_eq_true,and_self];done|exact lf ‹_› (by simp only[*])) ?_
     exact⟨Le.tup (.cons (gT 0 false [] 0) (.cons (Le.refl _) .nil)),rfl⟩
end
set_option maxRecDepth 20000
section
def jN:=And.intro (And.intro (And.intro (And.intro @jD (And.intro @iZ @jJ)) (And.intro @eG (And.intro @jE @dL))) (And.intro (And.intro @sE (And.intro @eN @dV)) (And.intro @eD (And.intro @eY @aA.flat_enc)))) (And.intro (And.intro (And.intro @aA.isv_enc (And.intro @aA.fold_enc @aS)) (And.intro @aN (And.intro @aU @aQ))) (And.intro (And.intro @aM (And.intro @aZ @cH)) (And.intro (And.intro @bQ @bB) (And.intro @oW @mF))))
variable (G:Nat ->AV)
theorem B8o{m:List UInt32}(h:m=[] \/ ∃ q x,m=q++[x] /\ x ≠ 0)(h0:val m=0):m=[]:=by
 rcases h with h|⟨q,x,rfl,hx⟩
 ·exact h
 ·rw[jW]at h0
  simp only[val]at h0
  have hp:0 < 4294967296 ^ q.length:=Nat.pow_pos (by omega)
  have:x.toNat ≠ 0:=fun e=>hx (UInt32.toNat_inj.1 (by simpa using e))
  have:0 < 4294967296 ^ q.length*(x.toNat+4294967296*0):=Nat.mul_pos hp (by omega)
  omega
theorem D4x{t:aA}(h:wr t=true):t=jA t.neg t.limbs /\ (t.limbs=[] \/ ∃ q x,t.limbs=q++[x] /\ x ≠ 0) /\ t.limbs.length <=32:=by
 obtain⟨h1,h2,h3,h4,h5,h6,h7,h8⟩:=oR h
 refine⟨D4h h1 rfl rfl h2 h3 h4 h5,?_,h6⟩
 rcases List.eq_nil_or_concat t.limbs with e|⟨q,x,e⟩
 ·exact .inl e
 ·rw[List.concat_eq_append]at e
  refine .inr ⟨q,x,e,fun hx=> ?_⟩
  have:=h8 (by rw[e];simp)
  rw[e]at this
  simp[jT,hx]at this
theorem dA(g:Bool)(m:List UInt32):(jA g m).limbs=m:=rfl
theorem fW(g:Bool)(m:List UInt32):AV.agg [.int .u8 (jA g m).knd, .bool g,bD m, .str (jA g m).text, .int .i64 (jA g m).num,aH (jA g m).items,aH (jA g m).tail]=(jA g m).enc:=(jA g m).fold_enc
theorem eZ(g:Bool)(m:List UInt32):(jA g m).neg=g:=rfl
theorem A0f{n:Nat}(h:n ≠ 0):kT n=UInt8.ofNat (48+n % 10)::kT (n / 10):=by rw[kT,dif_neg h]
theorem C9n(d:Nat)(h:d < 10):AV.int .u8 (IntKind.u8.wrap (IntKind.u32.wrap (48+(d:Int))))=pJ (UInt8.ofNat (48+d)):=by
 unfold pJ
 rw[sF (by omega) (by omega),IntKind.wrap_u8,UInt8.toNat_ofNat']
 congr 1
theorem bU(l:List UInt8):iI (aX l)=some l:=by
 induction l with
 |nil=>rfl
 | cons c l ih=>
  have:Av.byteOf (pJ c)=some c:=by simp[Av.byteOf,pJ]
  simp only[aX,List.map_cons,iI]at ih ⊢
  rw[this,ih]
theorem oU(a b:List UInt8):aX a++aX b=aX (a++b):=by simp[aX]
theorem A2x{σ1 s:AS}{v:AV}{zs:List UInt8}(h:fP 1 5 σ1 s v (aX zs))(hne:zs ≠ [])(hl:zs.length <=1000000):
  aJ Tryz.prog G 78 [v] s fun r s'=>∃ rr,v= .bs rr zs.length 1 5 /\ s'.box rr=some (aX zs.reverse) /\ σ1.le s':=by
 obtain⟨r,hr,hrb,hr0,hr1⟩:=h.form (by simpa [aX] using hne)
 rw[A1w]at hrb
 rw[eY]at hr
 subst hr
 refine(B6h G zs (by omega) s r hrb).mono ?_
 rintro _ s' rfl
 exact⟨r,rfl,by simp[AS.setBox],h.le.setBox hr0 _⟩
theorem A4l:∀ (k n:Nat),n < 10 ^ k -> (kT n).length <=k
 | 0,n,h=>by
  have:n=0:=by simp at h;omega
  subst this
  rw[kT];simp
 | k+1,n,h=>by
  by_cases h0:n=0
  ·subst h0;rw[kT];simp
  ·rw[A0f h0,List.length_cons]
   have:=A4l k (n / 10) (by rw[Nat.pow_succ]at h;omega)
   omega
theorem C1h:∀ l:List UInt32,val l < 4294967296 ^ l.length
 |[]=>by simp[val]
 | x::l=>by
  have:=C1h l
  have:=x.toNat_lt
  simp only[val,List.length_cons,Nat.pow_succ]
  omega
theorem A0e{l:List UInt32}(h:l.length <=32):(kT (val l)).length <=309:=by
 refine A4l 309 _ (Nat.lt_of_lt_of_le (C1h l) (Nat.le_trans (Nat.pow_le_pow_right (by omega) h) ?_))
 decide+kernel
set_option maxHeartbeats 2000000 in
theorem C1l(t:aA)(hb:t.bulk <=1000000000):aB Tryz.prog G 44 [t.enc] (.str (if wr t=true then tX t else[])):=by
 have hw:=mY G t hb
 cases ew:wr t with
 | false=>
  rw[ew]at hw
  intro σ
  refine aJ.of_awp mixed Tryz.func44 rfl (by kernel_rfl) (by kernel_rfl) (by simp[Tryz.ntmps44]) Tryz.results44 ?_
  repeat'(first|refine xs ?_ ?_ <;>intros|(refine wn ?_;intro bx hbx;try simp only[fb]at hbx)|refine wp hw ?_|refine wj ?_|simp -dsimp only[↓bp,bq,br,seval,jN,bU,fW,dA,eZ,List.length_reverse, *]|refine wz ?_|fail)
  all_goals rfl
 | true=>
  rw[ew]at hw
  obtain⟨et,hcan,h32⟩:=D4x ew
  rw[if_pos rfl]
  obtain⟨g,hg⟩:∃ g,t.neg=g:=⟨_,rfl⟩
  obtain⟨l,hl⟩:∃ l,t.limbs=l:=⟨_,rfl⟩
  have hsaid:tX t=(if g=true then[45]else[])++A0d (val l):=by unfold tX;rw[hg,hl]
  rw[hsaid]
  rw[hg,hl]at et
  rw[hl]at hcan h32
  subst et
  clear hsaid hg hl hb ew
  have hsh:=fun(m:List UInt32) (h:m.length <=32)=>C0w G m 10 (by omega) (by omega) (by omega)
  have hmd:=fun(m:List UInt32) (h:m.length <=32)=>C5s G m false (by omega)
  have hdb:=A0e h32
  intro σ
  refine aJ.of_awp mixed Tryz.func44 rfl (by kernel_rfl) (by kernel_rfl) (by simp[Tryz.ntmps44]) Tryz.results44 ?_
  repeat'(first|refine xs ?_ ?_ <;>intros|(refine wn ?_;intro bx hbx;try simp only[fb]at hbx)|refine wp hw ?_|refine wj ?_|simp -dsimp only[↓bp,bq,br,seval,jN,bU,fW,dA,eZ,List.length_reverse, *]|refine wz ?_|fail)
  rename_i b1 hb1
  obtain⟨σ1,hs1⟩:∃ σ1,σ1=σ.setBox b1 (flat (jA g l).enc):=⟨_,rfl⟩
  have hle1:σ.le σ1:=by rw[hs1];exact(AS.le.refl σ).setBox hb1.1 _
  have hf1:σ1.box b1=some (flat (jA g l).enc):=by rw[hs1];simp[AS.setBox]
  rw[aA.flat_enc,dA,eZ]at hs1
  rw[<- hs1]
  have hbx':σ1.fresh bx:=by rw[hs1,kA];exact⟨hbx.1,hbx.2.1⟩
  refine aI (fun n e σ'=>∃ (m:List UInt32) (gg:Bool) (b4:Nat) (v:AV) (xs:List UInt8),n=val m /\ (m=[] \/ ∃ q x,m=q++[x] /\ x ≠ 0) /\ m.length <=32 /\ e 4= .ptr b4 0 /\ σ'.box b4=some (flat (jA gg m).enc) /\ e 3=v /\
   fP 1 5 σ1 σ' v (aX xs) /\ cS v b4 /\ σ1.box b4=none /\ xs++kT (val m)=kT (val l)) (val l)
   ⟨l,g,bx, .nil,[],rfl,hcan,h32,by first|(simp -dsimp only[↓bp,bq,br,seval,jN,bU,fW,dA,eZ,List.length_reverse];done)|(simp -dsimp only[↓bp,bq,br,seval,jN,bU,fW,dA,eZ,List.length_reverse];try rfl),by rw[aA.flat_enc];first|(simp -dsimp only[↓bp,bq,br,seval,jN,bU,fW,dA,eZ,List.length_reverse];done)|(simp -dsimp only[↓bp,bq,br,seval,jN,bU,fW,dA,eZ,List.length_reverse];try rfl),by first|(simp -dsimp only[↓bp,bq,br,seval,jN,bU,fW,dA,eZ,List.length_reverse];done)|(simp -dsimp only[↓bp,bq,br,seval,jN,bU,fW,dA,eZ,List.length_reverse];try rfl), .nil ((AS.le.refl σ1).setBox hbx'.1 _),trivial,hbx'.1,rfl⟩ ?_
  rintro n v σ' ⟨m,gg,b4,v3,xs,rfl,hc,hm,h4,hb4,h3,hB,hn,h14,hxs⟩
  have hsh:=hsh m hm
  obtain⟨q1,q2,q3⟩:=vY 10 (by omega) (by omega) m
  have hmd:=hmd (iE m 10).1 (by omega)
  have hsl:=A1d (iE m 10).1
  have hmr:yY (iE m 10).1 false= .tup [(jA false (fR (iE m 10).1)).enc, .bool true]:=by unfold yY;rw[if_pos (by omega),Bool.false_and]
  rw[hmr]at hmd
  have hv1:val (fR (iE m 10).1)=val m / 10:=by rw[B0d];omega
  have hd1:(iE m 10).2=val m % 10:=by omega
  have hcn:=A6m (iE m 10).1
  rw[aA.flat_enc,dA,eZ]at hb4
  rw[hd1]at hsh q2
  generalize hq:(iE m 10).1=q at*
  generalize fR q=q' at*
  simp -dsimp only[↓bp,bq,br,seval,jN,bU,fW,dA,eZ,List.length_reverse]at h4 h3
  rcases List.eq_nil_or_concat m with hm0|⟨m',x,hm0⟩
  ·have hml:(m.length:Int)=0:=by rw[hm0];rfl
   have hxd:xs=kT (val l):=by
    rw[hm0]at hxs
    have e0:kT (val [])=[]:=by rw[kT];simp[val]
    rw[e0,List.append_nil]at hxs
    exact hxs
   have hlv:=hB.len (P:=Tryz.prog) (t:=45)
   rw[eY]at hlv
   have hk0:=hB.le.box b1 _ hf1
   rw[aA.flat_enc,dA,eZ]at hk0 hf1
   have a48:lJ Tryz.prog 45 (.sl .full [.int .u8 48] [])=some (aX [48]):=bJ E0z
   have a45:lJ Tryz.prog 45 (.sl .full [.int .u8 45] [])=some (aX [45]):=bJ E0z
   have hxl:xs.length <=309:=by rw[hxd];exact hdb
   have hdec:A0d (val l)=if xs=[]then[48]else xs.reverse:=by
    unfold A0d
    by_cases hv:val l=0
    ·rw[if_pos hv,if_pos (by rw[hxd,hv,kT];simp)]
    ·rw[if_neg hv,if_neg (by rw[hxd];exact C2c hv),hxd]
   rw[hdec]
   clear hdec hw hsh hmd hdb hm0 hxs hmr hv1 hd1 hcn hc hs1 hxd q1 q2 q3 hsl hq hbx hm
   by_cases hx0:xs=[]
   ·subst hx0
    rw[if_pos rfl]
    have hz:(([]:List UInt8).length:Int)=0:=rfl
    rw[hz]at hlv
    cases g with
    | false=>
     repeat'(first|refine xs ?_ ?_ <;>intros|(refine wn ?_;intro bx hbx;try simp only[fb]at hbx)|((refine gB (ys:=aX [48]) hB tfB a48 (pK _) (by simp[aX]) (fun v5 s5 ha=> ?_);have k5:=ha.buf.le.box b1 _ hf1;have hb5:=ha.buf;have hl5:=hb5.len (P:=Tryz.prog) (t:=45);rw[oU]at hb5;clear ha))|((refine aJ.mono (A2x G hb5 (by simp) (by simp)) ?_;rintro _ s ⟨rr,rfl,hrr,hles⟩;replace hles:=hle1.trans hles))|refine wj ?_|simp -dsimp only[↓bp,bq,br,seval,jN,bU,fW,dA,eZ,List.length_reverse, *]|refine wz ?_|fail)
     all_goals simp
    | true=>
     repeat'(first|refine xs ?_ ?_ <;>intros|(refine wn ?_;intro bx hbx;try simp only[fb]at hbx)|((refine gB (ys:=aX [48]) hB tfB a48 (pK _) (by simp[aX]) (fun v5 s5 ha=> ?_);have k5:=ha.buf.le.box b1 _ hf1;have hb5:=ha.buf;have hl5:=hb5.len (P:=Tryz.prog) (t:=45);rw[oU]at hb5;clear ha))|((refine gB (ys:=aX [45]) hb5 tfB a45 (pK _) (by simp[aX]) (fun v6 s6 ha=> ?_);have k6:=ha.buf.le.box b1 _ hf1;have hb6:=ha.buf;have hl6:=hb6.len (P:=Tryz.prog) (t:=45);rw[oU]at hb6;clear ha))|((refine aJ.mono (A2x G hb6 (by simp) (by simp)) ?_;rintro _ s ⟨rr,rfl,hrr,hles⟩;replace hles:=hle1.trans hles))|refine wj ?_|simp -dsimp only[↓bp,bq,br,seval,jN,bU,fW,dA,eZ,List.length_reverse, *]|refine wz ?_|fail)
     all_goals simp
   ·rw[if_neg hx0]
    have hz: ¬ (xs.length:Int)=0:=fun e=>hx0 (List.eq_nil_of_length_eq_zero (by omega))
    cases g with
    | false=>
     repeat'(first|refine xs ?_ ?_ <;>intros|(refine wn ?_;intro bx hbx;try simp only[fb]at hbx)|((refine aJ.mono (A2x G hB hx0 (by omega)) ?_;rintro _ s ⟨rr,rfl,hrr,hles⟩;replace hles:=hle1.trans hles))|refine wj ?_|simp -dsimp only[↓bp,bq,br,seval,jN,bU,fW,dA,eZ,List.length_reverse, *]|refine wz ?_|fail)
     all_goals simp
    | true=>
     repeat'(first|refine xs ?_ ?_ <;>intros|(refine wn ?_;intro bx hbx;try simp only[fb]at hbx)|((refine gB (ys:=aX [45]) hB tfB a45 (pK _) (by simp[aX];omega) (fun v6 s6 ha=> ?_);have k6:=ha.buf.le.box b1 _ hf1;have hb6:=ha.buf;have hl6:=hb6.len (P:=Tryz.prog) (t:=45);rw[oU]at hb6;clear ha))|((refine aJ.mono (A2x G hb6 (by simp) (by simp;omega)) ?_;rintro _ s ⟨rr,rfl,hrr,hles⟩;replace hles:=hle1.trans hles))|refine wj ?_|simp -dsimp only[↓bp,bq,br,seval,jN,bU,fW,dA,eZ,List.length_reverse, *]|refine wz ?_|fail)
     all_goals simp
  ·have hml:(0:Int) < m.length:=by rw[hm0];simp
   have hv0:val m ≠ 0:=fun e=>by have:=B8o hc e;rw[hm0]at this;simp at this
   rw[A0f hv0]at hxs
   have hdig:=C9n (val m % 10) q2
   have hlen:xs.length+1 <=309:=by have:=congrArg List.length hxs;simp at this;omega
   have hbs:lJ Tryz.prog 45 (.sl .full [pJ (UInt8.ofNat (48+val m % 10))] [])=some (aX [UInt8.ofNat (48+val m % 10)]):=bJ E0z
   have hq32:q'.length <=32:=by omega
   clear hm0 hw hdb q1 q3 hd1 hmr hsl hf1 hbx hs1 hq
   repeat'(first|refine xs ?_ ?_ <;>intros|(refine wn ?_;intro bx hbx;try simp only[fb]at hbx)|refine wp hsh ?_|refine wp hmd ?_|((refine gB (ys:=aX [UInt8.ofNat (48+val m % 10)]) (hB.setOther h14 hn _) tfB hbs (pK _) (by rw[eY,eY];simp;omega) (fun v5 s5 ha=> ?_);have k1:=ha.keep b4 (flat (jA false q').enc) (by rw[aA.flat_enc];simp[AS.setBox,dA,eZ]) hn;rw[aA.flat_enc,dA,eZ]at k1))|refine wj ?_|simp -dsimp only[↓bp,bq,br,seval,jN,bU,fW,dA,eZ,List.length_reverse, *]|refine wz ?_|fail)
   have hbb:aX xs++aX [UInt8.ofNat (48+val m % 10)]=aX (xs++[UInt8.ofNat (48+val m % 10)]):=by simp[aX]
   have hnb:=ha.buf.newBox hbx
   rw[hbb]at hnb
   exact⟨val q',by rw[hv1];omega,q',false,bx,v5,xs++[UInt8.ofNat (48+val m % 10)],rfl,hcn,hq32,rfl,(by first|(rw[if_pos rfl];done)|(rw[if_pos rfl];rfl)),rfl,(hnb _).1,(hnb []).2,(ha.buf.le.fresh hbx).1,by rw[hv1,List.append_assoc];exact hxs⟩
end
set_option maxRecDepth 20000
section
def iX:=And.intro (And.intro (And.intro (And.intro @jD (And.intro @iZ @jJ)) (And.intro @eG (And.intro @qI @jE))) (And.intro (And.intro @dL (And.intro @sE @eN)) (And.intro (And.intro @dV @eD) (And.intro @wT @lU)))) (And.intro (And.intro (And.intro @aA.flat_enc (And.intro @aA.isv_enc @aA.fold_enc)) (And.intro @aS (And.intro @aN @aU))) (And.intro (And.intro @aQ (And.intro @aM @aZ)) (And.intro (And.intro @kB @iU) (And.intro @lE @hU))))
variable (G:Nat ->AV)
theorem C1z:∀ (l:List Bool) (k:Nat),bv (l.drop k) <=bv l
 |[],k=>by simp
 |d::l,0=>by simp
 |d::l,k+1=>by have:=C1z l k;simp only[List.drop_succ_cons,bv];omega
theorem A8x:kT 0=[]:=by rw[kT];simp
theorem B8v{n:Nat}(h:n ≠ 0)(s:List UInt8):(kT (n / 10)).reverse++(UInt8.ofNat (48+n % 10)::s)=(kT n).reverse++s:=by
 have e:kT n=UInt8.ofNat (48+n % 10)::kT (n / 10):=by rw[kT,dif_neg h]
 rw[e];simp
theorem C4s(d:Nat)(h:d < 10):IntKind.u8.wrap (48+(d:Int))=((UInt8.ofNat (48+d)).toNat:Int):=by
 rw[B5k (by omega)]
 have:d=0 \/ d=1 \/ d=2 \/ d=3 \/ d=4 \/ d=5 \/ d=6 \/ d=7 \/ d=8 \/ d=9:=by omega
 rcases this with rfl|rfl|rfl|rfl|rfl|rfl|rfl|rfl|rfl|rfl <;>decide
set_option maxHeartbeats 4000000 in
theorem A2f(t:aA)(hb:t.bulk <=1000000):aB Tryz.prog G 85 [t.enc] (.str (if wr t=true then tX t else[])):=by
 have hr:=qV G t (by omega)
 cases ew:wr t with
 | false=>
  rw[ew]at hr
  intro σ
  refine aJ.of_awp mixed Tryz.func85 rfl (by kernel_rfl) (by kernel_rfl) (by simp[Tryz.ntmps85]) Tryz.results85 ?_
  repeat'(first|refine xs ?_ ?_ <;>intros|(refine wn ?_;intro bx hbx;try simp only[fb]at hbx)|refine wp hr ?_|refine wj ?_|simp -dsimp only[↓bp,bq,br,seval,iX, *]|refine wz ?_|fail)
  all_goals rfl
 | true=>
  rw[ew]at hr
  rw[if_pos rfl]
  have h32:=(oR ew).2.2.2.2.2.1
  have hbi:=zZ G t (by omega)
  have hdb:=A0e h32
  have hL0:bv (cL (eU t.limbs))=val t.limbs:=by rw[nN,D6i]
  have hLl:(cL (eU t.limbs)).length <=100000:=by have:=iK (eU t.limbs);have:=mE t.limbs;omega
  have hLc:(cL (eU t.limbs)).length=0 ↔ bv (cL (eU t.limbs))=0:=by rw[nN];exact yK _
  generalize cL (eU t.limbs)=L0 at*
  generalize hV:val t.limbs=V at*
  have hsaid:tX t=(if t.neg=true then[45]else[])++A0d V:=by unfold tX;rw[hV]
  rw[hsaid]
  clear ew hb hV hsaid h32
  intro σ
  refine aJ.of_awp mixed Tryz.func85 rfl (by kernel_rfl) (by kernel_rfl) (by simp[Tryz.ntmps85]) Tryz.results85 ?_
  simp -dsimp only[↓bp,bq,br,seval,iX]
  refine cX fun b1 hb1=> ?_
  have hle1:=cE (cs:=[.int .u8 t.knd, .bool t.neg,bD t.limbs, .str t.text, .int .i64 t.num,aH t.items,aH t.tail]) hb1 (AS.le.refl σ)
  repeat'(first|refine xs ?_ ?_ <;>intros|(refine wn ?_;intro bx hbx;try simp only[fb]at hbx)|refine wp hr ?_|refine wp hbi ?_|refine wj ?_|simp -dsimp only[↓bp,bq,br,seval,iX, *]|refine wz ?_|fail)
  refine aD mixed (fun n e=>∃ (L:List Bool) (S:List UInt8),n=bv L /\ e 3=fM L /\ e 4= .str S /\ L.length <=100000 /\ (L.length=0 ↔ bv L=0) /\ (kT (bv L)).reverse++S=(kT V).reverse) (bv L0)
   ⟨L0,[],rfl,by first|(simp -dsimp only[↓bp,bq,br,seval,iX];done)|(simp -dsimp only[↓bp,bq,br,seval,iX];try rfl),by first|(simp -dsimp only[↓bp,bq,br,seval,iX];done)|(simp -dsimp only[↓bp,bq,br,seval,iX];try rfl),hLl,hLc,by rw[hL0,List.append_nil]⟩ ?_
  clear hr hbi hL0 hLl hLc
  rintro n e1 ⟨L,S,rfl,h3,h4,hLl,hLc,hS⟩
  simp -dsimp only[↓bp,bq,br,seval,iX]at h3 h4
  by_cases hz:bv L=0
  ·have hl0:(0 < (L.length:Int))=False:=eq_false (by have:=hLc.2 hz;omega)
   rw[hz,A8x]at hS
   have hS:S=(kT V).reverse:=by simpa using hS
   have hSl:S.length <=309:=by rw[hS,List.length_reverse];exact hdb
   have hdec:A0d V=if S=[]then[48]else S:=by
    unfold A0d
    by_cases hv:V=0
    ·rw[if_pos hv,if_pos (by rw[hS,hv,A8x];rfl)]
    ·rw[if_neg hv,if_neg (by rw[hS];simp[C2c hv]),hS]
   rw[hdec]
   have m1:1+S.length <=maxLen:=by unfold maxLen;omega
   have m2:([45]:List UInt8).length+S.length <=maxLen:=m1
   have m3:([45]:List UInt8).length+([48]:List UInt8).length <=maxLen:=by decide
   clear hS hLc hLl hdb hdec hz
   by_cases hs:S=[]
   ·rw[if_pos hs]
    have hs:=eq_true hs
    cases hg:t.neg
    all_goals
     repeat'(first|refine xs ?_ ?_ <;>intros|(refine wn ?_;intro bx hbx;try simp only[fb]at hbx)|refine wj ?_|simp -dsimp only[↓bp,bq,br,seval,iX, *]|refine wz ?_|fail)
     all_goals rfl
   ·rw[if_neg hs]
    have hs:=eq_false hs
    cases hg:t.neg
    all_goals
     repeat'(first|refine xs ?_ ?_ <;>intros|(refine wn ?_;intro bx hbx;try simp only[fb]at hbx)|refine wj ?_|simp -dsimp only[↓bp,bq,br,seval,iX, *]|refine wz ?_|fail)
     all_goals rfl
  ·have hl0:(0 < (L.length:Int))=True:=eq_true (by have:=mt hLc.1 hz;omega)
   have hp:=(C0k G L A6o hLl (by decide)).lessArgs (args:=[fM L, .sl .full [.bool false, .bool true, .bool false, .bool true] []]) (.cons (Le.refl _) (.cons Le.gh .nil))
   obtain⟨q1,q2⟩:=C6g L
   have hrl:=(pZ A6o L).2
   have hql:=iK (dO L A6o).1
   rw[(pZ A6o L).1]at hql
   have hqc:=yK (dO L A6o).1
   rw[<- nN]at hqc
   generalize cL (dO L A6o).1=Q at*
   generalize(dO L A6o).2=R at*
   have hR9:bv R <=9:=by omega
   have hahead:=B8v hz S
   rw[<- q1,<- q2]at hahead
   have hSl:S.length <=309:=by
    have:=congrArg List.length hS
    simp only[List.length_append,List.length_reverse]at this
    omega
   have m1:([UInt8.ofNat (48+bv R)]:List UInt8).length+S.length <=maxLen:=by simp only[List.length_cons,List.length_nil];unfold maxLen;omega
   have hbyte:=C4s (bv R) (by omega)
   have hwR:IntKind.i64.wrap ((R.length:Int) - 1)=R.length - 1:=aC (by omega) (by omega)
   have hw48:IntKind.i64.wrap (48+(bv R:Int))=48+bv R:=aC (by omega) (by omega)
   have hlt:bv Q < bv L:=by omega
   have hby:iI [AV.int .u8 ((UInt8.ofNat (48+bv R)).toNat:Int)]=some [UInt8.ofNat (48+bv R)]:=bU [UInt8.ofNat (48+bv R)]
   have hfin:(kT (bv Q)).reverse++(UInt8.ofNat (48+bv R)::S)=(kT V).reverse:=by rw[hahead];exact hS
   clear q1 q2 hahead hS
   generalize UInt8.ofNat (48+bv R)=c at*
   repeat'(first|refine xs ?_ ?_ <;>intros|(refine wn ?_;intro bx hbx;try simp only[fb]at hbx)|refine wp hp ?_|refine wj ?_|simp -dsimp only[↓bp,bq,br,seval,iX,hwR, *]|refine wz ?_|fail)
   refine aD mixed (fun k e=>k <=R.length /\ e 8= .int .i64 ((k:Int) - 1) /\ e 7= .int .i64 (bv (R.drop k):Nat)) R.length
    ⟨Nat.le_refl _,by first|(simp -dsimp only[↓bp,bq,br,seval,iX,hwR];done)|(simp -dsimp only[↓bp,bq,br,seval,iX,hwR];try rfl),by rw[List.drop_length];first|(simp -dsimp only[↓bp,bq,br,seval,iX];done)|(simp -dsimp only[↓bp,bq,br,seval,iX];try rfl)⟩ ?_
   clear hp hwR
   rintro k e2 ⟨hk,h8,h7⟩
   simp -dsimp only[↓bp,bq,br,seval,iX]at h8 h7
   cases k with
   | zero=>
    have hc:(0 <=((0:Nat):Int) - 1)=False:=eq_false (by omega)
    rw[List.drop_zero]at h7
    repeat'(first|refine xs ?_ ?_ <;>intros|(refine wn ?_;intro bx hbx;try simp only[fb]at hbx)|refine wj ?_|simp -dsimp only[↓bp,bq,br,seval,iX, *]|refine wz ?_|fail)
    exact⟨bv Q,hlt,Q,_,rfl,rfl,rfl,by omega,hqc,hfin⟩
   | succ k=>
    obtain⟨x,hx⟩:∃ x,R[k]? =some x:=⟨_,List.getElem?_eq_getElem (by omega)⟩
    have e8:((k+1:Nat):Int) - 1=k:=by omega
    rw[e8]at h8
    have hc:(0 <=(k:Int))=True:=eq_true (by omega)
    have hwk:IntKind.i64.wrap ((k:Int) - 1)=k - 1:=aC (by omega) (by omega)
    have hd:=C1z R k
    have hdr:=dC _ _ _ hx
    rw[hdr,bv]at hd
    have hw2:IntKind.i64.wrap (2*(bv (R.drop (k+1)):Int))=2*bv (R.drop (k+1)):=aC (by omega) (by omega)
    have hw3:IntKind.i64.wrap (2*(bv (R.drop (k+1)):Int)+1)=2*bv (R.drop (k+1))+1:=aC (by omega) (by omega)
    have hv:bv (R.drop k)=x.toNat+2*bv (R.drop (k+1)):=by rw[hdr,bv]
    generalize bv (R.drop (k+1))=D at*
    cases x
    ·simp -dsimp only[↓bp,bq,br,seval,iX,h8,h7,hc,hwk,hx,hw2]
     exact⟨k,by omega,by omega,rfl,by rw[hv];simp⟩
    ·simp -dsimp only[↓bp,bq,br,seval,iX,h8,h7,hc,hwk,hx,hw2,hw3]
     exact⟨k,by omega,by omega,rfl,by rw[hv];simp;omega⟩
end
section
def back:List UInt8 ->Nat
 |[]=>0
 |c::l=> (c.toNat - 48)+10*back l
theorem C3e:∀ {a b:List UInt32},a.length=b.length ->val a=val b ->a=b
 |[],[],_,_=>rfl
 | x::a,y::b,hl,h=>by
  simp only[val]at h
  have hx:=x.toNat_lt
  have hy:=y.toNat_lt
  have h1:x.toNat=y.toNat:=by omega
  have h2:val a=val b:=by omega
  rw[UInt32.toNat_inj.1 h1,C3e (by simpa using hl) h2]
mutual
def D2v:aA ->Bool
 | .mk k g l s n ks ts=> !(decide ((k.toNat:Int)=3)||decide ((k.toNat:Int)=4)||decide ((k.toNat:Int)=5)) && B2l ks && B2l ts
def B2l:List aA ->Bool
 |[]=>true
 |x::l=>D2v x && B2l l
end
def E1x(l:List aA):Prop:=∀ x,x ∈ l ->right x=true /\ D2v x=true
theorem E1x.tl{a:aA}{l:List aA}(h:E1x (a::l)):E1x l:=fun x hx=>h x (by simp[hx])
end
section
def A0o:Nat ->Nat ->List UInt32
 |0,_=> []
 |n+1,v=>UInt32.ofNat (v % 4294967296)::A0o n (v / 4294967296)
theorem A5g:∀ n v,(A0o n v).length=n
 |0,_=>rfl
 |n+1,v=>by rw[A0o,List.length_cons,A5g n]
theorem A5h:∀ n v,v < 4294967296 ^ n ->val (A0o n v)=v
 |0,v,h=>by simp at h;subst h;rfl
 | n+1,v,h=>by
  rw[A0o,val,A5h n (v / 4294967296) (by rw[Nat.pow_succ]at h;omega),UInt32.toNat_ofNat']
  omega
def eM(l:List Bool):List UInt32:=A0o ((l.length+31) / 32) (bv l)
theorem C2r(n:Nat):4294967296 ^ n=2 ^ (32*n):=by rw[Nat.pow_mul]
theorem tB(l:List Bool):val (eM l)=bv l:=by
 refine A5h _ _ (Nat.lt_of_lt_of_le (B3z l) ?_)
 rw[C2r]
 exact Nat.pow_le_pow_right (by omega) (by omega)
theorem pU(l:List Bool):(eM l).length=(l.length+31) / 32:=A5g _ _
theorem vV:∀ (a b:List Bool),bv (a++b)=bv a+2 ^ a.length*bv b
 |[],b=>by simp[bv]
 | d::a,b=>by
  rw[List.cons_append,bv,bv,vV a b,List.length_cons,Nat.pow_succ,Nat.mul_add,Nat.mul_assoc,Nat.mul_left_comm]
  omega
theorem C3g:∀ (l:List UInt32) (q:Nat) (x y:UInt32) (d:Nat),l[q]? =some x ->y.toNat=x.toNat+d ->val (l.set q y)=val l+4294967296 ^ q*d
 |[],q,x,y,d,h,_=>by simp at h
 | a::l,0,x,y,d,h,hy=>by
  simp at h;subst h
  simp only[List.set_cons_zero,val,hy,Nat.pow_zero,Nat.one_mul];omega
 | a::l,q+1,x,y,d,h,hy=>by
  rw[List.set_cons_succ,val,val,C3g l q x y d (by simpa using h) hy,Nat.pow_succ]
  rw[Nat.mul_add,Nat.mul_comm (4294967296 ^ q) 4294967296,Nat.mul_assoc]
  omega
theorem C3h:∀ (l:List UInt32) (q:Nat) (x:UInt32),l[q]? =some x ->4294967296 ^ q*x.toNat <=val l
 |[],q,x,h=>by simp at h
 |a::l,0,x,h=>by simp at h;subst h;simp only[val,Nat.pow_zero,Nat.one_mul];omega
 | a::l,q+1,x,h=>by
  have:=C3h l q x (by simpa using h)
  rw[val,Nat.pow_succ,Nat.mul_comm (4294967296 ^ q) 4294967296,Nat.mul_assoc]
  omega
theorem wI{L:List UInt32}{i:Nat}{x:UInt32}(hv:val L < 2 ^ i)(hx:L[i / 32]? =some x):x.toNat < 2 ^ (i % 32):=by
 have h:=C3h L (i / 32) x hx
 rw[C2r]at h
 have e:2 ^ i=2 ^ (32*(i / 32))*2 ^ (i % 32):=by rw[<- Nat.pow_add];congr 1;omega
 rw[e]at hv
 exact Nat.lt_of_mul_lt_mul_left (Nat.lt_of_le_of_lt h hv)
theorem C6i(i:Nat):4294967296 ^ (i / 32)*2 ^ (i % 32)=2 ^ i:=by
 rw[C2r,<- Nat.pow_add];congr 1;omega
theorem A0r{x r:Nat}(hr:r < 32)(hx:x < 2 ^ r):IntKind.u32.wrap (((BitVec.ofInt IntKind.u32.bits (x:Int)|||BitVec.ofInt IntKind.u32.bits (IntKind.u32.wrap (1*2 ^ min ((r:Int)).toNat IntKind.u32.bits))).toNat:Nat):Int)=((x+2 ^ r:Nat):Int):=by
 have hb:IntKind.u32.bits=32:=rfl
 have h1:min ((r:Int)).toNat IntKind.u32.bits=r:=by rw[hb];omega
 rw[h1]
 have h2:(1:Int)*2 ^ r=((2 ^ r:Nat):Int):=by simp
 have h3:2 ^ r <=2 ^ 31:=Nat.pow_le_pow_right (by omega) (by omega)
 have h4:(2:Nat) ^ 31=2147483648:=by decide
 have h5:IntKind.u32.wrap ((2 ^ r:Nat):Int)=((2 ^ r:Nat):Int):=sF (by omega) (by omega)
 rw[h2,h5,hb,BitVec.toNat_or,BitVec.toNat_ofInt,BitVec.toNat_ofInt]
 have e1:((x:Int) % ((2 ^ 32:Nat):Int)).toNat=x:=by omega
 have e2:(((2 ^ r:Nat):Int) % ((2 ^ 32:Nat):Int)).toNat=2 ^ r:=by
  have:((2 ^ 32:Nat):Int)=4294967296:=by decide
  rw[this]
  generalize 2 ^ r=p at*
  omega
 rw[e1,e2]
 have e3:x|||2 ^ r=x+2 ^ r:=by
  have:=Nat.two_pow_add_eq_or_of_lt hx 1
  rw[Nat.mul_one]at this
  rw[Nat.or_comm,<- this,Nat.add_comm]
 rw[e3]
 exact sF (by omega) (by omega)
def gR(m:Nat):List Bool:=if h:m=0 then[]else decide (m % 2=1)::gR (m / 2)
termination_by m
decreasing_by omega
theorem pH:gR 0=[]:=by rw[gR];simp
theorem sP{m:Nat}(h:m ≠ 0):gR m=decide (m % 2=1)::gR (m / 2):=by rw[gR,dif_neg h]
theorem uM(m:Nat):bv (gR m)=m:=by
 induction m using Nat.strongRecOn with
 | _ m ih=>
  by_cases h:m=0
  ·subst h;rw[pH];rfl
  ·rw[sP h,bv,ih (m / 2) (by omega)]
   by_cases e:m % 2=1
   ·simp[e];omega
   ·simp[e];omega
theorem zY:∀ (k m:Nat),m < 2 ^ k -> (gR m).length <=k
 | 0,m,h=>by
  have:m=0:=by simp at h;omega
  subst this;rw[pH];simp
 | k+1,m,h=>by
  by_cases h0:m=0
  ·subst h0;rw[pH];simp
  ·rw[sP h0,List.length_cons]
   have:=zY k (m / 2) (by rw[Nat.pow_succ]at h;omega)
   omega
theorem D8p{l:List UInt32}(h:l ≠ [])(hv:4294967296 ^ (l.length - 1) <=val l):jT l=true:=by
 rcases List.eq_nil_or_concat l with e|⟨q,x,e⟩
 ·exact absurd e h
 ·rw[List.concat_eq_append]at e
  subst e
  rw[jW]at hv
  simp only[List.length_append,List.length_cons,List.length_nil,Nat.add_sub_cancel,Nat.zero_add,val,Nat.mul_zero,Nat.add_zero]at hv
  have hq:=C1h q
  have:x.toNat ≠ 0:=fun e=>by rw[e]at hv;omega
  unfold jT
  simp
  simpa using this
theorem D6n{l:List Bool}(h:cL l ≠ []):2 ^ ((cL l).length - 1) <=bv (cL l):=by
 rcases A4j l l.length with h0|h1
 ·exfalso;apply h;unfold cL;rw[h0];rfl
 ·have hlen:(cL l).length=sX l l.length:=by unfold cL;rw[List.length_take];have:=C2b l l.length;omega
  rw[<- B1e,xM]at h1
  rw[hlen]
  exact Nat.ge_two_pow_of_testBit h1
theorem E1i{l:List Bool}(hl:(cL l).length <=1024){g:Bool}(hg:g=true ->0 < (cL l).length):wr (jA g (eM (cL l)))=true:=by
 have hlen:=pU (cL l)
 have hval:=tB (cL l)
 have key:(eM (cL l)).length=0 \/ (0 < (eM (cL l)).length /\ jT (eM (cL l))=true):=by
  by_cases h0:cL l=[]
  ·left;rw[hlen,h0];rfl
  ·right
   have hp:=List.length_pos_iff.2 h0
   have hk:0 < (eM (cL l)).length:=by rw[hlen];omega
   refine⟨hk,D8p (List.length_pos_iff.1 hk) ?_⟩
   rw[hval,hlen,C2r]
   exact Nat.le_trans (Nat.pow_le_pow_right (by omega) (by omega)) (D6n h0)
 unfold wr
 have k1:(jA g (eM (cL l))).knd=1:=rfl
 have k2:(jA g (eM (cL l))).limbs=eM (cL l):=rfl
 have k3:(jA g (eM (cL l))).neg=g:=rfl
 have k4:((eM (cL l)).length:Int) <=32:=by omega
 have k5:(jA g (eM (cL l))).text=[]:=rfl
 have k6:(jA g (eM (cL l))).num=0:=rfl
 have k7:(jA g (eM (cL l))).items=[]:=rfl
 have k8:(jA g (eM (cL l))).tail=[]:=rfl
 rw[k1,k2,k3,k5,k6,k7,k8]
 rcases key with h|⟨h1,h2⟩
 ·have:g=false:=by
   cases g with
   |false=>rfl
   |true=>have:=hg rfl;omega
  subst this
  simp[h]
 ·simp[k4,h1,h2]
end
end Go.Proofs.YtdhbdhopnpmboaaGreatDoor
