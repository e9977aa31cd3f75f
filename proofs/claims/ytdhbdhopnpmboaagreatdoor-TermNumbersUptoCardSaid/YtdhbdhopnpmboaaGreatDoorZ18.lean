/- A term's text. -/
import Derived.Test.YtdhbdhopnpmboaaGreatDoorZ17
import Derived.Test.YtdhbdhopnpmboaaGreatDoorZ14
import Derived.Test.YtdhbdhopnpmboaaGreatDoorZ15
import Derived.Test.YtdhbdhopnpmboaaGreatDoorZ07
import Derived.Test.YtdhbdhopnpmboaaGreatDoorZ16
import Derived.Test.YtdhbdhopnpmboaaGreatDoorZ08
import Derived.Test.YtdhbdhopnpmboaaGreatDoorZ12
import Derived.Test.YtdhbdhopnpmboaaGreatDoorZ13
set_option linter.unusedVariables false
set_option linter.unusedSimpArgs false
set_option maxRecDepth 20000
set_option linter.defProp false
namespace Go.Proofs.YtdhbdhopnpmboaaGreatDoor
open Go Go.Av
section
def jC:=And.intro (And.intro (And.intro (And.intro @jD @iZ) (And.intro @jJ (And.intro @jE @sE))) (And.intro (And.intro @eN (And.intro @dV @eD)) (And.intro @dL (And.intro @C1f @C1e)))) (And.intro (And.intro (And.intro @E5p (And.intro @E5q @aA.flat_enc)) (And.intro @aA.isv_enc (And.intro @aA.fold_enc @aS))) (And.intro (And.intro @aN (And.intro @aU @bW)) (And.intro @bG (And.intro @aQ @aM))))
variable {G:Nat ->AV}
theorem mK{t:aA}(h:right t=true)(hk:t.knd=3 \/ t.knd=4 \/ t.knd=5):0 <=t.num /\ t.num <=1099511627776:=by
 simp only[right,decide_eq_true_eq]at h
 rw[jL,if_neg (by omega)]at h
 split at h
 ·rename_i hf
  obtain⟨f1,_⟩:=rJ _ _ hf
  obtain⟨f3,_⟩:=rJ _ _ f1
  simp only at f3
  unfold head at f3
  rw[if_neg (by omega)]at f3
  by_cases e3:t.knd=3 \/ t.knd=5
  ·rw[if_pos e3]at f3
   simp only[Bool.and_eq_true,decide_eq_true_eq]at f3
   omega
  ·rw[if_neg e3,if_pos (by omega)]at f3
   simp only[Bool.and_eq_true,decide_eq_true_eq]at f3
   omega
 ·omega
set_option maxHeartbeats 2000000 in
theorem D9r(hg:A1j G)(t:aA):t.bulk <=100000000 ->right t=true ->C3j G t:=by
 refine aA.ind (P:=fun t=>t.bulk <=100000000 ->right t=true ->C3j G t) (fun t ih1 ih2 hb hr=> ?_) t
 have A:=jV hr
 have hi:∀ x,x ∈ t.items ->C3j G x:=fun x hx=>ih1 x hx (by have:=dJ hx;omega) (A.items x hx)
 have ht:∀ x,x ∈ t.tail ->C3j G x:=fun x hx=>ih2 x hx (by have:=dK hx;omega) (A.tail x hx)
 clear ih1 ih2
 intro σ0 σ b p q xs hF hB hlen
 have hse:=oM t
 have htx:=D2a t
 refine aJ.of_awp mixed Tryz.func43 rfl (by kernel_rfl) (by kernel_rfl) (by simp[Tryz.ntmps43]) Tryz.results43 ?_
 simp -dsimp only[↓bp,bq,br,seval,jC]
 refine cX fun b3 h3=> ?_
 obtain⟨σ1,hs1⟩:∃ σ1,σ1=σ0.setBox b3 [.int .u8 t.knd, .bool t.neg,bD t.limbs, .str t.text, .int .i64 t.num,aH t.items,aH t.tail]:=⟨_,rfl⟩
 have hB1:=hB.newBox h3 [.int .u8 t.knd, .bool t.neg,bD t.limbs, .str t.text, .int .i64 t.num,aH t.items,aH t.tail]
 rw[<- hs1]at hB1
 have hle1:σ0.le σ1:=by rw[hs1];exact(AS.le.refl σ0).setBox (hB.le.fresh h3).1 _
 have hF1:=hF.up hle1
 have hb3:σ1.box b3=some [.int .u8 t.knd, .bool t.neg,bD t.limbs, .str t.text, .int .i64 t.num,aH t.items,aH t.tail]:=by rw[hs1];simp[AS.setBox]
 clear hs1 hB h3
 generalize σ.setBox b3 _=s0 at*
 have k3:=hB1.le.box b3 _ hb3
 have kq:=hB1.le.box q _ hF1.row
 by_cases e1:t.knd=1
 ·have hw:=C1l G t (by omega)
  rw[A.int e1,if_pos rfl]at hw
  rw[if_pos e1]at hse
  rw[hse]at hlen ⊢
  have k1:=eq_true e1
  clear e1 A hi ht hr
  repeat'(first|refine xs ?_ ?_ <;>intros|(refine wn ?_;intro bx hbx;try simp only[fb]at hbx)|refine wp hw ?_|((refine aJ.mono (dF _ hB1 _ (by omega)) ?_;rintro r s1 hB2))|refine wj ?_|simp -dsimp only[↓bp,bq,br,seval,jC, *]|refine wz ?_|fail)
  exact aE _ (AS.le.refl _) (hB2.weaken hle1)
 have k1:=eq_false e1
 rw[if_neg e1]at hse
 by_cases e2:t.knd=2
 ·have hpl:=B5x hg.toGlob t.text (by omega)
  have hqu:=B6d (G:=G) t.text (by omega)
  rw[if_pos e2]at hse
  rw[hse]at hlen ⊢
  have k2:=eq_true e2
  unfold A3y at hlen ⊢
  clear e1 e2 A hi ht hr hse
  cases hp:qD t.text with
  | true=>
   rw[hp]at hpl hlen
   simp only[if_true]at hlen ⊢
   repeat'(first|refine xs ?_ ?_ <;>intros|(refine wn ?_;intro bx hbx;try simp only[fb]at hbx)|refine wp hpl ?_|((refine aJ.mono (dF _ hB1 _ (by omega)) ?_;rintro r s1 hB2))|refine wj ?_|simp -dsimp only[↓bp,bq,br,seval,jC, *]|refine wz ?_|fail)
   exact aE _ (AS.le.refl _) (hB2.weaken hle1)
  | false=>
   rw[hp]at hpl hlen
   simp only[Bool.false_eq_true,if_false]at hlen ⊢
   repeat'(first|refine xs ?_ ?_ <;>intros|(refine wn ?_;intro bx hbx;try simp only[fb]at hbx)|refine wp hpl ?_|refine wp hqu ?_|((refine aJ.mono (dF _ hB1 _ (by omega)) ?_;rintro r s1 hB2))|refine wj ?_|simp -dsimp only[↓bp,bq,br,seval,jC, *]|refine wz ?_|fail)
   exact aE _ (AS.le.refl _) (hB2.weaken hle1)
 have k2:=eq_false e2
 rw[if_neg e2]at hse
 by_cases e3:t.knd=3
 ·have hn:=mK hr (by omega)
  have hit:=A0l hg.pow t.num (by omega) (by omega)
  rw[if_pos e3]at hse
  rw[hse]at hlen ⊢
  have kk:=eq_true e3
  have hl2:=hlen
  simp only[List.length_append,List.length_cons,List.length_nil]at hl2
  clear A hi ht hr hse hn e1 e2 htx
  generalize itoa t.num=it at*
  repeat'(first|refine xs ?_ ?_ <;>intros|(refine wn ?_;intro bx hbx;try simp only[fb]at hbx)|refine wp hit ?_|refine wj ?_|simp -dsimp only[↓bp,bq,br,seval,jC, *]|refine wz ?_|fail)
  refine And.intro (by unfold maxLen;omega) (And.intro (by unfold maxLen;omega) ?_)
  refine aJ.mono (dF _ hB1 (35::82::101::102::60::(it++[62])) (by simp only[List.length_append,List.length_cons,List.length_nil];omega)) ?_
  rintro r s1 hB2
  repeat'(first|refine xs ?_ ?_ <;>intros|(refine wn ?_;intro bx hbx;try simp only[fb]at hbx)|refine wj ?_|simp -dsimp only[↓bp,bq,br,seval,jC, *]|refine wz ?_|fail)
  exact aE _ (AS.le.refl _) (by have:=hB2.weaken hle1;simpa using this)
 have k3':=eq_false e3
 rw[if_neg e3]at hse
 by_cases e4:t.knd=4
 ·have hn:=mK hr (by omega)
  have hit:=A0l hg.pow t.num (by omega) (by omega)
  rw[if_pos e4]at hse
  rw[hse]at hlen ⊢
  have kk:=eq_true e4
  have hl2:=hlen
  simp only[List.length_append,List.length_cons,List.length_nil]at hl2
  clear A hi ht hr hse hn e1 e2 htx
  generalize itoa t.num=it at*
  repeat'(first|refine xs ?_ ?_ <;>intros|(refine wn ?_;intro bx hbx;try simp only[fb]at hbx)|refine wp hit ?_|refine wj ?_|simp -dsimp only[↓bp,bq,br,seval,jC, *]|refine wz ?_|fail)
  refine And.intro (by unfold maxLen;omega) (And.intro (by unfold maxLen;omega) ?_)
  refine aJ.mono (dF _ hB1 (35::70::117::110::60::(it++[62])) (by simp only[List.length_append,List.length_cons,List.length_nil];omega)) ?_
  rintro r s1 hB2
  repeat'(first|refine xs ?_ ?_ <;>intros|(refine wn ?_;intro bx hbx;try simp only[fb]at hbx)|refine wj ?_|simp -dsimp only[↓bp,bq,br,seval,jC, *]|refine wz ?_|fail)
  exact aE _ (AS.le.refl _) (by have:=hB2.weaken hle1;simpa using this)
 have k4':=eq_false e4
 rw[if_neg e4]at hse
 by_cases e5:t.knd=5
 ·have hn:=mK hr (by omega)
  have hit:=A0l hg.pow t.num (by omega) (by omega)
  rw[if_pos e5]at hse
  rw[hse]at hlen ⊢
  have kk:=eq_true e5
  have hl2:=hlen
  simp only[List.length_append,List.length_cons,List.length_nil]at hl2
  clear A hi ht hr hse hn e1 e2 htx
  generalize itoa t.num=it at*
  repeat'(first|refine xs ?_ ?_ <;>intros|(refine wn ?_;intro bx hbx;try simp only[fb]at hbx)|refine wp hit ?_|refine wj ?_|simp -dsimp only[↓bp,bq,br,seval,jC, *]|refine wz ?_|fail)
  refine And.intro (by unfold maxLen;omega) (And.intro (by unfold maxLen;omega) ?_)
  refine aJ.mono (dF _ hB1 (60::(it++[62])) (by simp only[List.length_append,List.length_cons,List.length_nil];omega)) ?_
  rintro r s1 hB2
  repeat'(first|refine xs ?_ ?_ <;>intros|(refine wn ?_;intro bx hbx;try simp only[fb]at hbx)|refine wj ?_|simp -dsimp only[↓bp,bq,br,seval,jC, *]|refine wz ?_|fail)
  exact aE _ (AS.le.refl _) (by have:=hB2.weaken hle1;simpa using this)
 have k5':=eq_false e5
 rw[if_neg e5]at hse
 by_cases e6:t.knd=6
 ·have k6:=eq_true e6
  rw[if_pos e6]at hse
  clear e6
  have hl2:=hlen
  rw[hse]at hl2
  simp only[List.length_append,List.length_cons,List.length_nil]at hl2
  have hrow:=fun s1 (hBs:Bl σ1 s1 b xs)=>C2s t (by omega) hi ht [123] [125] σ1 s1 b p q xs hF1 hBs (by simp only[List.length_cons,List.length_nil];omega)
  rw[hse]
  clear A hi ht hr hse e1 e2 e3 e4 e5 htx hlen
  repeat'(first|refine xs ?_ ?_ <;>intros|(refine wn ?_;intro bx hbx;try simp only[fb]at hbx)|((refine aJ.mono (hrow _ hB1) ?_;rintro r s1 hB2))|refine wj ?_|simp -dsimp only[↓bp,bq,br,seval,jC, *]|refine wz ?_|fail)
  exact aE _ (AS.le.refl _) (by have:=hB2.weaken hle1;simpa using this)
 ·have k6:=eq_false e6
  rw[if_neg e6]at hse
  clear e6
  have hl2:=hlen
  rw[hse]at hl2
  simp only[List.length_append,List.length_cons,List.length_nil]at hl2
  have hrow:=fun s1 (hBs:Bl σ1 s1 b xs)=>C2s t (by omega) hi ht [91] [93] σ1 s1 b p q xs hF1 hBs (by simp only[List.length_cons,List.length_nil];omega)
  rw[hse]
  clear A hi ht hr hse e1 e2 e3 e4 e5 htx hlen
  repeat'(first|refine xs ?_ ?_ <;>intros|(refine wn ?_;intro bx hbx;try simp only[fb]at hbx)|((refine aJ.mono (hrow _ hB1) ?_;rintro r s1 hB2))|refine wj ?_|simp -dsimp only[↓bp,bq,br,seval,jC, *]|refine wz ?_|fail)
  exact aE _ (AS.le.refl _) (by have:=hB2.weaken hle1;simpa using this)
end
set_option maxRecDepth 20000
section
def nJ:=And.intro (And.intro (And.intro (And.intro @jD @iZ) (And.intro @jJ (And.intro @jE @sE))) (And.intro (And.intro @eN (And.intro @dV @eD)) (And.intro @dL (And.intro @C1f @C1e)))) (And.intro (And.intro (And.intro @E5p (And.intro @E5q @aA.flat_enc)) (And.intro @aA.isv_enc (And.intro @aA.fold_enc @aS))) (And.intro (And.intro @aN (And.intro @aU @bW)) (And.intro @bG (And.intro @aQ @aM))))
variable {G:Nat ->AV}
theorem A9v:∀ (l:List aA),(∀ x,x ∈ l -> (iP x).length+1 <=400*x.bulk) -> (qW l).length <=400*aV l
 |[],_=>by simp[qW,aV]
 | x::l,h=>by
  have h1:=h x (by simp)
  have h2:=A9v l fun y hy=>h y (by simp[hy])
  simp only[qW,List.length_cons,List.length_append,aV];omega
theorem A9u(l:List aA)(h:∀ x,x ∈ l -> (iP x).length+1 <=400*x.bulk):(fY l).length <=400*aV l:=by
 cases l with
 |nil=>simp[fY,aV]
 | cons x l=>
  have h1:=h x (by simp)
  have h2:=A9v l fun y hy=>h y (by simp[hy])
  simp only[fY,List.length_append,aV];omega
theorem A0w:∀ (l:List aA),(∀ x,x ∈ l -> (iP x).length+1 <=400*x.bulk) -> (gM l).length <=400*aV l
 |[],_=>by simp[gM,aV]
 | x::l,h=>by
  have h1:=h x (by simp)
  have h2:=A0w l fun y hy=>h y (by simp[hy])
  simp only[gM,List.length_cons,List.length_append,aV];omega
theorem C9m{k n:Nat}(hk:0 < k)(h:n < 10 ^ k):(A0d n).length <=k:=by
 unfold A0d
 split
 ·simp;omega
 ·rw[List.length_reverse];exact A4l k n h
theorem       yT {n : Int} (h0 : 0 <= n) (h1 : n <= 1099511627776):(itoa n).length <=20:=by
 unfold itoa
 rw[if_neg (by omega)]
 have :=      C9m (k := 20) (n := n.natAbs) (by omega) (by have:(10:Nat) ^ 20=100000000000000000000:=by decide
                                                           omega)
 simpa using this
theorem A6g(t:aA):right t=true -> (iP t).length+1 <=400*t.bulk:=by
 refine aA.ind (P:=fun t=>right t=true -> (iP t).length+1 <=400*t.bulk) (fun t ih1 ih2 hr=> ?_) t
 have A:=jV hr
 have h1:=A9u t.items fun x hx=>ih1 x hx (A.items x hx)
 have h2:=A0w t.tail fun x hx=>ih2 x hx (A.tail x hx)
 have hb:=t.bulk_eq
 rw[oM]
 by_cases e1:t.knd=1
 ·rw[if_pos e1]
  obtain⟨_,_,h32⟩:=D4x (A.int e1)
  have hd:=A0e h32
  unfold tX A0d
  simp only[List.length_append]
  split <;>split <;>simp only[List.length_cons,List.length_nil,List.length_reverse] <;>omega
 rw[if_neg e1]
 by_cases e2:t.knd=2
 ·rw[if_pos e2]
  have hq:=rY t.text
  unfold A3y
  split
  ·omega
  ·simp only[xL,List.length_cons,List.length_append,List.length_nil];omega
 rw[if_neg e2]
 by_cases e3:t.knd=3
 ·rw[if_pos e3]
  obtain⟨n0,n1⟩:=mK hr (.inl e3)
  have:=yT n0 n1
  simp only[List.length_append,List.length_cons,List.length_nil];omega
 rw[if_neg e3]
 by_cases e4:t.knd=4
 ·rw[if_pos e4]
  obtain⟨n0,n1⟩:=mK hr (.inr (.inl e4))
  have:=yT n0 n1
  simp only[List.length_append,List.length_cons,List.length_nil];omega
 rw[if_neg e4]
 by_cases e5:t.knd=5
 ·rw[if_pos e5]
  obtain⟨n0,n1⟩:=mK hr (.inr (.inr e5))
  have:=yT n0 n1
  simp only[List.length_append,List.length_cons,List.length_nil];omega
 rw[if_neg e5]
 split <;>simp only[List.length_append,List.length_cons,List.length_nil] <;>omega
set_option maxHeartbeats 1000000 in
theorem pB(hg:A1j G)(t:aA)(hb:t.bulk <=2000000):aB Tryz.prog G 11 [t.enc] (.str (text t)):=by
 have hr:=cP G t (by omega)
 unfold text
 cases er:right t with
 | false=>
  rw[er]at hr
  intro σ
  refine aJ.of_awp mixed Tryz.func11 rfl (by kernel_rfl) (by kernel_rfl) (by simp[Tryz.ntmps11]) Tryz.results11 ?_
  repeat'(first|refine xs ?_ ?_ <;>intros|(refine wn ?_;intro bx hbx;try simp only[fb]at hbx)|refine wp hr ?_|refine wj ?_|simp -dsimp only[↓bp,bq,br,seval,nJ, *]|refine wz ?_|fail)
  all_goals rfl
 | true=>
  rw[er]at hr
  rw[if_pos rfl]
  have hl:=A6g t er
  have hput:=D9r hg t (by omega) er
  clear hg
  refine fun σ=> ?_
  refine aJ.of_awp mixed Tryz.func11 rfl (by kernel_rfl) (by kernel_rfl) (by simp[Tryz.ntmps11]) Tryz.results11 ?_
  simp -dsimp only[↓bp,bq,br,seval,nJ]
  refine cX fun b1 h1=> ?_
  simp -dsimp only[↓bp,bq,br,seval,nJ]
  refine aB.use hr ?_
  simp -dsimp only[↓bp,bq,br,seval,nJ]
  refine C2m fun b3 h3=> ?_
  obtain⟨σa,hσa⟩:∃ σa,σa=σ.setBox b1 [.int .u8 t.knd, .bool t.neg,bD t.limbs, .str t.text, .int .i64 t.num,aH t.items,aH t.tail]:=⟨_,rfl⟩
  have hla:σ.le σa:=by rw[hσa];exact(AS.le.refl σ).setBox h1.1 _
  have ha1:σa.box b1=some [.int .u8 t.knd, .bool t.neg,bD t.limbs, .str t.text, .int .i64 t.num,aH t.items,aH t.tail]:=by rw[hσa];simp[AS.setBox]
  rw[<- hσa]at h3
  have hB0:Bl σa ((σa.setBox b3 [.nilptr, .nil]).setTy b3 (.t 56,2)) b3 []:=Bld.start (AS.le.refl σa) h3
  rw[<- hσa]
  simp only[List.length_cons,List.length_nil,Nat.zero_add,Nat.reduceAdd]
  generalize(σa.setBox b3 [.nilptr, .nil]).setTy b3 (.t 56,2)=S at*
  simp -dsimp only[↓bp,bq,br,seval,nJ]
  refine aY fun b4 h4=> ?_
  simp -dsimp only[↓bp,bq,br,seval,nJ]
  refine aY fun b5 h5=> ?_
  rw[kA]at h5
  have n54: ¬ b5=b4:=h5.2
  have n45: ¬ b4=b5:=fun e=>n54 e.symm
  have hS1:S.box b1=some [.int .u8 t.knd, .bool t.neg,bD t.limbs, .str t.text, .int .i64 t.num,aH t.items,aH t.tail]:=hB0.le.box _ _ ha1
  have n14:=(fresh_ne hS1 h4).1
  have n15:=(fresh_ne hS1 h5.1).1
  have hB1:=hB0.newBox h4 [.fn 43 [.ptr b3 0, .ptr b5 0]]
  have hB2:=hB1.newBox (c:=b5) (kA.2 ⟨h5.1,n54⟩) [.fn 40 [.ptr b3 0, .ptr b4 0]]
  have hlb:σ.le ((σa.setBox b4 [.fn 43 [.ptr b3 0, .ptr b5 0]]).setBox b5 [.fn 40 [.ptr b3 0, .ptr b4 0]]):=by
   have f4:=hB0.le.fresh h4
   have f5:=hB0.le.fresh h5.1
   exact hla.trans (((AS.le.refl σa).setBox f4.1 _).setBox f5.1 _)
  have hF:Fns ((σa.setBox b4 [.fn 43 [.ptr b3 0, .ptr b5 0]]).setBox b5 [.fn 40 [.ptr b3 0, .ptr b4 0]]) b3 b4 b5:=⟨by simp[AS.setBox,n45],by simp[AS.setBox]⟩
  have hst:((S.setBox b4 [.nilfn]).setBox b5 [.fn 40 [.ptr b3 0, .ptr b4 0]]).setBox b4 [.fn 43 [.ptr b3 0, .ptr b5 0]]=(S.setBox b4 [.fn 43 [.ptr b3 0, .ptr b5 0]]).setBox b5 [.fn 40 [.ptr b3 0, .ptr b4 0]]:=by
   rw[AS.setBox_comm n54,C2t]
  generalize(σa.setBox b4 [.fn 43 [.ptr b3 0, .ptr b5 0]]).setBox b5 [.fn 40 [.ptr b3 0, .ptr b4 0]]=σb at*
  clear hB1 hB0 h3 h1 hσa hla ha1 h4 h5
  simp -dsimp only[↓bp,bq,br,seval,nJ,n54,n45,n14,n15,hS1]
  rw[hst]
  refine aJ.mono (hput σb _ b3 b4 b5 [] hF hB2 (by simp;omega)) ?_
  rintro r s2 hB3
  repeat'(first|refine xs ?_ ?_ <;>intros|(refine wn ?_;intro bx hbx;try simp only[fb]at hbx)|((refine aJ.mono (A6l _ hB3 (by simp;omega)) ?_;rintro r s3 ⟨rfl,rfl⟩))|refine wj ?_|simp -dsimp only[↓bp,bq,br,seval,nJ, *]|refine wz ?_|fail)
  all_goals skip
end
set_option maxRecDepth 20000
section
def vM:=And.intro (And.intro (And.intro (And.intro @jD @iZ) (And.intro @jJ @eG)) (And.intro (And.intro @jE @dL) (And.intro @eN (And.intro @dV @eD)))) (And.intro (And.intro (And.intro @aA.flat_enc @aA.isv_enc) (And.intro @aA.fold_enc (And.intro @aS @aN))) (And.intro (And.intro @aU @bW) (And.intro @bG (And.intro @aQ @aM))))
variable {G:Nat ->AV}
def cD(s:List UInt8):aA:= .mk 2 false [] s 0 [] []
def fI(n:UInt32):aA:= .mk 1 false [n] [] 0 [] []
def gG(l:List aA):aA:= .mk 6 false [] [] 0 l []
def uU(tl:aA)(l:List aA):aA:= .mk 7 false [] [] 0 l [tl]
theorem kC(l:List aA):Le (.sl .full (l.map aA.enc) []) (aH l):=Le.gh
theorem yP(t:aA){cs:List AV}(h:xZ cs [.int .u8 t.knd, .bool t.neg,bD t.limbs, .str t.text, .int .i64 t.num,aH t.items,aH t.tail]):Le (.agg cs) t.enc:=by
 rw[<- aA.fold_enc t]
 exact Le.agg h (fun d hd=>ones t d (by rw[aA.flat_enc];exact hd))
theorem eE(s:List UInt8):aB Tryz.prog G 30 [.str s] (cD s).enc:=by
 refine aB.of_le fun σ=> ?_
 refine aJ.of_awp mixed Tryz.func30 rfl (by kernel_rfl) (by kernel_rfl) (by simp[Tryz.ntmps30]) Tryz.results30 ?_
 repeat'(first|refine xs ?_ ?_ <;>intros|(refine wn ?_;intro bx hbx;try simp only[fb]at hbx)|refine wj ?_|simp -dsimp only[↓bp,bq,br,seval,vM, *]|refine wz ?_|fail)
 exact aL (gT 2 false s 0) (by repeat' first|exact lr _|assumption|refine ls ?_ ?_|refine lt ?_ ?_|simp only[*];done|simp only[fb, *,not_false_eq_true,and_self];done|exact lf ‹_› (by simp only[*]))
theorem nK(n:UInt32)(m:Int)(hm:m=n.toNat):aB Tryz.prog G 31 [.int .u32 m] (fI n).enc:=by
 subst hm
 refine aB.of_le fun σ=> ?_
 refine aJ.of_awp mixed Tryz.func31 rfl (by kernel_rfl) (by kernel_rfl) (by simp[Tryz.ntmps31]) Tryz.results31 ?_
 repeat'(first|refine xs ?_ ?_ <;>intros|(refine wn ?_;intro bx hbx;try simp only[fb]at hbx)|refine wj ?_|simp -dsimp only[↓bp,bq,br,seval,vM, *]|refine wz ?_|fail)
 exact aL (yP (fI n) (.cons (Le.refl _) (.cons (Le.refl _) (.cons Le.gh (.cons (Le.refl _) (.cons (Le.refl _) (.cons Le.nil (.cons Le.nil .nil)))))))) (by repeat' first|exact lr _|assumption|refine ls ?_ ?_|refine lt ?_ ?_|simp only[*];done|simp only[fb, *,not_false_eq_true,and_self];done|exact lf ‹_› (by simp only[*]))
theorem kV(l:List aA):aB Tryz.prog G 33 [aH l] (bA l []).enc:=by
 refine aB.of_le fun σ=> ?_
 refine aJ.of_awp mixed Tryz.func33 rfl (by kernel_rfl) (by kernel_rfl) (by simp[Tryz.ntmps33]) Tryz.results33 ?_
 repeat'(first|refine xs ?_ ?_ <;>intros|(refine wn ?_;intro bx hbx;try simp only[fb]at hbx)|refine wj ?_|simp -dsimp only[↓bp,bq,br,seval,vM, *]|refine wz ?_|fail)
 exact aL (yP (bA l []) (.cons (Le.refl _) (.cons (Le.refl _) (.cons Le.nil (.cons (Le.refl _) (.cons (Le.refl _) (.cons (Le.refl _) (.cons Le.nil .nil)))))))) (by repeat' first|exact lr _|assumption|refine ls ?_ ?_|refine lt ?_ ?_|simp only[*];done|simp only[fb, *,not_false_eq_true,and_self];done|exact lf ‹_› (by simp only[*]))
theorem A1g(l:List aA):aB Tryz.prog G 32 [aH l] (gG l).enc:=by
 refine aB.of_le fun σ=> ?_
 refine aJ.of_awp mixed Tryz.func32 rfl (by kernel_rfl) (by kernel_rfl) (by simp[Tryz.ntmps32]) Tryz.results32 ?_
 repeat'(first|refine xs ?_ ?_ <;>intros|(refine wn ?_;intro bx hbx;try simp only[fb]at hbx)|refine wj ?_|simp -dsimp only[↓bp,bq,br,seval,vM, *]|refine wz ?_|fail)
 exact aL (yP (gG l) (.cons (Le.refl _) (.cons (Le.refl _) (.cons Le.nil (.cons (Le.refl _) (.cons (Le.refl _) (.cons (Le.refl _) (.cons Le.nil .nil)))))))) (by repeat' first|exact lr _|assumption|refine ls ?_ ?_|refine lt ?_ ?_|simp only[*];done|simp only[fb, *,not_false_eq_true,and_self];done|exact lf ‹_› (by simp only[*]))
theorem A0k(tl:aA)(l:List aA):aB Tryz.prog G 35 [tl.enc,aH l] (uU tl l).enc:=by
 refine aB.of_le fun σ=> ?_
 refine aJ.of_awp mixed Tryz.func35 rfl (by kernel_rfl) (by kernel_rfl) (by simp[Tryz.ntmps35]) Tryz.results35 ?_
 repeat'(first|refine xs ?_ ?_ <;>intros|(refine wn ?_;intro bx hbx;try simp only[fb]at hbx)|refine wj ?_|simp -dsimp only[↓bp,bq,br,seval,vM, *]|refine wz ?_|fail)
 exact aL (yP (uU tl l) (.cons (Le.refl _) (.cons (Le.refl _) (.cons Le.nil (.cons (Le.refl _) (.cons (Le.refl _) (.cons (Le.refl _) (.cons (kC [tl]) .nil)))))))) (by repeat' first|exact lr _|assumption|refine ls ?_ ?_|refine lt ?_ ?_|simp only[*];done|simp only[fb, *,not_false_eq_true,and_self];done|exact lf ‹_› (by simp only[*]))
end
set_option maxRecDepth 20000
section
def E5n:=And.intro (And.intro (And.intro (And.intro @jD @iZ) (And.intro @jJ @eG)) (And.intro (And.intro @jE @dL) (And.intro @eN (And.intro @dV @eD)))) (And.intro (And.intro (And.intro @aA.flat_enc @aA.isv_enc) (And.intro @aA.fold_enc (And.intro @aS @aN))) (And.intro (And.intro @aU @bW) (And.intro @bG (And.intro @aQ @aM))))
variable (G:Nat ->AV)
def F0l:aA:= .mk 1 false [0,1] [] 0 [] []
def F1g:aA:= .mk 1 true [5] [] 0 [] []
def E3b(l:List aA):aA:= .mk 4 false [] [] 3 l []
def atN(k:UInt8)(n:Int):aA:= .mk k false [] [] n [] []
def A2h:List aA:=[atN 1 0,fI 1,fI 2,F0l,F1g,cD [],cD [97],cD [97,98],cD [97,0],cD [255],atN 3 0,atN 3 1099511627776,atN 5 7,atN 4 0,E3b [fI 1],E3b [fI 2],E3b [fI 1,fI 1],atN 4 16384,gG [],gG [fI 1],gG [fI 2],gG [fI 1,fI 1],bA [] [],bA [fI 1] [],bA [fI 2] [],bA [fI 1,fI 1] [],uU (fI 2) [fI 1],uU (cD [97]) [fI 1],uU (gG []) [fI 1],bA [bA [] []] [],bA [bA [] [],bA [] []] [],uU (fI 1) [bA [] []]]
theorem E8p(t:aA):LeE t.enc t.enc:=⟨xZ.refl _,t.isv_enc,ones t⟩
theorem E8q(t:aA){cs:List AV}(h:xZ cs [.int .u8 t.knd, .bool t.neg,bD t.limbs, .str t.text, .int .i64 t.num,aH t.items,aH t.tail]):LeE (.agg cs) t.enc:=by
 rw[<- aA.fold_enc t]
 exact LeE.agg h (fun d hd=>ones t d (by rw[aA.flat_enc];exact hd))
set_option maxHeartbeats 2000000 in
theorem C6s:aB Tryz.prog G 26 [] (aH A2h):=by
 have a0:=eE (G:=G) []
 have a1:=eE (G:=G) [97]
 have a2:=eE (G:=G) [97,98]
 have a3:=eE (G:=G) [97,0]
 have a4:=eE (G:=G) [255]
 have b1:=nK (G:=G) 1 1 rfl
 have b2:=nK (G:=G) 2 2 rfl
 have t0:aB Tryz.prog G 32 [.nil] (gG []).enc:=(A1g (G:=G) []).lessArgs (.cons Le.nil .nil)
 have l0:aB Tryz.prog G 33 [.nil] (bA [] []).enc:=(kV (G:=G) []).lessArgs (.cons Le.nil .nil)
 have kt:=fun l=> (A1g (G:=G) l).lessArgs (.cons (kC l) .nil)
 have kl:=fun l=> (kV (G:=G) l).lessArgs (.cons (kC l) .nil)
 have ki:=fun t l=> (A0k (G:=G) t l).lessArgs (.cons (Le.refl _) (.cons (kC l) .nil))
 have t1:=kt [fI 1]
 have t2:=kt [fI 2]
 have t3:=kt [fI 1,fI 1]
 have l1:=kl [fI 1]
 have l2:=kl [fI 2]
 have l3:=kl [fI 1,fI 1]
 have l4:=kl [bA [] []]
 have l5:=kl [bA [] [],bA [] []]
 have i1:=ki (fI 2) [fI 1]
 have i2:=ki (cD [97]) [fI 1]
 have i3:=ki (gG []) [fI 1]
 have i4:=ki (fI 1) [bA [] []]
 clear kt kl ki
 simp only[List.map_cons,List.map_nil]at t1 t2 t3 l1 l2 l3 l4 l5 i1 i2 i3 i4
 refine aB.of_le fun σ=> ?_
 refine aJ.of_awp mixed Tryz.func26 rfl (by kernel_rfl) (by kernel_rfl) (by simp[Tryz.ntmps26]) Tryz.results26 ?_
 repeat'(first|refine xs ?_ ?_ <;>intros|(refine wn ?_;intro bx hbx;try simp only[fb]at hbx)|refine wp a0 ?_|refine wp a1 ?_|refine wp a2 ?_|refine wp a3 ?_|refine wp a4 ?_|refine wp b1 ?_|refine wp b2 ?_|refine wp t0 ?_|refine wp l0 ?_|refine wp t1 ?_|refine wp t2 ?_|refine wp t3 ?_|refine wp l1 ?_|refine wp l2 ?_|refine wp l3 ?_|refine wp l4 ?_|refine wp l5 ?_|refine wp i1 ?_|refine wp i2 ?_|refine wp i3 ?_|refine wp i4 ?_|refine wj ?_|simp -dsimp only[↓bp,bq,br,seval,E5n, *]|refine wz ?_|fail)
 refine aL ?_ (by repeat' first|exact lr _|assumption|refine ls ?_ ?_|refine lt ?_ ?_|simp only[*];done|simp only[fb, *,not_false_eq_true,and_self];done|exact lf ‹_› (by simp only[*]))
 simp only[A2h,aH,List.map_cons,List.map_nil]
 refine Le.sl ?_
 repeat' first|exact uA.nil|refine uA.cons ?_ ?_
 all_goals first|exact E8p _|exact E8q _ (.cons (Le.refl _) (.cons (Le.refl _) (.cons (by first|exact Le.nil|exact Le.gh) (.cons (Le.refl _) (.cons (Le.refl _) (.cons (by first|exact Le.nil|exact Le.gh) (.cons Le.nil .nil)))))))
end
section
variable (G:Nat ->AV)
theorem C8q(t:aA)(hb:t.bulk <=1000)(n:Nat)(hn:n < 17):∃ y:aA,y.bulk <=2000000 /\ aB Tryz.prog G 27 [t.enc, .int .i64 (n:Int)] y.enc:=by
 have kc:=B9x G t (by omega)
 have ko:=C5m G t (by omega)
 have h0:=t.bulk_eq
 have h1:=cA t
 have hw:(mR 1).bulk=2:=rfl
 have hz:cN.bulk=1:=rfl
 have hl:(bA [] []).bulk=1:=rfl
 have hc:n=0 \/ n=1 \/ n=2 \/ n=3 \/ n=4 \/ n=5 \/ n=6 \/ n=7 \/ n=8 \/ n=9 \/ n=10 \/ n=11 \/ n=12 \/ n=13 \/ n=14 \/ n=15 \/ n=16:=by omega
 rcases hc with rfl|rfl|rfl|rfl|rfl|rfl|rfl|rfl|rfl|rfl|rfl|rfl|rfl|rfl|rfl|rfl|rfl
 all_goals refine⟨_,?_,by first|exact E2c G t kc|exact E2d G t kc|exact E2e G t kc|exact E2f G t kc|exact E2g G t kc|exact E2h G t kc|exact E2i G t kc|exact E2j G t ko (by omega)|exact E2k G t ko (by omega)|exact E2l G t ko (by omega)|exact D5t G t kc|exact D5u G t kc|exact D5v G t kc|exact D5w G t kc|exact D5x G t kc|exact D5y G t kc|exact D5z G t kc⟩
 all_goals
  simp only[aA.bulk,aV,iT,List.length_append,List.length_replicate,List.length_cons,List.length_nil,hw,hz,hl]
  omega
end
set_option maxRecDepth 20000
section
theorem C0y:(A2h.all fun x=>right x && decide (x.bulk <=100))=true:=by decide+kernel
theorem C6t:((List.range 32).all fun i=> (List.range 32).all fun k=>wR (A2h.getD i cN) (A2h.getD k cN)==decide (i=k))=true:=by decide+kernel
theorem D5j(l:List aA)(e:Int)(c:Int):bI l e (c,false)=(c,false):=by cases l <;>simp[bI]
theorem A3p{x:aA}{e d:Int}(hx:0 < size x)(hd:size x+e=d)(he:0 <=e):∀ (n:Nat) (c:Int),c+n*d <=4096 ->bI (List.replicate n x) e (c,true)=(c+n*d,true)
 |0,c,_=>by simp[bI]
 | n+1,c,h=>by
  have hp:0 <=(n:Int)*d:=Int.mul_nonneg (by omega) (by omega)
  have e1:((n+1:Nat):Int)*d=n*d+d:=by rw[Int.natCast_add,Int.add_mul];simp
  rw[e1]at h
  rw[List.replicate_succ,e1]
  simp only[bI,if_true]
  have h1:(decide (0 < size x) && decide (c+size x+e <=4096))=true:=by simp;omega
  rw[h1,A3p hx hd he n _ (by omega)]
  congr 1
  omega
theorem zT{x:aA}{e d:Int}(hx:0 < size x)(hd:size x+e=d)(he:0 <=e):∀ (n:Nat) (c:Int),c <=4096 ->4096 < c+n*d -> (bI (List.replicate n x) e (c,true)).2=false
 |0,c,h0,h=>by simp at h;omega
 | n+1,c,h0,h=>by
  have e1:((n+1:Nat):Int)*d=n*d+d:=by rw[Int.natCast_add,Int.add_mul];simp
  rw[e1]at h
  rw[List.replicate_succ]
  simp only[bI,if_true]
  by_cases h2:c+size x+e <=4096
  ·have h1:(decide (0 < size x) && decide (c+size x+e <=4096))=true:=by simp;omega
   rw[h1]
   exact zT hx hd he n _ h2 (by omega)
  ·have h1:(decide (0 < size x) && decide (c+size x+e <=4096))=false:=by simp;omega
   rw[h1,D5j]
theorem B9k(l:List aA):head (bA l [])=(1,1,true):=by
 have:(0:Int) <=if(l.length:Int) < 1 then(l.length:Int)else 1:=by split <;>omega
 simp[head,bA,aA.knd,aA.kind,fG,aA.neg,aA.limbs,aA.text,aA.num,aA.items,aA.tail]
 exact decide_eq_true this
theorem D0q(l:List aA):head (gG l)=(1,0,true):=by
 simp[head,gG,aA.knd,aA.kind,fG,aA.neg,aA.limbs,aA.text,aA.num,aA.items,aA.tail]
theorem A6i(l:List aA):size (bA l [])=if(bI l 1 (1,true)).2=true then(bI l 1 (1,true)).1 else 0:=by
 have hk: ¬ (bA l []).knd=1:=by show ¬ ((7:Int)=1);decide
 rw[jL,B9k,if_neg hk];rfl
theorem B6x(l:List aA):size (gG l)=if(bI l 0 (1,true)).2=true then(bI l 0 (1,true)).1 else 0:=by
 have hk: ¬ (gG l).knd=1:=by show ¬ ((6:Int)=1);decide
 rw[jL,D0q,if_neg hk];rfl
def nG(n:Nat):List aA:=List.replicate n (cD [97])
theorem B2q:size (cD [97])=1:=by decide+kernel
theorem E5g:size (cD [98])=1:=by decide+kernel
theorem zF:size (hJ 200)=2:=by decide+kernel
theorem C5a:size (gG (nG 4095))=4096:=by
 rw[B6x,nG,A3p (d:=1) (by rw[B2q];omega) (by rw[B2q];rfl) (by omega) 4095 1 (by omega),if_pos rfl];omega
theorem E2a(l:List aA):bI (cD [98]::l) 0 (1,true)=bI l 0 (2,true):=by simp[bI,E5g]
theorem A9d:size (gG (cD [98]::nG 4095))=0:=by
 have h:=zT (x:=cD [97]) (e:=0) (d:=1) (by rw[B2q];omega) (by rw[B2q];rfl) (by omega) 4095 2 (by omega) (by omega)
 rw[B6x]
 rw[E2a,nG,h,if_neg (by decide)]
def bsN(n:Nat):List UInt8:=List.replicate n 200
theorem E4x(n:Nat)(h1:1363 <=n)(h2:n < 1367):(ofS (bsN n)).items.length=if n <=1365 then n else 0:=by
 have e:zA (bsN n)=bA (List.replicate n (hJ 200)) []:=by
  unfold zA gI bsN
  rw[List.take_of_length_le (by simp;omega),List.map_replicate];rfl
 unfold ofS
 rw[e]
 by_cases hn:n <=1365
 ·have h:right (bA (List.replicate n (hJ 200)) [])=true:=by
   unfold right
   rw[A6i,A3p (d:=3) (by rw[zF];omega) (by rw[zF];rfl) (by omega) n 1 (by omega),if_pos rfl]
   exact decide_eq_true (by omega)
  rw[if_pos hn,if_pos h]
  simp only[bA,aA.items,List.length_replicate]
 ·have h: ¬ right (bA (List.replicate n (hJ 200)) [])=true:=by
   unfold right
   rw[A6i,zT (d:=3) (by rw[zF];omega) (by rw[zF];rfl) (by omega) n 1 (by omega) (by omega)]
   simp
  rw[if_neg hn,if_neg h];rfl
end
set_option maxRecDepth 20000
section
def E9q:=And.intro (And.intro (And.intro (And.intro @jD @iZ) (And.intro @jJ @eG)) (And.intro (And.intro @jE @dL) (And.intro @eN (And.intro @dV @eD)))) (And.intro (And.intro (And.intro @aA.flat_enc @aA.isv_enc) (And.intro @aA.fold_enc (And.intro @aS @aN))) (And.intro (And.intro @aU @bW) (And.intro @bG (And.intro @aQ @aM))))
variable {G:Nat ->AV}
def w1:aA:=fI 1
def w2:aA:=fI 2
def aT:aA:=cD [97]
def bT:aA:=cD [98]
def exT:aA:=gG [aT,uU bT [w1,w2]]
theorem D7b:size exT=10:=by decide+kernel
theorem D7c:text exT=[123,97,44,91,49,44,50,124,98,93,125]:=by decide+kernel
theorem D6y:sU (uU w2 [w1]) (bA [w1] [])= -1:=by decide+kernel
theorem D6z:sU (bA [w1] []) (bA [w1,w1] [])= -1:=by decide+kernel
theorem C9x:text (cD [97,32,98])=[39,97,32,98,39]:=by decide+kernel
theorem C9y:text (cD [105,102])=[39,105,102,39]:=by decide+kernel
theorem C9z:text (bA [] [])=[91,93]:=by decide+kernel
theorem C9u:wR w1 w1=true:=by decide+kernel
theorem D7a:cons w1 (bA [w2] [])=bA [w1,w2] []:=by
 unfold cons
 rw[if_pos ⟨by decide+kernel,by decide+kernel,by decide+kernel⟩];rfl
theorem C9v:wR (bA [w1,w2] []) (bA [w1,w2] [])=true:=by decide+kernel
theorem C9w:mM (bA [w1,w2] [])= .tup [w1.enc,(bA [w2] []).enc, .bool true]:=by
 unfold mM split
 rw[if_pos ⟨by decide+kernel,rfl⟩];rfl
set_option maxHeartbeats 4000000 in
theorem sO(hg:A1j G):aB Tryz.prog G 7 [] (.bool true):=by
 have p1:=mX G exT (by decide)
 have p2:=pB hg exT (by decide)
 have p3:=sV G (uU w2 [w1]) (bA [w1] []) (by decide) (by decide)
 have p4:=sV G (bA [w1] []) (bA [w1,w1] []) (by decide) (by decide)
 have p5:=pB hg (cD [97,32,98]) (by decide)
 have p6:=pB hg (cD [105,102]) (by decide)
 have p7:=pB hg (bA [] []) (by decide)
 have p8:=tJ G w1 w1 (by decide) (by decide)
 have p9:=C4p G w1 (bA [w2] []) (by decide) (by decide)
 have pa:=tJ G (bA [w1,w2] []) (bA [w1,w2] []) (by decide) (by decide)
 have pb:=C1a G (bA [w1,w2] []) (by decide)
 have pc:aB Tryz.prog G 9 [.agg [.int .u8 0, .bool false, .nil, .str [], .int .i64 0, .nil, .nil]] (.bool (right cN)):=(cP G cN (by decide)).lessArgs (.cons zero_le .nil)
 rw[D7b]at p1
 rw[D7c]at p2
 rw[D6y]at p3
 rw[D6z]at p4
 rw[C9x]at p5
 rw[C9y]at p6
 rw[C9z]at p7
 rw[C9u]at p8
 rw[D7a]at p9
 rw[C9v]at pa
 rw[C9w]at pb
 rw[D4y]at pc
 have a1:=eE (G:=G) [97]
 have a2:=eE (G:=G) [98]
 have a3:=eE (G:=G) [97,32,98]
 have a4:=eE (G:=G) [105,102]
 have b1:=nK (G:=G) 1 1 rfl
 have b2:=nK (G:=G) 2 2 rfl
 have c1:=(A0k (G:=G) bT [w1,w2]).lessArgs (.cons (Le.refl _) (.cons (kC [w1,w2]) .nil))
 have c2:=(A0k (G:=G) w2 [w1]).lessArgs (.cons (Le.refl _) (.cons (kC [w1]) .nil))
 have d1:=(A1g (G:=G) [aT,uU bT [w1,w2]]).lessArgs (.cons (kC [aT,uU bT [w1,w2]]) .nil)
 have e1:=(kV (G:=G) [w1,w2]).lessArgs (.cons (kC [w1,w2]) .nil)
 have e2:=(kV (G:=G) [w1]).lessArgs (.cons (kC [w1]) .nil)
 have e3:=(kV (G:=G) [w1,w1]).lessArgs (.cons (kC [w1,w1]) .nil)
 have e4:aB Tryz.prog G 33 [.nil] (bA [] []).enc:=(kV (G:=G) []).lessArgs (.cons Le.nil .nil)
 simp only[List.map_cons,List.map_nil]at c1 c2 d1 e1 e2 e3
 clear hg
 intro σ
 refine aJ.of_awp mixed Tryz.func7 rfl (by kernel_rfl) (by kernel_rfl) (by simp[Tryz.ntmps7]) Tryz.results7 ?_
 repeat'(first|refine xs ?_ ?_ <;>intros|(refine wn ?_;intro bx hbx;try simp only[fb]at hbx)|refine wp p1 ?_|refine wp p2 ?_|refine wp p3 ?_|refine wp p4 ?_|refine wp p5 ?_|refine wp p6 ?_|refine wp p7 ?_|refine wp p8 ?_|refine wp p9 ?_|refine wp pa ?_|refine wp pb ?_|refine wp pc ?_|refine wp a1 ?_|refine wp a2 ?_|refine wp a3 ?_|refine wp a4 ?_|refine wp b1 ?_|refine wp b2 ?_|refine wp c1 ?_|refine wp c2 ?_|refine wp d1 ?_|refine wp e1 ?_|refine wp e2 ?_|refine wp e3 ?_|refine wp e4 ?_|refine wj ?_|simp -dsimp only[↓bp,bq,br,seval,E9q, *]|refine wz ?_|fail)
 all_goals rfl
end
set_option maxRecDepth 20000
section
def A2j:=And.intro (And.intro (And.intro (And.intro @jD @iZ) (And.intro @jJ (And.intro @jE @eN))) (And.intro (And.intro @dV @eD) (And.intro @aA.flat_enc (And.intro @aA.isv_enc @aA.fold_enc)))) (And.intro (And.intro (And.intro @aS @aN) (And.intro @aU (And.intro @aQ @aM))) (And.intro (And.intro @aA.flat_lent @aA.isv_lent) (And.intro @aA.fold_lent (And.intro @rQ @pQ))))
variable {G:Nat ->AV}
set_option maxHeartbeats 4000000 in
theorem C0g(hg:A1j G)(a b:aA)(ha:a.bulk <=2000000)(hb:b.bulk <=2000000):aB Tryz.prog G 28 [a.enc,b.enc] (.bool true):=by
 have w:=sO hg
 have g1:=(xG G [a,b] (by simp only[aV];omega)).lessArgs (.cons (kC [a,b]) .nil)
 simp only[List.map_cons,List.map_nil]at g1
 cases hgr:A1y [a,b]
 ·rw[hgr]at g1
  have n1:=A9b G a (by omega)
  have n2:=A9b G b (by omega)
  have k1:=rS G a (by omega)
  have k2:=rS G b (by omega)
  have c1:=(sV G a b (by omega) (by omega)).lessArgs (args:=[a.lent,b.lent]) (.cons (yW a) (.cons (yW b) .nil))
  have s1:=(tJ G a b (by omega) (by omega)).lessArgs (args:=[a.lent,b.lent]) (.cons (yW a) (.cons (yW b) .nil))
  have c2:=A7z G a b (by omega) (by omega)
  have s2:=C0s G a b (by omega) (by omega)
  generalize sU a b=z at*
  generalize wR a b=e at*
  clear hg ha hb hgr
  intro σ
  cases e
  all_goals
   refine aJ.of_awp mixed Tryz.func28 rfl (by kernel_rfl) (by kernel_rfl) (by simp[Tryz.ntmps28]) Tryz.results28 ?_
   repeat'(first|refine xs ?_ ?_ <;>intros|(refine wn ?_;intro bx hbx;try simp only[fb]at hbx)|refine wp w ?_|refine wp g1 ?_|refine wp n1 ?_|refine wp n2 ?_|refine wp c1 ?_|refine wp c2 ?_|refine wp s1 ?_|refine wp s2 ?_|refine wp k1 ?_|refine wp k2 ?_|refine wj ?_|simp -dsimp only[↓bp,bq,br,seval,A2j, *]|refine wz ?_|fail)
  all_goals rfl
 ·rw[hgr]at g1
  clear hg
  intro σ
  refine aJ.of_awp mixed Tryz.func28 rfl (by kernel_rfl) (by kernel_rfl) (by simp[Tryz.ntmps28]) Tryz.results28 ?_
  repeat'(first|refine xs ?_ ?_ <;>intros|(refine wn ?_;intro bx hbx;try simp only[fb]at hbx)|refine wp w ?_|refine wp g1 ?_|refine wj ?_|simp -dsimp only[↓bp,bq,br,seval,A2j, *]|refine wz ?_|fail)
  all_goals rfl
end
set_option maxRecDepth 20000
section
def iG:=And.intro (And.intro (And.intro @jD @iZ) (And.intro @jJ @jE)) (And.intro (And.intro @sE @D4k) (And.intro @oW @mF))
variable (G:Nat ->AV)
theorem C0u(s:List UInt8):aB Tryz.prog G 169 [.str s] (.bool (words.contains s)):=by
 intro σ
 have hwl:words.length=19:=rfl
 have hW:AV.sl .full [.str [97,102,116,101,114], .str [97,110,100], .str [97,110,100,97,108,115,111], .str [98,101,103,105,110], .str [99,97,115,101], .str [100,105,118], .str [101,110,100], .str [102,117,110], .str [105,102], .str [110,111,116], .str [111,102], .str [111,114], .str [111,114,101,108,115,101], .str [114,101,99,101,105,118,101], .str [114,101,109], .str [116,114,121], .str [99,97,116,99,104], .str [119,104,101,110], .str [120,111,114]] []= .sl .full (words.map AV.str) []:=rfl
 generalize words=W at*
 refine aJ.of_awp mixed Tryz.func169 rfl (by kernel_rfl) (by kernel_rfl) (by simp[Tryz.ntmps169]) Tryz.results169 ?_
 repeat'(first|refine xs ?_ ?_ <;>intros|(refine wn ?_;intro bx hbx;try simp only[fb]at hbx)|refine wj ?_|simp -dsimp only[↓bp,bq,br,seval,iG, *]|refine wz ?_|fail)
 refine aD mixed (fun n e=>∃ i:Nat,i <=(W).length /\ n=(W).length - i /\ e 4= .int .i64 i /\ (W.take i).contains s=false) (W).length
   ⟨0,by omega,by omega,by simp -dsimp only[↓bp,bq,br,seval,iG];first|done|rfl,by simp⟩ ?_
 rintro n v ⟨i,hi,rfl,h4,hct⟩
 simp -dsimp only[↓bp,bq,br,seval,iG]at h4
 simp -dsimp only[↓bp,bq,br,seval,iG,h4]
 refine cG (fun hlt=> ?_) (fun hge=> ?_)
 ·obtain⟨w,hx⟩:∃ w,W[i]? =some w:=⟨_,List.getElem?_eq_getElem (by omega)⟩
  have hwi:IntKind.i64.wrap ((i:Int)+1)=((i+1:Nat):Int):=by rw[aC (by omega) (by omega)];rfl
  have hil:i < W.length:=(List.getElem?_eq_some_iff.1 hx).1
  have htk:=aW _ _ _ hx
  clear hi hlt
  by_cases hws:w=s
  ·subst hws
   have hm:W.contains w=true:=by simpa using List.mem_of_getElem? hx
   rw[hm]
   clear hct htk hm
   repeat'(first|refine xs ?_ ?_ <;>intros|(refine wn ?_;intro bx hbx;try simp only[fb]at hbx)|refine wj ?_|simp -dsimp only[↓bp,bq,br,seval,iG, *]|refine wz ?_|fail)
   all_goals rfl
  ·have hnx:(W.take (i+1)).contains s=false:=by
    rw[htk,Bool.eq_false_iff]
    intro h
    rw[List.contains_iff_mem,List.mem_append]at h
    rcases h with h|h
    ·rw[<- List.contains_iff_mem,hct]at h;cases h
    ·simp at h;exact hws h.symm
   clear hct htk
   repeat'(first|refine xs ?_ ?_ <;>intros|(refine wn ?_;intro bx hbx;try simp only[fb]at hbx)|refine wj ?_|simp -dsimp only[↓bp,bq,br,seval,iG, *]|refine wz ?_|fail)
   all_goals exact⟨W.length - (i+1),by omega,i+1,by omega,by omega,rfl,hnx⟩
 ·have:i=W.length:=by omega
  subst this
  rw[List.take_length]at hct
  rw[hct]
  clear hi hge hct
  repeat'(first|refine xs ?_ ?_ <;>intros|(refine wn ?_;intro bx hbx;try simp only[fb]at hbx)|refine wj ?_|simp -dsimp only[↓bp,bq,br,seval,iG, *]|refine wz ?_|fail)
  all_goals rfl
theorem vC{s:List UInt8}{c:UInt8}(h0:s[0]? =some c):qD s=(decide (97 <=c.toNat) && decide (c.toNat <=122) && !words.contains s && s.all gJ):=by
 cases s with
 |nil=>simp at h0
 |cons d l=>simp at h0;subst h0;rfl
theorem B4u{s:List UInt8}{i:Nat}{c:UInt8}(h:s[i]? =some c)(hc:gJ c=false):s.all gJ=false:=by
 rw[Bool.eq_false_iff]
 intro h2
 rw[List.all_eq_true]at h2
 have:=h2 c (List.mem_of_getElem? h)
 rw[hc]at this;cases this
set_option maxHeartbeats 2000000 in
theorem         B6o(s:List UInt8)(hs:s.length <=1000000000):aB Tryz.prog G 127 [.str s] (.bool (qD s)):=by
 have hword:=C0u G s
 intro σ
 refine aJ.of_awp mixed Tryz.func127 rfl (by kernel_rfl) (by kernel_rfl) (by simp[Tryz.ntmps127]) Tryz.results127 ?_
 repeat'(first|refine xs ?_ ?_ <;>intros|(refine wn ?_;intro bx hbx;try simp only[fb]at hbx)|refine wj ?_|simp -dsimp only[↓bp,bq,br,seval,iG, *]|refine wz ?_|fail)
 refine aD mixed (fun n e=>∃ i:Nat,i <=(s).length /\ n=(s).length - i /\ e 3= .int .i64 i /\ (0 < i ->∃ c,s[0]? =some c /\ 97 <=c.toNat /\ c.toNat <=122) /\ (s.take i).all gJ=true) (s).length
   ⟨0,by omega,by omega,by simp -dsimp only[↓bp,bq,br,seval,iG];first|done|rfl,⟨fun h=>absurd h (by omega),rfl⟩⟩ ?_
 rintro n v ⟨i,hi,rfl,h3,⟨hf,hal⟩⟩
 simp -dsimp only[↓bp,bq,br,seval,iG]at h3
 simp -dsimp only[↓bp,bq,br,seval,iG,h3]
 refine cG (fun hlt=> ?_) (fun hge=> ?_)
 ·obtain ⟨c,hx⟩:∃ c,s[i]? =some c:=⟨_,List.getElem?_eq_getElem (by omega)⟩
  have hwi:IntKind.i64.wrap ((i:Int)+1)=((i+1:Nat):Int):=by rw[aC (by omega) (by omega)];rfl
  have hil:i < s.length:=(List.getElem?_eq_some_iff.1 hx).1
  have htk:=aW _ _ _ hx
  have hnext:gJ c=true -> (i=0 ->97 <=c.toNat /\ c.toNat <=122) -> ((0 < i+1 ->∃ c,s[0]? =some c /\ 97 <=c.toNat /\ c.toNat <=122) /\ (s.take (i+1)).all gJ=true):=fun hc h0=>by
   refine⟨fun _=> ?_,by rw[htk,List.all_append,hal];simp[hc]⟩
   by_cases e:i=0
   ·subst e;exact⟨c,hx,h0 rfl⟩
   ·exact hf (by omega)
  have hno1:i=0 -> ¬ (97 <=c.toNat /\ c.toNat <=122) ->qD s=false:=fun e h=>by
   subst e
   rw[vC hx]
   by_cases a:97 <=c.toNat
   ·have: ¬ c.toNat <=122:=fun b=>h ⟨a,b⟩
    simp[this]
   ·simp[a]
  have hno2:gJ c=false ->qD s=false:=fun h=>by
   have h1:=B4u hx h
   obtain⟨d,hd⟩:∃ d,s[0]? =some d:=⟨_,List.getElem?_eq_getElem (by omega)⟩
   rw[vC hd,h1,Bool.and_false]
  clear hi hlt htk hf hal hs hword
  have hN:∀ n:Nat,((n:Int) <=c.toNat)=(n <=c.toNat):=fun n=>by simp
  by_cases hlow:97 <=c.toNat /\ c.toNat <=122
  ·have a1:=eq_true (show(97:Int) <=c.toNat by omega)
   have a2:=eq_true (show(c.toNat:Int) <=122 by omega)
   have hn:=hnext (by unfold gJ;simp[hlow]) (fun _=>hlow)
   clear hnext hno1 hno2 hN
   repeat'(first|refine xs ?_ ?_ <;>intros|(refine wn ?_;intro bx hbx;try simp only[fb]at hbx)|refine wj ?_|simp -dsimp only[↓bp,bq,br,seval,iG, *]|refine wz ?_|fail)
   all_goals exact⟨s.length - (i+1),by omega,i+1,by omega,rfl,rfl,hn⟩
  ·by_cases e0:i=0
   ·have hp:=hno1 e0 hlow
    rw[hp]
    clear hnext hno1 hno2 hN
    have b0:=eq_true (show(i:Int)=0 by omega)
    by_cases a:97 <=c.toNat
    ·have a1:=eq_true (show(97:Int) <=c.toNat by omega)
     have a2:=eq_false (show ¬ (c.toNat:Int) <=122 by omega)
     clear e0 hlow
     repeat'(first|refine xs ?_ ?_ <;>intros|(refine wn ?_;intro bx hbx;try simp only[fb]at hbx)|refine wj ?_|simp -dsimp only[↓bp,bq,br,seval,iG, *]|refine wz ?_|fail)
     all_goals rfl
    ·have a1:=eq_false (show ¬ (97:Int) <=c.toNat by omega)
     clear e0 hlow
     repeat'(first|refine xs ?_ ?_ <;>intros|(refine wn ?_;intro bx hbx;try simp only[fb]at hbx)|refine wj ?_|simp -dsimp only[↓bp,bq,br,seval,iG, *]|refine wz ?_|fail)
     all_goals rfl
   ·have b0:=eq_false (show ¬ (i:Int)=0 by omega)
    have hlo:(97 <=(c.toNat:Int))=False \/ ((97 <=(c.toNat:Int))=True /\ ((c.toNat:Int) <=122)=False):=by
     by_cases a:97 <=c.toNat
     ·exact .inr ⟨eq_true (by omega),eq_false (by omega)⟩
     ·exact .inl (eq_false (by omega))
    cases hin:gJ c with
    | true=>
     have hn:=hnext hin (fun e=>absurd e e0)
     clear hnext hno1 hno2 hN
     unfold gJ at hin
     simp only[Bool.or_eq_true,Bool.and_eq_true,decide_eq_true_eq]at hin
     rcases hlo with a1|⟨a1,a2⟩
     ·by_cases d1:65 <=c.toNat /\ c.toNat <=90
      ·have a3:=eq_true (show(65:Int) <=c.toNat by omega)
       have a4:=eq_true (show(c.toNat:Int) <=90 by omega)
       clear hin hlow
       repeat'(first|refine xs ?_ ?_ <;>intros|(refine wn ?_;intro bx hbx;try simp only[fb]at hbx)|refine wj ?_|simp -dsimp only[↓bp,bq,br,seval,iG, *]|refine wz ?_|fail)
       all_goals exact⟨s.length - (i+1),by omega,i+1,by omega,rfl,rfl,hn⟩
      ·by_cases d2:48 <=c.toNat /\ c.toNat <=57
       ·have a3:=eq_false (show ¬ (65:Int) <=c.toNat by omega)
        have a4:=eq_true (show(48:Int) <=c.toNat by omega)
        have a5:=eq_true (show(c.toNat:Int) <=57 by omega)
        clear hin hlow
        repeat'(first|refine xs ?_ ?_ <;>intros|(refine wn ?_;intro bx hbx;try simp only[fb]at hbx)|refine wj ?_|simp -dsimp only[↓bp,bq,br,seval,iG, *]|refine wz ?_|fail)
        all_goals exact⟨s.length - (i+1),by omega,i+1,by omega,rfl,rfl,hn⟩
       ·have a1n: ¬ (97:Int) <=c.toNat:=of_eq_false a1
        have h3:c.toNat=95 \/ c.toNat=64:=by omega
        have a4:=eq_true (show(48:Int) <=c.toNat by omega)
        have a5:=eq_false (show ¬ (c.toNat:Int) <=57 by omega)
        rcases h3 with h3|h3
        ·have a3:=eq_true (show(65:Int) <=c.toNat by omega)
         have a6:=eq_false (show ¬ (c.toNat:Int) <=90 by omega)
         have a7:=eq_true (show(c.toNat:Int)=95 by omega)
         clear hin hlow d1 d2 h3
         repeat'(first|refine xs ?_ ?_ <;>intros|(refine wn ?_;intro bx hbx;try simp only[fb]at hbx)|refine wj ?_|simp -dsimp only[↓bp,bq,br,seval,iG, *]|refine wz ?_|fail)
         all_goals exact⟨s.length - (i+1),by omega,i+1,by omega,rfl,rfl,hn⟩
        ·have a3:=eq_false (show ¬ (65:Int) <=c.toNat by omega)
         have a7:=eq_false (show ¬ (c.toNat:Int)=95 by omega)
         have a8:=eq_true (show(c.toNat:Int)=64 by omega)
         clear hin hlow d1 d2 h3
         repeat'(first|refine xs ?_ ?_ <;>intros|(refine wn ?_;intro bx hbx;try simp only[fb]at hbx)|refine wj ?_|simp -dsimp only[↓bp,bq,br,seval,iG, *]|refine wz ?_|fail)
         all_goals exact⟨s.length - (i+1),by omega,i+1,by omega,rfl,rfl,hn⟩
     ·exfalso
      have b1:97 <=(c.toNat:Int):=of_eq_true a1
      have b2: ¬ (c.toNat:Int) <=122:=of_eq_false a2
      omega
    | false=>
     have hp:=hno2 hin
     rw[hp]
     clear hnext hno1 hno2 hN
     have hin: ¬ (gJ c=true):=by rw[hin];simp
     unfold gJ at hin
     simp only[Bool.or_eq_true,Bool.and_eq_true,decide_eq_true_eq]at hin
     have a7:=eq_false (show ¬ (c.toNat:Int)=95 by omega)
     have a8:=eq_false (show ¬ (c.toNat:Int)=64 by omega)
     have h65:((65 <=(c.toNat:Int))=False) \/ ((65 <=(c.toNat:Int))=True /\ ((c.toNat:Int) <=90)=False):=by
      by_cases a:65 <=c.toNat
      ·exact .inr ⟨eq_true (by omega),eq_false (by omega)⟩
      ·exact .inl (eq_false (by omega))
     have h48:((48 <=(c.toNat:Int))=False) \/ ((48 <=(c.toNat:Int))=True /\ ((c.toNat:Int) <=57)=False):=by
      by_cases a:48 <=c.toNat
      ·exact .inr ⟨eq_true (by omega),eq_false (by omega)⟩
      ·exact .inl (eq_false (by omega))
     clear hin hlow
     rcases hlo with a1|⟨a1,a2⟩ <;>rcases h65 with a3|⟨a3,a4⟩ <;>rcases h48 with a5|⟨a5,a6⟩
     all_goals
      repeat'(first|refine xs ?_ ?_ <;>intros|(refine wn ?_;intro bx hbx;try simp only[fb]at hbx)|refine wj ?_|simp -dsimp only[↓bp,bq,br,seval,iG, *]|refine wz ?_|fail)
      all_goals rfl
 ·have:i=s.length:=by omega
  subst this
  rw[List.take_length]at hal
  clear hi hge
  by_cases hne:s=[]
  ·subst hne
   have hp:qD []=false:=rfl
   rw[hp]
   clear hal hf
   repeat'(first|refine xs ?_ ?_ <;>intros|(refine wn ?_;intro bx hbx;try simp only[fb]at hbx)|refine wj ?_|simp -dsimp only[↓bp,bq,br,seval,iG, *]|refine wz ?_|fail)
   all_goals rfl
  ·obtain⟨c,hx,h1,h2⟩:=hf (List.length_pos_iff.2 hne)
   have hp:qD s= !words.contains s:=by rw[vC hx,hal];simp[h1,h2]
   rw[hp]
   clear hal hf hp h1 h2 hx
   have hne:=eq_false hne
   repeat'(first|refine xs ?_ ?_ <;>intros|(refine wn ?_;intro bx hbx;try simp only[fb]at hbx)|refine wp hword ?_|refine wj ?_|simp -dsimp only[↓bp,bq,br,seval,iG, *]|refine wz ?_|fail)
   all_goals rfl
end
set_option maxRecDepth 20000
section
def kD:=And.intro (And.intro (And.intro @jD @iZ) (And.intro @jJ @jE)) (And.intro (And.intro @sE @D4k) (And.intro @oW @mF))
variable (G:Nat ->AV)
def OB(σ0 σ:AS)(v:AV)(s:List UInt8):Prop:=(v= .sl .full (aX s) [] /\ σ0.le σ) \/ (kL 1 σ0 σ v (aX s) /\ s ≠ [])
theorem B9c{s:List UInt8} :∀ a,a ∈ aX s -> (flat a).length=1:=fun a ha=>by
 obtain⟨c,_,rfl⟩:=List.mem_map.1 ha
 rfl
theorem obN:dU Tryz.prog 45=some (5,1,1):=sE.2.2.2.2.2.2
theorem obE:el Tryz.prog 45=some 5:=sE.2.2.2.1
theorem zW{σ0 σ:AS}{v:AV}{s r:List UInt8}{K:AV ->AS ->Prop}{d:Dum σ}{d':Dum K}(h:OB σ0 σ v s)(hr:r ≠ [])(hl:s.length+r.length <=140737488355328)(hK:∀ v' σ',OB σ0 σ' v' (s++r) ->K v' σ'):
  B0y Tryz.prog σ 45 45 v (.sl .full (aX r) []) K d d':=by
 have hne:aX r ≠ []:=by simpa [aX] using hr
 have hb:((aX s).length+(aX r).length)*1 <=140737488355328:=by rw[eY,eY];omega
 rcases h with⟨rfl,hle⟩|⟨hB,_⟩
 ·exact A3u hle B9c obN (bJ obE) B9c hb (fun e=>absurd e hne) (fun v' σ' hB _=>hK v' σ' (.inr ⟨by rwa [oU]at hB,by simp[hr]⟩))
 ·exact iH hB obN (bJ obE) B9c hb (fun v' σ' hB _=>hK v' σ' (.inr ⟨by rwa [oU]at hB,by simp[hr]⟩))
theorem E7e(c:UInt8):IntKind.u8.wrap ((c.toNat:Int).tdiv 16)=((c.toNat / 16:Nat):Int):=by
 have h:(c.toNat:Int).tdiv 16=((c.toNat / 16:Nat):Int):=rfl
 have:=c.toNat_lt
 rw[h,IntKind.wrap_u8];omega
theorem E8s(c:UInt8):(c.toNat:Int).tmod 16=((c.toNat % 16:Nat):Int):=rfl
set_option maxHeartbeats 2000000 in
theorem C0m(s:List UInt8)(hs:s.length <=1000000000):aB Tryz.prog G 86 [.str s] (.str (A3y s)):=by
 have hp:=B6o G s hs
 unfold A3y
 refine aB.of_le fun σ=> ?_
 cases hpl:qD s with
 | true=>
  rw[hpl]at hp
  simp only[if_true]
  refine aJ.of_awp mixed Tryz.func86 rfl (by kernel_rfl) (by kernel_rfl) (by simp[Tryz.ntmps86]) Tryz.results86 ?_
  repeat'(first|refine xs ?_ ?_ <;>intros|(refine wn ?_;intro bx hbx;try simp only[fb]at hbx)|refine wp hp ?_|refine wj ?_|simp -dsimp only[↓bp,bq,br,seval,kD, *]|refine wz ?_|fail)
  all_goals exact aL (Le.refl _) (AS.le.refl σ)
 | false=>
  rw[hpl]at hp
  simp only[Bool.false_eq_true,if_false]
  refine aJ.of_awp mixed Tryz.func86 rfl (by kernel_rfl) (by kernel_rfl) (by simp[Tryz.ntmps86]) Tryz.results86 ?_
  repeat'(first|refine xs ?_ ?_ <;>intros|(refine wn ?_;intro bx hbx;try simp only[fb]at hbx)|refine wp hp ?_|refine wj ?_|simp -dsimp only[↓bp,bq,br,seval,kD, *]|refine wz ?_|fail)
  refine aI (fun n e σ'=>∃ (i:Nat) (v:AV),i <=s.length /\ n=s.length - i /\ e 4= .int .i64 i /\ e 3=v /\ OB σ σ' v (39::(s.take i).flatMap iR)) s.length
   ⟨0,_,by omega,by omega,by first|(simp -dsimp only[↓bp,bq,br,seval,kD];done)|(simp -dsimp only[↓bp,bq,br,seval,kD];try rfl),by first|(simp -dsimp only[↓bp,bq,br,seval,kD];done)|(simp -dsimp only[↓bp,bq,br,seval,kD];try rfl), .inl ⟨rfl,AS.le.refl σ⟩⟩ ?_
  clear hp hpl
  rintro n e σ' ⟨i,v,hi,rfl,h4,h3,hB⟩
  simp -dsimp only[↓bp,bq,br,seval,kD]at h4 h3
  by_cases hlt:(i:Int) < s.length
  ·obtain⟨c,hc⟩:∃ c,s[i]? =some c:=⟨_,List.getElem?_eq_getElem (by omega)⟩
   have hts:(s.take (i+1)).flatMap iR=(s.take i).flatMap iR++iR c:=by rw[aW _ _ _ hc,List.flatMap_append];simp
   have hq:=rY (s.take i)
   have hti:(s.take i).length=i:=by rw[List.length_take];omega
   have hlen:(39::(s.take i).flatMap iR).length <=5000000000:=by simp only[List.length_cons];omega
   have hw:IntKind.i64.wrap ((i:Int)+1)=((i+1:Nat):Int):=by rw[aC (by omega) (by omega)];rfl
   have hnext:∀ v2 s2,OB σ s2 v2 (39::(s.take i).flatMap iR++iR c) ->∃ m,m < s.length - i /\ ∃ i_1 v',i_1 <=s.length /\ m=s.length - i_1 /\ AV.int .i64 ((i+1:Nat):Int)= .int .i64 i_1 /\ v2=v' /\ OB σ s2 v' (39::(s.take i_1).flatMap iR):=fun v2 s2 h2=>
    ⟨s.length - (i+1),by omega,i+1,v2,by omega,rfl,rfl,rfl,by rw[hts];simpa using h2⟩
   clear hts hq hti hi hs
   generalize 39::(s.take i).flatMap iR=out at*
   by_cases k1:c.toNat=39 \/ c.toNat=92
   ·have hqc:iR c=[92]++[c]:=by unfold iR;rw[if_pos k1];rfl
    rw[hqc]at hnext
    have k1':(c.toNat:Int)=39 \/ (c.toNat:Int)=92:=by omega
    clear hqc k1
    rcases k1' with k1'|k1'
    ·have kk:=eq_true k1'
     clear k1'
     repeat'(first|refine xs ?_ ?_ <;>intros|(refine wn ?_;intro bx hbx;try simp only[fb]at hbx)|(refine zW (r:=[92,c]) hB (by simp) (by simp only[List.length_cons,List.length_nil];omega) (fun v2 s2 hB2=> ?_))|refine wj ?_|simp -dsimp only[↓bp,bq,br,seval,kD,hw, *]|refine wz ?_|fail)
     all_goals exact hnext _ _ (by simpa using hB2)
    ·have kk:=eq_true k1'
     have kk2:=eq_false (show ¬ (c.toNat:Int)=39 by omega)
     clear k1'
     repeat'(first|refine xs ?_ ?_ <;>intros|(refine wn ?_;intro bx hbx;try simp only[fb]at hbx)|(refine zW (r:=[92,c]) hB (by simp) (by simp only[List.length_cons,List.length_nil];omega) (fun v2 s2 hB2=> ?_))|refine wj ?_|simp -dsimp only[↓bp,bq,br,seval,kD,hw, *]|refine wz ?_|fail)
     all_goals exact hnext _ _ (by simpa using hB2)
   ·have j1:=eq_false (show ¬ (c.toNat:Int)=39 by omega)
    have j2:=eq_false (show ¬ (c.toNat:Int)=92 by omega)
    by_cases k2:c.toNat=10
    ·have hqc:iR c=[92,110]:=by unfold iR;rw[if_neg k1,if_pos k2]
     rw[hqc]at hnext
     have j3:=eq_true (show(c.toNat:Int)=10 by omega)
     clear hqc k1 k2
     repeat'(first|refine xs ?_ ?_ <;>intros|(refine wn ?_;intro bx hbx;try simp only[fb]at hbx)|(refine zW (r:=[92,110]) hB (by simp) (by simp only[List.length_cons,List.length_nil];omega) (fun v2 s2 hB2=> ?_))|refine wj ?_|simp -dsimp only[↓bp,bq,br,seval,kD,hw, *]|refine wz ?_|fail)
     all_goals exact hnext _ _ hB2
    ·have j3:=eq_false (show ¬ (c.toNat:Int)=10 by omega)
     by_cases k3:c.toNat < 32 \/ 126 < c.toNat
     ·have hqc:iR c=[92,120,xH (c.toNat / 16),xH (c.toNat % 16)]:=by unfold iR;rw[if_neg k1,if_neg k2,if_pos k3]
      rw[hqc]at hnext
      have d16:=E7e c
      have m16:=E8s c
      have x1:([48,49,50,51,52,53,54,55,56,57,97,98,99,100,101,102]:List UInt8)[c.toNat / 16]? =some (xH (c.toNat / 16)):=B1x _ (by have:=c.toNat_lt;omega)
      have x2:([48,49,50,51,52,53,54,55,56,57,97,98,99,100,101,102]:List UInt8)[c.toNat % 16]? =some (xH (c.toNat % 16)):=B1x _ (by omega)
      clear hqc k1 k2
      have hk3:((c.toNat:Int) < 32)=True \/ (((c.toNat:Int) < 32)=False /\ ((126:Int) < c.toNat)=True):=by
       by_cases a:c.toNat < 32
       ·exact .inl (eq_true (by omega))
       ·exact .inr ⟨eq_false (by omega),eq_true (by omega)⟩
      clear k3
      rcases hk3 with j4|⟨j4,j5⟩
      all_goals
       repeat'(first|refine xs ?_ ?_ <;>intros|(refine wn ?_;intro bx hbx;try simp only[fb]at hbx)|(refine zW (r:=[92,120,xH (c.toNat / 16),xH (c.toNat % 16)]) hB (by simp) (by simp only[List.length_cons,List.length_nil];omega) (fun v2 s2 hB2=> ?_))|refine wj ?_|simp -dsimp only[↓bp,bq,br,seval,kD,hw, *]|refine wz ?_|fail)
       all_goals exact hnext _ _ hB2
     ·have hqc:iR c=[c]:=by unfold iR;rw[if_neg k1,if_neg k2,if_neg k3]
      rw[hqc]at hnext
      have j4:=eq_false (show ¬ (c.toNat:Int) < 32 by omega)
      have j5:=eq_false (show ¬ (126:Int) < c.toNat by omega)
      clear hqc k1 k2 k3
      repeat'(first|refine xs ?_ ?_ <;>intros|(refine wn ?_;intro bx hbx;try simp only[fb]at hbx)|(refine zW (r:=[c]) hB (by simp) (by simp only[List.length_cons,List.length_nil];omega) (fun v2 s2 hB2=> ?_))|refine wj ?_|simp -dsimp only[↓bp,bq,br,seval,kD,hw, *]|refine wz ?_|fail)
      all_goals exact hnext _ _ hB2
  ·have:i=s.length:=by omega
   subst this
   have hq:=rY s
   rw[List.take_length]at hB
   have hirr:=eq_false (Int.lt_irrefl (s.length:Int))
   clear hlt hi
   have hfin:∀ v' σ2,OB σ σ2 v' (39::s.flatMap iR++[39]) ->∃ g,v'= .sl g (aX (xL s)) [] /\ σ.le σ2:=fun v' σ2 h=>by
    have e:39::s.flatMap iR++[39]=xL s:=rfl
    rw[e]at h
    rcases h with⟨h1,h2⟩|⟨h1,h2⟩
    ·exact⟨_,h1,h2⟩
    ·rcases h1.isNil with⟨h3,_⟩|⟨b,h3⟩
     ·exact absurd h3 (by simpa [aX] using h2)
     ·exact⟨_,h3,h1.le⟩
   have hby:=bU (xL s)
   repeat'(first|refine xs ?_ ?_ <;>intros|(refine wn ?_;intro bx hbx;try simp only[fb]at hbx)|((refine zW (r:=[39]) hB (by simp) (by simp only[List.length_cons,List.length_nil];omega) (fun v2 s2 hB2=> ?_);obtain⟨g,rfl,hle2⟩:=hfin v2 s2 hB2))|refine wj ?_|simp -dsimp only[↓bp,bq,br,seval,kD, *]|refine wz ?_|fail)
   all_goals exact aL (Le.refl _) hle2
end
end Go.Proofs.YtdhbdhopnpmboaaGreatDoor
