/- Right terms, and their size: the function at some kinds. -/
import Derived.Test.YtdhbdhopnpmboaaGreatDoorZ08
import Derived.Test.YtdhbdhopnpmboaaGreatDoorZ09
import Derived.Test.YtdhbdhopnpmboaaGreatDoorZ07
import Derived.Test.YtdhbdhopnpmboaaGreatDoorZ06
set_option linter.unusedVariables false
set_option linter.unusedSimpArgs false
set_option maxRecDepth 20000
set_option linter.defProp false
namespace Go.Proofs.YtdhbdhopnpmboaaGreatDoor
open Go Go.Av
section
def dH:=And.intro (And.intro (And.intro (And.intro @jD @iZ) (And.intro @jJ (And.intro @eG @jE))) (And.intro (And.intro @dL (And.intro @eN @dV)) (And.intro @eD (And.intro @aA.flat_enc @aA.isv_enc)))) (And.intro (And.intro (And.intro @aA.fold_enc (And.intro @aS @aN)) (And.intro @aU (And.intro @bW @bG))) (And.intro (And.intro @aQ (And.intro @aM @aZ)) (And.intro @cH (And.intro @bQ @bB))))
variable (G:Nat ->AV)
set_option maxHeartbeats 4000000 in
theorem E0r(t:aA)(hb:t.bulk <=1000000000)(hk:t.knd=5)(hit:∀ x,x ∈ t.items ->aB Tryz.prog G 39 [x.enc] (.int .i64 (size x)))(htt:∀ x,x ∈ t.tail ->aB Tryz.prog G 39 [x.enc] (.int .i64 (size x))):
  aB Tryz.prog G 39 [t.enc] (.int .i64 (size t)):=by
 have hli:=cA t
 have hlt:=dD t
 have hll:=cQ t
 have hwr:=mY G t hb
 have hp0:=kO G t
 have hp1:=kP G t
 have hp2:=kQ G t
 have hp3:=kR G t
 have hp4:=jR G t
 have hse:=jL t
 have hle:=fun x (_:x ∈ t.items)=>kK x
 have hw1:IntKind.i64.wrap (1+(t.limbs.length:Int))=1+t.limbs.length:=aC (by omega) (by omega)
 have hkn:=t.knd_nn
 intro σ
 refine aJ.of_awp mixed Tryz.func39 rfl (by kernel_rfl) (by kernel_rfl) (by simp[Tryz.ntmps39]) Tryz.results39 ?_
 simp -dsimp only[↓bp,bq,br,seval,dH]
 refine cX fun b1 h1=> ?_
 simp -dsimp only[↓bp,bq,br,seval,dH]
 refine aY fun b3 h3=> ?_
 simp only[eR]at h3
 obtain⟨h3,h31,h13⟩:=h3
 simp -dsimp only[↓bp,bq,br,seval,dH]
 refine aY fun b5 h5=> ?_
 simp only[eR]at h5
 obtain⟨⟨h5,h51,h15⟩,h53,h35⟩:=h5
 have e1: ¬ t.knd=1:=by omega
 have e2: ¬ t.knd=2:=by omega
 have e3: ¬ t.knd=3:=by omega
 have e4: ¬ t.knd=4:=by omega
 have e5:t.knd=5:=hk
 have e6: ¬ t.knd=6:=by omega
 have e7: ¬ t.knd=7:=by omega
 have k1:=eq_false e1
 have k2:=eq_false e2
 have k3:=eq_false e3
 have k5:=eq_true e5
 have hhd:head t=(1,0,fG t false true false false && decide (0 <=t.num) && decide (t.num <=1099511627776)):=by unfold head;rw[if_neg e2,if_pos (.inr e5)]
 clear hk e1 e2 e3 e5
 cases hbr:fG t false true false false
 ·rw[hbr]at hhd hp1
  simp only[Bool.false_and]at hhd
  repeat'(first|refine xs ?_ ?_ <;>intros|(refine wn ?_;intro bx hbx;try simp only[fb]at hbx)|refine wp hp1 ?_|refine wj ?_|simp -dsimp only[↓bp,bq,br,seval,dH,h53,h35,h51,h15,h31,h13, *]|refine wz ?_|fail)
  refine aJ.mono (cJ G t.items 0 (by omega) (by omega) (by omega) hit _ b5 b3 h53 1 false (by simp -dsimp only[↓bp,bq,br,seval,dH,h53,h35,h51,h15,h31,h13]) (by simp -dsimp only[↓bp,bq,br,seval,dH,h53,h35,h51,h15,h31,h13]) (by omega) (fun _=>by omega) (by omega)) ?_
  rintro r σ' rfl
  have ha:=fU t.items hle 0 (by omega) (by omega) (1,false) (by simp only;omega) (fun _=>by simp only;omega) (by simp only;omega)
  simp -dsimp only[↓bp,bq,br,seval,dH,h53,h35,h51,h15,h31,h13]
  refine aJ.mono (cJ G t.tail 0 (by omega) (by omega) (by omega) htt _ b5 b3 h53 (bI t.items 0 (1,false)).1 (bI t.items 0 (1,false)).2 (by simp -dsimp only[↓bp,bq,br,seval,dH,h53,h35,h51,h15,h31,h13]) (by simp -dsimp only[↓bp,bq,br,seval,dH,h53,h35,h51,h15,h31,h13]) ha.1 ha.2.1 ha.2.2) ?_
  rintro r σ' rfl
  simp -dsimp only[↓bp,bq,br,seval,dH,h53,h35,h51,h15,h31,h13]
  cases hfin:(bI t.tail 0 ((bI t.items 0 (1,false)).1,(bI t.items 0 (1,false)).2)).2
  ·simp -dsimp only[↓bp,bq,br,seval,dH,h53,h35,h51,h15,h31,h13]
   refine aP ?_ (by repeat'(first|exact AS.le.refl _|assumption|(refine cE (by assumption) ?_)))
   rw[hse,hhd]
   simp only[k1,hfin,if_false,Bool.true_and,Bool.false_and,Bool.false_eq_true,if_true]
  ·simp -dsimp only[↓bp,bq,br,seval,dH,h53,h35,h51,h15,h31,h13]
   refine aP ?_ (by repeat'(first|exact AS.le.refl _|assumption|(refine cE (by assumption) ?_)))
   rw[hse,hhd]
   simp only[k1,hfin,if_false,Bool.true_and,Bool.false_and,Bool.false_eq_true,if_true]
 ·rw [hbr]at hhd hp1
  by_cases en:0 <=t.num
  ·have kn:=eq_true en
   clear en
   simp only[kn,decide_true,Bool.and_true,Bool.true_and]at hhd
   repeat'(first|refine xs ?_ ?_ <;>intros|(refine wn ?_;intro bx hbx;try simp only[fb]at hbx)|refine wp hp1 ?_|refine wj ?_|simp -dsimp only[↓bp,bq,br,seval,dH,h53,h35,h51,h15,h31,h13,kn, *]|refine wz ?_|fail)
   refine aJ.mono (cJ G t.items 0 (by omega) (by omega) (by omega) hit _ b5 b3 h53 1 (decide (t.num <=1099511627776)) (by simp -dsimp only[↓bp,bq,br,seval,dH,h53,h35,h51,h15,h31,h13]) (by simp -dsimp only[↓bp,bq,br,seval,dH,h53,h35,h51,h15,h31,h13]) (by omega) (fun _=>by omega) (by omega)) ?_
   rintro r σ' rfl
   have ha:=fU t.items hle 0 (by omega) (by omega) (1,(decide (t.num <=1099511627776))) (by simp only;omega) (fun _=>by simp only;omega) (by simp only;omega)
   simp -dsimp only[↓bp,bq,br,seval,dH,h53,h35,h51,h15,h31,h13]
   refine aJ.mono (cJ G t.tail 0 (by omega) (by omega) (by omega) htt _ b5 b3 h53 (bI t.items 0 (1,(decide (t.num <=1099511627776)))).1 (bI t.items 0 (1,(decide (t.num <=1099511627776)))).2 (by simp -dsimp only[↓bp,bq,br,seval,dH,h53,h35,h51,h15,h31,h13]) (by simp -dsimp only[↓bp,bq,br,seval,dH,h53,h35,h51,h15,h31,h13]) ha.1 ha.2.1 ha.2.2) ?_
   rintro r σ' rfl
   simp -dsimp only[↓bp,bq,br,seval,dH,h53,h35,h51,h15,h31,h13]
   cases hfin:(bI t.tail 0 ((bI t.items 0 (1,(decide (t.num <=1099511627776)))).1,(bI t.items 0 (1,(decide (t.num <=1099511627776)))).2)).2
   ·simp -dsimp only[↓bp,bq,br,seval,dH,h53,h35,h51,h15,h31,h13]
    refine aP ?_ (by repeat'(first|exact AS.le.refl _|assumption|(refine cE (by assumption) ?_)))
    rw[hse,hhd]
    simp only[k1,hfin,if_false,Bool.true_and,Bool.false_and,Bool.false_eq_true,if_true]
   ·simp -dsimp only[↓bp,bq,br,seval,dH,h53,h35,h51,h15,h31,h13]
    refine aP ?_ (by repeat'(first|exact AS.le.refl _|assumption|(refine cE (by assumption) ?_)))
    rw[hse,hhd]
    simp only[k1,hfin,if_false,Bool.true_and,Bool.false_and,Bool.false_eq_true,if_true]
  ·have kn:=eq_false en
   clear en
   simp only[kn,decide_false,Bool.and_false,Bool.false_and]at hhd
   repeat'(first|refine xs ?_ ?_ <;>intros|(refine wn ?_;intro bx hbx;try simp only[fb]at hbx)|refine wp hp1 ?_|refine wj ?_|simp -dsimp only[↓bp,bq,br,seval,dH,h53,h35,h51,h15,h31,h13,kn, *]|refine wz ?_|fail)
   refine aJ.mono (cJ G t.items 0 (by omega) (by omega) (by omega) hit _ b5 b3 h53 1 false (by simp -dsimp only[↓bp,bq,br,seval,dH,h53,h35,h51,h15,h31,h13]) (by simp -dsimp only[↓bp,bq,br,seval,dH,h53,h35,h51,h15,h31,h13]) (by omega) (fun _=>by omega) (by omega)) ?_
   rintro r σ' rfl
   have ha:=fU t.items hle 0 (by omega) (by omega) (1,false) (by simp only;omega) (fun _=>by simp only;omega) (by simp only;omega)
   simp -dsimp only[↓bp,bq,br,seval,dH,h53,h35,h51,h15,h31,h13]
   refine aJ.mono (cJ G t.tail 0 (by omega) (by omega) (by omega) htt _ b5 b3 h53 (bI t.items 0 (1,false)).1 (bI t.items 0 (1,false)).2 (by simp -dsimp only[↓bp,bq,br,seval,dH,h53,h35,h51,h15,h31,h13]) (by simp -dsimp only[↓bp,bq,br,seval,dH,h53,h35,h51,h15,h31,h13]) ha.1 ha.2.1 ha.2.2) ?_
   rintro r σ' rfl
   simp -dsimp only[↓bp,bq,br,seval,dH,h53,h35,h51,h15,h31,h13]
   cases hfin:(bI t.tail 0 ((bI t.items 0 (1,false)).1,(bI t.items 0 (1,false)).2)).2
   ·simp -dsimp only[↓bp,bq,br,seval,dH,h53,h35,h51,h15,h31,h13]
    refine aP ?_ (by repeat'(first|exact AS.le.refl _|assumption|(refine cE (by assumption) ?_)))
    rw[hse,hhd]
    simp only[k1,hfin,if_false,Bool.true_and,Bool.false_and,Bool.false_eq_true,if_true]
   ·simp -dsimp only[↓bp,bq,br,seval,dH,h53,h35,h51,h15,h31,h13]
    refine aP ?_ (by repeat'(first|exact AS.le.refl _|assumption|(refine cE (by assumption) ?_)))
    rw[hse,hhd]
    simp only[k1,hfin,if_false,Bool.true_and,Bool.false_and,Bool.false_eq_true,if_true]
end
set_option maxRecDepth 20000
section
def cO:=And.intro (And.intro (And.intro (And.intro @jD @iZ) (And.intro @jJ (And.intro @eG @jE))) (And.intro (And.intro @dL (And.intro @eN @dV)) (And.intro @eD (And.intro @aA.flat_enc @aA.isv_enc)))) (And.intro (And.intro (And.intro @aA.fold_enc (And.intro @aS @aN)) (And.intro @aU (And.intro @bW @bG))) (And.intro (And.intro @aQ (And.intro @aM @aZ)) (And.intro @cH (And.intro @bQ @bB))))
variable (G:Nat ->AV)
set_option maxHeartbeats 4000000 in
theorem E0q(t:aA)(hb:t.bulk <=1000000000)(hk:t.knd=4)(hit:∀ x,x ∈ t.items ->aB Tryz.prog G 39 [x.enc] (.int .i64 (size x)))(htt:∀ x,x ∈ t.tail ->aB Tryz.prog G 39 [x.enc] (.int .i64 (size x))):
  aB Tryz.prog G 39 [t.enc] (.int .i64 (size t)):=by
 have hli:=cA t
 have hlt:=dD t
 have hll:=cQ t
 have hwr:=mY G t hb
 have hp0:=kO G t
 have hp1:=kP G t
 have hp2:=kQ G t
 have hp3:=kR G t
 have hp4:=jR G t
 have hse:=jL t
 have hle:=fun x (_:x ∈ t.items)=>kK x
 have hw1:IntKind.i64.wrap (1+(t.limbs.length:Int))=1+t.limbs.length:=aC (by omega) (by omega)
 have hkn:=t.knd_nn
 intro σ
 refine aJ.of_awp mixed Tryz.func39 rfl (by kernel_rfl) (by kernel_rfl) (by simp[Tryz.ntmps39]) Tryz.results39 ?_
 simp -dsimp only[↓bp,bq,br,seval,cO]
 refine cX fun b1 h1=> ?_
 simp -dsimp only[↓bp,bq,br,seval,cO]
 refine aY fun b3 h3=> ?_
 simp only[eR]at h3
 obtain⟨h3,h31,h13⟩:=h3
 simp -dsimp only[↓bp,bq,br,seval,cO]
 refine aY fun b5 h5=> ?_
 simp only[eR]at h5
 obtain⟨⟨h5,h51,h15⟩,h53,h35⟩:=h5
 have e1: ¬ t.knd=1:=by omega
 have e2: ¬ t.knd=2:=by omega
 have e3: ¬ t.knd=3:=by omega
 have e4:t.knd=4:=hk
 have e5: ¬ t.knd=5:=by omega
 have e6: ¬ t.knd=6:=by omega
 have e7: ¬ t.knd=7:=by omega
 have k1:=eq_false e1
 have k2:=eq_false e2
 have k3:=eq_false e3
 have k5:=eq_false e5
 have k4:=eq_true e4
 have hhd:head t=(2,0,fG t false true true false && decide (0 <=t.num) && decide (t.num <=16384)):=by unfold head;rw[if_neg e2,if_neg (by simp[e3,e5]),if_pos e4]
 clear hk e1 e2 e3 e5 e4
 cases hbr:fG t false true true false
 ·rw[hbr]at hhd hp2
  simp only[Bool.false_and]at hhd
  repeat'(first|refine xs ?_ ?_ <;>intros|(refine wn ?_;intro bx hbx;try simp only[fb]at hbx)|(refine uR 14 b3 b5 (z:=[.int .i64 1]) (z':=[.bool false]) (by kernel_rfl) (by simp -dsimp only[↓bp,bq,br,seval,cO,h53,h35,h51,h15,h31,h13]) (by simp -dsimp only[↓bp,bq,br,seval,cO,h53,h35,h51,h15,h31,h13]) ?_)|refine wp hp2 ?_|refine wj ?_|simp -dsimp only[↓bp,bq,br,seval,cO,h53,h35,h51,h15,h31,h13, *]|refine wz ?_|fail)
  refine aJ.mono (cJ G t.items 0 (by omega) (by omega) (by omega) hit _ b5 b3 h53 2 false (by simp -dsimp only[↓bp,bq,br,seval,cO,h53,h35,h51,h15,h31,h13]) (by simp -dsimp only[↓bp,bq,br,seval,cO,h53,h35,h51,h15,h31,h13]) (by omega) (fun _=>by omega) (by omega)) ?_
  rintro r σ' rfl
  have ha:=fU t.items hle 0 (by omega) (by omega) (2,false) (by simp only;omega) (fun _=>by simp only;omega) (by simp only;omega)
  simp -dsimp only[↓bp,bq,br,seval,cO,h53,h35,h51,h15,h31,h13]
  refine aJ.mono (cJ G t.tail 0 (by omega) (by omega) (by omega) htt _ b5 b3 h53 (bI t.items 0 (2,false)).1 (bI t.items 0 (2,false)).2 (by simp -dsimp only[↓bp,bq,br,seval,cO,h53,h35,h51,h15,h31,h13]) (by simp -dsimp only[↓bp,bq,br,seval,cO,h53,h35,h51,h15,h31,h13]) ha.1 ha.2.1 ha.2.2) ?_
  rintro r σ' rfl
  simp -dsimp only[↓bp,bq,br,seval,cO,h53,h35,h51,h15,h31,h13]
  cases hfin:(bI t.tail 0 ((bI t.items 0 (2,false)).1,(bI t.items 0 (2,false)).2)).2
  ·simp -dsimp only[↓bp,bq,br,seval,cO,h53,h35,h51,h15,h31,h13]
   refine aP ?_ (by repeat'(first|exact AS.le.refl _|assumption|(refine cE (by assumption) ?_)))
   rw[hse,hhd]
   simp only[k1,hfin,if_false,Bool.true_and,Bool.false_and,Bool.false_eq_true,if_true]
  ·simp -dsimp only[↓bp,bq,br,seval,cO,h53,h35,h51,h15,h31,h13]
   refine aP ?_ (by repeat'(first|exact AS.le.refl _|assumption|(refine cE (by assumption) ?_)))
   rw[hse,hhd]
   simp only[k1,hfin,if_false,Bool.true_and,Bool.false_and,Bool.false_eq_true,if_true]
 ·rw [hbr]at hhd hp2
  by_cases en:0 <=t.num
  ·have kn:=eq_true en
   clear en
   simp only[kn,decide_true,Bool.and_true,Bool.true_and]at hhd
   repeat'(first|refine xs ?_ ?_ <;>intros|(refine wn ?_;intro bx hbx;try simp only[fb]at hbx)|(refine uR 14 b3 b5 (z:=[.int .i64 1]) (z':=[.bool false]) (by kernel_rfl) (by simp -dsimp only[↓bp,bq,br,seval,cO,h53,h35,h51,h15,h31,h13]) (by simp -dsimp only[↓bp,bq,br,seval,cO,h53,h35,h51,h15,h31,h13]) ?_)|refine wp hp2 ?_|refine wj ?_|simp -dsimp only[↓bp,bq,br,seval,cO,h53,h35,h51,h15,h31,h13,kn, *]|refine wz ?_|fail)
   refine aJ.mono (cJ G t.items 0 (by omega) (by omega) (by omega) hit _ b5 b3 h53 2 (decide (t.num <=16384)) (by simp -dsimp only[↓bp,bq,br,seval,cO,h53,h35,h51,h15,h31,h13]) (by simp -dsimp only[↓bp,bq,br,seval,cO,h53,h35,h51,h15,h31,h13]) (by omega) (fun _=>by omega) (by omega)) ?_
   rintro r σ' rfl
   have ha:=fU t.items hle 0 (by omega) (by omega) (2,(decide (t.num <=16384))) (by simp only;omega) (fun _=>by simp only;omega) (by simp only;omega)
   simp -dsimp only[↓bp,bq,br,seval,cO,h53,h35,h51,h15,h31,h13]
   refine aJ.mono (cJ G t.tail 0 (by omega) (by omega) (by omega) htt _ b5 b3 h53 (bI t.items 0 (2,(decide (t.num <=16384)))).1 (bI t.items 0 (2,(decide (t.num <=16384)))).2 (by simp -dsimp only[↓bp,bq,br,seval,cO,h53,h35,h51,h15,h31,h13]) (by simp -dsimp only[↓bp,bq,br,seval,cO,h53,h35,h51,h15,h31,h13]) ha.1 ha.2.1 ha.2.2) ?_
   rintro r σ' rfl
   simp -dsimp only[↓bp,bq,br,seval,cO,h53,h35,h51,h15,h31,h13]
   cases hfin:(bI t.tail 0 ((bI t.items 0 (2,(decide (t.num <=16384)))).1,(bI t.items 0 (2,(decide (t.num <=16384)))).2)).2
   ·simp -dsimp only[↓bp,bq,br,seval,cO,h53,h35,h51,h15,h31,h13]
    refine aP ?_ (by repeat'(first|exact AS.le.refl _|assumption|(refine cE (by assumption) ?_)))
    rw[hse,hhd]
    simp only[k1,hfin,if_false,Bool.true_and,Bool.false_and,Bool.false_eq_true,if_true]
   ·simp -dsimp only[↓bp,bq,br,seval,cO,h53,h35,h51,h15,h31,h13]
    refine aP ?_ (by repeat'(first|exact AS.le.refl _|assumption|(refine cE (by assumption) ?_)))
    rw[hse,hhd]
    simp only[k1,hfin,if_false,Bool.true_and,Bool.false_and,Bool.false_eq_true,if_true]
  ·have kn:=eq_false en
   clear en
   simp only[kn,decide_false,Bool.and_false,Bool.false_and]at hhd
   repeat'(first|refine xs ?_ ?_ <;>intros|(refine wn ?_;intro bx hbx;try simp only[fb]at hbx)|(refine uR 14 b3 b5 (z:=[.int .i64 1]) (z':=[.bool false]) (by kernel_rfl) (by simp -dsimp only[↓bp,bq,br,seval,cO,h53,h35,h51,h15,h31,h13]) (by simp -dsimp only[↓bp,bq,br,seval,cO,h53,h35,h51,h15,h31,h13]) ?_)|refine wp hp2 ?_|refine wj ?_|simp -dsimp only[↓bp,bq,br,seval,cO,h53,h35,h51,h15,h31,h13,kn, *]|refine wz ?_|fail)
   refine aJ.mono (cJ G t.items 0 (by omega) (by omega) (by omega) hit _ b5 b3 h53 2 false (by simp -dsimp only[↓bp,bq,br,seval,cO,h53,h35,h51,h15,h31,h13]) (by simp -dsimp only[↓bp,bq,br,seval,cO,h53,h35,h51,h15,h31,h13]) (by omega) (fun _=>by omega) (by omega)) ?_
   rintro r σ' rfl
   have ha:=fU t.items hle 0 (by omega) (by omega) (2,false) (by simp only;omega) (fun _=>by simp only;omega) (by simp only;omega)
   simp -dsimp only[↓bp,bq,br,seval,cO,h53,h35,h51,h15,h31,h13]
   refine aJ.mono (cJ G t.tail 0 (by omega) (by omega) (by omega) htt _ b5 b3 h53 (bI t.items 0 (2,false)).1 (bI t.items 0 (2,false)).2 (by simp -dsimp only[↓bp,bq,br,seval,cO,h53,h35,h51,h15,h31,h13]) (by simp -dsimp only[↓bp,bq,br,seval,cO,h53,h35,h51,h15,h31,h13]) ha.1 ha.2.1 ha.2.2) ?_
   rintro r σ' rfl
   simp -dsimp only[↓bp,bq,br,seval,cO,h53,h35,h51,h15,h31,h13]
   cases hfin:(bI t.tail 0 ((bI t.items 0 (2,false)).1,(bI t.items 0 (2,false)).2)).2
   ·simp -dsimp only[↓bp,bq,br,seval,cO,h53,h35,h51,h15,h31,h13]
    refine aP ?_ (by repeat'(first|exact AS.le.refl _|assumption|(refine cE (by assumption) ?_)))
    rw[hse,hhd]
    simp only[k1,hfin,if_false,Bool.true_and,Bool.false_and,Bool.false_eq_true,if_true]
   ·simp -dsimp only[↓bp,bq,br,seval,cO,h53,h35,h51,h15,h31,h13]
    refine aP ?_ (by repeat'(first|exact AS.le.refl _|assumption|(refine cE (by assumption) ?_)))
    rw[hse,hhd]
    simp only[k1,hfin,if_false,Bool.true_and,Bool.false_and,Bool.false_eq_true,if_true]
end
set_option maxRecDepth 20000
section
def cU:=And.intro (And.intro (And.intro (And.intro @jD @iZ) (And.intro @jJ (And.intro @eG @jE))) (And.intro (And.intro @dL (And.intro @eN @dV)) (And.intro @eD (And.intro @aA.flat_enc @aA.isv_enc)))) (And.intro (And.intro (And.intro @aA.fold_enc (And.intro @aS @aN)) (And.intro @aU (And.intro @bW @bG))) (And.intro (And.intro @aQ (And.intro @aM @aZ)) (And.intro @cH (And.intro @bQ @bB))))
variable (G:Nat ->AV)
set_option maxHeartbeats 4000000 in
theorem E0s(t:aA)(hb:t.bulk <=1000000000)(hk:t.knd=6)(hit:∀ x,x ∈ t.items ->aB Tryz.prog G 39 [x.enc] (.int .i64 (size x)))(htt:∀ x,x ∈ t.tail ->aB Tryz.prog G 39 [x.enc] (.int .i64 (size x))):
  aB Tryz.prog G 39 [t.enc] (.int .i64 (size t)):=by
 have hli:=cA t
 have hlt:=dD t
 have hll:=cQ t
 have hwr:=mY G t hb
 have hp0:=kO G t
 have hp1:=kP G t
 have hp2:=kQ G t
 have hp3:=kR G t
 have hp4:=jR G t
 have hse:=jL t
 have hle:=fun x (_:x ∈ t.items)=>kK x
 have hw1:IntKind.i64.wrap (1+(t.limbs.length:Int))=1+t.limbs.length:=aC (by omega) (by omega)
 have hkn:=t.knd_nn
 intro σ
 refine aJ.of_awp mixed Tryz.func39 rfl (by kernel_rfl) (by kernel_rfl) (by simp[Tryz.ntmps39]) Tryz.results39 ?_
 simp -dsimp only[↓bp,bq,br,seval,cU]
 refine cX fun b1 h1=> ?_
 simp -dsimp only[↓bp,bq,br,seval,cU]
 refine aY fun b3 h3=> ?_
 simp only[eR]at h3
 obtain⟨h3,h31,h13⟩:=h3
 simp -dsimp only[↓bp,bq,br,seval,cU]
 refine aY fun b5 h5=> ?_
 simp only[eR]at h5
 obtain⟨⟨h5,h51,h15⟩,h53,h35⟩:=h5
 have e1: ¬ t.knd=1:=by omega
 have e2: ¬ t.knd=2:=by omega
 have e3: ¬ t.knd=3:=by omega
 have e4: ¬ t.knd=4:=by omega
 have e5: ¬ t.knd=5:=by omega
 have e6:t.knd=6:=hk
 have e7: ¬ t.knd=7:=by omega
 have k1:=eq_false e1
 have k2:=eq_false e2
 have k3:=eq_false e3
 have k5:=eq_false e5
 have k4:=eq_false e4
 have k6:=eq_true e6
 have hhd:head t=(1,0,fG t false false true false):=by unfold head;rw[if_neg e2,if_neg (by simp[e3,e5]),if_neg e4,if_pos e6]
 clear hk e1 e2 e3 e5 e4 e6
 cases hbr:fG t false false true false
 ·rw[hbr]at hhd hp3
  repeat'(first|refine xs ?_ ?_ <;>intros|(refine wn ?_;intro bx hbx;try simp only[fb]at hbx)|refine wp hp3 ?_|refine wj ?_|simp -dsimp only[↓bp,bq,br,seval,cU,h53,h35,h51,h15,h31,h13, *]|refine wz ?_|fail)
  refine aJ.mono (cJ G t.items 0 (by omega) (by omega) (by omega) hit _ b5 b3 h53 1 false (by simp -dsimp only[↓bp,bq,br,seval,cU,h53,h35,h51,h15,h31,h13]) (by simp -dsimp only[↓bp,bq,br,seval,cU,h53,h35,h51,h15,h31,h13]) (by omega) (fun _=>by omega) (by omega)) ?_
  rintro r σ' rfl
  have ha:=fU t.items hle 0 (by omega) (by omega) (1,false) (by simp only;omega) (fun _=>by simp only;omega) (by simp only;omega)
  simp -dsimp only[↓bp,bq,br,seval,cU,h53,h35,h51,h15,h31,h13]
  refine aJ.mono (cJ G t.tail 0 (by omega) (by omega) (by omega) htt _ b5 b3 h53 (bI t.items 0 (1,false)).1 (bI t.items 0 (1,false)).2 (by simp -dsimp only[↓bp,bq,br,seval,cU,h53,h35,h51,h15,h31,h13]) (by simp -dsimp only[↓bp,bq,br,seval,cU,h53,h35,h51,h15,h31,h13]) ha.1 ha.2.1 ha.2.2) ?_
  rintro r σ' rfl
  simp -dsimp only[↓bp,bq,br,seval,cU,h53,h35,h51,h15,h31,h13]
  cases hfin:(bI t.tail 0 ((bI t.items 0 (1,false)).1,(bI t.items 0 (1,false)).2)).2
  ·simp -dsimp only[↓bp,bq,br,seval,cU,h53,h35,h51,h15,h31,h13]
   refine aP ?_ (by repeat'(first|exact AS.le.refl _|assumption|(refine cE (by assumption) ?_)))
   rw[hse,hhd]
   simp only[k1,hfin,if_false,Bool.true_and,Bool.false_and,Bool.false_eq_true,if_true]
  ·simp -dsimp only[↓bp,bq,br,seval,cU,h53,h35,h51,h15,h31,h13]
   refine aP ?_ (by repeat'(first|exact AS.le.refl _|assumption|(refine cE (by assumption) ?_)))
   rw[hse,hhd]
   simp only[k1,hfin,if_false,Bool.true_and,Bool.false_and,Bool.false_eq_true,if_true]
 ·rw[hbr]at hhd hp3
  repeat'(first|refine xs ?_ ?_ <;>intros|(refine wn ?_;intro bx hbx;try simp only[fb]at hbx)|refine wp hp3 ?_|refine wj ?_|simp -dsimp only[↓bp,bq,br,seval,cU,h53,h35,h51,h15,h31,h13, *]|refine wz ?_|fail)
  refine aJ.mono (cJ G t.items 0 (by omega) (by omega) (by omega) hit _ b5 b3 h53 1 true (by simp -dsimp only[↓bp,bq,br,seval,cU,h53,h35,h51,h15,h31,h13]) (by simp -dsimp only[↓bp,bq,br,seval,cU,h53,h35,h51,h15,h31,h13]) (by omega) (fun _=>by omega) (by omega)) ?_
  rintro r σ' rfl
  have ha:=fU t.items hle 0 (by omega) (by omega) (1,true) (by simp only;omega) (fun _=>by simp only;omega) (by simp only;omega)
  simp -dsimp only[↓bp,bq,br,seval,cU,h53,h35,h51,h15,h31,h13]
  refine aJ.mono (cJ G t.tail 0 (by omega) (by omega) (by omega) htt _ b5 b3 h53 (bI t.items 0 (1,true)).1 (bI t.items 0 (1,true)).2 (by simp -dsimp only[↓bp,bq,br,seval,cU,h53,h35,h51,h15,h31,h13]) (by simp -dsimp only[↓bp,bq,br,seval,cU,h53,h35,h51,h15,h31,h13]) ha.1 ha.2.1 ha.2.2) ?_
  rintro r σ' rfl
  simp -dsimp only[↓bp,bq,br,seval,cU,h53,h35,h51,h15,h31,h13]
  cases hfin:(bI t.tail 0 ((bI t.items 0 (1,true)).1,(bI t.items 0 (1,true)).2)).2
  ·simp -dsimp only[↓bp,bq,br,seval,cU,h53,h35,h51,h15,h31,h13]
   refine aP ?_ (by repeat'(first|exact AS.le.refl _|assumption|(refine cE (by assumption) ?_)))
   rw[hse,hhd]
   simp only[k1,hfin,if_false,Bool.true_and,Bool.false_and,Bool.false_eq_true,if_true]
  ·simp -dsimp only[↓bp,bq,br,seval,cU,h53,h35,h51,h15,h31,h13]
   refine aP ?_ (by repeat'(first|exact AS.le.refl _|assumption|(refine cE (by assumption) ?_)))
   rw[hse,hhd]
   simp only[k1,hfin,if_false,Bool.true_and,Bool.false_and,Bool.false_eq_true,if_true]
set_option maxHeartbeats 4000000 in
theorem E0m(t:aA)(hb:t.bulk <=1000000000)(hk: ¬ (1 <=t.knd /\ t.knd <=7))(hit:∀ x,x ∈ t.items ->aB Tryz.prog G 39 [x.enc] (.int .i64 (size x)))(htt:∀ x,x ∈ t.tail ->aB Tryz.prog G 39 [x.enc] (.int .i64 (size x))):
  aB Tryz.prog G 39 [t.enc] (.int .i64 (size t)):=by
 have hli:=cA t
 have hlt:=dD t
 have hll:=cQ t
 have hwr:=mY G t hb
 have hp0:=kO G t
 have hp1:=kP G t
 have hp2:=kQ G t
 have hp3:=kR G t
 have hp4:=jR G t
 have hse:=jL t
 have hle:=fun x (_:x ∈ t.items)=>kK x
 have hw1:IntKind.i64.wrap (1+(t.limbs.length:Int))=1+t.limbs.length:=aC (by omega) (by omega)
 have hkn:=t.knd_nn
 intro σ
 refine aJ.of_awp mixed Tryz.func39 rfl (by kernel_rfl) (by kernel_rfl) (by simp[Tryz.ntmps39]) Tryz.results39 ?_
 simp -dsimp only[↓bp,bq,br,seval,cU]
 refine cX fun b1 h1=> ?_
 simp -dsimp only[↓bp,bq,br,seval,cU]
 refine aY fun b3 h3=> ?_
 simp only[eR]at h3
 obtain⟨h3,h31,h13⟩:=h3
 simp -dsimp only[↓bp,bq,br,seval,cU]
 refine aY fun b5 h5=> ?_
 simp only[eR]at h5
 obtain⟨⟨h5,h51,h15⟩,h53,h35⟩:=h5
 have e1: ¬ t.knd=1:=by omega
 have e2: ¬ t.knd=2:=by omega
 have e3: ¬ t.knd=3:=by omega
 have e4: ¬ t.knd=4:=by omega
 have e5: ¬ t.knd=5:=by omega
 have e6: ¬ t.knd=6:=by omega
 have e7: ¬ t.knd=7:=by omega
 have k1:=eq_false e1
 have k2:=eq_false e2
 have k3:=eq_false e3
 have k5:=eq_false e5
 have k4:=eq_false e4
 have k6:=eq_false e6
 have k7:=eq_false e7
 have k7:=eq_false e7
 have hhd:head t=(1,0,false):=by unfold head;rw[if_neg e2,if_neg (by simp[e3,e5]),if_neg e4,if_neg e6,if_neg e7]
 clear hk e1 e2 e3 e5 e4 e6 e7
 repeat'(first|refine xs ?_ ?_ <;>intros|(refine wn ?_;intro bx hbx;try simp only[fb]at hbx)|refine wj ?_|simp -dsimp only[↓bp,bq,br,seval,cU,h53,h35,h51,h15,h31,h13, *]|refine wz ?_|fail)
 refine aJ.mono (cJ G t.items 0 (by omega) (by omega) (by omega) hit _ b5 b3 h53 1 false (by simp -dsimp only[↓bp,bq,br,seval,cU,h53,h35,h51,h15,h31,h13]) (by simp -dsimp only[↓bp,bq,br,seval,cU,h53,h35,h51,h15,h31,h13]) (by omega) (fun _=>by omega) (by omega)) ?_
 rintro r σ' rfl
 have ha:=fU t.items hle 0 (by omega) (by omega) (1,false) (by simp only;omega) (fun _=>by simp only;omega) (by simp only;omega)
 simp -dsimp only[↓bp,bq,br,seval,cU,h53,h35,h51,h15,h31,h13]
 refine aJ.mono (cJ G t.tail 0 (by omega) (by omega) (by omega) htt _ b5 b3 h53 (bI t.items 0 (1,false)).1 (bI t.items 0 (1,false)).2 (by simp -dsimp only[↓bp,bq,br,seval,cU,h53,h35,h51,h15,h31,h13]) (by simp -dsimp only[↓bp,bq,br,seval,cU,h53,h35,h51,h15,h31,h13]) ha.1 ha.2.1 ha.2.2) ?_
 rintro r σ' rfl
 simp -dsimp only[↓bp,bq,br,seval,cU,h53,h35,h51,h15,h31,h13]
 cases hfin:(bI t.tail 0 ((bI t.items 0 (1,false)).1,(bI t.items 0 (1,false)).2)).2
 ·simp -dsimp only[↓bp,bq,br,seval,cU,h53,h35,h51,h15,h31,h13]
  refine aP ?_ (by repeat'(first|exact AS.le.refl _|assumption|(refine cE (by assumption) ?_)))
  rw[hse,hhd]
  simp only[k1,hfin,if_false,Bool.true_and,Bool.false_and,Bool.false_eq_true,if_true]
 ·simp -dsimp only[↓bp,bq,br,seval,cU,h53,h35,h51,h15,h31,h13]
  refine aP ?_ (by repeat'(first|exact AS.le.refl _|assumption|(refine cE (by assumption) ?_)))
  rw[hse,hhd]
  simp only[k1,hfin,if_false,Bool.true_and,Bool.false_and,Bool.false_eq_true,if_true]
end
section
variable (G:Nat ->AV)
theorem B0a(t:aA):t.bulk <=1000000000 ->aB Tryz.prog G 39 [t.enc] (.int .i64 (size t)):=by
 refine aA.ind (P:=fun t=>t.bulk <=1000000000 ->aB Tryz.prog G 39 [t.enc] (.int .i64 (size t))) (fun t ih1 ih2 hb=> ?_) t
 have hit:∀ x,x ∈ t.items ->aB Tryz.prog G 39 [x.enc] (.int .i64 (size x)):=fun x hx=>ih1 x hx (by have:=dJ hx;omega)
 have htt:∀ x,x ∈ t.tail ->aB Tryz.prog G 39 [x.enc] (.int .i64 (size x)):=fun x hx=>ih2 x hx (by have:=dK hx;omega)
 by_cases h7:t.knd=7
 ·exact C6p G t hb h7 hit htt
 by_cases h1:t.knd=1
 ·exact E0n G t hb h1 hit htt
 by_cases h2:t.knd=2
 ·exact E0o G t hb h2 hit htt
 by_cases h3:t.knd=3
 ·exact E0p G t hb h3 hit htt
 by_cases h4:t.knd=4
 ·exact E0q G t hb h4 hit htt
 by_cases h5:t.knd=5
 ·exact E0r G t hb h5 hit htt
 by_cases h6:t.knd=6
 ·exact E0s G t hb h6 hit htt
 ·exact E0m G t hb (by omega) hit htt
end
set_option maxRecDepth 20000
section
def fK:=And.intro (And.intro (And.intro (And.intro @jD (And.intro @iZ @jJ)) (And.intro @eG (And.intro @jE @dL))) (And.intro (And.intro @eN (And.intro @dV @eD)) (And.intro @D4j (And.intro @aA.flat_enc @aA.isv_enc)))) (And.intro (And.intro (And.intro @aA.fold_enc (And.intro @aS @aN)) (And.intro @aU (And.intro @bW @bG))) (And.intro (And.intro @aQ (And.intro @aM @aZ)) (And.intro (And.intro @cH @bQ) (And.intro @bB @lT))))
variable (G:Nat ->AV)
theorem wH(t:aA):aB Tryz.prog G 61 [t.enc] (cR t).enc:=by
 refine aB.of_le fun σ=> ?_
 cases ht:t.tail with
 | nil=>
  have e:cR t=bA [] []:=by unfold cR;rw[ht]
  rw[e]
  have hl:t.tail.length=0:=by rw[ht];rfl
  have hlz:(t.tail.length:Int)=0:=by omega
  clear ht e hl
  refine aJ.of_awp mixed Tryz.func61 rfl (by kernel_rfl) (by kernel_rfl) (by simp[Tryz.ntmps61]) Tryz.results61 ?_
  repeat'(first|refine xs ?_ ?_ <;>intros|(refine wn ?_;intro bx hbx;try simp only[fb]at hbx)|refine wj ?_|simp -dsimp only[↓bp,bq,br,seval,fK, *]|refine wz ?_|fail)
  refine aI (fun n e σ'=>n=0 /\ e 8= .int .i64 0 /\ σ.le σ' /\ ∃ z,σ'.box bx=some z /\ z.length=7) 0 ⟨rfl,by simp -dsimp only[↓bp,bq,br,seval,fK],by repeat' first|exact lr _|assumption|refine ls ?_ ?_|refine lt ?_ ?_|simp only[*];done|simp only[fb, *,not_false_eq_true,and_self];done|exact lf ‹_› (by simp only[*]),⟨_,by simp -dsimp only[↓bp,bq,br,seval,fK];try rfl,rfl⟩⟩ ?_
  rintro n v σ' ⟨rfl,h8,hle,z,hz,hz7⟩
  simp -dsimp only[↓bp,bq,br,seval,fK]at h8
  repeat'(first|refine xs ?_ ?_ <;>intros|(refine wn ?_;intro bx hbx;try simp only[fb]at hbx)|refine wj ?_|simp -dsimp only[↓bp,bq,br,seval,fK, *]|refine wz ?_|fail)
  exact aL (gT 7 false [] 0) (by repeat' first|exact lr _|assumption|refine ls ?_ ?_|refine lt ?_ ?_|simp only[*];done|simp only[fb, *,not_false_eq_true,and_self];done|exact lf ‹_› (by simp only[*]))
 | cons x l=>
  have e:cR t=x:=by unfold cR;rw[ht]
  rw[e]
  have hx:t.tail[0]? =some x:=by rw[ht];rfl
  have hlz:(0:Int) < t.tail.length:=by rw[ht];simp
  clear ht e
  refine aJ.of_awp mixed Tryz.func61 rfl (by kernel_rfl) (by kernel_rfl) (by simp[Tryz.ntmps61]) Tryz.results61 ?_
  repeat'(first|refine xs ?_ ?_ <;>intros|(refine wn ?_;intro bx hbx;try simp only[fb]at hbx)|refine wj ?_|simp -dsimp only[↓bp,bq,br,seval,fK, *]|refine wz ?_|fail)
  refine aI (fun n e σ'=>n=0 /\ e 8= .int .i64 0 /\ σ.le σ' /\ ∃ z,σ'.box bx=some z /\ z.length=7) 0 ⟨rfl,by simp -dsimp only[↓bp,bq,br,seval,fK],by repeat' first|exact lr _|assumption|refine ls ?_ ?_|refine lt ?_ ?_|simp only[*];done|simp only[fb, *,not_false_eq_true,and_self];done|exact lf ‹_› (by simp only[*]),⟨_,by simp -dsimp only[↓bp,bq,br,seval,fK];try rfl,rfl⟩⟩ ?_
  rintro n v σ' ⟨rfl,h8,hle,z,hz,hz7⟩
  simp -dsimp only[↓bp,bq,br,seval,fK]at h8
  repeat'(first|refine xs ?_ ?_ <;>intros|((first|refine q8h ?_|refine q8i ?_);intro bx hbx;(try simp only[fb]at hbx);try(have nn:=fresh_ne (c:=bx) hz (by simp only[hbx])))|refine wj ?_|simp -dsimp only[↓bp,bq,br,seval,fK, *]|refine wz ?_|fail)
  exact aL (Le.refl _) (by repeat' first|exact lr _|assumption|refine ls ?_ ?_|refine lt ?_ ?_|simp only[*];done|simp only[fb, *,not_false_eq_true,and_self];done|exact lf ‹_› (by simp only[*]))
theorem xI(a b:aA)(h:a.knd ≠ b.knd):aB Tryz.prog G 69 [a.enc,b.enc] (.int .i64 (dR a.knd b.knd)):=by
 have hp:=C4k G a.knd b.knd
 intro σ
 refine aJ.of_awp mixed Tryz.func69 rfl (by kernel_rfl) (by kernel_rfl) (by simp[Tryz.ntmps69]) Tryz.results69 ?_
 repeat'(first|refine xs ?_ ?_ <;>intros|(refine wn ?_;intro bx hbx;try simp only[fb]at hbx)|refine wp hp ?_|refine wj ?_|simp -dsimp only[↓bp,bq,br,seval,fK, *]|refine wz ?_|fail)
 all_goals rfl
set_option maxHeartbeats 1000000 in
theorem A5m(a:aA):∀ b:aA,a.bulk <=1000000000 ->b.bulk <=1000000000 ->right a=true ->right b=true ->aB Tryz.prog G 69 [a.enc,b.enc] (.int .i64 (iO a b)):=by
 refine aA.ind (P:=fun a=>∀ b:aA,a.bulk <=1000000000 ->b.bulk <=1000000000 ->right a=true ->right b=true ->aB Tryz.prog G 69 [a.enc,b.enc] (.int .i64 (iO a b))) (fun a ih1 ih2 b ha hb ra rb=> ?_) a
 have A:=jV ra
 have B:=jV rb
 by_cases hk:a.knd=b.knd
 rotate_left
 ·rw[A5l hk];exact xI G a b hk
 have hitems:∀ x,x ∈ a.items ->∀ y,y ∈ b.items ->aB Tryz.prog G 69 [x.enc,y.enc] (.int .i64 (iO x y)):=fun x hx y hy=>
  ih1 x hx y (by have:=dJ hx;omega) (by have:=dJ hy;omega) (A.items x hx) (B.items y hy)
 have hn:=A8v G a.items.length b.items.length
 have hl1:=dD a
 have hl2:=dD b
 by_cases h1:a.knd=1
 ·have hw:=A8h G a b (A.int h1) (B.int (by omega))
  rw[uX,if_neg (show ¬ a.knd ≠ b.knd by simp[hk]),if_pos h1]
  have hke:=eq_true hk
  have h1':=eq_true (show b.knd=1 by omega)
  have h1a:=eq_true h1
  clear hk h1 A B ih1 ih2 hitems
  intro σ
  refine aJ.of_awp mixed Tryz.func69 rfl (by kernel_rfl) (by kernel_rfl) (by simp[Tryz.ntmps69]) Tryz.results69 ?_
  repeat'(first|refine xs ?_ ?_ <;>intros|(refine wn ?_;intro bx hbx;try simp only[fb]at hbx)|refine wp hn ?_|refine wp hw ?_|refine wj ?_|simp -dsimp only[↓bp,bq,br,seval,fK, *]|refine wz ?_|fail)
  all_goals rfl
 by_cases h7:a.knd=7
 ·have hrec:(a.tail.length:Int)+b.tail.length >0 ->aB Tryz.prog G 69 [(cR a).enc,(cR b).enc] (.int .i64 (tl a.tail b.tail)):=by
   intro h0
   obtain⟨c1,c2,c3⟩:=A.list h7
   obtain⟨d1,d2,d3⟩:=B.list (by omega)
   cases ea:a.tail with
   | nil=>cases eb:b.tail with
    |nil=>rw[ea,eb]at h0;simp at h0
    | cons y r=>
     have e1:cR a=bA [] []:=by unfold cR;rw[ea]
     have e2:cR b=y:=by unfold cR;rw[eb]
     rw[e1,e2,tl]
     exact xI G (bA [] []) y (fun h=>d3 y (by rw[eb];simp) h.symm)
   | cons x l=>cases eb:b.tail with
    | nil=>
     have e1:cR a=x:=by unfold cR;rw[ea]
     have e2:cR b=bA [] []:=by unfold cR;rw[eb]
     rw[e1,e2,tl]
     exact xI G x (bA [] []) (c3 x (by rw[ea];simp))
    | cons y r=>
     have e1:cR a=x:=by unfold cR;rw[ea]
     have e2:cR b=y:=by unfold cR;rw[eb]
     rw[e1,e2,tl]
     have hx:x ∈ a.tail:=by rw[ea];simp
     have hy:y ∈ b.tail:=by rw[eb];simp
     exact ih2 x hx y (by have:=dK hx;omega) (by have:=dK hy;omega) (A.tail x hx) (B.tail y hy)
  have hz:(a.tail.length:Int)+b.tail.length=0 ->tl a.tail b.tail=0:=fun h=>by
   rw[List.eq_nil_of_length_eq_zero (show a.tail.length=0 by omega),List.eq_nil_of_length_eq_zero (show b.tail.length=0 by omega),tl]
  rw[uX,if_neg (show ¬ a.knd ≠ b.knd by simp[hk]),if_neg h1,if_pos h7]
  have ta:=wH G a
  have tb:=wH G b
  have ho:=D2r G (lK a.items b.items) (dR a.items.length b.items.length)
  have hws:IntKind.i64.wrap ((a.tail.length:Int)+b.tail.length)=a.tail.length+b.tail.length:=aC (by omega) (by omega)
  generalize tl a.tail b.tail=tt at*
  obtain⟨c,hc⟩:∃ c,c=lex (lK a.items b.items) (dR a.items.length b.items.length):=⟨_,rfl⟩
  rw[<- hc]at ho ⊢
  have hke:=eq_true hk
  have h1a:=eq_false h1
  have h1':=eq_false (show ¬ b.knd=1 by omega)
  have h7a:=eq_true h7
  have h7':=eq_true (show b.knd=7 by omega)
  have hrow:=B6m G a b ha hb hitems
  have hs0:0 <=(a.tail.length:Int)+b.tail.length:=by omega
  clear hk h1 h7 A B ih1 ih2 hitems ra rb hl1 hl2 hc
  intro σ
  by_cases c0:c=0
  ·subst c0
   by_cases s0:0 < (a.tail.length:Int)+b.tail.length
   ·replace hrec:=hrec s0
    rw[show lex 0 tt=tt by simp[lex]]
    clear hz hs0
    refine aJ.of_awp mixed Tryz.func69 rfl (by kernel_rfl) (by kernel_rfl) (by simp[Tryz.ntmps69]) Tryz.results69 ?_
    repeat'(first|refine xs ?_ ?_ <;>intros|(refine wn ?_;intro bx hbx;try simp only[fb]at hbx)|refine wp hn ?_|refine wp ho ?_|refine wp ta ?_|refine wp tb ?_|refine wp hrec ?_|((refine aJ.mono (hrow _ _ _ (by rw[aA.flat_enc];simp -dsimp only[↓bp,bq,br,seval,fK,hbx]) (by rw[aA.flat_enc];simp -dsimp only[↓bp,bq,br,seval,fK,hbx])) ?_;rintro r s ⟨rfl,rfl⟩))|refine wj ?_|simp -dsimp only[↓bp,bq,br,seval,fK, *]|refine wz ?_|fail)
    all_goals first|rfl|skip
   ·replace hz:=hz (by omega)
    subst hz
    clear hrec hs0
    rw[show lex 0 0=0 by simp[lex]]
    refine aJ.of_awp mixed Tryz.func69 rfl (by kernel_rfl) (by kernel_rfl) (by simp[Tryz.ntmps69]) Tryz.results69 ?_
    repeat'(first|refine xs ?_ ?_ <;>intros|(refine wn ?_;intro bx hbx;try simp only[fb]at hbx)|refine wp hn ?_|refine wp ho ?_|refine wp ta ?_|refine wp tb ?_|((refine aJ.mono (hrow _ _ _ (by rw[aA.flat_enc];simp -dsimp only[↓bp,bq,br,seval,fK,hbx]) (by rw[aA.flat_enc];simp -dsimp only[↓bp,bq,br,seval,fK,hbx])) ?_;rintro r s ⟨rfl,rfl⟩))|refine wj ?_|simp -dsimp only[↓bp,bq,br,seval,fK, *]|refine wz ?_|fail)
    all_goals first|rfl|skip
  ·have hl:lex c tt=c:=by simp[lex,c0]
   rw[hl]
   have c0':=eq_false c0
   clear c0 hl hz hrec hs0
   refine aJ.of_awp mixed Tryz.func69 rfl (by kernel_rfl) (by kernel_rfl) (by simp[Tryz.ntmps69]) Tryz.results69 ?_
   repeat'(first|refine xs ?_ ?_ <;>intros|(refine wn ?_;intro bx hbx;try simp only[fb]at hbx)|refine wp hn ?_|refine wp ho ?_|refine wp ta ?_|refine wp tb ?_|((refine aJ.mono (hrow _ _ _ (by rw[aA.flat_enc];simp -dsimp only[↓bp,bq,br,seval,fK,hbx]) (by rw[aA.flat_enc];simp -dsimp only[↓bp,bq,br,seval,fK,hbx])) ?_;rintro r s ⟨rfl,rfl⟩))|refine wj ?_|simp -dsimp only[↓bp,bq,br,seval,fK, *]|refine wz ?_|fail)
   all_goals first|rfl|skip
 ·rw[uX,if_neg (show ¬ a.knd ≠ b.knd by simp[hk]),if_neg h1,if_neg h7]
  have hs:=C4l G a.text b.text
  have hm:=A8v G a.num b.num
  have ho:=D2s G (pL a.text b.text) (dR a.num b.num) (dR a.items.length b.items.length)
  have hrow:=B6m G a b ha hb hitems
  obtain⟨c,hc⟩:∃ c,c=lex (pL a.text b.text) (lex (dR a.num b.num) (dR a.items.length b.items.length)):=⟨_,rfl⟩
  rw[<- hc]at ho ⊢
  have hke:=eq_true hk
  have h1a:=eq_false h1
  have h1':=eq_false (show ¬ b.knd=1 by omega)
  have h7a:=eq_false h7
  have h7':=eq_false (show ¬ b.knd=7 by omega)
  clear hk h1 h7 A B ih1 ih2 hitems ra rb hl1 hl2 hc
  intro σ
  by_cases c0:c=0
  ·subst c0
   rw[show ∀ x,lex 0 x=x by simp[lex]]
   refine aJ.of_awp mixed Tryz.func69 rfl (by kernel_rfl) (by kernel_rfl) (by simp[Tryz.ntmps69]) Tryz.results69 ?_
   repeat'(first|refine xs ?_ ?_ <;>intros|(refine wn ?_;intro bx hbx;try simp only[fb]at hbx)|refine wp hn ?_|refine wp hs ?_|refine wp hm ?_|refine wp ho ?_|((refine aJ.mono (hrow _ _ _ (by rw[aA.flat_enc];simp -dsimp only[↓bp,bq,br,seval,fK,hbx]) (by rw[aA.flat_enc];simp -dsimp only[↓bp,bq,br,seval,fK,hbx])) ?_;rintro r s ⟨rfl,rfl⟩))|refine wj ?_|simp -dsimp only[↓bp,bq,br,seval,fK, *]|refine wz ?_|fail)
   all_goals first|rfl|skip
  ·rw[show ∀ x,lex c x=c by simp[lex,c0]]
   have c0':=eq_false c0
   clear c0
   refine aJ.of_awp mixed Tryz.func69 rfl (by kernel_rfl) (by kernel_rfl) (by simp[Tryz.ntmps69]) Tryz.results69 ?_
   repeat'(first|refine xs ?_ ?_ <;>intros|(refine wn ?_;intro bx hbx;try simp only[fb]at hbx)|refine wp hn ?_|refine wp hs ?_|refine wp hm ?_|refine wp ho ?_|((refine aJ.mono (hrow _ _ _ (by rw[aA.flat_enc];simp -dsimp only[↓bp,bq,br,seval,fK,hbx]) (by rw[aA.flat_enc];simp -dsimp only[↓bp,bq,br,seval,fK,hbx])) ?_;rintro r s ⟨rfl,rfl⟩))|refine wj ?_|simp -dsimp only[↓bp,bq,br,seval,fK, *]|refine wz ?_|fail)
   all_goals first|rfl|skip
end
set_option maxRecDepth 20000
section
def oQ:=And.intro (And.intro (And.intro @jD (And.intro @iZ @jJ)) (And.intro (And.intro @eG @qI) (And.intro @lU @jE))) (And.intro (And.intro @dL (And.intro @aQ @aM)) (And.intro (And.intro @aZ @cH) (And.intro @bQ @bB)))
variable (G:Nat ->AV)
theorem C5z(H L:Nat)(hH:H < 4294967296)(hL:L < 4294967296):(BitVec.ofInt IntKind.u64.bits ((H:Int)*4294967296)|||BitVec.ofInt IntKind.u64.bits (L:Int)).toNat=H*4294967296+L:=by
 have hb:IntKind.u64.bits=64:=rfl
 rw[hb,BitVec.toNat_or,BitVec.toNat_ofInt,BitVec.toNat_ofInt]
 have e1:(((H:Int)*4294967296) % ((2 ^ 64:Nat):Int)).toNat=H <<< 32:=by rw[Nat.shiftLeft_eq];omega
 have e2:((L:Int) % ((2 ^ 64:Nat):Int)).toNat=L:=by omega
 rw[e1,e2,<- Nat.shiftLeft_add_eq_or_of_lt (by omega),Nat.shiftLeft_eq]
theorem sG{x:Int}(h0:0 <=x)(h1:x < 18446744073709551616):IntKind.u64.wrap x=x:=by
 rw[IntKind.wrap_u64];omega
theorem sF{x:Int}(h0:0 <=x)(h1:x < 4294967296):IntKind.u32.wrap x=x:=by
 rw[IntKind.wrap_u32];omega
theorem B8w(H L Y:Nat)(hy:H < Y)(l1:L < 4294967296)(y1:Y < 4294967296):aB Tryz.prog G 121 [.int .u32 H, .int .u32 L, .int .u32 Y] (.tup [.int .u32 ((H*4294967296+L) / Y:Nat), .int .u32 ((H*4294967296+L) % Y:Nat)]):=by
 have c1: ¬ (Y:Int)=0:=by omega
 have c2: ¬ (Y:Int) <=H:=by omega
 have w1:IntKind.u64.wrap (Y:Int)=Y:=sG (by omega) (by omega)
 have w2:IntKind.u64.wrap (H:Int)=H:=sG (by omega) (by omega)
 have w3:IntKind.u64.wrap (L:Int)=L:=sG (by omega) (by omega)
 have w4:IntKind.u64.wrap ((H:Int)*2 ^ min 32 IntKind.u64.bits)=(H:Int)*4294967296:=by
  have:((2:Int) ^ min 32 IntKind.u64.bits)=4294967296:=by decide
  rw[this];exact sG (by omega) (by omega)
 have w5:=C5z H L (by omega) l1
 have w6:IntKind.u64.wrap ((H*4294967296+L:Nat):Int)=((H*4294967296+L:Nat):Int):=sG (by omega) (by omega)
 have hq:(H*4294967296+L) / Y < 4294967296:=by
  rw[Nat.div_lt_iff_lt_mul (by omega)]
  have:(H+1)*4294967296 <=Y*4294967296:=Nat.mul_le_mul_right _ hy
  rw[Nat.mul_comm 4294967296 Y];omega
 have hr:(H*4294967296+L) % Y < Y:=Nat.mod_lt _ (by omega)
 have w7:((H*4294967296+L:Nat):Int).tdiv (Y:Int)=(((H*4294967296+L) / Y:Nat):Int):=rfl
 have w8:((H*4294967296+L:Nat):Int).tmod (Y:Int)=(((H*4294967296+L) % Y:Nat):Int):=rfl
 have w9:IntKind.u64.wrap ((((H*4294967296+L) / Y:Nat)):Int)=(((H*4294967296+L) / Y:Nat):Int):=sG (Int.natCast_nonneg _) (by clear w1 w2 w3 w4 w5 w6 w7 w8;generalize(H*4294967296+L) / Y=q at*;omega)
 have wa:IntKind.u32.wrap ((((H*4294967296+L) / Y:Nat)):Int)=(((H*4294967296+L) / Y:Nat):Int):=sF (Int.natCast_nonneg _) (by clear w1 w2 w3 w4 w5 w6 w7 w8;generalize(H*4294967296+L) / Y=q at*;omega)
 have wb:IntKind.u32.wrap ((((H*4294967296+L) % Y:Nat)):Int)=(((H*4294967296+L) % Y:Nat):Int):=sF (Int.natCast_nonneg _) (by clear w1 w2 w3 w4 w5 w6 w7 w8;generalize(H*4294967296+L) % Y=q at*;omega)
 generalize H*4294967296+L=V at*
 generalize V / Y=q at*
 generalize V % Y=r at*
 clear hq hr hy l1 y1
 intro σ
 refine aJ.of_awp mixed Tryz.func121 rfl (by kernel_rfl) (by kernel_rfl) (by simp[Tryz.ntmps121]) Tryz.results121 ?_
 repeat'(first|refine xs ?_ ?_ <;>intros|(refine wn ?_;intro bx hbx;try simp only[fb]at hbx)|refine wj ?_|simp -dsimp only[↓bp,bq,br,seval,oQ, *]|refine wz ?_|fail)
 all_goals exact aE σ (AS.le.refl _) ⟨rfl,rfl⟩
def val:List UInt32 ->Nat
 |[]=>0
 |x::l=>x.toNat+4294967296*val l
theorem jW(l r:List UInt32):val (l++r)=val l+4294967296 ^ l.length*val r:=by
 induction l with
 |nil=>simp[val]
 |cons x l ih=>simp only[List.cons_append,val,ih,List.length_cons,Nat.pow_succ];rw[Nat.mul_add,<- Nat.mul_assoc,Nat.mul_comm (4294967296 ^ l.length) 4294967296];omega
def iE:List UInt32 ->Nat ->List UInt32 × Nat
 |[],_=> ([],0)
 |x::l,bZ=>let p:=iE l bZ;(UInt32.ofNat ((p.2*4294967296+x.toNat) / bZ)::p.1,(p.2*4294967296+x.toNat) % bZ)
theorem vY(bZ:Nat)(h0:0 < bZ)(h1:bZ < 4294967296):∀ l,(iE l bZ).1.length=l.length /\ (iE l bZ).2 < bZ /\ val l=val (iE l bZ).1*bZ+(iE l bZ).2
 |[]=> ⟨rfl,h0,by simp[iE,val]⟩
 | x::l=>by
  obtain⟨a,b,c⟩:=vY bZ h0 h1 l
  simp only[iE,List.length_cons,val,c]
  have hx:=x.toNat_lt
  have hq:((iE l bZ).2*4294967296+x.toNat) / bZ < 4294967296:=by
   rw[Nat.div_lt_iff_lt_mul h0]
   have:((iE l bZ).2+1)*4294967296 <=bZ*4294967296:=Nat.mul_le_mul_right _ b
   rw[Nat.mul_comm 4294967296 bZ];omega
  refine⟨by rw[a],Nat.mod_lt _ h0,?_⟩
  have e:(UInt32.ofNat (((iE l bZ).2*4294967296+x.toNat) / bZ)).toNat=((iE l bZ).2*4294967296+x.toNat) / bZ:=by rw[UInt32.toNat_ofNat',Nat.mod_eq_of_lt hq]
  rw[e]
  have hd:=Nat.div_add_mod ((iE l bZ).2*4294967296+x.toNat) bZ
  generalize((iE l bZ).2*4294967296+x.toNat) / bZ=A at*
  generalize((iE l bZ).2*4294967296+x.toNat) % bZ=R at*
  rw[Nat.add_mul,Nat.mul_comm A bZ,Nat.mul_assoc 4294967296 (val (iE l bZ).1) bZ]
  generalize val (iE l bZ).1*bZ=W at*
  generalize bZ*A=B at*
  omega
theorem E5e(k:Nat)(a:AV)(l:List AV):(List.replicate (k+1) (AV.int .u32 0)++l).take k++([a]++(List.replicate (k+1) (AV.int .u32 0)++l).drop (k+1))=List.replicate k (.int .u32 0)++(a::l):=by
 rw[List.replicate_succ',List.append_assoc,List.take_append_of_le_length (by simp),List.take_of_length_le (by simp),List.drop_append]
 simp
theorem D6v(H L Y:Nat)(hy:H < Y)(l1:L < 4294967296):(H*4294967296+L) / Y < 4294967296:=by
 rw[Nat.div_lt_iff_lt_mul (by omega)]
 have:(H+1)*4294967296 <=Y*4294967296:=Nat.mul_le_mul_right _ hy
 rw[Nat.mul_comm 4294967296 Y];omega
theorem B9d(l:List UInt32):(l.map bC).flatMap flat=l.map bC:=by
 induction l with
 |nil=>rfl
 |cons x l ih=>rw[List.map_cons,List.flatMap_cons,ih];rfl
theorem C0w(l:List UInt32)(bZ:Nat)(h0:0 < bZ)(h1:bZ < 4294967296)(hl:l.length <=1000000000):aB Tryz.prog G 76 [bD l, .int .u32 bZ] (.tup [bD (iE l bZ).1, .int .u32 ((iE l bZ).2:Nat)]):=by
 obtain⟨s1,s2,s3⟩:=vY bZ h0 h1 l
 have tz:zc Tryz.prog 47=some [.int .u32 0]:=eG.2.2.2.2.1
 refine aB.of_le fun σ=>aJ.tupBs (n:=l.length) (s:=1) (E:=47) (xs:=(iE l bZ).1.map bC) (fun a ha=>by obtain⟨x,_,rfl⟩:=List.mem_map.1 ha;exact⟨rfl,rfl⟩) (by simp[s1]) ?_
 have hw0:IntKind.i64.wrap ((l.length:Int) - 1)=l.length - 1:=aC (by omega) (by omega)
 refine aJ.of_awp mixed Tryz.func76 rfl (by kernel_rfl) (by kernel_rfl) (by simp[Tryz.ntmps76]) Tryz.results76 ?_
 repeat'(first|refine xs ?_ ?_ <;>intros|(refine wn ?_;intro bx hbx;try simp only[fb]at hbx)|((refine .inr ?_;unfold uJ;rw[tfL,wJ,Option.bind_some,tz];refine⟨by omega,Int.le_refl _,by omega,fun b hb=> ?_⟩))|refine wj ?_|simp -dsimp only[↓bp,bq,br,seval,oQ, *]|refine wz ?_|fail)
 refine aI (fun k e σ'=>k <=l.length /\ e 8= .int .i64 ((k:Int) - 1) /\ e 7= .int .u32 ((iE (l.drop k) bZ).2:Nat) /\ σ.le σ' /\ σ'.box b=some (List.replicate k (.int .u32 0)++(iE (l.drop k) bZ).1.map bC)) l.length
  ⟨Nat.le_refl _,by first|(simp -dsimp only[↓bp,bq,br,seval,oQ];done)|(simp -dsimp only[↓bp,bq,br,seval,oQ];try rfl),by rw[List.drop_length];first|(simp -dsimp only[↓bp,bq,br,seval,oQ];done)|(simp -dsimp only[↓bp,bq,br,seval,oQ];try rfl),(by repeat' first|exact lr _|assumption|refine ls ?_ ?_|refine lt ?_ ?_|simp only[*];done|simp only[fb, *,not_false_eq_true,and_self];done|exact lf ‹_› (by simp only[*])),by rw[List.drop_length];simp[AS.setBox,iE]⟩ ?_
 rintro k v σ' ⟨hk,h8,h7,hle,hbx⟩
 simp -dsimp only[↓bp,bq,br,seval,oQ]at h8 h7
 cases k with
 | zero=>
  simp only[List.drop_zero,List.replicate_zero,List.nil_append]at h7 hbx
  simp at h8
  clear hk hw0
  repeat'(first|refine xs ?_ ?_ <;>intros|(refine wn ?_;intro bx hbx;try simp only[fb]at hbx)|refine wj ?_|simp -dsimp only[↓bp,bq,br,seval,oQ, *]|refine wz ?_|fail)
  exact aE _ (AS.le.refl _) ⟨b,rfl,hle,hb.1,hb.2.1,by rw[hbx,B9d]⟩
 | succ k=>
  have e8:((k+1:Nat):Int) - 1=k:=by omega
  rw[e8]at h8
  obtain⟨x,hx⟩:∃ x,l[k]? =some x:=⟨_,List.getElem?_eq_getElem (by omega)⟩
  have hd:=dC _ _ _ hx
  have hkl:k < l.length:=by omega
  obtain⟨q1,q2,q3⟩:=vY bZ h0 h1 (l.drop (k+1))
  have hdv:=B8w G (iE (l.drop (k+1)) bZ).2 x.toNat bZ q2 x.toNat_lt h1
  have hstep:iE (l.drop k) bZ=(UInt32.ofNat (((iE (l.drop (k+1)) bZ).2*4294967296+x.toNat) / bZ)::(iE (l.drop (k+1)) bZ).1,((iE (l.drop (k+1)) bZ).2*4294967296+x.toNat) % bZ):=by rw[hd];rfl
  have hwk:IntKind.i64.wrap ((k:Int) - 1)=k - 1:=aC (by omega) (by omega)
  have hlt:(k:Int) < l.length:=by omega
  have hlen:k < (List.replicate (k+1) (AV.int .u32 0)++(iE (l.drop (k+1)) bZ).1.map bC).length:=by simp;omega
  have hk0:(0:Int) <=k:=by omega
  clear hk hw0 hd s1 s2 s3 q3
  have hql:=D6v _ x.toNat _ q2 x.toNat_lt
  have hqa:bC (UInt32.ofNat (((iE (l.drop (k+1)) bZ).2*4294967296+x.toNat) / bZ))= .int .u32 ((((iE (l.drop (k+1)) bZ).2*4294967296+x.toNat) / bZ:Nat):Int):=by
   unfold bC;rw[UInt32.toNat_ofNat',Nat.mod_eq_of_lt hql]
  have hbox:(iE (l.drop k) bZ).1.map bC= .int .u32 ((((iE (l.drop (k+1)) bZ).2*4294967296+x.toNat) / bZ:Nat):Int)::(iE (l.drop (k+1)) bZ).1.map bC:=by rw[hstep,List.map_cons,hqa]
  have hst2:(iE (l.drop k) bZ).2=((iE (l.drop (k+1)) bZ).2*4294967296+x.toNat) % bZ:=by rw[hstep]
  clear hql hqa hstep
  repeat'(first|refine xs ?_ ?_ <;>intros|(refine wn ?_;intro bx hbx;try simp only[fb]at hbx)|refine wp hdv ?_|refine wj ?_|simp -dsimp only[↓bp,bq,br,seval,oQ,bC, *]|refine wz ?_|fail)
  refine⟨k,by omega,by omega,rfl,by rw[hst2],(by repeat' first|exact lr _|assumption|refine ls ?_ ?_|refine lt ?_ ?_|simp only[*];done|simp only[fb, *,not_false_eq_true,and_self];done|exact lf ‹_› (by simp only[*])),?_⟩
  simp only[AS.setBox,if_true,Nat.mul_one]
  rw[hbox,List.append_assoc,E5e]
end
section
def kT(n:Nat):List UInt8:=if h:n=0 then[]else UInt8.ofNat (48+n % 10)::kT (n / 10)
termination_by n
decreasing_by omega
def A0d(n:Nat):List UInt8:=if n=0 then[48]else(kT n).reverse
def tX(t:aA):List UInt8:=(if t.neg=true then[45]else[])++A0d (val t.limbs)
def itoa(n:Int):List UInt8:=(if n < 0 then[45]else[])++A0d n.natAbs
def words:List (List UInt8):=[[97,102,116,101,114],[97,110,100],[97,110,100,97,108,115,111],[98,101,103,105,110],[99,97,115,101],[100,105,118],[101,110,100],[102,117,110],[105,102],[110,111,116],[111,102],[111,114],[111,114,101,108,115,101],[114,101,99,101,105,118,101],[114,101,109],[116,114,121],[99,97,116,99,104],[119,104,101,110],[120,111,114]]
def gJ(c:UInt8):Bool:=decide (97 <=c.toNat) && decide (c.toNat <=122)||decide (65 <=c.toNat) && decide (c.toNat <=90)||decide (48 <=c.toNat) && decide (c.toNat <=57)||decide (c.toNat=95)||decide (c.toNat=64)
def qD(s:List UInt8):Bool:=match s with
 |[]=>false
 |c::_=>decide (97 <=c.toNat) && decide (c.toNat <=122) && !words.contains s && s.all gJ
def xH(n:Nat):UInt8:=if n < 10 then UInt8.ofNat (48+n)else UInt8.ofNat (87+n)
def iR(c:UInt8):List UInt8:=
 if c.toNat=39 \/ c.toNat=92 then[92,c]
 else if c.toNat=10 then[92,110]
 else if c.toNat < 32 \/ 126 < c.toNat then[92,120,xH (c.toNat / 16),xH (c.toNat % 16)]
 else[c]
def xL(s:List UInt8):List UInt8:=39::(s.flatMap iR++[39])
def A3y(s:List UInt8):List UInt8:=if qD s=true then s else xL s
mutual
def iP:aA ->List UInt8
 | .mk k g l s n ks ts=>
  if(k.toNat:Int)=1 then tX (.mk k g l s n ks ts)
  else if(k.toNat:Int)=2 then A3y s
  else if(k.toNat:Int)=3 then[35,82,101,102,60]++itoa n++[62]
  else if(k.toNat:Int)=4 then[35,70,117,110,60]++itoa n++[62]
  else if(k.toNat:Int)=5 then[60]++itoa n++[62]
  else if(k.toNat:Int)=6 then[123]++(fY ks++gM ts)++[125]
  else[91]++(fY ks++gM ts)++[93]
def fY:List aA ->List UInt8
 |[]=> []
 |x::l=>iP x++qW l
def qW:List aA ->List UInt8
 |[]=> []
 |x::l=>44::(iP x++qW l)
def gM:List aA ->List UInt8
 |[]=> []
 |x::l=>124::(iP x++gM l)
end
theorem oM(t:aA):iP t=if t.knd=1 then tX t
  else if t.knd=2 then A3y t.text
  else if t.knd=3 then[35,82,101,102,60]++itoa t.num++[62]
  else if t.knd=4 then[35,70,117,110,60]++itoa t.num++[62]
  else if t.knd=5 then[60]++itoa t.num++[62]
  else if t.knd=6 then[123]++(fY t.items++gM t.tail)++[125]
  else[91]++(fY t.items++gM t.tail)++[93]:=by
 cases t;rw[iP];rfl
def text(t:aA):List UInt8:=if right t=true then iP t else[]
abbrev okC(c:UInt8):Prop:=32 <=c.toNat /\ c.toNat <=126
def okS(s:List UInt8):Prop:=∀ c,c ∈ s ->okC c
theorem okS.append{a b:List UInt8}(h:okS a)(k:okS b):okS (a++b):=fun c hc=> (List.mem_append.1 hc).elim (h c) (k c)
theorem okS.cons{c:UInt8}{b:List UInt8}(h:okC c)(k:okS b):okS (c::b):=fun d hd=> (List.mem_cons.1 hd).elim (fun e=>e ▸ h) (k d)
theorem okS.nil:okS []:=fun c hc=>by cases hc
theorem B5k{n:Nat}(h:n < 256):(UInt8.ofNat n).toNat=n:=by rw[UInt8.toNat_ofNat'];omega
theorem C2c{n:Nat}(h:n ≠ 0):kT n ≠ []:=by unfold kT;rw[dif_neg h];simp
def cN:aA:= .mk 0 false [] [] 0 [] []
theorem D4y:right cN=false:=by decide+kernel
def fH(h t:aA):aA:=if t.knd=7 then bA (h::t.items) t.tail else bA [h] [t]
def cons(h t:aA):aA:=if right h=true /\ right t=true /\ right (fH h t)=true then fH h t else cN
def split(t:aA):Option (aA × aA):=if right t=true /\ t.knd=7 then(match t.items with
 |[]=>none
 |[x]=>some (x,cR t)
 |x::l=>some (x,bA l t.tail))else none
theorem rO{h t:aA}(hb: ¬ (right h=true /\ right t=true)):cons h t=cN:=by
 unfold cons
 rw[if_neg (fun x=>hb ⟨x.1,x.2.1⟩)]
end
set_option maxRecDepth 20000
section
def fL:=And.intro (And.intro (And.intro (And.intro @jD (And.intro @iZ @jJ)) (And.intro @eG (And.intro @jE @dL))) (And.intro (And.intro @eN (And.intro @dV @eD)) (And.intro @qJ (And.intro @aA.flat_enc @aA.isv_enc)))) (And.intro (And.intro (And.intro @aA.fold_enc (And.intro @aS @aN)) (And.intro @aU (And.intro @bW @bG))) (And.intro (And.intro @aQ (And.intro @aM @aZ)) (And.intro @cH (And.intro @bQ @bB))))
variable (G:Nat ->AV)
theorem D0o(n:Nat)(hn:n <=1000000000)(σ:AS):aJ Tryz.prog G 124 [.nil, .int .i64 n] σ fun r σ'=>fP 7 26 σ σ' r [] /\ (r= .nil ->n=0):=by
 have h0: ¬ (n:Int) < 0:=by omega
 have hw0:IntKind.i64.wrap 0=0:=by decide
 have hw:IntKind.i64.wrap ((n:Int) - 0)=n:=aC (by omega) (by omega)
 have hw':IntKind.i64.wrap (n:Int)=n:=aC (by omega) (by omega)
 by_cases hp:0 < n
 ·have hp':(0:Int) < n:=by omega
  have hz0:(0 <=n)=True:=eq_true (Nat.zero_le _)
  clear hp
  refine aJ.of_awp mixed Tryz.func124 rfl (by kernel_rfl) (by kernel_rfl) (by simp[Tryz.ntmps124]) Tryz.results124 ?_
  repeat'(first|refine xs ?_ ?_ <;>intros|(refine wn ?_;intro bx hbx;try simp only[fb]at hbx)|refine wj ?_|simp -dsimp only[↓bp,bq,br,seval,fL, *]|refine wz ?_|fail)
  refine .inr (.inr (.inl ?_))
  unfold uE
  rw[tW,jD.2.1]
  refine⟨hp',by omega,fun b hb=> ?_⟩
  repeat'(first|refine xs ?_ ?_ <;>intros|(refine wn ?_;intro bx hbx;try simp only[fb]at hbx)|refine wj ?_|simp -dsimp only[↓bp,bq,br,seval,fL, *]|refine wz ?_|fail)
  exact aE _ (AS.le.refl _) ⟨.row b [] (cE hb (AS.le.refl _)) hb.1 hb.2.1 (by simp[AS.setBox]) (fun a ha=>by cases ha),fun h=>by cases h⟩
 ·have hz:n=0:=by omega
  subst hz
  rw[show((0:Nat):Int)=0 from rfl]
  clear hp hn h0 hw hw'
  have hw:IntKind.i64.wrap (0 - 0)=0:=by decide
  refine aJ.of_awp mixed Tryz.func124 rfl (by kernel_rfl) (by kernel_rfl) (by simp[Tryz.ntmps124]) Tryz.results124 ?_
  repeat'(first|refine xs ?_ ?_ <;>intros|(refine wn ?_;intro bx hbx;try simp only[fb]at hbx)|refine wj ?_|simp -dsimp only[↓bp,bq,br,seval,fL, *]|refine wz ?_|fail)
  exact aE _ (AS.le.refl _) ⟨.nil (AS.le.refl _),fun _=>rfl⟩
def A4o(ls:List (List aA)):AV:= .sl .none (ls.map aH) []
theorem mH{P:Program}{t:TypeId}(l:List (List aA)):jO P .len #[t] [A4o l]=if(el P t).isSome then some (.int .i64 l.length)else none:=by
 simp[A4o,B2h]
theorem pR{P:Program}{t:TypeId}{k:IntKind}(l:List (List aA))(i:Nat):fV P t (A4o l) (.int k (i:Int))=ixk ((el P t).bind (tk P)) ((l[i]?).map aH):=by
 simp[A4o,jQ]
theorem qT{α:Type}(ls:List (List α))(i:Nat)(l:List α)(h:ls[i]? =some l):(ls.take (i+1)).flatten=(ls.take i).flatten++l:=by
 rw[aW _ _ _ h,List.flatten_append];simp
theorem nP{α:Type} :∀ (ls:List (List α)) (i:Nat),(ls.take i).flatten.length <=ls.flatten.length
 |[],i=>by simp
 |l::ls,0=>by simp
 |l::ls,i+1=>by have:=nP ls i;simp only[List.take_succ_cons,List.flatten_cons,List.length_append];omega
theorem A1r(ls:List (List aA))(hl:ls.length <=1000000)(hb:ls.flatten.length <=1000000000):aB Tryz.prog G 82 [A4o ls] (aH ls.flatten):=by
 refine aB.of_le fun σ=>aJ.wbuf ?_ (n:=7) (E:=26) (xs:=ls.flatten.map aA.enc)
 refine aJ.of_awp mixed Tryz.func82 rfl (by kernel_rfl) (by kernel_rfl) (by simp[Tryz.ntmps82]) Tryz.results82 ?_
 repeat'(first|refine xs ?_ ?_ <;>intros|(refine wn ?_;intro bx hbx;try simp only[fb]at hbx)|refine wj ?_|simp -dsimp only[↓bp,bq,br,seval,fL,mH,pR, *]|refine wz ?_|fail)
 refine aD mixed (fun n e=>∃ i:Nat,i <=(ls).length /\ n=(ls).length - i /\ e 11= .int .i64 i /\ e 3= .int .i64 ((ls.take i).flatten.length:Nat)) (ls).length
   ⟨0,by omega,by omega,by simp -dsimp only[↓bp,bq,br,seval,fL];first|done|rfl,by first|(simp -dsimp only[↓bp,bq,br,seval,fL];done)|(simp -dsimp only[↓bp,bq,br,seval,fL];try rfl)⟩ ?_
 rintro n v ⟨i,hi,rfl,h11,h3⟩
 simp -dsimp only[↓bp,bq,br,seval,fL]at h11 h3
 simp -dsimp only[↓bp,bq,br,seval,fL,h11,h3]
 refine cG (fun hlt=> ?_) (fun hge=> ?_)
 ·obtain⟨l,hx⟩:∃ l,ls[i]? =some l:=⟨_,List.getElem?_eq_getElem (by omega)⟩
  have hsz:=qT ls i l hx
  have hle:=nP ls (i+1)
  rw[hsz,List.length_append]at hle
  have hw:IntKind.i64.wrap (((ls.take i).flatten.length:Nat)+(l.length:Int))=((ls.take i).flatten.length:Nat)+(l.length:Int):=aC (by omega) (by omega)
  have hn: ¬ (((ls.take i).flatten.length:Nat)+(l.length:Int)) < 0:=by omega
  clear hi hlt
  repeat'(first|refine xs ?_ ?_ <;>intros|(refine wn ?_;intro bx hbx;try simp only[fb]at hbx)|refine wj ?_|simp -dsimp only[↓bp,bq,br,seval,fL,mH,pR, *]|refine wz ?_|fail)
  all_goals(have hlt:=(List.getElem?_eq_some_iff.1 hx).1)
  all_goals exact⟨ls.length - (i+1),by omega,i+1,by omega,rfl,by rw[aC (by omega) (by omega)];rfl,by rw[hsz,List.length_append];simp⟩
 ·have:i=ls.length:=by omega
  subst this
  rw[List.take_length]at h3
  clear hi hge
  repeat'(first|refine xs ?_ ?_ <;>intros|(refine wn ?_;intro bx hbx;try simp only[fb]at hbx)|((refine aJ.mono (D0o G _ hb _) ?_;rintro r s ⟨hB,hr0⟩))|refine wj ?_|simp -dsimp only[↓bp,bq,br,seval,fL,mH,pR, *]|refine wz ?_|fail)
  refine aI (fun n e σ'=>∃ i:Nat,i <=(ls).length /\ n=(ls).length - i /\ e 27= .int .i64 i /\ ∃ v,e 6=v /\ fP 7 26 σ σ' v ((ls.take i).flatten.map aA.enc) /\ (v= .nil ->ls.flatten.length=0)) (ls).length
    ⟨0,by omega,by omega,by simp -dsimp only[↓bp,bq,br,seval,fL];first|done|rfl,⟨r,by first|(simp -dsimp only[↓bp,bq,br,seval,fL];done)|(simp -dsimp only[↓bp,bq,br,seval,fL];try rfl),by simpa using hB,hr0⟩⟩ ?_
  rintro n v σ' ⟨i,hi,rfl,h27,⟨v6,h6,hB6,hr6⟩⟩
  simp -dsimp only[↓bp,bq,br,seval,fL]at h27 h6
  simp -dsimp only[↓bp,bq,br,seval,fL,h27,h6]
  refine cG (fun hlt=> ?_) (fun hge=> ?_)
  ·obtain⟨l,hx⟩:∃ l,ls[i]? =some l:=⟨_,List.getElem?_eq_getElem (by omega)⟩
   have hsz:=qT ls i l hx
   have hle:=nP ls (i+1)
   rw[hsz,List.length_append]at hle
   clear hi hlt hB
   repeat'(first|refine xs ?_ ?_ <;>intros|(refine wn ?_;intro bx hbx;try simp only[fb]at hbx)|(refine C8b (ys:=l.map aA.enc) hB6 tW (bJ tfE) (fun a ha=>by obtain⟨x,_,rfl⟩:=List.mem_map.1 ha;exact⟨by rw[x.flat_enc];rfl,x.isv_enc⟩) (fun e=>by rw[List.map_eq_nil_iff];have:=hr6 e;exact List.eq_nil_of_length_eq_zero (by omega)) (by simp only[List.length_map];omega) (fun v7 σ7 hB7 hn7=> ?_))|refine wj ?_|simp -dsimp only[↓bp,bq,br,seval,fL,mH,pR, *]|refine wz ?_|fail)
   all_goals(have hlt:=(List.getElem?_eq_some_iff.1 hx).1)
   all_goals exact⟨ls.length - (i+1),by omega,i+1,by omega,rfl,by rw[aC (by omega) (by omega)];rfl,by rw[hsz,List.map_append];exact hB7,fun e=>hr6 (hn7 e)⟩
  ·have:i=ls.length:=by omega
   subst this
   rw[List.take_length]at hB6
   clear hi hge hB
   repeat'(first|refine xs ?_ ?_ <;>intros|(refine wn ?_;intro bx hbx;try simp only[fb]at hbx)|refine wj ?_|simp -dsimp only[↓bp,bq,br,seval,fL,mH,pR, *]|refine wz ?_|fail)
   exact aE _ (AS.le.refl _) hB6
theorem uP(ls:List (List aA))(hl:ls.length <=1000000)(hb:ls.flatten.length <=1000000000)(hf:∀ x,x ∈ ls.flatten ->aB Tryz.prog G 12 [x.enc] x.enc):aB Tryz.prog G 50 [A4o ls] (aH ls.flatten):=by
 have hc:=A1r G ls hl hb
 generalize ls.flatten=l at*
 refine aB.of_le fun σ=> ?_
 refine aJ.of_awp mixed Tryz.func50 rfl (by kernel_rfl) (by kernel_rfl) (by simp[Tryz.ntmps50]) Tryz.results50 ?_
 repeat'(first|refine xs ?_ ?_ <;>intros|(refine wn ?_;intro bx hbx;try simp only[fb]at hbx)|refine wp hc ?_|refine wj ?_|simp -dsimp only[↓bp,bq,br,seval,fL,mH,pR, *]|refine wz ?_|fail)
 refine aI (fun n e σ'=>∃ i:Nat,i <=(l).length /\ n=(l).length - i /\ e 9= .int .i64 i /\ ∃ v,e 3=v /\ kL 7 σ σ' v ((l.take i).map aA.enc)) (l).length
   ⟨0,by omega,by omega,by simp -dsimp only[↓bp,bq,br,seval,fL];first|done|rfl,⟨.nil,by first|(simp -dsimp only[↓bp,bq,br,seval,fL];done)|(simp -dsimp only[↓bp,bq,br,seval,fL];try rfl), .nil (AS.le.refl σ)⟩⟩ ?_
 rintro n v σ' ⟨i,hi,rfl,h9,⟨v3,h3,hB⟩⟩
 simp -dsimp only[↓bp,bq,br,seval,fL]at h9 h3
 simp -dsimp only[↓bp,bq,br,seval,fL,h9,h3]
 refine cG (fun hlt=> ?_) (fun hge=> ?_)
 ·obtain⟨k,hk⟩:∃ k,l[i]? =some k:=⟨_,List.getElem?_eq_getElem (by omega)⟩
  have hp:=hf k (List.mem_of_getElem? hk)
  have hil:i < l.length:=(List.getElem?_eq_some_iff.1 hk).1
  have hlen:(l.take i).length=i:=by rw[List.length_take];omega
  clear hi hlt hf hc
  repeat'(first|refine xs ?_ ?_ <;>intros|(refine wn ?_;intro bx hbx;try simp only[fb]at hbx)|refine wp hp ?_|(refine eK tW (aA.isv_enc k) (by rw[k.flat_enc];rfl) (by omega) ?_)|(refine iH (ys:=[k.enc]) (hB.newBox (by first|assumption|(simp only[*];done)) _) tW (bJ tfE) (fun a ha=>by simp at ha;subst ha;rw[k.flat_enc];rfl) (by simp;omega) (fun v3 σ3 hB4 hx4=> ?_))|refine wj ?_|simp -dsimp only[↓bp,bq,br,seval,fL, *]|refine wz ?_|fail)
  all_goals exact⟨l.length - (i+1),by omega,i+1,by omega,rfl,by rw[aC (by omega) (by omega)];rfl,by rw[aW _ _ _ hk,List.map_append];exact hB4⟩
 ·have:i=l.length:=by omega
  subst this
  rw[List.take_length]at hB
  clear hi hge hf hc
  repeat'(first|refine xs ?_ ?_ <;>intros|(refine wn ?_;intro bx hbx;try simp only[fb]at hbx)|refine wj ?_|simp -dsimp only[↓bp,bq,br,seval,fL, *]|refine wz ?_|fail)
  exact aL hB.told hB.le
theorem sW(l:List aA)(hb:l.length <=1000000000)(hf:∀ x,x ∈ l ->aB Tryz.prog G 12 [x.enc] x.enc):aB Tryz.prog G 50 [.sl .full [aH l] []] (aH l):=by
 have h:=(uP G [l] (by simp) (by simpa using hb) (by simpa using hf)).lessArgs (args:=[.sl .full [aH l] []]) (.cons Le.gh .nil)
 simpa using h
theorem oV(t:aA):t.bulk <=1000000000 ->aB Tryz.prog G 12 [t.enc] t.enc:=by
 refine aA.ind (P:=fun t=>t.bulk <=1000000000 ->aB Tryz.prog G 12 [t.enc] t.enc) (fun t ih1 ih2 hb=> ?_) t
 have h1:=sW G t.items (by have:=cA t;omega) (fun x hx=>ih1 x hx (by have:=dJ hx;omega))
 have h2:=sW G t.tail (by have:=dD t;omega) (fun x hx=>ih2 x hx (by have:=dK hx;omega))
 have h3:aB Tryz.prog G 49 [bD t.limbs] (bD t.limbs):=aB.of_le (A8u G t.limbs (by have:=cQ t;omega))
 clear ih1 ih2 hb
 intro σ
 refine aJ.of_awp mixed Tryz.func12 rfl (by kernel_rfl) (by kernel_rfl) (by simp[Tryz.ntmps12]) Tryz.results12 ?_
 repeat'(first|refine xs ?_ ?_ <;>intros|(refine wn ?_;intro bx hbx;try simp only[fb]at hbx)|refine wp h1 ?_|refine wp h2 ?_|refine wp h3 ?_|refine wj ?_|simp -dsimp only[↓bp,bq,br,seval,fL, *]|refine wz ?_|fail)
 all_goals skip
end
end Go.Proofs.YtdhbdhopnpmboaaGreatDoor
