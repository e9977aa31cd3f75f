/- The reference's size, on abstract values: by kinds. -/
import Derived.Test.YtdhbdhopnpmboaaGreatDoorZ11
import Derived.Test.YtdhbdhopnpmboaaGreatDoorZ09
import Derived.Test.YtdhbdhopnpmboaaGreatDoorZ10
import Derived.Test.YtdhbdhopnpmboaaGreatDoorZ07
set_option linter.unusedVariables false
set_option linter.unusedSimpArgs false
set_option maxRecDepth 20000
set_option linter.defProp false
namespace Go.Proofs.YtdhbdhopnpmboaaGreatDoor
open Go Go.Av
section
def A3a:=And.intro (And.intro (And.intro (And.intro @jD @iZ) (And.intro @jJ @eG)) (And.intro (And.intro @jE @dL) (And.intro @eN (And.intro @dV @eD)))) (And.intro (And.intro (And.intro @aA.flat_enc @aA.isv_enc) (And.intro @aA.fold_enc @aS)) (And.intro (And.intro @aN @aU) (And.intro @aQ (And.intro @aM @aZ))))
variable (G:Nat ->AV)
set_option maxHeartbeats 4000000 in
theorem E9f(t:aA)(hb:t.bulk <=1000000000)(hk:t.knd=3):aB Tryz.prog G 55 [t.enc] (.int .i64 (bY t)):=by
 have e:Hid _:=B6r (.inl hk)
 have k1:=eq_false (show ¬ t.knd=1 by omega)
 have k2:=eq_false (show ¬ t.knd=2 by omega)
 have k4:=eq_false (show ¬ t.knd=4 by omega)
 have k5:=eq_false (show ¬ t.knd=5 by omega)
 have k6:=eq_false (show ¬ t.knd=6 by omega)
 have k7:=eq_false (show ¬ t.knd=7 by omega)
 have k3:=eq_true hk
 clear hk
 generalize bY t=r at*
 intro σ
 clear hb
 refine aJ.of_awp mixed Tryz.func55 rfl (by kernel_rfl) (by kernel_rfl) (by simp[Tryz.ntmps55]) Tryz.results55 ?_
 repeat'(first|refine xs ?_ ?_ <;>intros|(refine wn ?_;intro bx hbx;try simp only[fb]at hbx)|refine wj ?_|simp -dsimp only[↓bp,bq,br,seval,A3a, *]|refine wz ?_|fail)
 all_goals
  unfold Hid at e
  rw[e]
  split
  ·rename_i hc
   obtain⟨c1,c2,c3,c4,c5,c6,c7⟩:=hc
   first|rfl|(exfalso;first|omega|(simp_all;done))
  ·rename_i hc
   first|rfl|(exfalso;apply hc;refine⟨?_,?_,?_,?_,?_,?_,?_⟩ <;>first|assumption|omega|(simp_all;done))
set_option maxHeartbeats 4000000 in
theorem E9h(t:aA)(hb:t.bulk <=1000000000)(hk:t.knd=5):aB Tryz.prog G 55 [t.enc] (.int .i64 (bY t)):=by
 have e:Hid _:=B6r (.inr hk)
 have k1:=eq_false (show ¬ t.knd=1 by omega)
 have k2:=eq_false (show ¬ t.knd=2 by omega)
 have k3:=eq_false (show ¬ t.knd=3 by omega)
 have k4:=eq_false (show ¬ t.knd=4 by omega)
 have k6:=eq_false (show ¬ t.knd=6 by omega)
 have k7:=eq_false (show ¬ t.knd=7 by omega)
 have k5:=eq_true hk
 clear hk
 generalize bY t=r at*
 intro σ
 clear hb
 refine aJ.of_awp mixed Tryz.func55 rfl (by kernel_rfl) (by kernel_rfl) (by simp[Tryz.ntmps55]) Tryz.results55 ?_
 repeat'(first|refine xs ?_ ?_ <;>intros|(refine wn ?_;intro bx hbx;try simp only[fb]at hbx)|refine wj ?_|simp -dsimp only[↓bp,bq,br,seval,A3a, *]|refine wz ?_|fail)
 all_goals
  unfold Hid at e
  rw[e]
  split
  ·rename_i hc
   obtain⟨c1,c2,c3,c4,c5,c6,c7⟩:=hc
   first|rfl|(exfalso;first|omega|(simp_all;done))
  ·rename_i hc
   first|rfl|(exfalso;apply hc;refine⟨?_,?_,?_,?_,?_,?_,?_⟩ <;>first|assumption|omega|(simp_all;done))
set_option maxHeartbeats 4000000 in
theorem E9g(t:aA)(hb:t.bulk <=1000000000)(hk:t.knd=4)(hit:∀ x,x ∈ t.items ->aB Tryz.prog G 55 [x.enc] (.int .i64 (bY x))):aB Tryz.prog G 55 [t.enc] (.int .i64 (bY t)):=by
 have e:Hid _:=E0f hk
 have hbe:=t.bulk_eq
 have hi:=mG G t.items 2 0 (by omega) (by omega) (by omega) (by omega) (by omega) hit
 clear hbe hit
 generalize bH t.items 2 0=s at*
 have k1:=eq_false (show ¬ t.knd=1 by omega)
 have k2:=eq_false (show ¬ t.knd=2 by omega)
 have k3:=eq_false (show ¬ t.knd=3 by omega)
 have k5:=eq_false (show ¬ t.knd=5 by omega)
 have k6:=eq_false (show ¬ t.knd=6 by omega)
 have k7:=eq_false (show ¬ t.knd=7 by omega)
 have k4:=eq_true hk
 clear hk
 generalize bY t=r at*
 intro σ
 clear hb
 refine aJ.of_awp mixed Tryz.func55 rfl (by kernel_rfl) (by kernel_rfl) (by simp[Tryz.ntmps55]) Tryz.results55 ?_
 repeat'(first|refine xs ?_ ?_ <;>intros|(refine wn ?_;intro bx hbx;try simp only[fb]at hbx)|refine wp hi ?_|refine wj ?_|simp -dsimp only[↓bp,bq,br,seval,A3a, *]|refine wz ?_|fail)
 all_goals
  unfold Hid at e
  rw[e]
  split
  ·rename_i hc
   obtain⟨c1,c2,c3,c4,c5,c6⟩:=hc
   first|rfl|(exfalso;first|omega|(simp_all;done))
  ·rename_i hc
   first|rfl|(exfalso;apply hc;refine⟨?_,?_,?_,?_,?_,?_⟩ <;>first|assumption|omega|(simp_all;done))
set_option maxHeartbeats 4000000 in
theorem E9i(t:aA)(hb:t.bulk <=1000000000)(hk:t.knd=6)(hit:∀ x,x ∈ t.items ->aB Tryz.prog G 55 [x.enc] (.int .i64 (bY x))):aB Tryz.prog G 55 [t.enc] (.int .i64 (bY t)):=by
 have e:Hid _:=E0g hk
 have hbe:=t.bulk_eq
 have hi:=mG G t.items 1 0 (by omega) (by omega) (by omega) (by omega) (by omega) hit
 clear hbe hit
 generalize bH t.items 1 0=s at*
 have k1:=eq_false (show ¬ t.knd=1 by omega)
 have k2:=eq_false (show ¬ t.knd=2 by omega)
 have k3:=eq_false (show ¬ t.knd=3 by omega)
 have k4:=eq_false (show ¬ t.knd=4 by omega)
 have k5:=eq_false (show ¬ t.knd=5 by omega)
 have k7:=eq_false (show ¬ t.knd=7 by omega)
 have k6:=eq_true hk
 clear hk
 generalize bY t=r at*
 intro σ
 clear hb
 refine aJ.of_awp mixed Tryz.func55 rfl (by kernel_rfl) (by kernel_rfl) (by simp[Tryz.ntmps55]) Tryz.results55 ?_
 repeat'(first|refine xs ?_ ?_ <;>intros|(refine wn ?_;intro bx hbx;try simp only[fb]at hbx)|refine wp hi ?_|refine wj ?_|simp -dsimp only[↓bp,bq,br,seval,A3a, *]|refine wz ?_|fail)
 all_goals
  unfold Hid at e
  rw[e]
  split
  ·rename_i hc
   obtain⟨c1,c2,c3,c4,c5⟩:=hc
   first|rfl|(exfalso;first|omega|(simp_all;done))
  ·rename_i hc
   first|rfl|(exfalso;apply hc;refine⟨?_,?_,?_,?_,?_⟩ <;>first|assumption|omega|(simp_all;done))
end
set_option maxRecDepth 20000
section
def C2y:=And.intro (And.intro (And.intro (And.intro @jD @iZ) (And.intro @jJ @eG)) (And.intro (And.intro @jE @dL) (And.intro @eN (And.intro @dV @eD)))) (And.intro (And.intro (And.intro @aA.flat_enc @aA.isv_enc) (And.intro @aA.fold_enc @aS)) (And.intro (And.intro @aN @aU) (And.intro @aQ (And.intro @aM @aZ))))
variable (G:Nat ->AV)
set_option maxHeartbeats 4000000 in
theorem E5b(t:aA)(hb:t.bulk <=1000000000)(hk:t.knd=7)(hit:∀ x,x ∈ t.items ->aB Tryz.prog G 55 [x.enc] (.int .i64 (bY x)))(htt:∀ x,x ∈ t.tail ->aB Tryz.prog G 55 [x.enc] (.int .i64 (bY x)))(hl:t.tail.length=0):aB Tryz.prog G 55 [t.enc] (.int .i64 (bY t)):=by
 have hbe:=t.bulk_eq
 have hi:=mG G t.items 1 1 (by omega) (by omega) (by omega) (by omega) (by omega) hit
 have hsl:=pA t.items 1 (by omega) (by omega) (fun x _=>vI x) 1 (by omega)
 have hj:0 <=bH t.items 1 1 ->aB Tryz.prog G 84 [aH t.tail, .int .i64 (bH t.items 1 1), .int .i64 0] (.int .i64 (bH t.tail (bH t.items 1 1) 0)):=fun h=>mG G t.tail _ 0 (by omega) (by omega) h (by omega) (by omega) htt
 have e0:bY t=if t.neg=false /\ (t.limbs.length:Int)=0 /\ t.text=[] /\ t.num=0 then(if bH t.items 1 1 < 0 then -1 else bH t.tail (bH t.items 1 1) 0)else -1:=by
  rw[A2y hk]
  have e1:t.tail=[]:=List.eq_nil_of_length_eq_zero hl
  have e2:((t.tail.length:Int) <=(if(t.items.length:Int) < 1 then(t.items.length:Int)else 1))=True:=eq_true (by rw[hl];split <;>omega)
  have e3:(t.tail.all fun x=>decide (x.knd ≠ 7))=true:=by rw[e1];rfl
  rw[e3]
  simp only[e2,and_true]
 have k1:=eq_false (show ¬ t.knd=1 by omega)
 have k2:=eq_false (show ¬ t.knd=2 by omega)
 have k3:=eq_false (show ¬ t.knd=3 by omega)
 have k4:=eq_false (show ¬ t.knd=4 by omega)
 have k5:=eq_false (show ¬ t.knd=5 by omega)
 have k6:=eq_false (show ¬ t.knd=6 by omega)
 have k7:=eq_true hk
 have l0:(t.tail.length:Int)=0:=by omega
 clear hk hbe hb hit htt hsl hl
 generalize bY t=r at*
 generalize bH t.items 1 1=s at*
 by_cases hs:s < 0
 ·clear hj
  rw[if_pos hs]at e0
  have e:Hid _:=e0
  clear e0
  have hs:=eq_true hs
  intro σ
  refine aJ.of_awp mixed Tryz.func55 rfl (by kernel_rfl) (by kernel_rfl) (by simp[Tryz.ntmps55]) Tryz.results55 ?_
  repeat'(first|refine xs ?_ ?_ <;>intros|(refine wn ?_;intro bx hbx;try simp only[fb]at hbx)|refine wp hi ?_|refine wj ?_|simp -dsimp only[↓bp,bq,br,seval,C2y, *]|refine wz ?_|fail)
  all_goals
   unfold Hid at e
   rw[e]
   split
   ·rename_i hc
    obtain⟨c1,c2,c3,c4⟩:=hc
    first|rfl|(exfalso;first|omega|(simp_all;done))
   ·rename_i hc
    first|rfl|(exfalso;apply hc;refine⟨?_,?_,?_,?_⟩ <;>first|assumption|omega|(simp_all;done))
 ·have hj:=hj (by omega)
  rw[if_neg hs]at e0
  have e:Hid _:=e0
  clear e0
  generalize bH t.tail s 0=u at*
  have hs:=eq_false hs
  intro σ
  refine aJ.of_awp mixed Tryz.func55 rfl (by kernel_rfl) (by kernel_rfl) (by simp[Tryz.ntmps55]) Tryz.results55 ?_
  repeat'(first|refine xs ?_ ?_ <;>intros|(refine wn ?_;intro bx hbx;try simp only[fb]at hbx)|refine wp hi ?_|refine wp hj ?_|refine wj ?_|simp -dsimp only[↓bp,bq,br,seval,C2y, *]|refine wz ?_|fail)
  all_goals
   unfold Hid at e
   rw[e]
   split
   ·rename_i hc
    obtain⟨c1,c2,c3,c4⟩:=hc
    first|rfl|(exfalso;first|omega|(simp_all;done))
   ·rename_i hc
    first|rfl|(exfalso;apply hc;refine⟨?_,?_,?_,?_⟩ <;>first|assumption|omega|(simp_all;done))
end
set_option maxRecDepth 20000
section
def C2z:=And.intro (And.intro (And.intro (And.intro @jD @iZ) (And.intro @jJ @eG)) (And.intro (And.intro @jE @dL) (And.intro @eN (And.intro @dV @eD)))) (And.intro (And.intro (And.intro @aA.flat_enc @aA.isv_enc) (And.intro @aA.fold_enc @aS)) (And.intro (And.intro @aN @aU) (And.intro @aQ (And.intro @aM @aZ))))
variable (G:Nat ->AV)
set_option maxHeartbeats 4000000 in
theorem E9c(t:aA)(hk: ¬ (1 <=t.knd /\ t.knd <=7)):aB Tryz.prog G 55 [t.enc] (.int .i64 (bY t)):=by
 rw[E0d hk]
 have k1:=eq_false (show ¬ t.knd=1 by omega)
 have k2:=eq_false (show ¬ t.knd=2 by omega)
 have k3:=eq_false (show ¬ t.knd=3 by omega)
 have k4:=eq_false (show ¬ t.knd=4 by omega)
 have k5:=eq_false (show ¬ t.knd=5 by omega)
 have k6:=eq_false (show ¬ t.knd=6 by omega)
 have k7:=eq_false (show ¬ t.knd=7 by omega)
 clear hk
 intro σ
 refine aJ.of_awp mixed Tryz.func55 rfl (by kernel_rfl) (by kernel_rfl) (by simp[Tryz.ntmps55]) Tryz.results55 ?_
 repeat'(first|refine xs ?_ ?_ <;>intros|(refine wn ?_;intro bx hbx;try simp only[fb]at hbx)|refine wj ?_|simp -dsimp only[↓bp,bq,br,seval,C2z, *]|refine wz ?_|fail)
 all_goals rfl
set_option maxHeartbeats 4000000 in
theorem E5d(t:aA)(hk:t.knd=7)(hl:1 < (t.tail.length:Int)):aB Tryz.prog G 55 [t.enc] (.int .i64 (bY t)):=by
 have e:bY t= -1:=by
  rw[A2y hk,if_neg (fun hc=> ?_)]
  have:=hc.2.2.2.2.1
  split at this <;>omega
 rw[e]
 have k1:=eq_false (show ¬ t.knd=1 by omega)
 have k2:=eq_false (show ¬ t.knd=2 by omega)
 have k3:=eq_false (show ¬ t.knd=3 by omega)
 have k4:=eq_false (show ¬ t.knd=4 by omega)
 have k5:=eq_false (show ¬ t.knd=5 by omega)
 have k6:=eq_false (show ¬ t.knd=6 by omega)
 have k7:=eq_true hk
 have l1:=eq_true hl
 clear hk e hl
 intro σ
 refine aJ.of_awp mixed Tryz.func55 rfl (by kernel_rfl) (by kernel_rfl) (by simp[Tryz.ntmps55]) Tryz.results55 ?_
 repeat'(first|refine xs ?_ ?_ <;>intros|(refine wn ?_;intro bx hbx;try simp only[fb]at hbx)|refine wj ?_|simp -dsimp only[↓bp,bq,br,seval,C2z, *]|refine wz ?_|fail)
 all_goals rfl
end
set_option maxRecDepth 20000
section
def A3b:=And.intro (And.intro (And.intro (And.intro @jD @iZ) (And.intro @jJ (And.intro @eG @jE))) (And.intro (And.intro @dL @eN) (And.intro @dV (And.intro @eD @aA.flat_enc)))) (And.intro (And.intro (And.intro @aA.isv_enc @aA.fold_enc) (And.intro @aS (And.intro @aN @aU))) (And.intro (And.intro @bW @bG) (And.intro @aQ (And.intro @aM @aZ))))
variable (G:Nat ->AV)
set_option maxHeartbeats 4000000 in
theorem E0h(t x:aA)(s u:Int)(k1:(t.knd=1)=False)(k2:(t.knd=2)=False)(k3:(t.knd=3)=False)(k4:(t.knd=4)=False)(k5:(t.knd=5)=False)(k6:(t.knd=6)=False)(k7:(t.knd=7)=True)(l0:(t.tail.length:Int)=1)(hx:t.tail[0]? =some x)(hi:aB Tryz.prog G 84 [aH t.items, .int .i64 1, .int .i64 1] (.int .i64 s))(hs:(s < 0)=True):aB Tryz.prog G 55 [t.enc] (.int .i64 (-1)):=by
 intro σ
 refine aJ.of_awp mixed Tryz.func55 rfl (by kernel_rfl) (by kernel_rfl) (by simp[Tryz.ntmps55]) Tryz.results55 ?_
 repeat'(first|refine xs ?_ ?_ <;>intros|(refine wn ?_;intro bx hbx;try simp only[fb]at hbx)|refine wp hi ?_|refine wj ?_|simp -dsimp only[↓bp,bq,br,seval,A3b, *]|refine wz ?_|fail)
 all_goals rfl
set_option maxHeartbeats 4000000 in
theorem E0i(t x:aA)(s u:Int)(k1:(t.knd=1)=False)(k2:(t.knd=2)=False)(k3:(t.knd=3)=False)(k4:(t.knd=4)=False)(k5:(t.knd=5)=False)(k6:(t.knd=6)=False)(k7:(t.knd=7)=True)(l0:(t.tail.length:Int)=1)(hx:t.tail[0]? =some x)(hi:aB Tryz.prog G 84 [aH t.items, .int .i64 1, .int .i64 1] (.int .i64 s))(hj:aB Tryz.prog G 84 [aH t.tail, .int .i64 s, .int .i64 0] (.int .i64 u))(hs:(s < 0)=False)(x7:(x.knd=7)=True):aB Tryz.prog G 55 [t.enc] (.int .i64 (-1)):=by
 intro σ
 refine aJ.of_awp mixed Tryz.func55 rfl (by kernel_rfl) (by kernel_rfl) (by simp[Tryz.ntmps55]) Tryz.results55 ?_
 repeat'(first|refine xs ?_ ?_ <;>intros|(refine wn ?_;intro bx hbx;try simp only[fb]at hbx)|refine wp hi ?_|refine wp hj ?_|refine wj ?_|simp -dsimp only[↓bp,bq,br,seval,A3b, *]|refine wz ?_|fail)
 all_goals rfl
set_option maxHeartbeats 4000000 in
theorem E0j(t x:aA)(s u:Int)(k1:(t.knd=1)=False)(k2:(t.knd=2)=False)(k3:(t.knd=3)=False)(k4:(t.knd=4)=False)(k5:(t.knd=5)=False)(k6:(t.knd=6)=False)(k7:(t.knd=7)=True)(l0:(t.tail.length:Int)=1)(hx:t.tail[0]? =some x)(hi:aB Tryz.prog G 84 [aH t.items, .int .i64 1, .int .i64 1] (.int .i64 s))(hj:aB Tryz.prog G 84 [aH t.tail, .int .i64 s, .int .i64 0] (.int .i64 u))(hs:(s < 0)=False)(x7:(x.knd=7)=False)(c1:t.neg=false)(c2':(0 < (t.limbs.length:Int))=False)(c2:((t.limbs.length:Int)=0)=True)(c3:(t.text=[])=True)(c4:(t.num=0)=True)(c5:((t.items.length:Int)=0)=False):aB Tryz.prog G 55 [t.enc] (.int .i64 u):=by
 intro σ
 refine aJ.of_awp mixed Tryz.func55 rfl (by kernel_rfl) (by kernel_rfl) (by simp[Tryz.ntmps55]) Tryz.results55 ?_
 repeat'(first|refine xs ?_ ?_ <;>intros|(refine wn ?_;intro bx hbx;try simp only[fb]at hbx)|refine wp hi ?_|refine wp hj ?_|refine wj ?_|simp -dsimp only[↓bp,bq,br,seval,A3b, *]|refine wz ?_|fail)
 all_goals rfl
set_option maxHeartbeats 4000000 in
theorem E0k(t x:aA)(s u:Int)(k1:(t.knd=1)=False)(k2:(t.knd=2)=False)(k3:(t.knd=3)=False)(k4:(t.knd=4)=False)(k5:(t.knd=5)=False)(k6:(t.knd=6)=False)(k7:(t.knd=7)=True)(l0:(t.tail.length:Int)=1)(hx:t.tail[0]? =some x)(hi:aB Tryz.prog G 84 [aH t.items, .int .i64 1, .int .i64 1] (.int .i64 s))(hj:aB Tryz.prog G 84 [aH t.tail, .int .i64 s, .int .i64 0] (.int .i64 u))(hs:(s < 0)=False)(x7:(x.knd=7)=False)(hc:Hid (¬ (t.neg=false /\ (t.limbs.length:Int)=0 /\ t.text=[] /\ t.num=0 /\ ¬ (t.items.length:Int)=0))):aB Tryz.prog G 55 [t.enc] (.int .i64 (-1)):=by
 intro σ
 refine aJ.of_awp mixed Tryz.func55 rfl (by kernel_rfl) (by kernel_rfl) (by simp[Tryz.ntmps55]) Tryz.results55 ?_
 repeat'(first|refine xs ?_ ?_ <;>intros|(refine wn ?_;intro bx hbx;try simp only[fb]at hbx)|refine wp hi ?_|refine wp hj ?_|refine wj ?_|simp -dsimp only[↓bp,bq,br,seval,A3b, *]|refine wz ?_|fail)
 all_goals first|rfl|(exfalso;unfold Hid at hc;apply hc;refine⟨?_,?_,?_,?_,?_⟩ <;>first|assumption|omega|(simp_all;done))
set_option maxHeartbeats 4000000 in
theorem E5c(t:aA)(hb:t.bulk <=1000000000)(hk:t.knd=7)(hit:∀ x,x ∈ t.items ->aB Tryz.prog G 55 [x.enc] (.int .i64 (bY x)))(htt:∀ x,x ∈ t.tail ->aB Tryz.prog G 55 [x.enc] (.int .i64 (bY x)))(x:aA)(hx:t.tail[0]? =some x)(hl:t.tail.length=1):aB Tryz.prog G 55 [t.enc] (.int .i64 (bY t)):=by
 have hbe:=t.bulk_eq
 have hi:=mG G t.items 1 1 (by omega) (by omega) (by omega) (by omega) (by omega) hit
 have hsl:=pA t.items 1 (by omega) (by omega) (fun x _=>vI x) 1 (by omega)
 have hj:0 <=bH t.items 1 1 ->aB Tryz.prog G 84 [aH t.tail, .int .i64 (bH t.items 1 1), .int .i64 0] (.int .i64 (bH t.tail (bH t.items 1 1) 0)):=fun h=>mG G t.tail _ 0 (by omega) (by omega) h (by omega) (by omega) htt
 have e0:bY t=if t.neg=false /\ (t.limbs.length:Int)=0 /\ t.text=[] /\ t.num=0 /\ ¬ (t.items.length:Int)=0 /\ ¬ x.knd=7 then(if bH t.items 1 1 < 0 then -1 else bH t.tail (bH t.items 1 1) 0)else -1:=by
  rw[A2y hk]
  have e1:t.tail=[x]:=by
   cases ht:t.tail with
   |nil=>rw[ht]at hl;simp at hl
   |cons y l=>rw[ht]at hl hx;simp at hl hx;rw[hl,hx]
  have e2:((t.tail.length:Int) <=(if(t.items.length:Int) < 1 then(t.items.length:Int)else 1))=(¬ (t.items.length:Int)=0):=by
   rw[hl];apply propext;constructor
   ·intro h;split at h <;>omega
   ·intro h;split <;>omega
  have e3:(t.tail.all fun x=>decide (x.knd ≠ 7))=decide (¬ x.knd=7):=by rw[e1];simp
  rw[e3]
  simp only[e2,decide_eq_true_eq]
 have k1:=eq_false (show ¬ t.knd=1 by omega)
 have k2:=eq_false (show ¬ t.knd=2 by omega)
 have k3:=eq_false (show ¬ t.knd=3 by omega)
 have k4:=eq_false (show ¬ t.knd=4 by omega)
 have k5:=eq_false (show ¬ t.knd=5 by omega)
 have k6:=eq_false (show ¬ t.knd=6 by omega)
 have k7:=eq_true hk
 have l0:(t.tail.length:Int)=1:=by omega
 clear hk hbe hb hit htt hsl hl
 generalize bY t=r at*
 generalize bH t.items 1 1=s at*
 by_cases hs:s < 0
 ·have e:r= -1:=by rw[e0,if_pos hs,ite_self]
  rw[e]
  exact E0h G t x s 0 k1 k2 k3 k4 k5 k6 k7 l0 hx hi (eq_true hs)
 ·have hj:=hj (by omega)
  rw[if_neg hs]at e0
  generalize bH t.tail s 0=u at*
  by_cases x7:x.knd=7
  ·have e:r= -1:=by rw[e0,if_neg (fun hc=>hc.2.2.2.2.2 x7)]
   rw[e]
   exact E0i G t x s u k1 k2 k3 k4 k5 k6 k7 l0 hx hi hj (eq_false hs) (eq_true x7)
  ·simp only[x7,not_false_eq_true,and_true]at e0
   by_cases hc:t.neg=false /\ (t.limbs.length:Int)=0 /\ t.text=[] /\ t.num=0 /\ ¬ (t.items.length:Int)=0
   ·rw[if_pos hc]at e0
    obtain⟨c1,c2,c3,c4,c5⟩:=hc
    rw[e0]
    exact E0j G t x s u k1 k2 k3 k4 k5 k6 k7 l0 hx hi hj (eq_false hs) (eq_false x7) c1 (eq_false (by omega)) (eq_true c2) (eq_true c3) (eq_true c4) (eq_false c5)
   ·rw[if_neg hc]at e0
    rw[e0]
    exact E0k G t x s u k1 k2 k3 k4 k5 k6 k7 l0 hx hi hj (eq_false hs) (eq_false x7) hc
end
section
variable (G:Nat ->AV)
theorem A6b(t:aA)(hb:t.bulk <=1000000000):aB Tryz.prog G 55 [t.enc] (.int .i64 (bY t)):=by
 revert hb
 refine aA.ind (P:=fun t=>t.bulk <=1000000000 ->aB Tryz.prog G 55 [t.enc] (.int .i64 (bY t))) (fun t ih1 ih2 hb=> ?_) t
 have hit:∀ x,x ∈ t.items ->aB Tryz.prog G 55 [x.enc] (.int .i64 (bY x)):=fun x hx=>ih1 x hx (by have:=dJ hx;omega)
 have htt:∀ x,x ∈ t.tail ->aB Tryz.prog G 55 [x.enc] (.int .i64 (bY x)):=fun x hx=>ih2 x hx (by have:=dK hx;omega)
 by_cases h0:1 <=t.knd /\ t.knd <=7
 ·rcases(show t.knd=1 \/ t.knd=2 \/ t.knd=3 \/ t.knd=4 \/ t.knd=5 \/ t.knd=6 \/ t.knd=7 by omega)with h|h|h|h|h|h|h
  ·exact E9d G t hb h
  ·exact E9e G t hb h
  ·exact E9f G t hb h
  ·exact E9g G t hb h hit
  ·exact E9h G t hb h
  ·exact E9i G t hb h hit
  ·by_cases l0:t.tail.length=0
   ·exact E5b G t hb h hit htt l0
   ·by_cases l1:t.tail.length=1
    ·exact E5c G t hb h hit htt (t.tail[0]'(by omega)) (List.getElem?_eq_getElem (by omega)) l1
    ·exact E5d G t h (by omega)
 ·exact E9c G t h0
end
set_option maxRecDepth 20000
section
def xT:=And.intro (And.intro (And.intro (And.intro @jD @iZ) (And.intro @jJ @eG)) (And.intro (And.intro @jE @dL) (And.intro @eN @dV))) (And.intro (And.intro (And.intro @eD @aA.flat_enc) (And.intro @aA.isv_enc @aA.fold_enc)) (And.intro (And.intro @aS @aN) (And.intro @aU (And.intro @aQ @aM))))
theorem C9e(a b:Int):dR a b= -1 /\ a < b \/ dR a b=0 /\ a=b \/ dR a b=1 /\ b < a:=by
 unfold dR
 by_cases h:a < b
 ·rw[if_pos h];exact .inl ⟨rfl,h⟩
 ·rw[if_neg h]
  by_cases h2:b < a
  ·rw[if_pos h2];exact .inr (.inr ⟨rfl,h2⟩)
  ·rw[if_neg h2];exact .inr (.inl ⟨rfl,by omega⟩)
variable (G:Nat ->AV)
theorem uW(a b:Int):aB Tryz.prog G 153 [.int .i64 a, .int .i64 b] (.int .i64 (dR a b)):=by
 intro σ
 rcases C9e a b with h|h|h
 ·rw[h.1]
  have h1:(a < b)=True:=eq_true h.2
  clear h
  refine aJ.of_awp mixed Tryz.func153 rfl (by kernel_rfl) (by kernel_rfl) (by simp[Tryz.ntmps153]) Tryz.results153 ?_
  repeat'(first|refine xs ?_ ?_ <;>intros|(refine wn ?_;intro bx hbx;try simp only[fb]at hbx)|refine wj ?_|simp -dsimp only[↓bp,bq,br,seval,xT, *]|refine wz ?_|fail)
  all_goals rfl
 ·rw[h.1]
  have h1:(a < b)=False:=eq_false (by omega)
  have h2:(b < a)=False:=eq_false (by omega)
  clear h
  refine aJ.of_awp mixed Tryz.func153 rfl (by kernel_rfl) (by kernel_rfl) (by simp[Tryz.ntmps153]) Tryz.results153 ?_
  repeat'(first|refine xs ?_ ?_ <;>intros|(refine wn ?_;intro bx hbx;try simp only[fb]at hbx)|refine wj ?_|simp -dsimp only[↓bp,bq,br,seval,xT, *]|refine wz ?_|fail)
  all_goals rfl
 ·rw[h.1]
  have h1:(a < b)=False:=eq_false (by omega)
  have h2:(b < a)=True:=eq_true h.2
  clear h
  refine aJ.of_awp mixed Tryz.func153 rfl (by kernel_rfl) (by kernel_rfl) (by simp[Tryz.ntmps153]) Tryz.results153 ?_
  repeat'(first|refine xs ?_ ?_ <;>intros|(refine wn ?_;intro bx hbx;try simp only[fb]at hbx)|refine wj ?_|simp -dsimp only[↓bp,bq,br,seval,xT, *]|refine wz ?_|fail)
  all_goals rfl
theorem C0t(a b:List UInt8):aB Tryz.prog G 155 [.str a, .str b] (.int .i64 (pL a b)):=by
 intro σ
 obtain⟨e1,e2⟩:=sQ a b
 have hR:=B8s a b
 unfold R3 at hR
 generalize pL a b=X at*
 rcases hR with rfl|rfl|rfl
 ·have h1:Op.bytesLess a b=true:=e1
  clear e1 e2
  refine aJ.of_awp mixed Tryz.func155 rfl (by kernel_rfl) (by kernel_rfl) (by simp[Tryz.ntmps155]) Tryz.results155 ?_
  repeat'(first|refine xs ?_ ?_ <;>intros|(refine wn ?_;intro bx hbx;try simp only[fb]at hbx)|refine wj ?_|simp -dsimp only[↓bp,bq,br,seval,xT,lT, *]|refine wz ?_|fail)
  all_goals rfl
 ·have h1:Op.bytesLess a b=false:=e1
  have h2:(a==b)=true:=e2
  clear e1 e2
  refine aJ.of_awp mixed Tryz.func155 rfl (by kernel_rfl) (by kernel_rfl) (by simp[Tryz.ntmps155]) Tryz.results155 ?_
  repeat'(first|refine xs ?_ ?_ <;>intros|(refine wn ?_;intro bx hbx;try simp only[fb]at hbx)|refine wj ?_|simp -dsimp only[↓bp,bq,br,seval,xT,lT, *]|refine wz ?_|fail)
  all_goals rfl
 ·have h1:Op.bytesLess a b=false:=e1
  have h2:(a==b)=false:=e2
  clear e1 e2
  refine aJ.of_awp mixed Tryz.func155 rfl (by kernel_rfl) (by kernel_rfl) (by simp[Tryz.ntmps155]) Tryz.results155 ?_
  repeat'(first|refine xs ?_ ?_ <;>intros|(refine wn ?_;intro bx hbx;try simp only[fb]at hbx)|refine wj ?_|simp -dsimp only[↓bp,bq,br,seval,xT,lT, *]|refine wz ?_|fail)
  all_goals rfl
theorem zE(t:aA)(h:aB Tryz.prog G 55 [t.enc] (.int .i64 (bY t))):aB Tryz.prog G 15 [t.enc] (.bool (right t)):=by
 have e:=vF t
 generalize bY t=r at*
 intro σ
 by_cases h1:0 < r <;>by_cases h2:r <=4096
 all_goals
  simp only[h1,h2,decide_true,decide_false,Bool.and_true,Bool.true_and,Bool.and_false,Bool.false_and,Bool.and_self]at e
  rw[e]
  clear e
  first|replace h1:=eq_false h1|replace h1:=eq_true h1
  first|replace h2:=eq_false h2|replace h2:=eq_true h2
  refine aJ.of_awp mixed Tryz.func15 rfl (by kernel_rfl) (by kernel_rfl) (by simp[Tryz.ntmps15]) Tryz.results15 ?_
  repeat'(first|refine xs ?_ ?_ <;>intros|(refine wn ?_;intro bx hbx;try simp only[fb]at hbx)|refine wp h ?_|refine wj ?_|simp -dsimp only[↓bp,bq,br,seval,xT, *]|refine wz ?_|fail)
 all_goals rfl
end
set_option maxRecDepth 20000
section
def vP:=And.intro (And.intro (And.intro (And.intro @jD @iZ) (And.intro @jJ (And.intro @eG @jE))) (And.intro (And.intro @dL @eN) (And.intro @dV (And.intro @eD @aA.flat_enc)))) (And.intro (And.intro (And.intro @aA.isv_enc @aA.fold_enc) (And.intro @aS (And.intro @aN @aU))) (And.intro (And.intro @bW @bG) (And.intro @aQ (And.intro @aM @aZ))))
variable (G:Nat ->AV)
theorem C0q(l r:List aA)(hl:l.length <=1000000000)(hr:r.length <=1000000000)(hf:∀ x,x ∈ l ->∀ y,y ∈ r ->aB Tryz.prog G 112 [x.enc,y.enc] (.int .i64 (iO x y))):aB Tryz.prog G 157 [aH l,aH r] (.int .i64 (lK l r)):=by
 intro σ
 refine aJ.of_awp mixed Tryz.func157 rfl (by kernel_rfl) (by kernel_rfl) (by simp[Tryz.ntmps157]) Tryz.results157 ?_
 simp -dsimp only[↓bp,bq,br,seval,vP]
 refine aD mixed (fun n e=>∃ i:Nat,i <=l.length /\ n=l.length - i /\ e 5= .int .i64 i /\ lK (l.drop i) (r.drop i)=lK l r) l.length
  ⟨0,by omega,by omega,by simp -dsimp only[↓bp,bq,br,seval,vP];first|done|rfl,by simp⟩ ?_
 rintro n v ⟨i,hi,rfl,h7,hrow⟩
 simp -dsimp only[↓bp,bq,br,seval,vP]at h7
 by_cases h1:(i:Int) < l.length
 ·obtain⟨x,hx⟩:∃ x,l[i]? =some x:=⟨_,List.getElem?_eq_getElem (by omega)⟩
  have hd:=dC _ _ _ hx
  rw[hd]at hrow
  by_cases h2:(i:Int) < r.length
  ·obtain⟨y,hy⟩:∃ y,r[i]? =some y:=⟨_,List.getElem?_eq_getElem (by omega)⟩
   have hdy:=dC _ _ _ hy
   rw[hdy,lK]at hrow
   have hp:=hf x (List.mem_of_getElem? hx) y (List.mem_of_getElem? hy)
   have hw:IntKind.i64.wrap ((i:Int)+1)=((i+1:Nat):Int):=by rw[aC (by omega) (by omega)];rfl
   have h1:=eq_true h1
   have h2:=eq_true h2
   clear hi hd hdy hf hl hr
   by_cases hc:iO x y=0
   ·rw[hc]at hp hrow
    have hrow:lK (l.drop (i+1)) (r.drop (i+1))=lK l r:=hrow
    repeat'(first|refine xs ?_ ?_ <;>intros|(refine wn ?_;intro bx hbx;try simp only[fb]at hbx)|refine wp hp ?_|refine wj ?_|simp -dsimp only[↓bp,bq,br,seval,vP, *]|refine wz ?_|fail)
    all_goals(have hlt:=(List.getElem?_eq_some_iff.1 hx).1)
    all_goals exact⟨l.length - (i+1),by omega,i+1,by omega,rfl,rfl,hrow⟩
   ·have hrow:iO x y=lK l r:=by rw[<- hrow];unfold lex;rw[if_neg hc]
    rw[hrow]at hp hc
    clear hrow
    have hc:=eq_false hc
    repeat'(first|refine xs ?_ ?_ <;>intros|(refine wn ?_;intro bx hbx;try simp only[fb]at hbx)|refine wp hp ?_|refine wj ?_|simp -dsimp only[↓bp,bq,br,seval,vP, *]|refine wz ?_|fail)
    all_goals rfl
  ·have hrow:lK l r=0:=by rw[<- hrow,List.drop_eq_nil_of_le (by omega:r.length <=i)];rfl
   rw[hrow]
   have h1:=eq_true h1
   have h2:=eq_false h2
   clear hi hd hf hl hr hrow hx
   repeat'(first|refine xs ?_ ?_ <;>intros|(refine wn ?_;intro bx hbx;try simp only[fb]at hbx)|refine wj ?_|simp -dsimp only[↓bp,bq,br,seval,vP, *]|refine wz ?_|fail)
   all_goals rfl
 ·have hrow:lK l r=0:=by rw[<- hrow,List.drop_eq_nil_of_le (by omega:l.length <=i)];rfl
  rw[hrow]
  have h1:=eq_false h1
  clear hi hf hl hr hrow
  repeat'(first|refine xs ?_ ?_ <;>intros|(refine wn ?_;intro bx hbx;try simp only[fb]at hbx)|refine wj ?_|simp -dsimp only[↓bp,bq,br,seval,vP, *]|refine wz ?_|fail)
  all_goals rfl
theorem vG(a b:aA)(h:a.knd ≠ b.knd):aB Tryz.prog G 112 [a.enc,b.enc] (.int .i64 (dR a.knd b.knd)):=by
 have hp:=uW G a.knd b.knd
 have ka:IntKind.i64.wrap a.knd=a.knd:=by have:=a.knd_nn;have:=a.kind.toNat_lt;rw[aC (by omega) (by unfold aA.knd;omega)]
 have kb:IntKind.i64.wrap b.knd=b.knd:=by have:=b.knd_nn;have:=b.kind.toNat_lt;rw[aC (by omega) (by unfold aA.knd;omega)]
 have h:=eq_false h
 intro σ
 refine aJ.of_awp mixed Tryz.func112 rfl (by kernel_rfl) (by kernel_rfl) (by simp[Tryz.ntmps112]) Tryz.results112 ?_
 repeat'(first|refine xs ?_ ?_ <;>intros|(refine wn ?_;intro bx hbx;try simp only[fb]at hbx)|refine wp hp ?_|refine wj ?_|simp -dsimp only[↓bp,bq,br,seval,vP, *]|refine wz ?_|fail)
 all_goals rfl
end
set_option maxRecDepth 20000
section
def vO:=And.intro (And.intro (And.intro (And.intro @jD (And.intro @iZ @jJ)) (And.intro (And.intro @eG @qI) (And.intro @jE @dL))) (And.intro (And.intro @eN (And.intro @dV @eD)) (And.intro (And.intro @wT @lU) (And.intro @aA.flat_enc @aA.isv_enc)))) (And.intro (And.intro (And.intro @aA.fold_enc (And.intro @aS @aN)) (And.intro (And.intro @aU @bW) (And.intro @bG @aQ))) (And.intro (And.intro (And.intro @aM @aZ) (And.intro @cH @bQ)) (And.intro (And.intro @bB @kB) (And.intro @iU @lE))))
variable (G:Nat ->AV)
set_option maxHeartbeats 4000000 in
theorem C6k(a b:aA)(ha:wr a=true)(hb:wr b=true)(ga:a.bulk <=1000000)(gb:b.bulk <=1000000):aB Tryz.prog G 154 [a.enc,b.enc] (.int .i64 (B4b a b)):=by
 have w1:=qV G a (by omega)
 have w2:=qV G b (by omega)
 rw[ha]at w1
 rw[hb]at w2
 have la:=cQ a
 have lb:=cQ b
 have x1:=zZ G a (by omega)
 have x2:=zZ G b (by omega)
 have y1:=xB G (cL (eU a.limbs)) (cL (eU b.limbs)) (by have:=iK (eU a.limbs);have:=mE a.limbs;omega) (by have:=iK (eU b.limbs);have:=mE b.limbs;omega)
 have y2:=xB G (cL (eU b.limbs)) (cL (eU a.limbs)) (by have:=iK (eU b.limbs);have:=mE b.limbs;omega) (by have:=iK (eU a.limbs);have:=mE a.limbs;omega)
 rw[B8l]at y1 y2
 have a8:=(oR ha).2.2.2.2.2.2.2
 have b8:=(oR hb).2.2.2.2.2.2.2
 have hv:=C9d a8 b8
 unfold B4b sgn
 rw[hv]
 clear ha hb ga gb la lb a8 b8 hv
 generalize cL (eU a.limbs)=X at*
 generalize cL (eU b.limbs)=Y at*
 rw[<- aA.fold_enc a]at w1 x1
 rw[<- aA.fold_enc b]at w2 x2
 have bt:(false==true)=false:=rfl
 have bf:(true==false)=false:=rfl
 intro σ
 cases ea:a.neg <;>cases eb:b.neg <;>rw[ea]at w1 x1 <;>rw[eb]at w2 x2
 ·rcases vW (val a.limbs) (val b.limbs)with h|h|h
  ·rw[h.1]
   rw[decide_eq_true (by omega)]at y1
   rw[decide_eq_false (by omega)]at y2
   clear h
   refine aJ.of_awp mixed Tryz.func154 rfl (by kernel_rfl) (by kernel_rfl) (by simp[Tryz.ntmps154]) Tryz.results154 ?_
   repeat'(first|refine xs ?_ ?_ <;>intros|(refine wn ?_;intro bx hbx;try simp only[fb]at hbx)|refine wp w1 ?_|refine wp w2 ?_|refine wp x1 ?_|refine wp x2 ?_|refine wp y1 ?_|refine wp y2 ?_|refine wj ?_|simp -dsimp only[↓bp,bq,br,seval,vO, *]|refine wz ?_|fail)
   all_goals first
    |rfl
    |(rename_i hq;exact absurd hq (by decide))
  ·rw[h.1]
   rw[decide_eq_false (by omega)]at y1 y2
   clear h
   refine aJ.of_awp mixed Tryz.func154 rfl (by kernel_rfl) (by kernel_rfl) (by simp[Tryz.ntmps154]) Tryz.results154 ?_
   repeat'(first|refine xs ?_ ?_ <;>intros|(refine wn ?_;intro bx hbx;try simp only[fb]at hbx)|refine wp w1 ?_|refine wp w2 ?_|refine wp x1 ?_|refine wp x2 ?_|refine wp y1 ?_|refine wp y2 ?_|refine wj ?_|simp -dsimp only[↓bp,bq,br,seval,vO, *]|refine wz ?_|fail)
   all_goals first
    |rfl
    |(rename_i hq;exact absurd hq (by decide))
  ·rw[h.1]
   rw[decide_eq_false (by omega)]at y1
   rw[decide_eq_true (by omega)]at y2
   clear h
   refine aJ.of_awp mixed Tryz.func154 rfl (by kernel_rfl) (by kernel_rfl) (by simp[Tryz.ntmps154]) Tryz.results154 ?_
   repeat'(first|refine xs ?_ ?_ <;>intros|(refine wn ?_;intro bx hbx;try simp only[fb]at hbx)|refine wp w1 ?_|refine wp w2 ?_|refine wp x1 ?_|refine wp x2 ?_|refine wp y1 ?_|refine wp y2 ?_|refine wj ?_|simp -dsimp only[↓bp,bq,br,seval,vO, *]|refine wz ?_|fail)
   all_goals first
    |rfl
    |(rename_i hq;exact absurd hq (by decide))
 ·clear y1 y2 x1 x2
  refine aJ.of_awp mixed Tryz.func154 rfl (by kernel_rfl) (by kernel_rfl) (by simp[Tryz.ntmps154]) Tryz.results154 ?_
  repeat'(first|refine xs ?_ ?_ <;>intros|(refine wn ?_;intro bx hbx;try simp only[fb]at hbx)|refine wp w1 ?_|refine wp w2 ?_|refine wj ?_|simp -dsimp only[↓bp,bq,br,seval,vO, *]|refine wz ?_|fail)
  all_goals rfl
 ·clear y1 y2 x1 x2
  refine aJ.of_awp mixed Tryz.func154 rfl (by kernel_rfl) (by kernel_rfl) (by simp[Tryz.ntmps154]) Tryz.results154 ?_
  repeat'(first|refine xs ?_ ?_ <;>intros|(refine wn ?_;intro bx hbx;try simp only[fb]at hbx)|refine wp w1 ?_|refine wp w2 ?_|refine wj ?_|simp -dsimp only[↓bp,bq,br,seval,vO, *]|refine wz ?_|fail)
  all_goals rfl
 ·rcases vW (val a.limbs) (val b.limbs)with h|h|h
  ·rw[h.1]
   rw[decide_eq_true (by omega)]at y1
   rw[decide_eq_false (by omega)]at y2
   clear h
   refine aJ.of_awp mixed Tryz.func154 rfl (by kernel_rfl) (by kernel_rfl) (by simp[Tryz.ntmps154]) Tryz.results154 ?_
   repeat'(first|refine xs ?_ ?_ <;>intros|(refine wn ?_;intro bx hbx;try simp only[fb]at hbx)|refine wp w1 ?_|refine wp w2 ?_|refine wp x1 ?_|refine wp x2 ?_|refine wp y1 ?_|refine wp y2 ?_|refine wj ?_|simp -dsimp only[↓bp,bq,br,seval,vO, *]|refine wz ?_|fail)
   all_goals first
    |rfl
    |(rename_i hq;exact absurd hq (by decide))
  ·rw[h.1]
   rw[decide_eq_false (by omega)]at y1 y2
   clear h
   refine aJ.of_awp mixed Tryz.func154 rfl (by kernel_rfl) (by kernel_rfl) (by simp[Tryz.ntmps154]) Tryz.results154 ?_
   repeat'(first|refine xs ?_ ?_ <;>intros|(refine wn ?_;intro bx hbx;try simp only[fb]at hbx)|refine wp w1 ?_|refine wp w2 ?_|refine wp x1 ?_|refine wp x2 ?_|refine wp y1 ?_|refine wp y2 ?_|refine wj ?_|simp -dsimp only[↓bp,bq,br,seval,vO, *]|refine wz ?_|fail)
   all_goals first
    |rfl
    |(rename_i hq;exact absurd hq (by decide))
  ·rw[h.1]
   rw[decide_eq_false (by omega)]at y1
   rw[decide_eq_true (by omega)]at y2
   clear h
   refine aJ.of_awp mixed Tryz.func154 rfl (by kernel_rfl) (by kernel_rfl) (by simp[Tryz.ntmps154]) Tryz.results154 ?_
   repeat'(first|refine xs ?_ ?_ <;>intros|(refine wn ?_;intro bx hbx;try simp only[fb]at hbx)|refine wp w1 ?_|refine wp w2 ?_|refine wp x1 ?_|refine wp x2 ?_|refine wp y1 ?_|refine wp y2 ?_|refine wj ?_|simp -dsimp only[↓bp,bq,br,seval,vO, *]|refine wz ?_|fail)
   all_goals first
    |rfl
    |(rename_i hq;exact absurd hq (by decide))
end
set_option maxRecDepth 20000
section
def rE:=And.intro (And.intro (And.intro (And.intro @jD @iZ) (And.intro @jJ (And.intro @eG @jE))) (And.intro (And.intro @dL @eN) (And.intro @dV (And.intro @eD @aA.flat_enc)))) (And.intro (And.intro (And.intro @aA.isv_enc @aA.fold_enc) (And.intro @aS (And.intro @aN @aU))) (And.intro (And.intro @bW @bG) (And.intro @aQ (And.intro @aM @aZ))))
variable (G:Nat ->AV)
def B7j:AV:= .agg [.int .u8 7, .bool false, .nil, .str [], .int .i64 0, .nil, .nil]
theorem B7k:Le B7j (bA [] []).enc:=gT 7 false [] 0
theorem D2c(p q z:Int):(p=0 /\ q=0 /\ lex (lex p q) z=z) \/ (p=0 /\ ¬ q=0 /\ lex (lex p q) z=q) \/ (¬ p=0 /\ lex (lex p q) z=p):=by
 by_cases c1:p=0
 ·subst c1
  by_cases c2:q=0
  ·subst c2;exact .inl ⟨rfl,rfl,rfl⟩
  ·exact .inr (.inl ⟨rfl,c2,by unfold lex;simp[c2]⟩)
 ·exact .inr (.inr ⟨c1,by unfold lex;simp[c1]⟩)
theorem D3e(a b:aA)(p q:Int)(hrow:aB Tryz.prog G 157 [aH a.items,aH b.items] (.int .i64 p))(hn:aB Tryz.prog G 153 [.int .i64 a.items.length, .int .i64 b.items.length] (.int .i64 q))(h1:(a.tail.length:Int)=0)(h2:(b.tail.length:Int)=0):aB Tryz.prog G 156 [a.enc,b.enc] (.int .i64 (lex (lex p q) 0)):=by
 have hz:True:=trivial
 have hm:True:=trivial
 obtain⟨z,hz0⟩:∃ z:Int,z=0:=⟨_,rfl⟩
 rw[<- hz0]
 intro σ
 rcases D2c p q z with⟨rfl,rfl,e⟩|⟨rfl,c,e⟩|⟨c,e⟩ <;>rw[e] <;>clear e
 all_goals(try replace c:=eq_false c)
 all_goals(try subst hz0)
 all_goals
  refine aJ.of_awp mixed Tryz.func156 rfl (by kernel_rfl) (by kernel_rfl) (by simp[Tryz.ntmps156]) Tryz.results156 ?_
  repeat'(first|refine xs ?_ ?_ <;>intros|(refine wn ?_;intro bx hbx;try simp only[fb]at hbx)|refine wp hrow ?_|refine wp hn ?_|refine wj ?_|simp -dsimp only[↓bp,bq,br,seval,rE, *]|refine wz ?_|fail)
  all_goals rfl
theorem D3f(a b:aA)(p q z:Int)(x:aA)(hrow:aB Tryz.prog G 157 [aH a.items,aH b.items] (.int .i64 p))(hn:aB Tryz.prog G 153 [.int .i64 a.items.length, .int .i64 b.items.length] (.int .i64 q))(h1:a.tail[0]? =some x)(h2:(b.tail.length:Int)=0)(hz:aB Tryz.prog G 112 [x.enc,B7j] (.int .i64 z)):aB Tryz.prog G 156 [a.enc,b.enc] (.int .i64 (lex (lex p q) z)):=by
 have l1:(0:Int) < a.tail.length:=by have:=(List.getElem?_eq_some_iff.1 h1).1;omega
 have l2: ¬ (a.tail.length:Int)=0:=by omega
 unfold B7j at hz
 have hm:=hn
 intro σ
 rcases D2c p q z with⟨rfl,rfl,e⟩|⟨rfl,c,e⟩|⟨c,e⟩ <;>rw[e] <;>clear e
 all_goals(try replace c:=eq_false c)
 all_goals
  refine aJ.of_awp mixed Tryz.func156 rfl (by kernel_rfl) (by kernel_rfl) (by simp[Tryz.ntmps156]) Tryz.results156 ?_
  repeat'(first|refine xs ?_ ?_ <;>intros|(refine wn ?_;intro bx hbx;try simp only[fb]at hbx)|refine wp hrow ?_|refine wp hn ?_|refine wp hz ?_|refine wp hm ?_|refine wj ?_|simp -dsimp only[↓bp,bq,br,seval,rE, *]|refine wz ?_|fail)
  all_goals rfl
theorem D3g(a b:aA)(p q z:Int)(y:aA)(hrow:aB Tryz.prog G 157 [aH a.items,aH b.items] (.int .i64 p))(hn:aB Tryz.prog G 153 [.int .i64 a.items.length, .int .i64 b.items.length] (.int .i64 q))(h1:(a.tail.length:Int)=0)(h2:b.tail[0]? =some y)(hz:aB Tryz.prog G 112 [B7j,y.enc] (.int .i64 z)):aB Tryz.prog G 156 [a.enc,b.enc] (.int .i64 (lex (lex p q) z)):=by
 have l1:(0:Int) < b.tail.length:=by have:=(List.getElem?_eq_some_iff.1 h2).1;omega
 have l2: ¬ (b.tail.length:Int)=0:=by omega
 unfold B7j at hz
 have hm:=hn
 intro σ
 rcases D2c p q z with⟨rfl,rfl,e⟩|⟨rfl,c,e⟩|⟨c,e⟩ <;>rw[e] <;>clear e
 all_goals(try replace c:=eq_false c)
 all_goals
  refine aJ.of_awp mixed Tryz.func156 rfl (by kernel_rfl) (by kernel_rfl) (by simp[Tryz.ntmps156]) Tryz.results156 ?_
  repeat'(first|refine xs ?_ ?_ <;>intros|(refine wn ?_;intro bx hbx;try simp only[fb]at hbx)|refine wp hrow ?_|refine wp hn ?_|refine wp hz ?_|refine wp hm ?_|refine wj ?_|simp -dsimp only[↓bp,bq,br,seval,rE, *]|refine wz ?_|fail)
  all_goals rfl
theorem D3h(a b:aA)(p q z:Int)(x y:aA)(hrow:aB Tryz.prog G 157 [aH a.items,aH b.items] (.int .i64 p))(hn:aB Tryz.prog G 153 [.int .i64 a.items.length, .int .i64 b.items.length] (.int .i64 q))(h1:a.tail[0]? =some x)(h2:b.tail[0]? =some y)(hz:aB Tryz.prog G 112 [x.enc,y.enc] (.int .i64 z)):aB Tryz.prog G 156 [a.enc,b.enc] (.int .i64 (lex (lex p q) z)):=by
 have l1:(0:Int) < b.tail.length:=by have:=(List.getElem?_eq_some_iff.1 h2).1;omega
 have l2: ¬ (b.tail.length:Int)=0:=by omega
 have l3:(0:Int) < a.tail.length:=by have:=(List.getElem?_eq_some_iff.1 h1).1;omega
 have l4: ¬ (a.tail.length:Int)=0:=by omega
 have hm:=hn
 intro σ
 rcases D2c p q z with⟨rfl,rfl,e⟩|⟨rfl,c,e⟩|⟨c,e⟩ <;>rw[e] <;>clear e
 all_goals(try replace c:=eq_false c)
 all_goals
  refine aJ.of_awp mixed Tryz.func156 rfl (by kernel_rfl) (by kernel_rfl) (by simp[Tryz.ntmps156]) Tryz.results156 ?_
  repeat'(first|refine xs ?_ ?_ <;>intros|(refine wn ?_;intro bx hbx;try simp only[fb]at hbx)|refine wp hrow ?_|refine wp hn ?_|refine wp hz ?_|refine wp hm ?_|refine wj ?_|simp -dsimp only[↓bp,bq,br,seval,rE, *]|refine wz ?_|fail)
  all_goals rfl
theorem C1y(t:aA)(h:wr t=true):t.bulk <=1000000:=by
 obtain⟨_,h2,_,h4,h5,h6,_⟩:=oR h
 have:=t.bulk_eq
 rw[h2,h4,h5]at this
 simp[aV]at this
 omega
theorem D3j(a b:aA)(ke:(a.knd=b.knd)=True)(n1:(a.knd=1)=False)(k1:(a.knd=2)=True)(k2:(b.knd=2)=True):aB Tryz.prog G 112 [a.enc,b.enc] (.int .i64 (pL a.text b.text)):=by
 have hp:=C0t G a.text b.text
 intro σ
 refine aJ.of_awp mixed Tryz.func112 rfl (by kernel_rfl) (by kernel_rfl) (by simp[Tryz.ntmps112]) Tryz.results112 ?_
 repeat'(first|refine xs ?_ ?_ <;>intros|(refine wn ?_;intro bx hbx;try simp only[fb]at hbx)|refine wp hp ?_|refine wj ?_|simp -dsimp only[↓bp,bq,br,seval,rE, *]|refine wz ?_|fail)
 all_goals rfl
theorem D3i(a b:aA)(ke:(a.knd=b.knd)=True)(k1:(a.knd=1)=True)(k2:(b.knd=1)=True)(h1:wr a=true)(h2:wr b=true):aB Tryz.prog G 112 [a.enc,b.enc] (.int .i64 (B4b a b)):=by
 have hp:=C6k G a b h1 h2 (C1y a h1) (C1y b h2)
 clear h1 h2
 intro σ
 refine aJ.of_awp mixed Tryz.func112 rfl (by kernel_rfl) (by kernel_rfl) (by simp[Tryz.ntmps112]) Tryz.results112 ?_
 repeat'(first|refine xs ?_ ?_ <;>intros|(refine wn ?_;intro bx hbx;try simp only[fb]at hbx)|refine wp hp ?_|refine wj ?_|simp -dsimp only[↓bp,bq,br,seval,rE, *]|refine wz ?_|fail)
 all_goals rfl
theorem D3k(a b:aA)(ke:(a.knd=b.knd)=True)(n1:(a.knd=1)=False)(n2:(a.knd=2)=False)(k1:(a.knd=7)=True)(k2:(b.knd=7)=True)(z:Int)(hp:aB Tryz.prog G 156 [a.enc,b.enc] (.int .i64 z)):aB Tryz.prog G 112 [a.enc,b.enc] (.int .i64 z):=by
 intro σ
 refine aJ.of_awp mixed Tryz.func112 rfl (by kernel_rfl) (by kernel_rfl) (by simp[Tryz.ntmps112]) Tryz.results112 ?_
 repeat'(first|refine xs ?_ ?_ <;>intros|(refine wn ?_;intro bx hbx;try simp only[fb]at hbx)|refine wp hp ?_|refine wj ?_|simp -dsimp only[↓bp,bq,br,seval,rE, *]|refine wz ?_|fail)
 all_goals rfl
theorem D3l(a b:aA)(ke:(a.knd=b.knd)=True)(k1:(b.knd=1)=False)(k2:(b.knd=2)=False)(k7:(b.knd=7)=False)(p q z:Int)(hm:aB Tryz.prog G 153 [.int .i64 a.num, .int .i64 b.num] (.int .i64 p))(hn:aB Tryz.prog G 153 [.int .i64 a.items.length, .int .i64 b.items.length] (.int .i64 q))(hrow:aB Tryz.prog G 157 [aH a.items,aH b.items] (.int .i64 z)):aB Tryz.prog G 112 [a.enc,b.enc] (.int .i64 (lex (lex p q) z)):=by
 have e:a.knd=b.knd:=ke ▸ trivial
 have k1':(a.knd=1)=False:=by rw[e];exact k1
 have k2':(a.knd=2)=False:=by rw[e];exact k2
 have k7':(a.knd=7)=False:=by rw[e];exact k7
 clear e
 have hz:=hrow
 intro σ
 rcases D2c p q z with⟨rfl,rfl,e⟩|⟨rfl,c,e⟩|⟨c,e⟩ <;>rw[e] <;>clear e
 all_goals(try replace c:=eq_false c)
 all_goals
  refine aJ.of_awp mixed Tryz.func112 rfl (by kernel_rfl) (by kernel_rfl) (by simp[Tryz.ntmps112]) Tryz.results112 ?_
  repeat'(first|refine xs ?_ ?_ <;>intros|(refine wn ?_;intro bx hbx;try simp only[fb]at hbx)|refine wp hrow ?_|refine wp hn ?_|refine wp hz ?_|refine wp hm ?_|refine wj ?_|simp -dsimp only[↓bp,bq,br,seval,rE, *]|refine wz ?_|fail)
  all_goals rfl
theorem A2e(a:aA):∀ b:aA,a.bulk <=1000000000 ->b.bulk <=1000000000 ->right a=true ->right b=true ->aB Tryz.prog G 112 [a.enc,b.enc] (.int .i64 (iO a b)):=by
 refine aA.ind (P:=fun a=>∀ b:aA,a.bulk <=1000000000 ->b.bulk <=1000000000 ->right a=true ->right b=true ->aB Tryz.prog G 112 [a.enc,b.enc] (.int .i64 (iO a b))) (fun a ih1 ih2 b ha hb ra rb=> ?_) a
 have A:=jV ra
 have B:=jV rb
 by_cases hk:a.knd=b.knd
 rotate_left
 ·rw[A5l hk];exact vG G a b hk
 have hitems:∀ x,x ∈ a.items ->∀ y,y ∈ b.items ->aB Tryz.prog G 112 [x.enc,y.enc] (.int .i64 (iO x y)):=fun x hx y hy=>
  ih1 x hx y (by have:=dJ hx;omega) (by have:=dJ hy;omega) (A.items x hx) (B.items y hy)
 have hrow:=C0q G a.items b.items (by have:=cA a;omega) (by have:=cA b;omega) hitems
 have hn:=uW G a.items.length b.items.length
 rw[uX,if_neg (show ¬ a.knd ≠ b.knd by simp[hk])]
 by_cases h1:a.knd=1
 ·rw[if_pos h1]
  exact D3i G a b (eq_true hk) (eq_true h1) (eq_true (by omega)) (A.int h1) (B.int (by omega))
 rw[if_neg h1]
 by_cases h7:a.knd=7
 ·rw [if_pos h7]
  refine D3k G a b (eq_true hk) (eq_false (by omega)) (eq_false (by omega)) (eq_true h7) (eq_true (by omega)) _ ?_
  obtain⟨c1,c2,c3⟩:=A.list h7
  obtain⟨d1,d2,d3⟩:=B.list (by omega)
  cases ea:a.tail with
  | nil=>cases eb:b.tail with
   | nil=>
    rw[tl]
    exact D3e G a b _ _ hrow hn (by rw[ea];rfl) (by rw[eb];rfl)
   | cons y r=>
    rw[tl]
    refine D3g G a b _ _ _ y hrow hn (by rw[ea];rfl) (by rw[eb];rfl) ?_
    exact(vG G (bA [] []) y (fun h=>d3 y (by rw[eb];simp) h.symm)).lessArgs (.cons B7k (.cons (Le.refl _) .nil))
  | cons x l=>cases eb:b.tail with
   | nil=>
    rw[tl]
    refine D3f G a b _ _ _ x hrow hn (by rw[ea];rfl) (by rw[eb];rfl) ?_
    exact(vG G x (bA [] []) (c3 x (by rw[ea];simp))).lessArgs (.cons (Le.refl _) (.cons B7k .nil))
   | cons y r=>
    rw[tl]
    have hx:x ∈ a.tail:=by rw[ea];simp
    have hy:y ∈ b.tail:=by rw[eb];simp
    exact D3h G a b _ _ _ x y hrow hn (by rw[ea];rfl) (by rw[eb];rfl) (ih2 x hx y (by have:=dK hx;omega) (by have:=dK hy;omega) (A.tail x hx) (B.tail y hy))
 ·rw [if_neg h7]
  obtain⟨_,_,a3,a4,a5,a6⟩:=A.rest h1
  obtain⟨_,_,b3,b4,b5,b6⟩:=B.rest (by omega)
  by_cases h2:a.knd=2
  ·rw[a5 (.inl h2),b5 (.inl (by omega)),a6 (.inl h2),b6 (.inl (by omega))]
   have e:∀ s,lex (lex s (lex (dR 0 0) (dR (([]:List aA).length:Int) (([]:List aA).length:Int)))) (lK [] [])=s:=by
    intro s
    have:dR (([]:List aA).length:Int) (([]:List aA).length:Int)=0:=rfl
    rw[this]
    have:dR 0 0=0:=rfl
    rw[this]
    unfold lex lK
    split <;>simp_all
   rw[e]
   exact D3j G a b (eq_true hk) (eq_false (by omega)) (eq_true h2) (eq_true (by omega))
  ·rw[a3 h2,b3 (by omega)]
   have e:∀ p q z,lex (lex (pL [] []) (lex p q)) z=lex (lex p q) z:=fun p q z=>rfl
   rw[e]
   exact D3l G a b (eq_true hk) (eq_false (by omega)) (eq_false (by omega)) (eq_false (by omega)) _ _ _ (uW G a.num b.num) hn hrow
theorem gD(t:aA)(hb:t.bulk <=1000000000):aB Tryz.prog G 15 [t.enc] (.bool (right t)):=zE G t (A6b G t hb)
theorem A7z(a b:aA)(ha:a.bulk <=1000000000)(hb:b.bulk <=1000000000):aB Tryz.prog G 67 [a.enc,b.enc] (.int .i64 (sU a b)):=by
 have r1:=gD G a ha
 have r2:=gD G b hb
 have ho:=A2e G a b ha hb
 have e:sU a b=if right a=true /\ right b=true then iO a b else 0:=rfl
 rw[e]
 clear ha hb e
 generalize iO a b=z at*
 generalize right a=x at*
 generalize right b=y at*
 intro σ
 cases x <;>cases y
 all_goals(first|replace ho:=ho rfl rfl|clear ho)
 all_goals
  refine aJ.of_awp mixed Tryz.func67 rfl (by kernel_rfl) (by kernel_rfl) (by simp[Tryz.ntmps67]) Tryz.results67 ?_
  repeat'(first|refine xs ?_ ?_ <;>intros|(refine wn ?_;intro bx hbx;try simp only[fb]at hbx)|refine wp r1 ?_|refine wp r2 ?_|refine wp ho ?_|refine wj ?_|simp -dsimp only[↓bp,bq,br,seval,rE, *]|refine wz ?_|fail)
  all_goals rfl
theorem C0s(a b:aA)(ha:a.bulk <=1000000000)(hb:b.bulk <=1000000000):aB Tryz.prog G 68 [a.enc,b.enc] (.bool (wR a b)):=by
 have r1:=gD G a ha
 have r2:=gD G b hb
 have ho:=A2e G a b ha hb
 have e:wR a b=(right a && (right b && decide (iO a b=0))):=by unfold wR;cases right a <;>cases right b <;>simp
 rw[e]
 clear ha hb e
 generalize iO a b=z at*
 generalize right a=x at*
 generalize right b=y at*
 intro σ
 cases x <;>cases y
 all_goals(first|replace ho:=ho rfl rfl|clear ho)
 all_goals
  refine aJ.of_awp mixed Tryz.func68 rfl (by kernel_rfl) (by kernel_rfl) (by simp[Tryz.ntmps68]) Tryz.results68 ?_
  repeat'(first|refine xs ?_ ?_ <;>intros|(refine wn ?_;intro bx hbx;try simp only[fb]at hbx)|refine wp r1 ?_|refine wp r2 ?_|refine wp ho ?_|refine wj ?_|simp -dsimp only[↓bp,bq,br,seval,rE, *]|refine wz ?_|fail)
  all_goals rfl
end
section
def bv:List Bool ->Nat
 |[]=>0
 |d::l=>d.toNat+2*bv l
theorem C8h(d:Bool)(l:List Bool)(i:Nat):qL (d::l) i=if i=0 then d else qL l (i - 1):=by
 cases i <;>simp[qL]
theorem xM:∀ (l:List Bool) (i:Nat),qL l i=(bv l).testBit i
 |[],i=>by simp[qL,bv]
 | d::l,i=>by
  rw[C8h,bv]
  cases i with
  |zero=>cases d <;>simp[Nat.testBit_zero] <;>omega
  | succ i=>
   rw[if_neg (by omega),Nat.add_sub_cancel,xM l i,Nat.testBit_succ]
   congr 1
   cases d <;>simp <;>omega
theorem E1m{x:List Bool}{a:Nat}(h:∀ i,qL x i=a.testBit i):bv x=a:=
 Nat.eq_of_testBit_eq fun i=>by rw[<- xM,h]
theorem nN(l:List Bool):bv (cL l)=bv l:=E1m fun i=>by rw[B1e,xM]
theorem D6i(l:List UInt32):bv (eU l)=val l:=E1m (yI l)
theorem C8p(x y:List Bool):below x y=decide (bv x < bv y):=A8s (xM x) (xM y)
theorem A4j(l:List Bool):∀ n,sX l n=0 \/ qL l (sX l n - 1)=true
 |0=> .inl rfl
 | n+1=>by
  simp only[sX]
  by_cases h:qL l n=false
  ·rw[if_pos h];exact A4j l n
  ·rw[if_neg h];right;simpa using h
theorem E2r{l:List Bool}(h:bv l=0):cL l=[]:=by
 have h1:=A4j l l.length
 have h2:sX l l.length=0:=by
  rcases h1 with h1|h1
  ·exact h1
  ·rw[xM,h]at h1;simp at h1
 unfold cL;rw[h2];rfl
theorem yK(l:List Bool):((cL l).length=0) ↔ bv l=0:=by
 constructor
 ·intro h
  have:cL l=[]:=List.eq_nil_of_length_eq_zero h
  rw[<- nN,this];rfl
 ·intro h;rw[E2r h];rfl
theorem B3z:∀ l:List Bool,bv l < 2 ^ l.length
 |[]=>by simp[bv]
 | d::l=>by
  have:=B3z l
  rw[bv,List.length_cons,Nat.pow_succ]
  cases d <;>simp <;>omega
def pT:List Bool ->List Bool ->Bool ->List Bool
 |[],_,_=> []
 |x::l,y,bo=> ((x !=y.headD false) !=bo)::pT l y.tail (!x && (y.headD false||bo)||x && y.headD false && bo)
theorem A0n:∀ x y bo,(pT x y bo).length=x.length
 |[],_,_=>rfl
 |x::l,y,bo=>by simp only[pT,List.length_cons];rw[A0n l]
theorem D6j:∀ y:List Bool,bv y=(y.headD false).toNat+2*bv y.tail
 |[]=>by simp[bv]
 |d::l=>by simp[bv]
theorem A9c:∀ x y bo,bv y+bo.toNat <=bv x ->bv (pT x y bo)+bv y+bo.toNat=bv x
 |[],y,bo,h=>by simp only[pT,bv]at*;omega
 | x::l,y,bo,h=>by
  have hy:=D6j y
  simp only[pT,bv]at*
  generalize y.headD false=u at*
  generalize y.tail=Y at*
  have ih:=A9c l Y (!x && (u||bo)||x && u && bo)
  cases x <;>cases u <;>cases bo <;>simp only[Bool.not_true,Bool.not_false,Bool.true_and,Bool.false_and,Bool.or_true,Bool.or_false,Bool.true_or,Bool.false_or,Bool.toNat_true,Bool.toNat_false,bne_self_eq_false,Bool.true_bne,Bool.false_bne,Bool.bne_true,Bool.bne_false,Bool.and_true,Bool.and_false]at* <;>omega
def yX(a b:List Bool):List Bool:=cL (pT a b false)
theorem C5q{a b:List Bool}(h:bv b <=bv a):bv (yX a b)=bv a - bv b:=by
 unfold yX
 rw[nN]
 have:=A9c a b false (by simpa using h)
 simp at this
 omega
theorem C5p(a b:List Bool):(yX a b).length <=a.length:=by
 unfold yX
 have:=iK (pT a b false)
 rw[A0n]at this
 exact this
def tU(x:Bool)(r b:List Bool):List Bool × Bool:=if below (cL (x::r)) b=true then(cL (x::r),false)else(yX (cL (x::r)) b,true)
def dO:List Bool ->List Bool ->List Bool × List Bool
 |[],_=> ([],[])
 |x::l,b=> ((tU x (dO l b).2 b).2::(dO l b).1,(tU x (dO l b).2 b).1)
theorem C6v(x:Bool)(r b:List Bool):(tU x r b).1.length <=r.length+1:=by
 unfold tU
 have h:=iK (x::r)
 simp only[List.length_cons]at h
 split
 ·exact h
 ·have:=C5p (cL (x::r)) b;simp only;omega
theorem pZ(b:List Bool):∀ a,(dO a b).1.length=a.length /\ (dO a b).2.length <=a.length
 |[]=> ⟨rfl,Nat.le_refl _⟩
 | x::l=>by
  have ih:=pZ b l
  have:=C6v x (dO l b).2 b
  simp only[dO,List.length_cons]
  omega
theorem A5s{b:List Bool}(hb:0 < bv b):∀ a,bv (dO a b).1*bv b+bv (dO a b).2=bv a /\ bv (dO a b).2 < bv b
 |[]=>by simp only[dO,bv];omega
 | x::l=>by
  obtain⟨h1,h2⟩:=A5s hb l
  simp only[dO]
  generalize hq:(dO l b).1=q at*
  generalize hr:(dO l b).2=r at*
  unfold tU
  have e2:bv (x::r)=x.toNat+2*bv r:=rfl
  rw[C8p,nN,e2]
  have e:bv (x::l)=x.toNat+2*bv l:=rfl
  rw[e,<- h1]
  by_cases hc:x.toNat+2*bv r < bv b
  ·rw[if_pos (decide_eq_true hc)]
   simp only[bv,nN,Bool.toNat_false,Nat.zero_add]
   refine⟨?_,hc⟩
   rw[Nat.mul_assoc];omega
  ·rw[if_neg (by simpa using hc)]
   have hl:bv b <=bv (cL (x::r)):=by rw[nN];simp only[bv];omega
   have hv:=C5q hl
   rw[nN]at hv
   simp only[bv]at hv
   simp only[bv,Bool.toNat_true]
   rw[hv]
   have hx:x.toNat <=1:=by cases x <;>simp
   refine⟨?_,by omega⟩
   rw[Nat.add_mul,Nat.one_mul,Nat.mul_assoc]
   omega
def A6o:List Bool:=[false,true,false,true]
theorem E0y:bv A6o=10:=rfl
theorem C6g(l:List Bool):bv (cL (dO l A6o).1)=bv l / 10 /\ bv (dO l A6o).2=bv l % 10:=by
 have h:=A5s (b:=A6o) (by decide) l
 rw[E0y]at h
 rw[nN]
 omega
end
set_option maxRecDepth 20000
section
def rF:=And.intro (And.intro (And.intro (And.intro @jD (And.intro @iZ @jJ)) (And.intro @eG (And.intro @qI @jE))) (And.intro (And.intro @dL (And.intro @eN @dV)) (And.intro @eD (And.intro @wT @lU)))) (And.intro (And.intro (And.intro @aA.flat_enc (And.intro @aA.isv_enc @aA.fold_enc)) (And.intro @aS (And.intro @aN @aU))) (And.intro (And.intro @aQ (And.intro @aM @aZ)) (And.intro @kB (And.intro @iU @lE))))
variable (G:Nat ->AV)
theorem hU{P:Program}{t:TypeId}{k:IntKind}(l:List Bool)(i:Nat):fV P t (fM l) (.int k (i:Int))=ixk ((el P t).bind (tk P)) ((l[i]?).map AV.bool):=by
 simp[fM,jQ]
theorem B9j(y:List Bool)(i:Nat):(y.drop i).headD false=qL y i:=by
 unfold qL
 rw[List.headD_eq_head?_getD,List.head?_drop]
theorem C1d(y:List Bool)(i:Nat):(y.drop i).tail=y.drop (i+1):=by rw[List.tail_drop]
set_option maxHeartbeats 2000000 in
theorem C5r(a b:List Bool)(ha:a.length <=1000000)(hb:b.length <=1000000):aB Tryz.prog G 168 [fM a,fM b] (fM (yX a b)):=by
 have hcut:=(pO G (pT a b false) (by rw[A0n];omega))
 have hat:∀ i:Nat,i <=1000000 ->aB Tryz.prog G 183 [fM b, .int .i64 i] (.bool (qL b i)):=fun i hi=>B1f G b i (by omega) (by omega)
 refine aB.of_le fun σ=> ?_
 refine aJ.of_awp mixed Tryz.func168 rfl (by kernel_rfl) (by kernel_rfl) (by simp[Tryz.ntmps168]) Tryz.results168 ?_
 simp -dsimp only[↓bp,bq,br,seval,rF,hU]
 refine aI (fun n e σ'=>∃ (i:Nat) (pre:List Bool) (v:AV) (bo:Bool),i <=a.length /\ n=a.length - i /\ e 7= .int .i64 i /\ e 5=v /\ e 6= .bool bo /\ kL 1 σ σ' v (pre.map AV.bool) /\ pre.length=i /\ pT a b false=pre++pT (a.drop i) (b.drop i) bo) a.length
  ⟨0,[], .nil,false,by omega,by omega,by first|(simp -dsimp only[↓bp,bq,br,seval,rF,hU];done)|(simp -dsimp only[↓bp,bq,br,seval,rF,hU];try rfl),by first|(simp -dsimp only[↓bp,bq,br,seval,rF,hU];done)|(simp -dsimp only[↓bp,bq,br,seval,rF,hU];try rfl),by first|(simp -dsimp only[↓bp,bq,br,seval,rF,hU];done)|(simp -dsimp only[↓bp,bq,br,seval,rF,hU];try rfl), .nil (AS.le.refl σ),rfl,by simp⟩ ?_
 rintro n e1 σ2 ⟨i,pre,v,bo,hi,rfl,h7,h5,h6,hB,hpl,hz⟩
 simp -dsimp only[↓bp,bq,br,seval,rF,hU]at h7 h5 h6
 by_cases hlt:i < a.length
 ·obtain⟨x,hx⟩:∃ x,a[i]? =some x:=⟨_,List.getElem?_eq_getElem hlt⟩
  have hp:=hat i (by omega)
  have hw:IntKind.i64.wrap ((i:Int)+1)=((i+1:Nat):Int):=by rw[aC (by omega) (by omega)];rfl
  have hlt':((i:Int) < a.length)=True:=eq_true (by omega)
  rw[dC _ _ _ hx,pT,B9j,C1d]at hz
  have hpm:pre.length <=1000000:=by omega
  generalize qL b i=u at*
  clear hat hcut
  have key:∀ (z c:Bool),z=((x !=u) !=bo) ->c=(!x && (u||bo)||x && u && bo) ->∀ (v3:AV) (σ3:AS),kL 1 σ σ3 v3 (pre.map AV.bool++[.bool z]) ->∃ m,m < a.length - i /\ ∃ (i_1:Nat) (pre:List Bool) (v:AV) (bo:Bool),i_1 <=a.length /\ m=a.length - i_1 /\ AV.int .i64 ((i+1:Nat):Int)=AV.int .i64 (i_1:Int) /\ v3=v /\ AV.bool c=AV.bool bo /\ kL 1 σ σ3 v (pre.map AV.bool) /\ pre.length=i_1 /\ pT a b false=pre++pT (a.drop i_1) (b.drop i_1) bo:=by
   rintro z c rfl rfl v3 σ3 hB3
   refine⟨a.length - (i+1),by omega,i+1,pre++[(x !=u) !=bo],v3,_,by omega,rfl,rfl,rfl,rfl,by rw[List.map_append];exact hB3,by simp[hpl],?_⟩
   rw[hz];simp
  clear hz
  cases x <;>cases u <;>cases bo
  all_goals
   repeat'(first|refine xs ?_ ?_ <;>intros|(refine wn ?_;intro bx hbx;try simp only[fb]at hbx)|refine wp hp ?_|(refine eK tbB rfl rfl (by omega) ?_)|(refine iH (ys:=[.bool _]) hB tbB (bJ B7e) (fun a ha=>by simp at ha;subst ha;rfl) (by simp;omega) (fun v3 σ3 hB4 hx4=> ?_))|refine wj ?_|simp -dsimp only[↓bp,bq,br,seval,rF,hU, *]|refine wz ?_|fail)
   all_goals exact key _ _ rfl rfl _ _ hB4
 ·have:i=a.length:=by omega
  subst this
  have hlt':((a.length:Int) < a.length)=False:=eq_false (by omega)
  rw[List.drop_length,pT,List.append_nil]at hz
  rw[hz]at hcut
  have hc2:=hcut.lessArgs (args:=[v]) (.cons hB.told .nil)
  have e:yX a b=cL pre:=by unfold yX;rw[hz]
  rw[e]
  have hle:=hB.le
  clear hat hz hi hlt hcut
  repeat'(first|refine xs ?_ ?_ <;>intros|(refine wn ?_;intro bx hbx;try simp only[fb]at hbx)|refine wp hc2 ?_|refine wj ?_|simp -dsimp only[↓bp,bq,br,seval,rF,hU, *]|refine wz ?_|fail)
  exact aL (Le.refl _) hle
end
set_option maxRecDepth 20000
section
def nU:=And.intro (And.intro (And.intro (And.intro @jD (And.intro @iZ @jJ)) (And.intro @eG (And.intro @qI @jE))) (And.intro (And.intro @dL (And.intro @eN @dV)) (And.intro @eD (And.intro @wT @lU)))) (And.intro (And.intro (And.intro @aA.flat_enc (And.intro @aA.isv_enc @aA.fold_enc)) (And.intro @aS (And.intro @aN @aU))) (And.intro (And.intro @aQ (And.intro @aM @aZ)) (And.intro (And.intro @kB @iU) (And.intro @lE @hU))))
variable (G:Nat ->AV)
theorem C6l(n:Nat):(List.replicate n [AV.bool false]).flatten=(List.replicate n false).map AV.bool:=by
 induction n with
 |zero=>rfl
 |succ n ih=>rw[List.replicate_succ,List.flatten_cons,ih,List.replicate_succ];rfl
theorem tzB:(el Tryz.prog 129).bind (zc Tryz.prog)=some [.bool false]:=by kernel_rfl
theorem B4v(l:List Bool):wK l.length 1 (l.map AV.bool) (l.map AV.bool):=by
 have:=wK.ones (xs:=l.map AV.bool) (fun a ha=>by
  obtain⟨x,_,rfl⟩:=List.mem_map.1 ha
  exact⟨rfl,rfl⟩)
 rwa [List.length_map]at this
def rB(a b:List Bool)(n:Nat):List Bool:=List.replicate n false++(dO (a.drop n) b).1
theorem A5u(a b:List Bool)(n:Nat)(h:n <=a.length):(rB a b n).length=a.length:=by
 unfold rB
 rw[List.length_append,List.length_replicate,(pZ b _).1,List.length_drop];omega
theorem C6j{a b:List Bool}{n:Nat}{x:Bool}(hx:a[n]? =some x):rB a b n=(rB a b (n+1)).set n (tU x (dO (a.drop (n+1)) b).2 b).2:=by
 unfold rB
 rw[dC _ _ _ hx,dO]
 generalize(dO (a.drop (n+1)) b).1=q
 generalize(tU x (dO (a.drop (n+1)) b).2 b).2=d
 refine List.ext_getElem? fun j=> ?_
 rw[List.getElem?_set]
 by_cases h:n=j
 ·subst h
  rw[if_pos rfl,if_pos (by simp;omega),List.getElem?_append_right (by simp)]
  simp
 ·rw[if_neg h]
  by_cases h2:j < n
  ·rw[List.getElem?_append_left (by simpa using h2),List.getElem?_append_left (by simp;omega),List.getElem?_replicate,List.getElem?_replicate,if_pos h2,if_pos (by omega)]
  ·rw[List.getElem?_append_right (by simp;omega),List.getElem?_append_right (by simp;omega)]
   simp only[List.length_replicate]
   rw[show j - n=(j - (n+1))+1 by omega,List.getElem?_cons_succ]
theorem C6o(l:List Bool)(i:Nat)(h:i < l.length)(d:Bool):(l.map AV.bool).take i++[AV.bool d]++(l.map AV.bool).drop (i+1)=(l.set i d).map AV.bool:=by
 rw[List.set_eq_take_append_cons_drop,if_pos h]
 simp
theorem D3v{l:List Bool}{i:Nat}(h:l[i]? =some false):l.set i false=l:=by
 refine List.ext_getElem? fun j=> ?_
 rw[List.getElem?_set]
 by_cases e:i=j
 ·subst e
  rw[if_pos rfl,if_pos (List.getElem?_eq_some_iff.1 h).1,h]
 ·rw[if_neg e]
set_option maxHeartbeats 4000000 in
theorem C0k(a b:List Bool)(ha:a.length <=100000)(hb:b.length <=100000):aB Tryz.prog G 126 [fM a,fM b] (.tup [fM (cL (dO a b).1),fM (dO a b).2]):=by
 have hlen:=fun n=>pZ b (a.drop n)
 have hw0:IntKind.i64.wrap ((a.length:Int) - 1)=a.length - 1:=aC (by omega) (by omega)
 refine aB.of_le fun σ=> ?_
 refine aJ.of_awp mixed Tryz.func126 rfl (by kernel_rfl) (by kernel_rfl) (by simp[Tryz.ntmps126]) Tryz.results126 ?_
 repeat'(first|refine xs ?_ ?_ <;>intros|(refine wn ?_;intro bx hbx;try simp only[fb]at hbx)|refine wj ?_|simp -dsimp only[↓bp,bq,br,seval,nU,hw0, *]|refine wz ?_|fail)
 refine rV a.length tbB tzB (by omega) (fun qb hq=> ?_)
 have hσq:σ.le (σ.setBox qb (List.replicate a.length [AV.bool false]).flatten):=cE hq (AS.le.refl σ)
 repeat'(first|refine xs ?_ ?_ <;>intros|(refine wn ?_;intro bx hbx;try simp only[fb]at hbx)|refine wj ?_|simp -dsimp only[↓bp,bq,br,seval,nU,hw0, *]|refine wz ?_|fail)
 refine aI (fun n e σ'=>∃ v7:AV,n <=a.length /\ e 8= .int .i64 ((n:Int) - 1) /\ e 7=v7 /\ lJ Tryz.prog 129 v7=some ((dO (a.drop n) b).2.map AV.bool) /\ Le v7 (fM (dO (a.drop n) b).2) /\ σ.le σ' /\ σ'.box qb=some ((rB a b n).map AV.bool)) a.length
  ⟨.nil,Nat.le_refl _,by first|(simp -dsimp only[↓bp,bq,br,seval,nU,hw0];done)|(simp -dsimp only[↓bp,bq,br,seval,nU,hw0];try rfl),by first|(simp -dsimp only[↓bp,bq,br,seval,nU];done)|(simp -dsimp only[↓bp,bq,br,seval,nU];try rfl),by rw[List.drop_length];unfold lJ;rw[B7e];rfl,by rw[List.drop_length];exact Le.nil,hσq,by simp[AS.setBox,rB,C6l,dO]⟩ ?_
 rintro n e1 σ2 ⟨v7,hn,h8,h7,hs7,hl7,hle,hqb⟩
 clear hσq hw0
 simp -dsimp only[↓bp,bq,br,seval,nU]at h8 h7
 cases n with
 | zero=>
  have hc:(0 <=((0:Nat):Int) - 1)=False:=eq_false (by omega)
  have hcut:=pO G (rB a b 0) (by rw[A5u _ _ _ (by omega)];omega)
  have hit:=B4v (rB a b 0)
  rw[A5u _ _ _ (by omega)]at hit
  have hc2:aB Tryz.prog G 152 [.sl (.own qb) ((rB a b 0).map AV.bool) []] (fM (cL (rB a b 0))):=hcut.lessArgs (.cons Le.gh .nil)
  have hq0:rB a b 0=(dO a b).1:=by simp[rB]
  rw[List.drop_zero]at hl7
  have hfl:σ.le (σ2.froze qb a.length 1):=AS.froze_le hle hq.1 hq.2.1
  repeat'(first|refine xs ?_ ?_ <;>intros|(refine wn ?_;intro bx hbx;try simp only[fb]at hbx)|refine wj ?_|simp -dsimp only[↓bp,bq,br,seval,nU, *]|refine wz ?_|fail)
  refine B9g hqb hit hc2 ?_
  rw[hq0]
  repeat'(first|refine xs ?_ ?_ <;>intros|(refine wn ?_;intro bx hbx;try simp only[fb]at hbx)|refine wj ?_|simp -dsimp only[↓bp,bq,br,seval,nU, *]|refine wz ?_|fail)
  exact aE σ hfl ⟨Le.tup (.cons (Le.refl _) (.cons hl7 .nil)),rfl⟩
 | succ n=>
  obtain⟨x,hx⟩:∃ x,a[n]? =some x:=⟨_,List.getElem?_eq_getElem (by omega)⟩
  have hc:(0 <=(n:Int))=True:=eq_true (by omega)
  have e8:((n+1:Nat):Int) - 1=n:=by omega
  rw[e8]at h8
  have hwk:IntKind.i64.wrap ((n:Int) - 1)=n - 1:=aC (by omega) (by omega)
  have hdr:=dC _ _ _ hx
  have hqs:=C6j (b:=b) hx
  have h2:(dO (a.drop n) b).2=(tU x (dO (a.drop (n+1)) b).2 b).1:=by rw[hdr,dO]
  have hrl:(dO (a.drop (n+1)) b).2.length <=100000:=by
   have:=(hlen (n+1)).2
   rw[List.length_drop]at this
   omega
  have hq1:(rB a b (n+1))[n]? =some false:=by
   unfold rB
   rw[List.getElem?_append_left (by simp),List.getElem?_replicate,if_pos (by omega)]
  have hql:=A5u a b (n+1) hn
  generalize(dO (a.drop (n+1)) b).2=r at*
  have hcl:=iK (x::r)
  simp only[List.length_cons]at hcl
  have hcut:=pO G (x::r) (by simp only[List.length_cons];omega)
  have hbel:=xB G (cL (x::r)) b (by omega) (by omega)
  have hles:=C5r G (cL (x::r)) b (by omega) (by omega)
  clear hlen hdr hcl
  repeat'(first|refine xs ?_ ?_ <;>intros|(refine wn ?_;intro bx hbx;try simp only[fb]at hbx)|(refine yG (ys:=r.map AV.bool) (AS.le.refl _) (fun a ha=>by simp at ha;subst ha;rfl) tbB hs7 (fun a ha=>by obtain⟨y,_,rfl⟩:=List.mem_map.1 ha;rfl) (by simp;omega) (fun v3 σ3 hle3 hbx3 hl3 ho3=> ?_))|refine wj ?_|simp -dsimp only[↓bp,bq,br,seval,nU, *]|refine wz ?_|fail)
  have hcu:=hcut.lessArgs (args:=[v3]) (.cons hl3 .nil)
  have hle4:=hle.trans hle3
  have hb3:σ3.box qb=some ((rB a b (n+1)).map AV.bool):=by rw[hbx3];exact hqb
  have has:∀ l:List Bool,lJ Tryz.prog 129 (fM l)=some (l.map AV.bool):=fun l=>by unfold lJ fM;rw[B7e];rfl
  clear hcut hl3 hbx3 hqb hle hle3 hs7 hl7 h7
  by_cases hbl:below (cL (x::r)) b=true
  ·rw[hbl]at hbel
   have hst:tU x r b=(cL (x::r),false):=by unfold tU;rw[if_pos hbl]
   rw[hst]at hqs h2
   rw[D3v hq1]at hqs
   clear hles hbl hst
   repeat'(first|refine xs ?_ ?_ <;>intros|(refine wn ?_;intro bx hbx;try simp only[fb]at hbx)|refine wp hcu ?_|refine wp hbel ?_|refine wj ?_|simp -dsimp only[↓bp,bq,br,seval,nU,hwk, *]|refine wz ?_|fail)
   exact⟨n,by omega,_,by omega,rfl,rfl,by rw[h2];exact has _,by rw[h2];exact Le.refl _,by rw[hqs]⟩
  ·have hbl':below (cL (x::r)) b=false:=by simpa using hbl
   rw[hbl']at hbel
   have hst:tU x r b=(yX (cL (x::r)) b,true):=by unfold tU;rw[if_neg hbl]
   rw[hst]at hqs h2
   have hsb:=C6o (rB a b (n+1)) n (by omega) true
   rw[<- hqs]at hsb
   have hnl:(n:Int) < a.length:=by omega
   have hnl2:n+1 <=((rB a b (n+1)).map AV.bool).length:=by rw[List.length_map];omega
   have hle5:=cE (cs:=(rB a b n).map AV.bool) hq hle4
   have hbq5:(σ3.setBox qb ((rB a b n).map AV.bool)).box qb=some ((rB a b n).map AV.bool):=AS.set_get
   clear hbl hbl' hst
   repeat'(first|refine xs ?_ ?_ <;>intros|(refine wn ?_;intro bx hbx;try simp only[fb]at hbx)|refine wp hcu ?_|refine wp hbel ?_|refine wp hles ?_|refine wj ?_|simp -dsimp only[↓bp,bq,br,seval,nU,hwk, *]|refine wz ?_|fail)
   refine⟨n,by omega,_,by omega,rfl,rfl,by rw[h2];exact has _,by rw[h2];exact Le.refl _,?_⟩
   rw[Nat.mul_one,hsb]
   exact⟨hle5,rfl⟩
end
end Go.Proofs.YtdhbdhopnpmboaaGreatDoor
