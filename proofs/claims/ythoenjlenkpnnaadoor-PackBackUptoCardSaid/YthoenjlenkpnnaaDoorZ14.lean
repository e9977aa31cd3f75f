/- pack's reader: terms of the plain kinds. -/
import Derived.Test.YthoenjlenkpnnaaDoorZ12
import Derived.Test.YthoenjlenkpnnaaDoorZ13
import Derived.Test.YthoenjlenkpnnaaDoorZ06
import Derived.Test.YthoenjlenkpnnaaDoorZ11
set_option linter.unusedVariables false
set_option linter.unusedSimpArgs false
set_option maxRecDepth 20000
set_option linter.defProp false
namespace Go.Proofs.YthoenjlenkpnnaaDoor
open Go Go.Av
section
def A0j:=And.intro (And.intro (And.intro (And.intro @mD @mE) (And.intro @mA @lG)) (And.intro (And.intro @mB @lF) (And.intro @lJ @kN))) (And.intro (And.intro (And.intro @A7m @A7l) (And.intro @oB @jF)) (And.intro (And.intro @iB @bX) (And.intro @bL (And.intro @dO @cQ))))
variable {G:Nat ->AV}
def TC(G:Nat ->AV)(f:Nat):Prop:=∀ rb S st,st.1.length < f ->S.box rb=some (bY st) ->aJ Tryd.prog G 36 [.ptr rb 0] S fun r s=>r=(bD f st).1.enc /\ s=S.setBox rb (bY (bD f st).2)
theorem TC.one{f:Nat}(h:TC G f):A3v G 36 aF.enc (bD f) (fun st=>st.1.length < f):=
 ⟨h,fun st hs=>Nat.lt_of_le_of_lt (tQ f st) hs,fun s st hs=>Nat.lt_of_le_of_lt (dV s st) hs⟩
theorem TC.row{f:Nat}(h:TC G f){σ:AS}{rb:Nat}{st:dN}(hs:st.1.length < f)(hb:σ.box rb=some (bY st)):aJ Tryd.prog G 35 [.ptr rb 0,mfn 36 rb 0] σ fun r s=>r=cZ (aT (bD f) st).1 /\ s=σ.setBox rb (bY (aT (bD f) st).2):=C9t h.one hs hb
set_option maxHeartbeats 2000000 in
theorem D4x{f:Nat}(H:TC G f){σ:AS}{rb:Nat}{st:dN}(h:σ.box rb=some (bY st))(hk:(aH 1 st).1=2):aJ Tryd.prog G 36 [.ptr rb 0] σ fun r s=>r=(cJ (bD f) (aH 1 st).1 (aH 1 st).2).1.enc /\ s=σ.setBox rb (bY (cJ (bD f) (aH 1 st).1 (aH 1 st).2).2):=by
 have hne:∀ b',σ.fresh b' -> (rb=b')=False:=fun b' h'=>eq_false fun e=>by subst e;rw[h'.1]at h;cases h
 have hne2:∀ b',σ.fresh b' -> (b'=rb)=False:=fun b' h'=>eq_false fun e=>by subst e;rw[h'.1]at h;cases h
 refine uU ?_
 have t1:=fun(S:AS) (h:S.box rb=some (bY st))=>bB (G:=G) 1 (by omega) h
 have hk8:=gQ st
 generalize aH 1 st=a at*
 obtain⟨k,st1⟩:=a
 simp only at*
 have hconv:=lT hk8
 have e1:((k:Int)=1)=False:=eq_false (by omega)
 have e2:((k:Int)=2)=True:=eq_true (by omega)
 have e3:((k:Int)=3)=False:=eq_false (by omega)
 have e4:((k:Int)=4)=False:=eq_false (by omega)
 have e5:((k:Int)=5)=False:=eq_false (by omega)
 have e6:((k:Int)=6)=False:=eq_false (by omega)
 have e7:((k:Int)=7)=False:=eq_false (by omega)
 have hkm:cJ (bD f) k st1=(.mk 2 false [] (fX st1).1 0 [] [],(fX st1).2):=by simp[cJ,hk]
 rw[hkm]
 have t2:=fun(S:AS) (h:S.box rb=some (bY st1))=>A2v (G:=G) h
 generalize fX st1=a2 at*
 have hkq:PLift (_:Prop):=⟨hk⟩
 clear hk
 refine aJ.of_awp mixed Tryd.func36 rfl (by kernel_rfl) (by kernel_rfl) (by simp[Tryd.ntmps36]) Tryd.results36 ?_
 repeat'(first|refine xs ?_ ?_ <;>intros|(refine wn ?_;intro bx hbx;try simp only[fb]at hbx)|((refine aJ.mono (t1 _ (by simp[AS.setBox, *])) ?_;rintro r s ⟨rfl,rfl⟩;clear t1))|((refine aJ.mono (t2 _ (by simp[AS.setBox, *])) ?_;rintro r s ⟨rfl,rfl⟩;clear t2))|refine aP ?_|(refine aB ?_;intro bx hbx;(try simp only[fb]at hbx))|refine aD ?_|((with_reducible refine And.intro ?_ ?_);omega)|refine aA (d':=⟨⟩) ?_|refine aR (by kernel_rfl) ?_|refine aO ?_ (by repeat' first|exact lr _|assumption|refine ls ?_ ?_|refine lt ?_ ?_|simp only[*];done|simp only[fb, *,not_false_eq_true,and_self];done|exact lf ‹_› (by simp only[*]))|refine aC ?_ (by repeat' first|exact lr _|assumption|refine ls ?_ ?_|refine lt ?_ ?_|simp only[*];done|simp only[fb, *,not_false_eq_true,and_self];done|exact lf ‹_› (by simp only[*]))|simp -dsimp only[↓bp,bq,br,seval,A0j, *]|refine wz ?_|fail)
 exact aE (σ.setBox rb (bY a2.2)) (hN.le' (by repeat' first|exact hN.refl _|refine hN.setRb ?_ _|refine hN.setBox ?_ (by simp_all [AS.fresh]) _) (by simp[AS.setBox, *])) ⟨⟨_,_,_,by rw[hkq.down];rfl,Le.nil,Le.nil,Le.nil⟩,rfl⟩
set_option maxHeartbeats 2000000 in
theorem D0l{f:Nat}(H:TC G f){σ:AS}{rb:Nat}{st:dN}(h:σ.box rb=some (bY st))(hk:(aH 1 st).1=3 \/ (aH 1 st).1=5):aJ Tryd.prog G 36 [.ptr rb 0] σ fun r s=>r=(cJ (bD f) (aH 1 st).1 (aH 1 st).2).1.enc /\ s=σ.setBox rb (bY (cJ (bD f) (aH 1 st).1 (aH 1 st).2).2):=by
 have hne:∀ b',σ.fresh b' -> (rb=b')=False:=fun b' h'=>eq_false fun e=>by subst e;rw[h'.1]at h;cases h
 have hne2:∀ b',σ.fresh b' -> (b'=rb)=False:=fun b' h'=>eq_false fun e=>by subst e;rw[h'.1]at h;cases h
 refine uU ?_
 have t1:=fun(S:AS) (h:S.box rb=some (bY st))=>bB (G:=G) 1 (by omega) h
 have hk8:=gQ st
 generalize aH 1 st=a at*
 obtain⟨k,st1⟩:=a
 simp only at*
 have hconv:=lT hk8
 have e1:((k:Int)=1)=False:=eq_false (by omega)
 have e2:((k:Int)=2)=False:=eq_false (by omega)
 have e4:((k:Int)=4)=False:=eq_false (by omega)
 have e6:((k:Int)=6)=False:=eq_false (by omega)
 have e7:((k:Int)=7)=False:=eq_false (by omega)
 have hkm:cJ (bD f) k st1=(.mk (UInt8.ofNat k) false [] [] (aH 6 st1).1 [] [],(aH 6 st1).2):=by rcases hk with hk|hk <;>simp[cJ,hk]
 rw[hkm]
 have t2:=fun(S:AS) (h:S.box rb=some (bY st1))=>bB (G:=G) 6 (by omega) h
 generalize aH 6 st1=a2 at*
 have hkn:aF.knd (.mk (UInt8.ofNat k) false [] [] (a2.1:Int) [] [])=(k:Int):=by simp only[aF.knd,aF.kind];rw[UInt8.toNat_ofNat'];omega
 rw[hkn]
 rcases hk with hk|hk
 ·have e3:((k:Int)=3)=True:=eq_true (by omega)
  have e5:((k:Int)=5)=False:=eq_false (by omega)
  have hkq:PLift (_:Prop):=⟨hk⟩
  clear hk
  refine aJ.of_awp mixed Tryd.func36 rfl (by kernel_rfl) (by kernel_rfl) (by simp[Tryd.ntmps36]) Tryd.results36 ?_
  repeat'(first|refine xs ?_ ?_ <;>intros|(refine wn ?_;intro bx hbx;try simp only[fb]at hbx)|((refine aJ.mono (t1 _ (by simp[AS.setBox, *])) ?_;rintro r s ⟨rfl,rfl⟩;clear t1))|((refine aJ.mono (t2 _ (by simp[AS.setBox, *])) ?_;rintro r s ⟨rfl,rfl⟩;clear t2))|refine aP ?_|(refine aB ?_;intro bx hbx;(try simp only[fb]at hbx))|refine aD ?_|((with_reducible refine And.intro ?_ ?_);omega)|refine aA (d':=⟨⟩) ?_|refine aR (by kernel_rfl) ?_|refine aO ?_ (by repeat' first|exact lr _|assumption|refine ls ?_ ?_|refine lt ?_ ?_|simp only[*];done|simp only[fb, *,not_false_eq_true,and_self];done|exact lf ‹_› (by simp only[*]))|refine aC ?_ (by repeat' first|exact lr _|assumption|refine ls ?_ ?_|refine lt ?_ ?_|simp only[*];done|simp only[fb, *,not_false_eq_true,and_self];done|exact lf ‹_› (by simp only[*]))|simp -dsimp only[↓bp,bq,br,seval,A0j, *]|refine wz ?_|fail)
  exact aE (σ.setBox rb (bY a2.2)) (hN.le' (by repeat' first|exact hN.refl _|refine hN.setRb ?_ _|refine hN.setBox ?_ (by simp_all [AS.fresh]) _) (by simp[AS.setBox, *])) ⟨⟨_,_,_,by rfl,Le.nil,Le.nil,Le.nil⟩,rfl⟩
 ·have e3:((k:Int)=3)=False:=eq_false (by omega)
  have e5:((k:Int)=5)=True:=eq_true (by omega)
  have hkq:PLift (_:Prop):=⟨hk⟩
  clear hk
  refine aJ.of_awp mixed Tryd.func36 rfl (by kernel_rfl) (by kernel_rfl) (by simp[Tryd.ntmps36]) Tryd.results36 ?_
  repeat'(first|refine xs ?_ ?_ <;>intros|(refine wn ?_;intro bx hbx;try simp only[fb]at hbx)|((refine aJ.mono (t1 _ (by simp[AS.setBox, *])) ?_;rintro r s ⟨rfl,rfl⟩;clear t1))|((refine aJ.mono (t2 _ (by simp[AS.setBox, *])) ?_;rintro r s ⟨rfl,rfl⟩;clear t2))|refine aP ?_|(refine aB ?_;intro bx hbx;(try simp only[fb]at hbx))|refine aD ?_|((with_reducible refine And.intro ?_ ?_);omega)|refine aA (d':=⟨⟩) ?_|refine aR (by kernel_rfl) ?_|refine aO ?_ (by repeat' first|exact lr _|assumption|refine ls ?_ ?_|refine lt ?_ ?_|simp only[*];done|simp only[fb, *,not_false_eq_true,and_self];done|exact lf ‹_› (by simp only[*]))|refine aC ?_ (by repeat' first|exact lr _|assumption|refine ls ?_ ?_|refine lt ?_ ?_|simp only[*];done|simp only[fb, *,not_false_eq_true,and_self];done|exact lf ‹_› (by simp only[*]))|simp -dsimp only[↓bp,bq,br,seval,A0j, *]|refine wz ?_|fail)
  exact aE (σ.setBox rb (bY a2.2)) (hN.le' (by repeat' first|exact hN.refl _|refine hN.setRb ?_ _|refine hN.setBox ?_ (by simp_all [AS.fresh]) _) (by simp[AS.setBox, *])) ⟨⟨_,_,_,by rfl,Le.nil,Le.nil,Le.nil⟩,rfl⟩
set_option maxHeartbeats 2000000 in
theorem D4y{f:Nat}(H:TC G f){σ:AS}{rb:Nat}{st:dN}(h:σ.box rb=some (bY st))(hk:(aH 1 st).1=4)(hl:(aH 1 st).2.1.length < f):aJ Tryd.prog G 36 [.ptr rb 0] σ fun r s=>r=(cJ (bD f) (aH 1 st).1 (aH 1 st).2).1.enc /\ s=σ.setBox rb (bY (cJ (bD f) (aH 1 st).1 (aH 1 st).2).2):=by
 have hne:∀ b',σ.fresh b' -> (rb=b')=False:=fun b' h'=>eq_false fun e=>by subst e;rw[h'.1]at h;cases h
 have hne2:∀ b',σ.fresh b' -> (b'=rb)=False:=fun b' h'=>eq_false fun e=>by subst e;rw[h'.1]at h;cases h
 refine uU ?_
 have t1:=fun(S:AS) (h:S.box rb=some (bY st))=>bB (G:=G) 1 (by omega) h
 have hk8:=gQ st
 generalize aH 1 st=a at*
 obtain⟨k,st1⟩:=a
 simp only at*
 have hconv:=lT hk8
 have e1:((k:Int)=1)=False:=eq_false (by omega)
 have e2:((k:Int)=2)=False:=eq_false (by omega)
 have e3:((k:Int)=3)=False:=eq_false (by omega)
 have e4:((k:Int)=4)=True:=eq_true (by omega)
 have e5:((k:Int)=5)=False:=eq_false (by omega)
 have e6:((k:Int)=6)=False:=eq_false (by omega)
 have e7:((k:Int)=7)=False:=eq_false (by omega)
 have hkm:cJ (bD f) k st1=(.mk 4 false [] [] (aH 2 st1).1 (aT (bD f) (aH 2 st1).2).1 [],(aT (bD f) (aH 2 st1).2).2):=by simp[cJ,hk]
 rw[hkm]
 have t2:=fun(S:AS) (h:S.box rb=some (bY st1))=>bB (G:=G) 2 (by omega) h
 have hl2:=dV 2 st1
 generalize aH 2 st1=a2 at*
 have t3:=fun(S:AS) (h:S.box rb=some (bY a2.2))=>H.row (st:=a2.2) (by omega) h
 generalize aT (bD f) a2.2=a3 at*
 have hkq:PLift (_:Prop):=⟨hk⟩
 clear hk
 refine aJ.of_awp mixed Tryd.func36 rfl (by kernel_rfl) (by kernel_rfl) (by simp[Tryd.ntmps36]) Tryd.results36 ?_
 repeat'(first|refine xs ?_ ?_ <;>intros|(refine wn ?_;intro bx hbx;try simp only[fb]at hbx)|((refine aJ.mono (t1 _ (by simp[AS.setBox, *])) ?_;rintro r s ⟨rfl,rfl⟩;clear t1))|((refine aJ.mono (t2 _ (by simp[AS.setBox, *])) ?_;rintro r s ⟨rfl,rfl⟩;clear t2))|((refine aJ.mono (t3 _ (by simp[AS.setBox, *])) ?_;rintro r s ⟨rfl,rfl⟩;clear t3))|refine aP ?_|(refine aB ?_;intro bx hbx;(try simp only[fb]at hbx))|refine aD ?_|((with_reducible refine And.intro ?_ ?_);omega)|refine aA (d':=⟨⟩) ?_|refine aR (by kernel_rfl) ?_|refine aO ?_ (by repeat' first|exact lr _|assumption|refine ls ?_ ?_|refine lt ?_ ?_|simp only[*];done|simp only[fb, *,not_false_eq_true,and_self];done|exact lf ‹_› (by simp only[*]))|refine aC ?_ (by repeat' first|exact lr _|assumption|refine ls ?_ ?_|refine lt ?_ ?_|simp only[*];done|simp only[fb, *,not_false_eq_true,and_self];done|exact lf ‹_› (by simp only[*]))|simp -dsimp only[↓bp,bq,br,seval,A0j, *]|refine wz ?_|fail)
 exact aE (σ.setBox rb (bY a3.2)) (hN.le' (by repeat' first|exact hN.refl _|refine hN.setRb ?_ _|refine hN.setBox ?_ (by simp_all [AS.fresh]) _) (by simp[AS.setBox, *])) ⟨⟨_,_,_,by rw[hkq.down];rfl,Le.nil,Le.refl _,Le.nil⟩,rfl⟩
set_option maxHeartbeats 2000000 in
theorem D4z{f:Nat}(H:TC G f){σ:AS}{rb:Nat}{st:dN}(h:σ.box rb=some (bY st))(hk:(aH 1 st).1=6)(hl:(aH 1 st).2.1.length < f):aJ Tryd.prog G 36 [.ptr rb 0] σ fun r s=>r=(cJ (bD f) (aH 1 st).1 (aH 1 st).2).1.enc /\ s=σ.setBox rb (bY (cJ (bD f) (aH 1 st).1 (aH 1 st).2).2):=by
 have hne:∀ b',σ.fresh b' -> (rb=b')=False:=fun b' h'=>eq_false fun e=>by subst e;rw[h'.1]at h;cases h
 have hne2:∀ b',σ.fresh b' -> (b'=rb)=False:=fun b' h'=>eq_false fun e=>by subst e;rw[h'.1]at h;cases h
 refine uU ?_
 have t1:=fun(S:AS) (h:S.box rb=some (bY st))=>bB (G:=G) 1 (by omega) h
 have hk8:=gQ st
 generalize aH 1 st=a at*
 obtain⟨k,st1⟩:=a
 simp only at*
 have hconv:=lT hk8
 have e1:((k:Int)=1)=False:=eq_false (by omega)
 have e2:((k:Int)=2)=False:=eq_false (by omega)
 have e3:((k:Int)=3)=False:=eq_false (by omega)
 have e4:((k:Int)=4)=False:=eq_false (by omega)
 have e5:((k:Int)=5)=False:=eq_false (by omega)
 have e6:((k:Int)=6)=True:=eq_true (by omega)
 have e7:((k:Int)=7)=False:=eq_false (by omega)
 have hkm:cJ (bD f) k st1=(.mk 6 false [] [] 0 (aT (bD f) st1).1 [],(aT (bD f) st1).2):=by simp[cJ,hk]
 rw[hkm]
 have t2:=fun(S:AS) (h:S.box rb=some (bY st1))=>H.row (st:=st1) (by omega) h
 generalize aT (bD f) st1=a2 at*
 have hkq:PLift (_:Prop):=⟨hk⟩
 clear hk
 refine aJ.of_awp mixed Tryd.func36 rfl (by kernel_rfl) (by kernel_rfl) (by simp[Tryd.ntmps36]) Tryd.results36 ?_
 repeat'(first|refine xs ?_ ?_ <;>intros|(refine wn ?_;intro bx hbx;try simp only[fb]at hbx)|((refine aJ.mono (t1 _ (by simp[AS.setBox, *])) ?_;rintro r s ⟨rfl,rfl⟩;clear t1))|((refine aJ.mono (t2 _ (by simp[AS.setBox, *])) ?_;rintro r s ⟨rfl,rfl⟩;clear t2))|refine aP ?_|(refine aB ?_;intro bx hbx;(try simp only[fb]at hbx))|refine aD ?_|((with_reducible refine And.intro ?_ ?_);omega)|refine aA (d':=⟨⟩) ?_|refine aR (by kernel_rfl) ?_|refine aO ?_ (by repeat' first|exact lr _|assumption|refine ls ?_ ?_|refine lt ?_ ?_|simp only[*];done|simp only[fb, *,not_false_eq_true,and_self];done|exact lf ‹_› (by simp only[*]))|refine aC ?_ (by repeat' first|exact lr _|assumption|refine ls ?_ ?_|refine lt ?_ ?_|simp only[*];done|simp only[fb, *,not_false_eq_true,and_self];done|exact lf ‹_› (by simp only[*]))|simp -dsimp only[↓bp,bq,br,seval,A0j, *]|refine wz ?_|fail)
 exact aE (σ.setBox rb (bY a2.2)) (hN.le' (by repeat' first|exact hN.refl _|refine hN.setRb ?_ _|refine hN.setBox ?_ (by simp_all [AS.fresh]) _) (by simp[AS.setBox, *])) ⟨⟨_,_,_,by rw[hkq.down];rfl,Le.nil,Le.refl _,Le.nil⟩,rfl⟩
set_option maxHeartbeats 2000000 in
theorem D0o{f:Nat}(H:TC G f){σ:AS}{rb:Nat}{st:dN}(h:σ.box rb=some (bY st))(hk:(aH 1 st).1 < 1 \/ 7 < (aH 1 st).1):aJ Tryd.prog G 36 [.ptr rb 0] σ fun r s=>r=(cJ (bD f) (aH 1 st).1 (aH 1 st).2).1.enc /\ s=σ.setBox rb (bY (cJ (bD f) (aH 1 st).1 (aH 1 st).2).2):=by
 have hne:∀ b',σ.fresh b' -> (rb=b')=False:=fun b' h'=>eq_false fun e=>by subst e;rw[h'.1]at h;cases h
 have hne2:∀ b',σ.fresh b' -> (b'=rb)=False:=fun b' h'=>eq_false fun e=>by subst e;rw[h'.1]at h;cases h
 refine uU ?_
 have t1:=fun(S:AS) (h:S.box rb=some (bY st))=>bB (G:=G) 1 (by omega) h
 have hk8:=gQ st
 generalize aH 1 st=a at*
 obtain⟨k,st1⟩:=a
 simp only at*
 have hconv:=lT hk8
 have e1:((k:Int)=1)=False:=eq_false (by omega)
 have e2:((k:Int)=2)=False:=eq_false (by omega)
 have e3:((k:Int)=3)=False:=eq_false (by omega)
 have e4:((k:Int)=4)=False:=eq_false (by omega)
 have e5:((k:Int)=5)=False:=eq_false (by omega)
 have e6:((k:Int)=6)=False:=eq_false (by omega)
 have e7:((k:Int)=7)=False:=eq_false (by omega)
 have hkm:cJ (bD f) k st1=(.mk (UInt8.ofNat k) false [] [] 0 [] [],(st1.1,true)):=by
  unfold cJ;rw[if_neg (by omega),if_neg (by omega),if_neg (by omega),if_neg (by omega),if_neg (by omega),if_neg (by omega)]
 rw[hkm]
 have hkn:aF.knd (.mk (UInt8.ofNat k) false [] [] 0 [] [])=(k:Int):=by simp only[aF.knd,aF.kind];rw[UInt8.toNat_ofNat'];omega
 rw[hkn]
 obtain⟨b1,bad1⟩:=st1
 have hkq:PLift (_:Prop):=⟨hk⟩
 clear hk
 refine aJ.of_awp mixed Tryd.func36 rfl (by kernel_rfl) (by kernel_rfl) (by simp[Tryd.ntmps36]) Tryd.results36 ?_
 repeat'(first|refine xs ?_ ?_ <;>intros|(refine wn ?_;intro bx hbx;try simp only[fb]at hbx)|((refine aJ.mono (t1 _ (by simp[AS.setBox, *])) ?_;rintro r s ⟨rfl,rfl⟩;clear t1))|refine aP ?_|(refine aB ?_;intro bx hbx;(try simp only[fb]at hbx))|refine aD ?_|((with_reducible refine And.intro ?_ ?_);omega)|refine aA (d':=⟨⟩) ?_|refine aR (by kernel_rfl) ?_|refine aO ?_ (by repeat' first|exact lr _|assumption|refine ls ?_ ?_|refine lt ?_ ?_|simp only[*];done|simp only[fb, *,not_false_eq_true,and_self];done|exact lf ‹_› (by simp only[*]))|refine aC ?_ (by repeat' first|exact lr _|assumption|refine ls ?_ ?_|refine lt ?_ ?_|simp only[*];done|simp only[fb, *,not_false_eq_true,and_self];done|exact lf ‹_› (by simp only[*]))|simp -dsimp only[↓bp,bq,br,seval,A0j,bY, *]|refine wz ?_|fail)
 exact aE (σ.setBox rb (bY (b1,true))) (hN.le' (by repeat' first|exact hN.refl _|refine hN.setRb ?_ _|refine hN.setBox ?_ (by simp_all [AS.fresh]) _) (by simp[AS.setBox,bY, *])) ⟨⟨_,_,_,by rfl,Le.nil,Le.nil,Le.nil⟩,rfl⟩
end
section
section
variable {P:Program} {G:Nat ->AV}
def A0r(P:Program)(G:Nat ->AV)(σ σ1:AS)(e:aS)(n m:Nat)(sl:Nat ->Nat)(val:Nat ->AV):Nat ->List Oper ->Prop
 |_,[]=>True
 | k,o::r=> (o.dst=some (sl k) /\ ∀ e' σ',(∀ j,j ∈ oF o ->e' (sl j)=val j) -> (∀ t,(∀ j,j < n ->sl j ≠ t) ->e' t=e t) ->
   (k=m ->eQ P G o e' σ (fun r s=>r=val m /\ s=σ1)) /\ (k ≠ m ->σ'=σ \/ σ'=σ1 ->eQ P G o e' σ' (fun r s=>r=val k /\ s=σ'))) /\ A0r P G σ σ1 e n m sl val (k+1) r
def D5t(σ σ1:AS)(e:aS)(n m:Nat)(sl:Nat ->Nat)(val:Nat ->AV)(D:Nat ->Bool)(e':aS)(σ':AS):Prop:=
 (∀ t,(∀ j,j < n ->sl j ≠ t) ->e' t=e t) /\ (∀ k,k < n ->D k=true ->e' (sl k)=val k) /\ (D m=true ->σ'=σ1) /\ (D m=false ->σ'=σ)
theorem A7e{σ σ1:AS}{e:aS}{n m:Nat}{sl:Nat ->Nat}{val:Nat ->AV}(hm:m < n)(hi:∀ i,i < n ->∀ j,j < n ->sl i=sl j ->i=j):∀ (l:List Oper) (k:Nat),k+l.length <=n -> (∀ o,o ∈ l ->∀ j,j ∈ oF o ->j < n) ->A0r P G σ σ1 e n m sl val k l ->nW P G (D5t σ σ1 e n m sl val) k l
 |[],_,_,_,_=>trivial
 | o::r,k,hl,hw,⟨⟨hd,h⟩,hr⟩=>by
  simp only[List.length_cons]at hl
  refine⟨?_,A7e hm hi r (k+1) (by omega) (fun o' ho=>hw o' (List.mem_cons_of_mem _ ho)) hr⟩
  rintro D e' σ' hD hwt ⟨hfr,hv,hq,hn⟩
  have hst:σ'=σ \/ σ'=σ1:=by
   cases hDm:D m with
   |true=>exact .inr (hq hDm)
   |false=>exact .inl (hn hDm)
  obtain⟨ha,hb⟩:=h e' σ' (fun j hj=>hv j (hw o List.mem_cons_self j hj) (hwt j hj)) hfr
  have frame:∀ v t,(∀ j,j < n ->sl j ≠ t) -> (e'.upd (some (sl k)) v) t=e t:=fun v t ht=>by
   rw[<- hfr t ht]
   exact aS.upd_other fun y hy hyu=>by cases hy;exact ht k (by omega) hyu
  have other:∀ v j,j < n ->j ≠ k -> (e'.upd (some (sl k)) v) (sl j)=e' (sl j):=fun v j hj hjk=>
   aS.upd_other fun y hy hyu=>by cases hy;exact hjk (hi k (by omega) j hj hyu).symm
  have own:∀ v,(e'.upd (some (sl k)) v) (sl k)=v:=fun v=>by simp[aS.upd]
  have dn:∀ j,j ≠ k ->vG D k j=D j:=fun j hj=>by unfold vG;rw[if_neg hj]
  have dk:vG D k k=true:=by unfold vG;rw[if_pos rfl]
  have vals:∀ j,j < n ->vG D k j=true -> (e'.upd (some (sl k)) (val k)) (sl j)=val j:=fun j hj hDj=>by
   by_cases hjk:j=k
   ·subst hjk;exact own _
   ·rw[other _ j hj hjk];exact hv j hj (by rw[<- dn j hjk];exact hDj)
  by_cases hkm:k=m
  ·subst hkm
   have he:=hn hD
   subst he
   refine eV ?_ (ha rfl)
   rintro v s ⟨rfl,rfl⟩
   rw[hd]
   exact⟨frame _,vals,fun _=>rfl,fun hx=>by rw[dk]at hx;cases hx⟩
  ·refine eV ?_ (hb hkm hst)
   rintro v s ⟨rfl,rfl⟩
   rw[hd]
   exact⟨frame _,vals,fun hx=>hq (by rw[<- dn m (Ne.symm hkm)];exact hx),fun hx=>hn (by rw[<- dn m (Ne.symm hkm)];exact hx)⟩
theorem B8x {R:aS ->AS ->Prop} {e:aS} {σ:AS} {l:List Oper} {d:Dum l.toArray} {d':Dum R} {d2:Dum e} {d3:Dum σ} (σ1:AS) (n m:Nat) (sl:Nat ->Nat) (val:Nat ->AV) (hn:uP l.toArray n=true) (hm:m < n) (hi:∀ i,i < n ->∀ j,j < n ->sl i=sl j ->i=j)
  {hd tl:List Oper} (h1:l.take n=hd) (h2:l.drop n=tl) (hs:A0r P G σ σ1 e n m sl val 0 hd)
  (hq:∀ e',(∀ k,k < n ->e' (sl k)=val k) -> (∀ t,(∀ k,k < n ->sl k ≠ t) ->e' t=e t) ->cP P G l R tl e' σ1):rN P G l.toArray R e σ d d' d2 d3:=by
 refine A5e n (D5t σ σ1 e n m sl val) hn h1 h2 (fun _=> ⟨fun _ _=>rfl,fun k _ h=> (by cases h),fun h=> (by cases h),fun _=>rfl⟩) ?_ (fun D e' s hD ⟨hfr,hv,hq',_⟩=>by
  have:=hq' (hD m hm);subst this;exact hq e' (fun k hk=>hv k hk (hD k hk)) hfr)
 unfold uP at hn
 simp only[Bool.and_eq_true,decide_eq_true_eq,List.all_eq_true,List.mem_range]at hn
 obtain⟨⟨⟨hns,hb⟩,_⟩,_⟩:=hn
 refine A7e hm hi hd 0 (by rw[<- h1];simp only[List.length_take];omega) (fun o ho j hj=> ?_) hs
 subst h1
 obtain⟨i,hio⟩:=List.getElem?_of_mem ho
 have hin:i < n:=by
  have:=(List.getElem?_eq_some_iff.1 hio).1
  simp only[List.length_take]at this;omega
 rw[List.getElem?_take_of_lt hin]at hio
 have:=hb i hin
 simp only[List.getElem?_toArray,hio,Bool.and_eq_true,List.all_eq_true,decide_eq_true_eq]at this
 have:=this.2 j hj
 omega
theorem A5f {R:aS ->AS ->Prop} {e:aS} {σ:AS} {l:List Oper} {d:Dum l.toArray} {d':Dum R} {d2:Dum e} {d3:Dum σ} (b:Nat) (z:List AV) (n m:Nat) (sl:Nat ->Nat) (val:Nat ->AV) (hn:uP l.toArray n=true) (hm:m < n) (hi:∀ i,i < n ->∀ j,j < n ->sl i=sl j ->i=j)
  {hd tl:List Oper} (h1:l.take n=hd) (h2:l.drop n=tl) (hs:A0r P G σ (σ.setBox b z) e n m sl val 0 hd)
  (hq:∀ e',(∀ k,k < n ->e' (sl k)=val k) -> (∀ t,(∀ k,k < n ->sl k ≠ t) ->e' t=e t) ->cP P G l R tl e' (σ.setBox b z)):rN P G l.toArray R e σ d d' d2 d3:=B8x (σ.setBox b z) n m sl val hn hm hi h1 h2 hs hq
end
end
set_option maxRecDepth 20000
section
def mY:=And.intro (And.intro (And.intro (And.intro @mD @mE) (And.intro @mA @lG)) (And.intro (And.intro @mB @lF) (And.intro @lJ @kN))) (And.intro (And.intro (And.intro @A7m @A7l) (And.intro @oB @jF)) (And.intro (And.intro @iB @bX) (And.intro @bL (And.intro @dO @cQ))))
variable {G:Nat ->AV}
theorem B0n{n:Nat}{E:TypeId}{σ0 σ:AS}{v:AV}{l:List AV}(h:fN n E σ0 σ v l):one v=true /\ flat v=[v] /\ isv v=true:=by cases h <;>exact⟨rfl,rfl,rfl⟩
set_option maxHeartbeats 2000000 in
theorem D0m{f:Nat}(H:TC G f){σ:AS}{rb:Nat}{st:dN}(h:σ.box rb=some (bY st))(hk:(aH 1 st).1=7)(hl:(aH 1 st).2.1.length < f)(hg0:(cE (aT (bD f) (aH 1 st).2).2).1=false):aJ Tryd.prog G 36 [.ptr rb 0] σ fun r s=>r=(cJ (bD f) (aH 1 st).1 (aH 1 st).2).1.enc /\ s=σ.setBox rb (bY (cJ (bD f) (aH 1 st).1 (aH 1 st).2).2):=by
 have hne:∀ b',σ.fresh b' -> (rb=b')=False:=fun b' h'=>eq_false fun e=>by subst e;rw[h'.1]at h;cases h
 have hne2:∀ b',σ.fresh b' -> (b'=rb)=False:=fun b' h'=>eq_false fun e=>by subst e;rw[h'.1]at h;cases h
 refine uU ?_
 have t1:=fun(S:AS) (h:S.box rb=some (bY st))=>bB (G:=G) 1 (by omega) h
 have hk8:=gQ st
 generalize aH 1 st=a at*
 obtain⟨k,st1⟩:=a
 simp only at*
 have hconv:=lT hk8
 have e1:((k:Int)=1)=False:=eq_false (by omega)
 have e2:((k:Int)=2)=False:=eq_false (by omega)
 have e3:((k:Int)=3)=False:=eq_false (by omega)
 have e4:((k:Int)=4)=False:=eq_false (by omega)
 have e5:((k:Int)=5)=False:=eq_false (by omega)
 have e6:((k:Int)=6)=False:=eq_false (by omega)
 have e7:((k:Int)=7)=True:=eq_true (by omega)
 have t2:=fun(S:AS) (h:S.box rb=some (bY st1))=>H.row (st:=st1) (by omega) h
 have t3:=fun(S:AS) (h:S.box rb=some (bY (aT (bD f) st1).2))=>yC (G:=G) h
 rw[hg0]at t3
 have hkm:cJ (bD f) k st1=(.mk 7 false [] [] 0 (aT (bD f) st1).1 [],(cE (aT (bD f) st1).2).2):=by
  unfold cJ;rw[if_neg (by omega),if_neg (by omega),if_neg (by omega),if_neg (by omega),if_neg (by omega),if_pos hk,if_neg (by rw[hg0];decide)]
 rw[hkm]
 clear hg0 hkm
 generalize cE (aT (bD f) st1).2=a3 at*
 generalize aT (bD f) st1=a2 at*
 have hkq:PLift (_:Prop):=⟨hk⟩
 clear hk
 refine aJ.of_awp mixed Tryd.func36 rfl (by kernel_rfl) (by kernel_rfl) (by simp[Tryd.ntmps36]) Tryd.results36 ?_
 repeat'(first|refine xs ?_ ?_ <;>intros|(refine wn ?_;intro bx hbx;try simp only[fb]at hbx)|((refine aJ.mono (t1 _ (by simp[AS.setBox, *])) ?_;rintro r s ⟨rfl,rfl⟩;clear t1))|((refine aJ.mono (t2 _ (by simp[AS.setBox, *])) ?_;rintro r s ⟨rfl,rfl⟩;clear t2))|((refine aJ.mono (t3 _ (by simp[AS.setBox, *])) ?_;rintro r s ⟨rfl,rfl⟩;clear t3))|refine aP ?_|(refine aB ?_;intro bx hbx;(try simp only[fb]at hbx))|refine aD ?_|((with_reducible refine And.intro ?_ ?_);omega)|refine aA (d':=⟨⟩) ?_|refine aR (by kernel_rfl) ?_|refine aO ?_ (by repeat' first|exact lr _|assumption|refine ls ?_ ?_|refine lt ?_ ?_|simp only[*];done|simp only[fb, *,not_false_eq_true,and_self];done|exact lf ‹_› (by simp only[*]))|refine aC ?_ (by repeat' first|exact lr _|assumption|refine ls ?_ ?_|refine lt ?_ ?_|simp only[*];done|simp only[fb, *,not_false_eq_true,and_self];done|exact lf ‹_› (by simp only[*]))|simp -dsimp only[↓bp,bq,br,seval,mY, *]|refine wz ?_|fail)
 exact aE (σ.setBox rb (bY a3.2)) (hN.le' (by repeat' first|exact hN.refl _|refine hN.setRb ?_ _|refine hN.setBox ?_ (by simp_all [AS.fresh]) _) (by simp[AS.setBox, *])) ⟨⟨_,_,_,by rw[hkq.down];rfl,Le.nil,Le.refl _,Le.nil⟩,rfl⟩
set_option maxHeartbeats 2000000 in
theorem D0n{f:Nat}(H:TC G f){σ:AS}{rb:Nat}{st:dN}(h:σ.box rb=some (bY st))(hk:(aH 1 st).1=7)(hl:(aH 1 st).2.1.length < f)(hg0:(cE (aT (bD f) (aH 1 st).2).2).1=true):aJ Tryd.prog G 36 [.ptr rb 0] σ fun r s=>r=(cJ (bD f) (aH 1 st).1 (aH 1 st).2).1.enc /\ s=σ.setBox rb (bY (cJ (bD f) (aH 1 st).1 (aH 1 st).2).2):=by
 have hne:∀ b',σ.fresh b' -> (rb=b')=False:=fun b' h'=>eq_false fun e=>by subst e;rw[h'.1]at h;cases h
 have hne2:∀ b',σ.fresh b' -> (b'=rb)=False:=fun b' h'=>eq_false fun e=>by subst e;rw[h'.1]at h;cases h
 refine uU ?_
 have t1:=fun(S:AS) (h:S.box rb=some (bY st))=>bB (G:=G) 1 (by omega) h
 have hk8:=gQ st
 generalize aH 1 st=a at*
 obtain⟨k,st1⟩:=a
 simp only at*
 have hconv:=lT hk8
 have e1:((k:Int)=1)=False:=eq_false (by omega)
 have e2:((k:Int)=2)=False:=eq_false (by omega)
 have e3:((k:Int)=3)=False:=eq_false (by omega)
 have e4:((k:Int)=4)=False:=eq_false (by omega)
 have e5:((k:Int)=5)=False:=eq_false (by omega)
 have e6:((k:Int)=6)=False:=eq_false (by omega)
 have e7:((k:Int)=7)=True:=eq_true (by omega)
 have t2:=fun(S:AS) (h:S.box rb=some (bY st1))=>H.row (st:=st1) (by omega) h
 have t3:=fun(S:AS) (h:S.box rb=some (bY (aT (bD f) st1).2))=>yC (G:=G) h
 rw[hg0]at t3
 have hl2:=iX (tQ f) st1
 have hl3:=oC (aT (bD f) st1).2
 have t4:=fun(S:AS) (h:S.box rb=some (bY (cE (aT (bD f) st1).2).2))=>H rb S _ (by omega) h
 have hkm:cJ (bD f) k st1=(.mk 7 false [] [] 0 (aT (bD f) st1).1 [(bD f (cE (aT (bD f) st1).2).2).1],(bD f (cE (aT (bD f) st1).2).2).2):=by
  unfold cJ;rw[if_neg (by omega),if_neg (by omega),if_neg (by omega),if_neg (by omega),if_neg (by omega),if_pos hk,if_pos (by rw[hg0])]
 rw[hkm]
 clear hg0 hkm hl2 hl3
 generalize bD f (cE (aT (bD f) st1).2).2=a4 at*
 generalize cE (aT (bD f) st1).2=a3 at*
 generalize aT (bD f) st1=a2 at*
 refine aJ.mono (Q:=fun r s=>r= .agg [.int .u8 k, .bool false, .nil, .str [], .int .i64 0,cZ a2.1, .sl .none [a4.1.enc] []] /\ s=σ.setBox rb (bY a4.2)) (D8y (rb:=rb) (w:=7) (E:=53) (xs:=[a4.1.enc]) (C:=fun v=> .agg [.int .u8 k, .bool false, .nil, .str [], .int .i64 0,cZ a2.1,v]) (T:= .agg [.int .u8 k, .bool false, .nil, .str [], .int .i64 0,cZ a2.1, .sl .none [a4.1.enc] []]) (z:=bY a4.2) (fun b m=>Has.agg 6 (by simp) Has.bs) (fun b m ys=>Frz.agg _ _ rfl (fun d hd=>by simp at hd;rcases hd with rfl|rfl|rfl|rfl|rfl|rfl|rfl <;>rfl) (fun j g1 g2=>by
  match j,g1,g2 with
  |0,_,_=>exact .same _
  |1,_,_=>exact .same _
  |2,_,_=>exact .same _
  |3,_,_=>exact .same _
  |4,_,_=>exact .same _
  |5,_,_=>exact .same _
  |6,_,_=>exact .here _)) (fun v hv=>Le.agg (.cons (Le.refl _) (.cons (Le.refl _) (.cons (Le.refl _) (.cons (Le.refl _) (.cons (Le.refl _) (.cons (Le.refl _) (.cons hv .nil))))))) (fun d hd=>by simp at hd;rcases hd with rfl|rfl|rfl|rfl|rfl|rfl|rfl <;>rfl)) ?_) ?_
 case refine_2=>
  rintro r s ⟨rfl,rfl⟩
  exact⟨⟨_,_,_,by rw[hk];rfl,Le.nil,Le.refl _,Le.refl _⟩,rfl⟩
 have hok:(flat a4.1.enc).length=7 /\ isv a4.1.enc=true:=⟨by rw[aF.flat_enc];rfl,a4.1.isv_enc⟩
 have hkq:PLift (_:Prop):=⟨hk⟩
 clear hk
 refine aJ.of_awp mixed Tryd.func36 rfl (by kernel_rfl) (by kernel_rfl) (by simp[Tryd.ntmps36]) Tryd.results36 ?_
 repeat'(first|(refine wn ?_;intro bx hbx;try simp only[fb]at hbx)|((refine aJ.mono (t1 _ (by simp[AS.setBox, *])) ?_;rintro r s ⟨rfl,rfl⟩;clear t1))|((refine aJ.mono (t2 _ (by simp[AS.setBox, *])) ?_;rintro r s ⟨rfl,rfl⟩;clear t2))|((refine aJ.mono (t3 _ (by simp[AS.setBox, *])) ?_;rintro r s ⟨rfl,rfl⟩;clear t3))|((refine aJ.mono (t4 _ (by simp[AS.setBox, *])) ?_;rintro r s ⟨rfl,rfl⟩;clear t4))|refine aP ?_|(refine aB ?_;intro bx hbx;(try simp only[fb]at hbx))|refine aD ?_|((with_reducible refine And.intro ?_ ?_);omega)|refine aA (d':=⟨⟩) ?_|refine aO ?_ (by repeat' first|exact lr _|assumption|refine ls ?_ ?_|refine lt ?_ ?_|simp only[*];done|simp only[fb, *,not_false_eq_true,and_self];done|exact lf ‹_› (by simp only[*]))|refine aC ?_ (by repeat' first|exact lr _|assumption|refine ls ?_ ?_|refine lt ?_ ?_|simp only[*];done|simp only[fb, *,not_false_eq_true,and_self];done|exact lf ‹_› (by simp only[*]))|simp -dsimp only[↓bp,bq,br,seval,mY, *]|refine wz ?_|fail)
 rename_i b0 hb0
 obtain⟨⟨hx1,hx2,hx3⟩,hx4,hx5⟩:=hbx
 have hx6:=hne _ hb0
 have hx7:=hne2 _ hb0
 refine A5f rb (bY a4.2) 5 3 (fun k=>77+k) (fun k=> [.ptr bx 6, .nil, .ptr rb 0,a4.1.enc, .sl .full [a4.1.enc] []].getD k .undef) (by decide+kernel) (by decide) (by intro i _ j _ h;simpa using h) rfl rfl ?_ ?_
 ·refine⟨?_,?_,?_,?_,?_,trivial⟩
  ·refine⟨rfl,fun e' s hw hf=> ⟨fun hk=>absurd hk (by decide),fun _ hs=> ?_⟩⟩
   have h0:=hf 3 (by decide)
   simp -dsimp only[↓bp,bq,br,seval,mY]at h0
   simp -dsimp only[↓bp,bq,br,seval,mY,h0]
  ·refine⟨rfl,fun e' s hw hf=> ⟨fun hk=>absurd hk (by decide),fun _ hs=> ?_⟩⟩
   have h1:e' 77= .ptr bx 6:=hw 0 (by decide+kernel)
   rcases hs with rfl|rfl
   ·simp -dsimp only[↓bp,bq,br,seval,mY,h1,hx2,hx3,hx4,hx5,hx6,hx7,ite_false,ite_true]
   ·simp -dsimp only[↓bp,bq,br,seval,mY,h1,hx2,hx3,hx4,hx5,hx6,hx7,ite_false,ite_true]
  ·refine⟨rfl,fun e' s hw hf=> ⟨fun hk=>absurd hk (by decide),fun _ hs=> ?_⟩⟩
   have h0:=hf 0 (by decide)
   simp -dsimp only[↓bp,bq,br,seval,mY]at h0
   simp -dsimp only[↓bp,bq,br,seval,mY,h0]
  ·refine⟨rfl,fun e' s hw hf=> ⟨fun _=> ?_,fun hk=>absurd rfl hk⟩⟩
   have h2:e' 79= .ptr rb 0:=hw 2 (by decide+kernel)
   simp -dsimp only[↓bp,bq,br,seval,mY,h2]
   exact t4 _ (by simp[AS.setBox, *])
  ·refine⟨rfl,fun e' s hw hf=> ⟨fun hk=>absurd hk (by decide),fun _ hs=> ?_⟩⟩
   have h3:e' 80=a4.1.enc:=hw 3 (by decide+kernel)
   simp -dsimp only[↓bp,bq,br,seval,mY,h3]
   refine aA (d':=⟨⟩) ?_
   simp -dsimp only[↓bp,bq,br,seval,mY,hok]
 ·intro e' hv hf
  have h0:=hf 3 (by decide)
  have g2:=hf 2 (by decide)
  simp -dsimp only[↓bp,bq,br,seval,mY]at h0 g2
  have h1:e' 78= .nil:=hv 1 (by decide)
  have h2:e' 81= .sl .full [a4.1.enc] []:=hv 4 (by decide)
  clear hv hf
  have hle:∀ S,hN rb σ S -> (σ.delBox rb).le S:=fun S h=> ⟨fun i cs hi=>by
   have hi':(if i=rb then none else σ.box i)=some cs:=hi
   split at hi'
   ·cases hi'
   ·rename_i e;exact h.box i cs e hi',h.tip,h.ty⟩
  have hd0:(σ.delBox rb).box b0=none:=by show(if b0=rb then none else σ.box b0)=none;split;rfl;exact hb0.1
  have hdx:(σ.delBox rb).box bx=none:=by show(if bx=rb then none else σ.box bx)=none;split;rfl;exact hx1.1
  have hdr:(σ.delBox rb).box rb=none:=by simp[AS.delBox]
  repeat'(first|refine xs ?_ ?_ <;>intros|(refine wn ?_;intro bx hbx;try simp only[fb]at hbx)|((refine nF (σ0:=σ.delBox rb) (ys:=[a4.1.enc]) (.nil (hle _ (by repeat' first|exact hN.refl _|refine hN.setRb ?_ _|refine hN.setBox ?_ (by simp_all [AS.fresh]) _))) rdT (jQ iB.2.2.2.1) (fun a ha=>by simp at ha;subst ha;exact hok) (by simp) (fun v2 σ2 hA=> ?_);have kr:=hA.keep rb (bY a4.2) fR trivial;have kx:=hA.keep bx [.int .u8 k, .bool false, .nil, .str [], .int .i64 0,cZ a2.1, .nil] (by simp[AS.setBox, *]) trivial;have k0:=hA.keep b0 [.int .u8 0, .bool false, .nil, .str [], .int .i64 0, .nil, .nil] (by simp[AS.setBox, *]) trivial;obtain⟨w1,w2,w3⟩:=B0n hA.buf;obtain⟨kr1,kr2⟩:=kr;obtain⟨kx1,kx2⟩:=kx;obtain⟨k01,k02⟩:=k0;replace hA:=hA.buf;rw[List.nil_append]at hA))|refine aP ?_|(refine aB ?_;intro bx hbx;(try simp only[fb]at hbx))|refine aD ?_|((with_reducible refine And.intro ?_ ?_);omega)|refine aA (d':=⟨⟩) ?_|refine aR (by kernel_rfl) ?_|refine aO ?_ (by repeat' first|exact lr _|assumption|refine ls ?_ ?_|refine lt ?_ ?_|simp only[*];done|simp only[fb, *,not_false_eq_true,and_self];done|exact lf ‹_› (by simp only[*]))|refine aC ?_ (by repeat' first|exact lr _|assumption|refine ls ?_ ?_|refine lt ?_ ?_|simp only[*];done|simp only[fb, *,not_false_eq_true,and_self];done|exact lf ‹_› (by simp only[*]))|simp -dsimp only[↓bp,bq,br,seval,mY, *]|refine wz ?_|fail)
  exact aE _ (AS.le.refl _) ⟨v2,rfl,(hA.setOther hdx kx2 _).setOther hd0 k02 _,kr2,by simp[AS.setBox, *]⟩
end
set_option maxRecDepth 20000
section
def jH:=And.intro (And.intro (And.intro (And.intro @mD @mE) (And.intro @mA @lG)) (And.intro (And.intro @mB @lF) (And.intro @lJ @kN))) (And.intro (And.intro (And.intro @A7m @A7l) (And.intro @oB @jF)) (And.intro (And.intro @iB @bX) (And.intro @bL (And.intro @dO @cQ))))
variable {G:Nat ->AV}
theorem rdU:gK Tryd.prog 51=some (88,1,4):=lF.2.2.2.2.2.2
set_option maxHeartbeats 2000000 in
theorem D4w{f:Nat}(H:TC G f){σ:AS}{rb:Nat}{st:dN}(h:σ.box rb=some (bY st))(hk:(aH 1 st).1=1):aJ Tryd.prog G 36 [.ptr rb 0] σ fun r s=>r=(cJ (bD f) (aH 1 st).1 (aH 1 st).2).1.enc /\ s=σ.setBox rb (bY (cJ (bD f) (aH 1 st).1 (aH 1 st).2).2):=by
 have hne:∀ b',σ.fresh b' -> (rb=b')=False:=fun b' h'=>eq_false fun e=>by subst e;rw[h'.1]at h;cases h
 have hne2:∀ b',σ.fresh b' -> (b'=rb)=False:=fun b' h'=>eq_false fun e=>by subst e;rw[h'.1]at h;cases h
 refine uU ?_
 have t1:=fun(S:AS) (h:S.box rb=some (bY st))=>bB (G:=G) 1 (by omega) h
 have hk8:=gQ st
 generalize aH 1 st=a at*
 obtain⟨k,st1⟩:=a
 simp only at*
 have hconv:=lT hk8
 have e1:((k:Int)=1)=True:=eq_true (by omega)
 have e2:((k:Int)=2)=False:=eq_false (by omega)
 have e3:((k:Int)=3)=False:=eq_false (by omega)
 have e4:((k:Int)=4)=False:=eq_false (by omega)
 have e5:((k:Int)=5)=False:=eq_false (by omega)
 have e6:((k:Int)=6)=False:=eq_false (by omega)
 have e7:((k:Int)=7)=False:=eq_false (by omega)
 have t2:=fun(S:AS) (h:S.box rb=some (bY st1))=>yC (G:=G) h
 have t3:=fun(S:AS) (h:S.box rb=some (bY (cE st1).2))=>bB (G:=G) 1 (by omega) h
 have hn8:=gQ (cE st1).2
 have hkm:cJ (bD f) k st1=(.mk 1 (cE st1).1 ((dD (aH 4) (aH 1 (cE st1).2).1 (aH 1 (cE st1).2).2).1.map UInt32.ofNat) [] 0 [] [],(dD (aH 4) (aH 1 (cE st1).2).1 (aH 1 (cE st1).2).2).2):=by
  unfold cJ;rw[if_pos hk]
 rw[hkm]
 clear hkm
 generalize aH 1 (cE st1).2=a3 at*
 generalize cE st1=a2 at*
 obtain⟨g,s2⟩:=a2
 obtain⟨n,s3⟩:=a3
 simp only at*
 obtain⟨R,hR⟩:∃ R,R=dD (aH 4) n s3:=⟨_,rfl⟩
 rw[<- hR]
 refine aJ.mono (Q:=fun r s=>r= .agg [.int .u8 k, .bool g,hU (R.1.map UInt32.ofNat), .str [], .int .i64 0, .nil, .nil] /\ s=σ.setBox rb (bY R.2)) (D8y (rb:=rb) (w:=1) (E:=88) (xs:=(R.1.map UInt32.ofNat).map lY) (C:=fun v=> .agg [.int .u8 k, .bool g,v, .str [], .int .i64 0, .nil, .nil]) (T:= .agg [.int .u8 k, .bool g,hU (R.1.map UInt32.ofNat), .str [], .int .i64 0, .nil, .nil]) (z:=bY R.2) (fun b m=>Has.agg 2 (by simp) Has.bs) (fun b m ys=>Frz.agg _ _ rfl (fun d hd=>by simp at hd;rcases hd with rfl|rfl|rfl|rfl|rfl|rfl|rfl <;>rfl) (fun j g1 g2=>by
  match j,g1,g2 with
  |0,_,_=>exact .same _
  |1,_,_=>exact .same _
  |2,_,_=>exact .here _
  |3,_,_=>exact .same _
  |4,_,_=>exact .same _
  |5,_,_=>exact .same _
  |6,_,_=>exact .same _)) (fun v hv=>Le.agg (.cons (Le.refl _) (.cons (Le.refl _) (.cons hv (.cons (Le.refl _) (.cons (Le.refl _) (.cons (Le.refl _) (.cons (Le.refl _) .nil))))))) (fun d hd=>by simp at hd;rcases hd with rfl|rfl|rfl|rfl|rfl|rfl|rfl <;>rfl)) ?_) ?_
 case refine_2=>
  rintro r s ⟨rfl,rfl⟩
  exact⟨⟨_,_,_,by rw[hk];rfl,Le.refl _,Le.nil,Le.nil⟩,rfl⟩
 have hkq:PLift (_:Prop):=⟨hk⟩
 clear hk
 refine aJ.of_awp mixed Tryd.func36 rfl (by kernel_rfl) (by kernel_rfl) (by simp[Tryd.ntmps36]) Tryd.results36 ?_
 repeat'(first|(refine wn ?_;intro bx hbx;try simp only[fb]at hbx)|((refine aJ.mono (t1 _ (by simp[AS.setBox, *])) ?_;rintro r s ⟨rfl,rfl⟩;clear t1))|((refine aJ.mono (t2 _ (by simp[AS.setBox, *])) ?_;rintro r s ⟨rfl,rfl⟩;clear t2))|((refine aJ.mono (t3 _ (by simp[AS.setBox, *])) ?_;rintro r s ⟨rfl,rfl⟩;clear t3))|refine aP ?_|(refine aB ?_;intro bx hbx;(try simp only[fb]at hbx))|refine aD ?_|((with_reducible refine And.intro ?_ ?_);omega)|refine aA (d':=⟨⟩) ?_|refine aO ?_ (by repeat' first|exact lr _|assumption|refine ls ?_ ?_|refine lt ?_ ?_|simp only[*];done|simp only[fb, *,not_false_eq_true,and_self];done|exact lf ‹_› (by simp only[*]))|refine aC ?_ (by repeat' first|exact lr _|assumption|refine ls ?_ ?_|refine lt ?_ ?_|simp only[*];done|simp only[fb, *,not_false_eq_true,and_self];done|exact lf ‹_› (by simp only[*]))|simp -dsimp only[↓bp,bq,br,seval,jH, *]|refine wz ?_|fail)
 rename_i b0 hb0
 obtain⟨⟨hx1,hx2,hx3⟩,hx4,hx5⟩:=hbx
 have hx6:=hne _ hb0
 have hx7:=hne2 _ hb0
 have hle:∀ S,hN rb σ S -> (σ.delBox rb).le S:=fun S h=> ⟨fun i cs hi=>by
  have hi':(if i=rb then none else σ.box i)=some cs:=hi
  split at hi'
  ·cases hi'
  ·rename_i e;exact h.box i cs e hi',h.tip,h.ty⟩
 have hd0:(σ.delBox rb).box b0=none:=by show(if b0=rb then none else σ.box b0)=none;split;rfl;exact hb0.1
 have hdx:(σ.delBox rb).box bx=none:=by show(if bx=rb then none else σ.box bx)=none;split;rfl;exact hx1.1
 have hdr:(σ.delBox rb).box rb=none:=by simp[AS.delBox]
 clear hkq
 refine aU (fun m e S=>∃ l st' v,e 4= .int .i64 m /\ l.length+m <=n /\ dD (aH 4) n s3=(l++(dD (aH 4) m st').1,(dD (aH 4) m st').2) /\ S.box rb=some (bY st') /\ S.box bx=some [.int .u8 k, .bool g,v, .str [], .int .i64 0, .nil, .nil] /\ S.box b0=some [.int .u8 0, .bool false, .nil, .str [], .int .i64 0, .nil, .nil] /\ fN 1 88 (σ.delBox rb) S v ((l.map UInt32.ofNat).map lY) /\ eS v rb /\ eS v bx /\ eS v b0) n ⟨[],s3, .nil,by simp -dsimp only[↓bp,bq,br,seval,jH],by simp,by simp,by simp[AS.setBox, *],by simp[AS.setBox, *],by simp[AS.setBox, *], .nil (hle _ (by repeat' first|exact hN.refl _|refine hN.setRb ?_ _|refine hN.setBox ?_ (by simp_all [AS.fresh]) _)),trivial,trivial,trivial⟩ ?_
 rintro m e S ⟨l,st',v,h4,hlm,hrow,hrb,hxb,h0b,hW,hn1,hn2,hn3⟩
 simp -dsimp only[↓bp,bq,br,seval,jH]at h4
 by_cases hc:0 < m /\ st'.2=false
 ·obtain⟨hm,hb⟩:=hc
  obtain⟨m,rfl⟩:∃ k,m=k+1:=⟨m - 1,by omega⟩
  have c1:((0:Int) < ((m+1:Nat):Int))=True:=eq_true (by omega)
  have t4:=fun(S:AS) (h:S.box rb=some (bY st'))=>bB (G:=G) 4 (by omega) h
  have hrow2:dD (aH 4) n s3=(l++[(aH 4 st').1]++(dD (aH 4) m (aH 4 st').2).1,(dD (aH 4) m (aH 4 st').2).2):=by
   rw[hrow];simp only[dD,hb];simp
  have hbx:S.box rb=some [eK st'.1, .bool false]:=by rw[hrb,bY,hb]
  have hwr:IntKind.i64.wrap (((m+1:Nat):Int) - 1)=(m:Int):=by rw[aG (by omega) (by omega)];omega
  have t4':=t4 S hrb
  clear hrow hR hrb t4 hb
  generalize aH 4 st'=o at*
  obtain⟨x,st2⟩:=o
  simp only at*
  have hcv:IntKind.u32.wrap (x:Int)=((UInt32.ofNat x).toNat:Int):=by rw[IntKind.wrap_u32,UInt32.toNat_ofNat'];omega
  have hW2:=hW.setOther hdr hn1 (bY st2)
  repeat'(first|(refine wn ?_;intro bx hbx;try simp only[fb]at hbx)|refine aP ?_|(refine aB ?_;intro bx hbx;(try simp only[fb]at hbx))|refine aD ?_|((with_reducible refine And.intro ?_ ?_);omega)|refine aA (d':=⟨⟩) ?_|refine aO ?_ (by repeat' first|exact lr _|assumption|refine ls ?_ ?_|refine lt ?_ ?_|simp only[*];done|simp only[fb, *,not_false_eq_true,and_self];done|exact lf ‹_› (by simp only[*]))|refine aC ?_ (by repeat' first|exact lr _|assumption|refine ls ?_ ?_|refine lt ?_ ?_|simp only[*];done|simp only[fb, *,not_false_eq_true,and_self];done|exact lf ‹_› (by simp only[*]))|simp -dsimp only[↓bp,bq,br,seval,jH, *]|refine wz ?_|fail)
  refine A5f rb (bY st2) 6 3 (fun k=>32+k) (fun k=> [.ptr bx 2,v, .ptr rb 0, .int .i64 x,lY (UInt32.ofNat x), .sl .full [lY (UInt32.ofNat x)] []].getD k .undef) (by decide+kernel) (by decide) (by intro i _ j _ h;simpa using h) rfl rfl ?_ ?_
  ·refine⟨?_,?_,?_,?_,?_,?_,trivial⟩
   ·refine⟨rfl,fun e' s hw hf=> ⟨fun hk=>absurd hk (by decide),fun _ hs=> ?_⟩⟩
    have h0:=hf 3 (by decide)
    simp -dsimp only[↓bp,bq,br,seval,jH]at h0
    simp -dsimp only[↓bp,bq,br,seval,jH,h0]
   ·refine⟨rfl,fun e' s hw hf=> ⟨fun hk=>absurd hk (by decide),fun _ hs=> ?_⟩⟩
    have h1:e' 32= .ptr bx 2:=hw 0 (by decide+kernel)
    rcases hs with rfl|rfl
    ·simp -dsimp only[↓bp,bq,br,seval,jH,h1,hxb]
    ·simp -dsimp only[↓bp,bq,br,seval,jH,h1,hxb,hx4,hx5,hx6,hx7,ite_false,ite_true]
   ·refine⟨rfl,fun e' s hw hf=> ⟨fun hk=>absurd hk (by decide),fun _ hs=> ?_⟩⟩
    have h0:=hf 0 (by decide)
    simp -dsimp only[↓bp,bq,br,seval,jH]at h0
    simp -dsimp only[↓bp,bq,br,seval,jH,h0]
   ·refine⟨rfl,fun e' s hw hf=> ⟨fun _=> ?_,fun hk=>absurd rfl hk⟩⟩
    have h2:e' 34= .ptr rb 0:=hw 2 (by decide+kernel)
    simp -dsimp only[↓bp,bq,br,seval,jH,h2]
    exact t4'
   ·refine⟨rfl,fun e' s hw hf=> ⟨fun hk=>absurd hk (by decide),fun _ hs=> ?_⟩⟩
    have h3:e' 35= .int .i64 x:=hw 3 (by decide+kernel)
    simp -dsimp only[↓bp,bq,br,seval,jH,h3,hcv]
    all_goals first|rfl|skip
   ·refine⟨rfl,fun e' s hw hf=> ⟨fun hk=>absurd hk (by decide),fun _ hs=> ?_⟩⟩
    have h3:e' 36=lY (UInt32.ofNat x):=hw 4 (by decide+kernel)
    simp -dsimp only[↓bp,bq,br,seval,jH,h3]
    refine aA (d':=⟨⟩) ?_
    simp -dsimp only[↓bp,bq,br,seval,jH,lY]
  ·intro e' hv hf
   have h0:=hf 3 (by decide)
   have g2:=hf 4 (by decide)
   simp -dsimp only[↓bp,bq,br,seval,jH]at h0 g2
   have h1:e' 33=v:=hv 1 (by decide)
   have h2:e' 37= .sl .full [lY (UInt32.ofNat x)] []:=hv 5 (by decide)
   clear hv hf
   repeat'(first|refine xs ?_ ?_ <;>intros|(refine wn ?_;intro bx hbx;try simp only[fb]at hbx)|((refine nF (σ0:=σ.delBox rb) (ys:=[lY (UInt32.ofNat x)]) hW2 rdU (jQ lF.2.2.2.1) (fun a ha=>by simp at ha;subst ha;exact⟨rfl,rfl⟩) (by simp only[List.length_map,List.length_cons,List.length_nil];omega) (fun v2 σ2 hA=> ?_);have kr:=hA.keep rb (bY st2) fR hn1;have kx:=hA.keep bx [.int .u8 k, .bool g,v, .str [], .int .i64 0, .nil, .nil] (by simp[AS.setBox, *]) hn2;have k0:=hA.keep b0 [.int .u8 0, .bool false, .nil, .str [], .int .i64 0, .nil, .nil] (by simp[AS.setBox, *]) hn3;obtain⟨w1,w2,w3⟩:=B0n hA.buf;obtain⟨kr1,kr2⟩:=kr;obtain⟨kx1,kx2⟩:=kx;obtain⟨k01,k02⟩:=k0;replace hA:=hA.buf))|refine aP ?_|(refine aB ?_;intro bx hbx;(try simp only[fb]at hbx))|refine aD ?_|((with_reducible refine And.intro ?_ ?_);omega)|refine aA (d':=⟨⟩) ?_|refine aR (by kernel_rfl) ?_|refine aO ?_ (by repeat' first|exact lr _|assumption|refine ls ?_ ?_|refine lt ?_ ?_|simp only[*];done|simp only[fb, *,not_false_eq_true,and_self];done|exact lf ‹_› (by simp only[*]))|refine aC ?_ (by repeat' first|exact lr _|assumption|refine ls ?_ ?_|refine lt ?_ ?_|simp only[*];done|simp only[fb, *,not_false_eq_true,and_self];done|exact lf ‹_› (by simp only[*]))|simp -dsimp only[↓bp,bq,br,seval,jH, *]|refine wz ?_|fail)
   exact⟨m,by omega,l++[x],st2,v2,rfl,by simp;omega,by first|rfl|exact hrow2,by simp[AS.setBox, *],by simp[AS.setBox, *],by simpa using hA.setOther hdx kx2 _,kr2,kx2,k02⟩
 ·have hend:dD (aH 4) m st'=([],st'):=by
   cases m with
   |zero=>rfl
   | succ m=>
    have:st'.2=true:=by cases hb:st'.2 with|true=>rfl|false=>exact absurd ⟨by omega,hb⟩ hc
    simp[dD,this]
  rw[hend,List.append_nil]at hrow
  rw[hrow]at hR
  subst hR
  simp only at*
  obtain⟨w1,w2,w3⟩:=B0n hW
  have fin:fN 1 88 (σ.delBox rb) (S.setBox b0 [.int .u8 k, .bool g,v, .str [], .int .i64 0, .nil, .nil]) v ((l.map UInt32.ofNat).map lY) /\ eS v rb /\ (S.setBox b0 [.int .u8 k, .bool g,v, .str [], .int .i64 0, .nil, .nil]).box rb=some (bY st'):=⟨hW.setOther hd0 hn3 _,hn1,by simp[AS.setBox, *]⟩
  by_cases hm:0 < m
  ·have c1:((0:Int) < (m:Int))=True:=eq_true (by omega)
   have hb:st'.2=true:=by cases hb:st'.2 with|true=>rfl|false=>exact absurd ⟨hm,hb⟩ hc
   have hbx:S.box rb=some [eK st'.1, .bool true]:=by rw[hrb,bY,hb]
   clear hc hend hrow hrb hb
   repeat'(first|refine xs ?_ ?_ <;>intros|(refine wn ?_;intro bx hbx;try simp only[fb]at hbx)|refine aP ?_|(refine aB ?_;intro bx hbx;(try simp only[fb]at hbx))|refine aD ?_|((with_reducible refine And.intro ?_ ?_);omega)|refine aA (d':=⟨⟩) ?_|refine aR (by kernel_rfl) ?_|refine aO ?_ (by repeat' first|exact lr _|assumption|refine ls ?_ ?_|refine lt ?_ ?_|simp only[*];done|simp only[fb, *,not_false_eq_true,and_self];done|exact lf ‹_› (by simp only[*]))|refine aC ?_ (by repeat' first|exact lr _|assumption|refine ls ?_ ?_|refine lt ?_ ?_|simp only[*];done|simp only[fb, *,not_false_eq_true,and_self];done|exact lf ‹_› (by simp only[*]))|simp -dsimp only[↓bp,bq,br,seval,jH, *]|refine wz ?_|fail)
   exact aE _ (AS.le.refl _) ⟨v,rfl,fin⟩
  ·have c1:((0:Int) < (m:Int))=False:=eq_false (by omega)
   clear hc hend hrow
   repeat'(first|refine xs ?_ ?_ <;>intros|(refine wn ?_;intro bx hbx;try simp only[fb]at hbx)|refine aP ?_|(refine aB ?_;intro bx hbx;(try simp only[fb]at hbx))|refine aD ?_|((with_reducible refine And.intro ?_ ?_);omega)|refine aA (d':=⟨⟩) ?_|refine aR (by kernel_rfl) ?_|refine aO ?_ (by repeat' first|exact lr _|assumption|refine ls ?_ ?_|refine lt ?_ ?_|simp only[*];done|simp only[fb, *,not_false_eq_true,and_self];done|exact lf ‹_› (by simp only[*]))|refine aC ?_ (by repeat' first|exact lr _|assumption|refine ls ?_ ?_|refine lt ?_ ?_|simp only[*];done|simp only[fb, *,not_false_eq_true,and_self];done|exact lf ‹_› (by simp only[*]))|simp -dsimp only[↓bp,bq,br,seval,jH, *]|refine wz ?_|fail)
   exact aE _ (AS.le.refl _) ⟨v,rfl,fin⟩
theorem B2e:∀ f,TC G f
 |0=>fun rb S st h _=>absurd h (by omega)
 | f+1=>fun rb S st hl h=>by
  have H:=B2e f
  have hk8:=gQ st
  have hlt:(aH 1 st).1 ≠ 0 -> (aH 1 st).2.1.length < f:=fun hk=>by have:=B5i st hk;omega
  show aJ Tryd.prog G 36 [.ptr rb 0] S fun r s=>r=(cJ (bD f) (aH 1 st).1 (aH 1 st).2).1.enc /\ s=S.setBox rb (bY (cJ (bD f) (aH 1 st).1 (aH 1 st).2).2)
  by_cases k1:(aH 1 st).1=1
  ·exact D4w H h k1
  by_cases k2:(aH 1 st).1=2
  ·exact D4x H h k2
  by_cases k3:(aH 1 st).1=3 \/ (aH 1 st).1=5
  ·exact D0l H h k3
  by_cases k4:(aH 1 st).1=4
  ·exact D4y H h k4 (hlt (by omega))
  by_cases k6:(aH 1 st).1=6
  ·exact D4z H h k6 (hlt (by omega))
  by_cases k7:(aH 1 st).1=7
  ·cases hg:(cE (aT (bD f) (aH 1 st).2).2).1 with
   |false=>exact D0m H h k7 (hlt (by omega)) hg
   |true=>exact D0n H h k7 (hlt (by omega)) hg
  exact D0o H h (by omega)
end
set_option maxRecDepth 20000
section
def xW:=And.intro (And.intro (And.intro (And.intro @mD @mE) (And.intro @mA (And.intro @lG @lJ))) (And.intro (And.intro @kN (And.intro @A7m @A7l)) (And.intro @tS (And.intro @sJ @oO)))) (And.intro (And.intro (And.intro @oA @jF) (And.intro @iB (And.intro @xY @B6d))) (And.intro (And.intro @bX (And.intro @bL @dJ)) (And.intro @cL (And.intro @gU @fO))))
variable {G:Nat ->AV}
theorem B4t(hg:mF G):A3v G 34 aQ.enc mP (fun _=>True):=
 ⟨fun rb S st _ h=>C1i hg h,fun _ _=>trivial,fun _ _ _=>trivial⟩
def noC:AV:= .agg [.nil, .nil, .nil]
theorem C4m(n:Nat)(st:dN)(σ:AS):dW Tryd.prog σ 27 9 (tkA n st)=some (.str (cB n st).1):=by
 unfold tkA cB
 by_cases hc:st.2=true \/ st.1.length < n
 ·rw[if_pos hc,if_pos hc]
  simp -dsimp only[↓bp,bq,br,seval,xW]
  rfl
 ·rw[if_neg hc,if_neg hc]
  simp -dsimp only[↓bp,bq,br,seval,xW]
  rw[zP];rfl
set_option maxHeartbeats 4000000 in
theorem D2g{b:List UInt8}(h:(cB 4 (b,false)).1 ≠ iM)(σ:AS):aJ Tryd.prog G 9 [eK b] σ fun r s=>r= .tup [noC, .int .i64 4] /\ s=σ:=by
 have t1:=fun(S:AS) (rb:Nat) (h:S.box rb=some (bY (b,false)))=>sI (G:=G) 4 h
 have e1:=C4m 4 (b,false)
 have c1:((cB 4 (b,false)).1=[112,105,103,115])=False:=eq_false h
 have hb:bY (b,false)=[eK b, .bool false]:=rfl
 clear h
 generalize cB 4 (b,false)=a1 at*
 obtain⟨x1,b1,bad1⟩:=a1
 generalize tkA 4 (b,false)=tk at*
 simp only at*
 unfold eK noC at*
 refine aJ.of_awp mixed Tryd.func9 rfl (by kernel_rfl) (by kernel_rfl) (by simp[Tryd.ntmps9]) Tryd.results9 ?_
 repeat'(first|refine xs ?_ ?_ <;>intros|(refine wn ?_;intro bx hbx;try simp only[fb]at hbx)|((refine aJ.mono (t1 _ _ (by simp[AS.setBox, *])) ?_;rintro r s ⟨rfl,rfl⟩;clear t1))|refine aP ?_|(refine aB ?_;intro bx hbx;(try simp only[fb]at hbx))|refine aD ?_|((with_reducible refine And.intro ?_ ?_);omega)|refine aA (d':=⟨⟩) ?_|refine aR (by kernel_rfl) ?_|refine aO ?_ (by repeat' first|exact lr _|assumption|refine ls ?_ ?_|refine lt ?_ ?_|simp only[*];done|simp only[fb, *,not_false_eq_true,and_self];done|exact lf ‹_› (by simp only[*]))|refine aC ?_ (by repeat' first|exact lr _|assumption|refine ls ?_ ?_|refine lt ?_ ?_|simp only[*];done|simp only[fb, *,not_false_eq_true,and_self];done|exact lf ‹_› (by simp only[*]))|simp -dsimp only[↓bp,bq,br,seval,xW,bY,eK, *]|refine wz ?_|fail)
def B4k(f:Nat)(st:dN):cH × dN:=
 (⟨(aT vB st).1,(aT mP (aT vB st).2).1,(aT (bD f) (aT mP (aT vB st).2).2).1⟩,(aT (bD f) (aT mP (aT vB st).2).2).2)
theorem B9b(st:dN):(vB st).2.1.length <=st.1.length:=by
 unfold vB
 exact Nat.le_trans (dV _ _) (Nat.le_trans (dV _ _) (Nat.le_trans (dV _ _) (Nat.le_trans (dV _ _) (tG _))))
theorem A9j(i:aQ)(f:UInt8)(st:dN):(cU i f st).2.1.length <=st.1.length:=by
 unfold cU
 repeat' split
 all_goals first|exact dV _ _|exact tG _|exact iX (dV 2) _|exact Nat.le_refl _
theorem uE:∀ (l:List UInt8) (i:aQ) (st:dN),(gG l i st).2.1.length <=st.1.length
 |[],i,st=>Nat.le_refl _
 | f::l,i,st=>by
  simp only[gG]
  exact Nat.le_trans (uE l _ _) (A9j i f st)
theorem C1g(st:dN):(mP st).2.1.length <=st.1.length:=by
 unfold mP
 split
 ·exact dV _ _
 ·exact Nat.le_trans (uE _ _ _) (dV _ _)
def C6y(c:cH)(st:dN)(ok:Bool):AV:=if st.2=true \/ st.1 ≠ [] \/ ok=false then .tup [noC, .int .i64 4]else .tup [c.enc, .int .i64 0]
set_option maxHeartbeats 4000000 in
theorem C0h(hg:mF G){b:List UInt8}(h:(cB 4 (b,false)).1=iM)(ok:Bool)(hok:(B4k (b.length+1) (cB 4 (b,false)).2).2=([],false) ->aN Tryd.prog G 8 [(B4k (b.length+1) (cB 4 (b,false)).2).1.enc] (.bool ok))(σ:AS):
  aJ Tryd.prog G 9 [eK b] σ fun r s=>r=C6y (B4k (b.length+1) (cB 4 (b,false)).2).1 (B4k (b.length+1) (cB 4 (b,false)).2).2 ok /\ s=σ:=by
 have t1:=fun(S:AS) (rb:Nat) (h:S.box rb=some (bY (b,false)))=>sI (G:=G) 4 h
 have e1:=C4m 4 (b,false)
 have c1:((cB 4 (b,false)).1=[112,105,103,115])=True:=eq_true h
 have hb:bY (b,false)=[eK b, .bool false]:=rfl
 have hl1:=tN 4 (b,false)
 clear h
 unfold B4k at*
 generalize cB 4 (b,false)=a1 at*
 obtain⟨x1,st1⟩:=a1
 generalize tkA 4 (b,false)=tk at*
 simp only at*
 have t2:=fun(S:AS) (rb:Nat) (h:S.box rb=some (bY st1))=>C9q (G:=G) B4f trivial h
 have hl2:=iX B9b st1
 generalize aT vB st1=a2 at*
 obtain⟨es,st2⟩:=a2
 have t3:=fun(S:AS) (rb:Nat) (h:S.box rb=some (bY st2))=>C9s (B4t hg) trivial h
 have hl3:=iX C1g st2
 generalize aT mP st2=a3 at*
 obtain⟨is,st3⟩:=a3
 have t4:=fun(S:AS) (rb:Nat) (h:S.box rb=some (bY st3))=> (B2e (G:=G) (b.length+1)).row (by simp only at*;omega) h
 generalize aT (bD (b.length+1)) st3=a4 at*
 obtain⟨cs,b4,bad4⟩:=a4
 simp only at*
 have hen:∀ (x:List cM) (y:List aQ) (z:List aF),AV.agg [.sl .none (x.map cM.enc) [], .sl .none (y.map aQ.enc) [],cZ z]=(⟨x,y,z⟩:cH).enc:=fun x y z=>rfl
 clear hl1 hl2 hl3 hg
 unfold eK C6y noC at*
 cases bad4 with
 | true=>
  rw[if_pos (.inl rfl)]
  have hb4:bY (b4,true)=[.sl .none (aI b4) [], .bool true]:=rfl
  clear hok
  refine aJ.of_awp mixed Tryd.func9 rfl (by kernel_rfl) (by kernel_rfl) (by simp[Tryd.ntmps9]) Tryd.results9 ?_
  repeat'(first|refine xs ?_ ?_ <;>intros|(refine wn ?_;intro bx hbx;try simp only[fb]at hbx)|((refine aJ.mono (t1 _ _ (by simp[AS.setBox, *])) ?_;rintro r s ⟨rfl,rfl⟩;clear t1))|((refine aJ.mono (t2 _ _ (by simp[AS.setBox, *])) ?_;rintro r s ⟨rfl,rfl⟩;clear t2))|((refine aJ.mono (t3 _ _ (by simp[AS.setBox, *])) ?_;rintro r s ⟨rfl,rfl⟩;clear t3))|((refine aJ.mono (t4 _ _ (by simp[AS.setBox, *])) ?_;rintro r s ⟨rfl,rfl⟩;clear t4))|refine aP ?_|(refine aB ?_;intro bx hbx;(try simp only[fb]at hbx))|refine aD ?_|((with_reducible refine And.intro ?_ ?_);omega)|refine aA (d':=⟨⟩) ?_|refine aR (by kernel_rfl) ?_|refine aO ?_ (by repeat' first|exact lr _|assumption|refine ls ?_ ?_|refine lt ?_ ?_|simp only[*];done|simp only[fb, *,not_false_eq_true,and_self];done|exact lf ‹_› (by simp only[*]))|refine aC ?_ (by repeat' first|exact lr _|assumption|refine ls ?_ ?_|refine lt ?_ ?_|simp only[*];done|simp only[fb, *,not_false_eq_true,and_self];done|exact lf ‹_› (by simp only[*]))|simp -dsimp only[↓bp,bq,br,seval,xW, *]|refine wz ?_|fail)|false=>
  have hb4:bY (b4,false)=[.sl .none (aI b4) [], .bool false]:=rfl
  have hlen:=qJ b4
  by_cases hr:b4=[]
  ·subst hr
   have hR:=hok rfl
   have hbe:aI []=[]:=rfl
   rw[hbe]at hb4
   have q1:((0:Int) < ((0:Nat):Int))=False:=eq_false (by omega)
   clear hok hlen
   cases ok with
   | false=>
    rw[if_pos (.inr (.inr rfl))]
    refine aJ.of_awp mixed Tryd.func9 rfl (by kernel_rfl) (by kernel_rfl) (by simp[Tryd.ntmps9]) Tryd.results9 ?_
    repeat'(first|refine xs ?_ ?_ <;>intros|(refine wn ?_;intro bx hbx;try simp only[fb]at hbx)|((refine aJ.mono (t1 _ _ (by simp[AS.setBox, *])) ?_;rintro r s ⟨rfl,rfl⟩;clear t1))|((refine aJ.mono (t2 _ _ (by simp[AS.setBox, *])) ?_;rintro r s ⟨rfl,rfl⟩;clear t2))|((refine aJ.mono (t3 _ _ (by simp[AS.setBox, *])) ?_;rintro r s ⟨rfl,rfl⟩;clear t3))|((refine aJ.mono (t4 _ _ (by simp[AS.setBox, *])) ?_;rintro r s ⟨rfl,rfl⟩;clear t4))|refine wp hR ?_|refine aP ?_|(refine aB ?_;intro bx hbx;(try simp only[fb]at hbx))|refine aD ?_|((with_reducible refine And.intro ?_ ?_);omega)|refine aA (d':=⟨⟩) ?_|refine aR (by kernel_rfl) ?_|refine aO ?_ (by repeat' first|exact lr _|assumption|refine ls ?_ ?_|refine lt ?_ ?_|simp only[*];done|simp only[fb, *,not_false_eq_true,and_self];done|exact lf ‹_› (by simp only[*]))|refine aC ?_ (by repeat' first|exact lr _|assumption|refine ls ?_ ?_|refine lt ?_ ?_|simp only[*];done|simp only[fb, *,not_false_eq_true,and_self];done|exact lf ‹_› (by simp only[*]))|simp -dsimp only[↓bp,bq,br,seval,xW,hen, *]|refine wz ?_|fail)|true=>
    rw[if_neg (by simp)]
    refine aJ.of_awp mixed Tryd.func9 rfl (by kernel_rfl) (by kernel_rfl) (by simp[Tryd.ntmps9]) Tryd.results9 ?_
    repeat'(first|refine xs ?_ ?_ <;>intros|(refine wn ?_;intro bx hbx;try simp only[fb]at hbx)|((refine aJ.mono (t1 _ _ (by simp[AS.setBox, *])) ?_;rintro r s ⟨rfl,rfl⟩;clear t1))|((refine aJ.mono (t2 _ _ (by simp[AS.setBox, *])) ?_;rintro r s ⟨rfl,rfl⟩;clear t2))|((refine aJ.mono (t3 _ _ (by simp[AS.setBox, *])) ?_;rintro r s ⟨rfl,rfl⟩;clear t3))|((refine aJ.mono (t4 _ _ (by simp[AS.setBox, *])) ?_;rintro r s ⟨rfl,rfl⟩;clear t4))|refine wp hR ?_|refine aP ?_|(refine aB ?_;intro bx hbx;(try simp only[fb]at hbx))|refine aD ?_|((with_reducible refine And.intro ?_ ?_);omega)|refine aA (d':=⟨⟩) ?_|refine aR (by kernel_rfl) ?_|refine aO ?_ (by repeat' first|exact lr _|assumption|refine ls ?_ ?_|refine lt ?_ ?_|simp only[*];done|simp only[fb, *,not_false_eq_true,and_self];done|exact lf ‹_› (by simp only[*]))|refine aC ?_ (by repeat' first|exact lr _|assumption|refine ls ?_ ?_|refine lt ?_ ?_|simp only[*];done|simp only[fb, *,not_false_eq_true,and_self];done|exact lf ‹_› (by simp only[*]))|simp -dsimp only[↓bp,bq,br,seval,xW,hen,cH.flat_enc,cH.isv_enc, *]|refine wz ?_|fail)
    all_goals first|rfl|skip
  ·rw[if_pos (.inr (.inl hr))]
   have hp:0 < b4.length:=List.length_pos_iff.2 hr
   have q1:((0:Int) < (b4.length:Int))=True:=eq_true (by omega)
   clear hok hr
   refine aJ.of_awp mixed Tryd.func9 rfl (by kernel_rfl) (by kernel_rfl) (by simp[Tryd.ntmps9]) Tryd.results9 ?_
   repeat'(first|refine xs ?_ ?_ <;>intros|(refine wn ?_;intro bx hbx;try simp only[fb]at hbx)|((refine aJ.mono (t1 _ _ (by simp[AS.setBox, *])) ?_;rintro r s ⟨rfl,rfl⟩;clear t1))|((refine aJ.mono (t2 _ _ (by simp[AS.setBox, *])) ?_;rintro r s ⟨rfl,rfl⟩;clear t2))|((refine aJ.mono (t3 _ _ (by simp[AS.setBox, *])) ?_;rintro r s ⟨rfl,rfl⟩;clear t3))|((refine aJ.mono (t4 _ _ (by simp[AS.setBox, *])) ?_;rintro r s ⟨rfl,rfl⟩;clear t4))|refine aP ?_|(refine aB ?_;intro bx hbx;(try simp only[fb]at hbx))|refine aD ?_|((with_reducible refine And.intro ?_ ?_);omega)|refine aA (d':=⟨⟩) ?_|refine aR (by kernel_rfl) ?_|refine aO ?_ (by repeat' first|exact lr _|assumption|refine ls ?_ ?_|refine lt ?_ ?_|simp only[*];done|simp only[fb, *,not_false_eq_true,and_self];done|exact lf ‹_› (by simp only[*]))|refine aC ?_ (by repeat' first|exact lr _|assumption|refine ls ?_ ?_|refine lt ?_ ?_|simp only[*];done|simp only[fb, *,not_false_eq_true,and_self];done|exact lf ‹_› (by simp only[*]))|simp -dsimp only[↓bp,bq,br,seval,xW,hlen, *]|refine wz ?_|fail)
end
set_option maxRecDepth 20000
section
structure fG{α:Type}(m:dN ->α × dN)(D:Rd α):Prop where
 bad:∀ b,(m (b,true)).2.2=true
 yes:∀ b x r,D b=some (x,r) ->m (b,false)=(x,(r,false))
 no:∀ b,D b=none -> (m (b,false)).2.2=true
theorem fG.two{α:Type}{m:dN ->α × dN}{D:Rd α}(h:fG m D)(b:List UInt8):(∃ x r,D b= .some (x,r) /\ m (b,false)=(x,(r,false))) \/ (D b= .none /\ (m (b,false)).2.2=true):=by
 cases e:D b with
 |none=>exact .inr ⟨rfl,h.no b e⟩
 |some y=>obtain⟨x,r⟩:=y;exact .inl ⟨x,r,rfl,h.yes b x r e⟩
theorem fG.bind{α β:Type}{m:dN ->α × dN}{D:Rd α}(h:fG m D){m2:α ->dN ->β × dN}{D2:α ->Rd β}(h2:∀ x,fG (m2 x) (D2 x)):fG (fun st=>m2 (m st).1 (m st).2) (fun b=> (D b).bind fun p=>D2 p.1 p.2):=by
 have key:∀ x (st:dN),st.2=true -> (m2 x st).2.2=true:=fun x st hs=>by
  obtain⟨b,bad⟩:=st
  simp only at hs;subst hs
  exact(h2 x).bad b
 refine⟨fun b=>key _ _ (h.bad b),fun b x r hx=> ?_,fun b hx=> ?_⟩
 ·obtain⟨⟨y,r1⟩,e1,e2⟩:=Option.bind_eq_some_iff.1 hx
  show m2 (m (b,false)).1 (m (b,false)).2=_
  rw[h.yes b y r1 e1]
  exact(h2 y).yes r1 x r e2
 ·show(m2 (m (b,false)).1 (m (b,false)).2).2.2=true
  rcases h.two b with⟨y,r1,e1,e2⟩|⟨e1,e2⟩
  ·rw[e2]
   rw[e1]at hx
   exact(h2 y).no r1 hx
  ·exact key _ _ e2
theorem fG.ret{α:Type}(x:α):fG (fun st=> (x,st)) (fun b=>some (x,b)):=
 ⟨fun _=>rfl,fun b y r h=>by cases h;rfl,fun b h=>by cases h⟩
theorem fG.map{α β:Type}{m:dN ->α × dN}{D:Rd α}(h:fG m D)(g:α ->β):fG (fun st=> (g (m st).1,(m st).2)) (fun b=> (D b).map fun p=> (g p.1,p.2)):=by
 have:=h.bind (m2:=fun x st=> (g x,st)) (D2:=fun x b=>some (g x,b)) (fun x=>fG.ret (g x))
 have e:(fun b=> (D b).map fun p=> (g p.1,p.2))=(fun b=> (D b).bind fun p=>some (g p.1,p.2)):=by funext b;cases D b <;>rfl
 rw[e];exact this
theorem fG.fail{α:Type}(x:α):fG (fun st=> (x,(st.1,true))) (fun _=>none):=⟨fun _=>rfl,fun b y r h=> (nomatch h),fun _ _=>rfl⟩
theorem sH(n:Nat):fG (cB n) (mU n):=by
 refine⟨fun b=>by simp[cB],fun b x r h=> ?_,fun b h=> ?_⟩
 ·unfold mU at h
  split at h
  ·rename_i hn
   cases h
   unfold cB
   rw[if_neg (by simp;omega)]
  ·cases h
 ·unfold mU at h
  split at h
  ·cases h
  ·rename_i hn
   unfold cB
   rw[if_pos (by simp;omega)]
theorem fQ(s:Nat):fG (aH s) (fE s):=by
 have h:=(sH s).map kA
 have e:(fE s)=(fun b=> (mU s b).map fun p=> (kA p.1,p.2)):=by funext b;unfold fE mU;split <;>rfl
 rw[e];exact h
theorem xG:fG fX pL:=(fQ 1).bind (m2:=cB) (D2:=mU) sH
theorem A0m:fG cE mC:=by
 refine(fQ 1).bind (m2:=fun n st=> (n==1,(st.1,st.2||decide (1 < n)))) (D2:=fun n r=>if 1 < n then none else some (n==1,r)) fun n=> ?_
 refine⟨fun b=>by simp,fun b x r h=> ?_,fun b h=> ?_⟩
 ·split at h
  ·cases h
  ·rename_i hn;cases h;simp[hn]
 ·split at h
  ·rename_i hn;simp[hn]
  ·cases h
theorem A3e{α:Type}{one:dN ->α × dN}{D:Rd α}(h:fG one D):∀ n,fG (dD one n) (kZ D n)
 |0=>fG.ret []
 | n+1=>by
  have ih:=A3e h n
  have hb:=h.bind (m2:=fun x st=> (x::(dD one n st).1,(dD one n st).2)) (D2:=fun x b=> (kZ D n b).map fun p=> (x::p.1,p.2)) (fun x=>ih.map (x:: ·))
  refine⟨fun b=>rfl,fun b x r hx=> ?_,fun b hx=> ?_⟩
  ·have:=hb.yes b x r hx
   simp only[dD];exact this
  ·have:=hb.no b hx
   simp only[dD];exact this
theorem lA{α:Type}{one:dN ->α × dN}{D:Rd α}(h:fG one D):fG (aT one) (fY D):=(fQ 2).bind (m2:=dD one) (D2:=kZ D) (A3e h)
theorem C6j:fG vB A1y:=
 xG.bind (m2:=fun s st=> ((⟨s,(aH 1 st).1,(aH 1 (aH 1 st).2).1,(aH 2 (aH 1 (aH 1 st).2).2).1,(aH 2 (aH 2 (aH 1 (aH 1 st).2).2).2).1⟩:cM),(aH 2 (aH 2 (aH 1 (aH 1 st).2).2).2).2)) (D2:=fun s r=> (fE 1 r).bind fun(a,r)=> (fE 1 r).bind fun(x,r)=> (fE 2 r).bind fun(n,r)=> (fE 2 r).map fun(p,r)=> ((⟨s,a,x,n,p⟩:cM),r)) fun s=>
 (fQ 1).bind (m2:=fun a st=> ((⟨s,a,(aH 1 st).1,(aH 2 (aH 1 st).2).1,(aH 2 (aH 2 (aH 1 st).2).2).1⟩:cM),(aH 2 (aH 2 (aH 1 st).2).2).2)) (D2:=fun a r=> (fE 1 r).bind fun(x,r)=> (fE 2 r).bind fun(n,r)=> (fE 2 r).map fun(p,r)=> ((⟨s,a,x,n,p⟩:cM),r)) fun a=>
 (fQ 1).bind (m2:=fun x st=> ((⟨s,a,x,(aH 2 st).1,(aH 2 (aH 2 st).2).1⟩:cM),(aH 2 (aH 2 st).2).2)) (D2:=fun x r=> (fE 2 r).bind fun(n,r)=> (fE 2 r).map fun(p,r)=> ((⟨s,a,x,n,p⟩:cM),r)) fun x=>
 (fQ 2).bind (m2:=fun n st=> ((⟨s,a,x,n,(aH 2 st).1⟩:cM),(aH 2 st).2)) (D2:=fun n r=> (fE 2 r).map fun(p,r)=> ((⟨s,a,x,n,p⟩:cM),r)) fun n=>
 (fQ 2).map fun p=> (⟨s,a,x,n,p⟩:cM)
theorem B4h(i:aQ)(f:UInt8):fG (cU i f) (eL i f):=by
 have h2:=fQ 2
 have e:∀ (m:dN ->aQ × dN) (D:Rd aQ),cU i f=m ->eL i f=D ->fG m D ->fG (cU i f) (eL i f):=fun m D e1 e2 h=>by rw[e1,e2];exact h
 by_cases k65:f=65
 ·subst k65;exact e _ _ (by funext st;simp[cU];try rfl) (by funext b;simp[eL,oN];try rfl) (h2.map fun n=> {i with a:=n})
 by_cases k66:f=66
 ·subst k66;exact e _ _ (by funext st;simp[cU];try rfl) (by funext b;simp[eL,oN];try rfl) (h2.map fun n=> {i with b:=n})
 by_cases k67:f=67
 ·subst k67;exact e _ _ (by funext st;simp[cU];try rfl) (by funext b;simp[eL,oN];try rfl) (h2.map fun n=> {i with c:=n})
 by_cases k78:f=78
 ·subst k78;exact e _ _ (by funext st;simp[cU];try rfl) (by funext b;simp[eL,oN];try rfl) (h2.map fun n=> {i with n:=n})
 by_cases k76:f=76
 ·subst k76;exact e _ _ (by funext st;simp[cU];try rfl) (by funext b;simp[eL,oN];try rfl) (h2.map fun n=> {i with l:=n})
 by_cases k84:f=84
 ·subst k84;exact e _ _ (by funext st;simp[cU];try rfl) (by funext b;simp[eL];try rfl) (xG.map fun s=> {i with text:=s})
 by_cases k83:f=83
 ·subst k83;exact e _ _ (by funext st;simp[cU];try rfl) (by funext b;simp[eL];try rfl) ((lA h2).map fun l=> {i with slots:=l.map Int.ofNat})
 exact e _ _ (by funext st;simp[cU, *];try rfl) (by funext b;simp[eL, *];try rfl) (fG.ret i)
theorem nJ:∀ (l:List UInt8) (i:aQ),fG (gG l i) (jC l i)
 |[],i=>fG.ret i
 |f::l,i=> (B4h i f).bind (m2:=gG l) (D2:=jC l) (nJ l)
theorem lR:∀ (l:List UInt8) (i:aQ) (st:dN),gG l i st=gG (l.filter fun c=> !(c==45)) i st
 |[],i,st=>rfl
 | c::l,i,st=>by
  by_cases h:c=45
  ·subst h
   have:cU i 45 st=(i,st):=by simp[cU]
   simp only[gG,this]
   rw[lR l i st];rfl
  ·have:(!(c==45))=true:=by simpa using h
   rw[List.filter_cons,if_pos this]
   simp only[gG]
   exact lR l _ _
theorem B1v:∀ k:Fin 256,decide (rW (UInt8.ofNat k)=[] ↔ (30 <=k.1 \/ pF (UInt8.ofNat k)=[]))=true:=by decide+kernel
theorem C7w:fG mP vC:=by
 refine⟨fun b=> ?_,fun b x r h=> ?_,fun b h=> ?_⟩
 ·have e:aH 1 (b,true)=(0,(b,true)):=by simp[aH,cB,kA]
  unfold mP
  rw[e,if_pos (.inr (show pF (UInt8.ofNat 0)=[]by decide))]
 ·unfold vC at h
  obtain⟨⟨k,r1⟩,h1,h2⟩:=Option.bind_eq_some_iff.1 h
  have e:=(fQ 1).yes _ _ _ h1
  have hk:=(dU h1).2
  have ho:=of_decide_eq_true (B1v ⟨k,by simpa using hk⟩)
  simp only at h2 ho
  split at h2
  ·cases h2
  ·rename_i hn
   unfold mP
   rw[e]
   simp only
   rw[if_neg (fun hx=>hn (ho.2 hx)),lR,(A6m _).1]
   exact(nJ _ _).yes _ _ _ h2
 ·unfold vC at h
  rcases(fQ 1).two b with⟨k,r1,e1,e2⟩|⟨e1,e2⟩
  ·rw[e1]at h
   have hk:=(dU e1).2
   have ho:=of_decide_eq_true (B1v ⟨k,by simpa using hk⟩)
   simp only[Option.bind_some]at h
   simp only at ho
   unfold mP
   rw[e2]
   simp only
   split at h
   ·rename_i hn;rw[if_pos (ho.1 hn)]
   ·rename_i hn
    rw[if_neg (fun hx=>hn (ho.2 hx)),lR,(A6m _).1]
    exact(nJ _ _).no _ h
  ·unfold mP
   split
   ·rfl
   ·obtain⟨b2,hb2⟩:∃ b2,(aH 1 (b,false)).2=(b2,true):=⟨_,Prod.ext rfl e2⟩
    rw[hb2]
    exact(nJ _ _).bad b2
theorem C1u{T:dN ->aF × dN}{D:Rd aF}(h:fG T D)(k:Nat):fG (cJ T k) (jX D k):=by
 have e:∀ (m:dN ->aF × dN) (D':Rd aF),cJ T k=m ->jX D k=D' ->fG m D' ->fG (cJ T k) (jX D k):=fun m D' e1 e2 h=>by rw[e1,e2];exact h
 by_cases k1:k=1
 ·subst k1
  refine e _ _ (by funext st;unfold cJ;rw[if_pos rfl]) (by funext b;unfold jX;rw[if_pos rfl]) ?_
  exact A0m.bind (m2:=fun g st=> (aF.mk 1 g ((dD (aH 4) (aH 1 st).1 (aH 1 st).2).1.map UInt32.ofNat) [] 0 [] [],(dD (aH 4) (aH 1 st).1 (aH 1 st).2).2)) (D2:=fun g r=> (fE 1 r).bind fun(n,r)=> (kZ (fE 4) n r).map fun(l,r)=> (aF.mk 1 g (l.map UInt32.ofNat) [] 0 [] [],r)) fun g=>
   (fQ 1).bind (m2:=fun n st=> (aF.mk 1 g ((dD (aH 4) n st).1.map UInt32.ofNat) [] 0 [] [],(dD (aH 4) n st).2)) (D2:=fun n r=> (kZ (fE 4) n r).map fun(l,r)=> (aF.mk 1 g (l.map UInt32.ofNat) [] 0 [] [],r)) fun n=>
   (A3e (fQ 4) n).map fun l=>aF.mk 1 g (l.map UInt32.ofNat) [] 0 [] []
 by_cases k2:k=2
 ·subst k2
  exact e _ _ (by funext st;unfold cJ;rw[if_neg (by omega),if_pos rfl]) (by funext b;unfold jX;rw[if_neg (by omega),if_pos rfl]) (xG.map fun s=>aF.mk 2 false [] s 0 [] [])
 by_cases k3:k=3 \/ k=5
 ·exact e _ _ (by funext st;unfold cJ;rw[if_neg k1,if_neg k2,if_pos k3]) (by funext b;unfold jX;rw[if_neg k1,if_neg k2,if_pos k3]) ((fQ 6).map fun n=>aF.mk (UInt8.ofNat k) false [] [] n [] [])
 by_cases k4:k=4
 ·refine e _ _ (by funext st;unfold cJ;rw[if_neg k1,if_neg k2,if_neg k3,if_pos k4]) (by funext b;unfold jX;rw[if_neg k1,if_neg k2,if_neg k3,if_pos k4]) ?_
  exact(fQ 2).bind (m2:=fun n st=> (aF.mk 4 false [] [] n (aT T st).1 [],(aT T st).2)) (D2:=fun n r=> (fY D r).map fun(l,r)=> (aF.mk 4 false [] [] n l [],r)) fun n=> (lA h).map fun l=>aF.mk 4 false [] [] n l []
 by_cases k6:k=6
 ·exact e _ _ (by funext st;unfold cJ;rw[if_neg k1,if_neg k2,if_neg k3,if_neg k4,if_pos k6]) (by funext b;unfold jX;rw[if_neg k1,if_neg k2,if_neg k3,if_neg k4,if_pos k6]) ((lA h).map fun l=>aF.mk 6 false [] [] 0 l [])
 by_cases k7:k=7
 ·refine e _ _ (by funext st;unfold cJ;rw[if_neg k1,if_neg k2,if_neg k3,if_neg k4,if_neg k6,if_pos k7]) (by funext b;unfold jX;rw[if_neg k1,if_neg k2,if_neg k3,if_neg k4,if_neg k6,if_pos k7]) ?_
  refine(lA h).bind (m2:=fun l st=>if(cE st).1=true then(aF.mk 7 false [] [] 0 l [(T (cE st).2).1],(T (cE st).2).2)else(aF.mk 7 false [] [] 0 l [],(cE st).2)) (D2:=fun l r=> (mC r).bind fun(g,r)=> (kZ D (if g then 1 else 0) r).map fun(ts,r)=> (aF.mk 7 false [] [] 0 l ts,r)) fun l=> ?_
  refine A0m.bind (m2:=fun g st=>if g=true then(aF.mk 7 false [] [] 0 l [(T st).1],(T st).2)else(aF.mk 7 false [] [] 0 l [],st)) (D2:=fun g r=> (kZ D (if g then 1 else 0) r).map fun(ts,r)=> (aF.mk 7 false [] [] 0 l ts,r)) fun g=> ?_
  cases g with
  |false=>exact fG.ret _
  | true=>
   have:=h.map fun t=>aF.mk 7 false [] [] 0 l [t]
   have e:(fun r=> (kZ D (if true=true then 1 else 0) r).map fun(p:List aF × List UInt8)=> (aF.mk 7 false [] [] 0 l p.1,p.2))=(fun r=> (D r).map fun p=> (aF.mk 7 false [] [] 0 l [p.1],p.2)):=by
    funext r
    simp only[if_true,kZ]
    cases D r <;>rfl
   show fG _ (fun r=> (kZ D (if true=true then 1 else 0) r).map fun(p:List aF × List UInt8)=> (aF.mk 7 false [] [] 0 l p.1,p.2))
   rw[e]
   exact this
 exact e _ _ (by funext st;unfold cJ;rw[if_neg k1,if_neg k2,if_neg k3,if_neg k4,if_neg k6,if_neg k7]) (by funext b;unfold jX;rw[if_neg k1,if_neg k2,if_neg k3,if_neg k4,if_neg k6,if_neg k7]) (fG.fail _)
theorem A7g:∀ f,fG (bD f) (gS f)
 |0=>fG.fail _
 |f+1=> (fQ 1).bind (m2:=cJ (bD f)) (D2:=jX (gS f)) (C1u (A7g f))
end
set_option maxRecDepth 20000
section
def yF{α:Type}(D:Rd α)(w:α ->Nat):Prop:=∀ b x r,D b=some (x,r) ->w x+r.length <=b.length
theorem eO(s:Nat):yF (fE s) (fun _=>s):=fun b x r h=>by
 unfold fE at h
 split at h
 ·cases h;simp;omega
 ·cases h
theorem tH:yF pL (fun s=>s.length+1):=fun b x r h=>by
 unfold pL at h
 obtain⟨⟨n,r1⟩,h1,h2⟩:=Option.bind_eq_some_iff.1 h
 have:=eO 1 _ _ _ h1
 obtain⟨rfl,rfl⟩:=qE h2
 simp only[List.length_append]at this ⊢;omega
theorem yB:yF mC (fun _=>1):=fun b x r h=>by
 unfold mC at h
 obtain⟨⟨n,r1⟩,h1,h2⟩:=Option.bind_eq_some_iff.1 h
 have:=eO 1 _ _ _ h1
 simp only at h2 this
 split at h2
 ·cases h2
 ·cases h2;omega
theorem sE{α:Type}{D:Rd α}{w:α ->Nat}(h:yF D w):∀ n,yF (kZ D n) (cK w)
 |0=>fun b x r hx=>by cases hx;simp[cK]
 | n+1=>fun b x r hx=>by
  simp only[kZ]at hx
  obtain⟨⟨y,r1⟩,h1,h2⟩:=Option.bind_eq_some_iff.1 hx
  obtain⟨⟨l,r2⟩,h3,h4⟩:=Option.map_eq_some_iff.1 h2
  cases h4
  have e1:=h _ _ _ h1
  have e2:=sE h n _ _ _ h3
  simp only[cK]at*;omega
theorem mT{α:Type}{D:Rd α}{w:α ->Nat}(h:yF D w):yF (fY D) (fun l=>cK w l+2):=fun b x r hx=>by
 unfold fY at hx
 obtain⟨⟨n,r1⟩,h1,h2⟩:=Option.bind_eq_some_iff.1 hx
 have e1:=eO 2 _ _ _ h1
 have e2:=sE h n _ _ _ h2
 simp only at e1 ⊢;omega
theorem B9c:yF A1y cM.bulk:=fun b x r h=>by
 unfold A1y at h
 obtain⟨⟨s,r1⟩,h1,h⟩:=Option.bind_eq_some_iff.1 h
 obtain⟨⟨a,r2⟩,h2,h⟩:=Option.bind_eq_some_iff.1 h
 obtain⟨⟨y,r3⟩,h3,h⟩:=Option.bind_eq_some_iff.1 h
 obtain⟨⟨n,r4⟩,h4,h⟩:=Option.bind_eq_some_iff.1 h
 obtain⟨⟨p,r5⟩,h5,h⟩:=Option.map_eq_some_iff.1 h
 cases h
 have e1:=tH _ _ _ h1
 have e2:=eO 1 _ _ _ h2
 have e3:=eO 1 _ _ _ h3
 have e4:=eO 2 _ _ _ h4
 have e5:=eO 2 _ _ _ h5
 unfold cM.bulk
 simp only at*;omega
theorem wM{α:Type}{w:α ->Nat}(hw:∀ x,1 <=w x):∀ l:List α,l.length <=cK w l
 |[]=>by simp[cK]
 |x::l=>by have:=hw x;have:=wM hw l;simp only[cK,List.length_cons];omega
theorem A9k(i:aQ)(f:UInt8)(b:List UInt8)(j:aQ)(r:List UInt8)(h:eL i f b=some (j,r)):j.text.length+j.slots.length+r.length <=i.text.length+i.slots.length+b.length:=by
 unfold eL at h
 split at h
 ·obtain⟨⟨n,r1⟩,h1,h⟩:=Option.map_eq_some_iff.1 h
  cases h
  have:=eO 2 _ _ _ h1
  have hs:(oN i f n).text=i.text /\ (oN i f n).slots=i.slots:=⟨by unfold oN;(repeat' split) <;>rfl,by unfold oN;(repeat' split) <;>rfl⟩
  rw[hs.1,hs.2];simp only at this;omega
 ·split at h
  ·obtain⟨⟨n,r1⟩,h1,h⟩:=Option.map_eq_some_iff.1 h
   cases h
   have:=tH _ _ _ h1
   simp only at this ⊢;omega
  ·split at h
   ·obtain⟨⟨n,r1⟩,h1,h⟩:=Option.map_eq_some_iff.1 h
    cases h
    have:=mT (eO 2) _ _ _ h1
    have hl:=wM (w:=fun _:Nat=>2) (fun _=>by omega) n
    simp only[List.length_map]at this ⊢;omega
   ·cases h;omega
theorem uF:∀ (l:List UInt8) (i:aQ) (b:List UInt8) (j:aQ) (r:List UInt8),jC l i b=some (j,r) ->j.text.length+j.slots.length+r.length <=i.text.length+i.slots.length+b.length
 |[],i,b,j,r,h=>by cases h;omega
 | f::l,i,b,j,r,h=>by
  simp only[jC]at h
  obtain⟨⟨y,r1⟩,h1,h2⟩:=Option.bind_eq_some_iff.1 h
  have e1:=A9k _ _ _ _ _ h1
  have e2:=uF l _ _ _ _ h2
  simp only at*;omega
theorem C1h:yF vC aQ.bulk:=fun b x r h=>by
 unfold vC at h
 obtain⟨⟨k,r1⟩,h1,h2⟩:=Option.bind_eq_some_iff.1 h
 have e1:=eO 1 _ _ _ h1
 simp only at h2 e1
 split at h2
 ·cases h2
 ·have e2:=uF _ _ _ _ _ h2
  unfold aQ.bulk
  simp only[tA,List.length_nil]at e2;omega
theorem lQ:∀ l:List aF,cK aF.bulk l=bQ l
 |[]=>rfl
 |x::l=>by rw[cK,bQ,lQ l]
theorem A0l:∀ f,yF (gS f) aF.bulk
 |0=>fun b x r h=>by cases h
 | f+1=>fun b x r h=>by
  have ih:=A0l f
  simp only[gS]at h
  obtain⟨⟨k,r0⟩,h0,hx⟩:=Option.bind_eq_some_iff.1 h
  have e0:=eO 1 _ _ _ h0
  clear h h0
  have h:jX (gS f) k r0=some (x,r):=hx
  clear hx
  have hrow:∀ {b l r},fY (gS f) b=some (l,r) ->bQ l+2+r.length <=b.length:=fun h=>by rw[<- lQ];exact mT ih _ _ _ h
  unfold jX at h
  rw[aF.bulk_eq]
  simp only at e0
  split at h
  ·obtain⟨⟨g,r1⟩,h1,h⟩:=Option.bind_eq_some_iff.1 h
   obtain⟨⟨n,r2⟩,h2,h⟩:=Option.bind_eq_some_iff.1 h
   obtain⟨⟨l,r3⟩,h3,h⟩:=Option.map_eq_some_iff.1 h
   cases h
   have e1:=yB _ _ _ h1
   have e2:=eO 1 _ _ _ h2
   have e3:=sE (eO 4) _ _ _ _ h3
   have hl:=wM (w:=fun _:Nat=>4) (fun _=>by omega) l
   simp only[aF.limbs,aF.text,aF.items,aF.tail,List.length_map,bQ,List.length_nil]at*;omega
  split at h
  ·obtain⟨⟨s,r1⟩,h1,h⟩:=Option.map_eq_some_iff.1 h
   cases h
   have e1:=tH _ _ _ h1
   simp only[aF.limbs,aF.text,aF.items,aF.tail,bQ,List.length_nil]at*;omega
  split at h
  ·obtain⟨⟨s,r1⟩,h1,h⟩:=Option.map_eq_some_iff.1 h
   cases h
   have e1:=eO 6 _ _ _ h1
   simp only[aF.limbs,aF.text,aF.items,aF.tail,bQ,List.length_nil]at*;omega
  split at h
  ·obtain⟨⟨n,r1⟩,h1,h⟩:=Option.bind_eq_some_iff.1 h
   obtain⟨⟨l,r2⟩,h2,h⟩:=Option.map_eq_some_iff.1 h
   cases h
   have e1:=eO 2 _ _ _ h1
   have e2:=hrow h2
   simp only[aF.limbs,aF.text,aF.items,aF.tail,bQ,List.length_nil]at*;omega
  split at h
  ·obtain⟨⟨l,r2⟩,h2,h⟩:=Option.map_eq_some_iff.1 h
   cases h
   have e2:=hrow h2
   simp only[aF.limbs,aF.text,aF.items,aF.tail,bQ,List.length_nil]at*;omega
  split at h
  ·obtain⟨⟨l,r1⟩,h1,h⟩:=Option.bind_eq_some_iff.1 h
   obtain⟨⟨g,r2⟩,h2,h⟩:=Option.bind_eq_some_iff.1 h
   obtain⟨⟨ts,r3⟩,h3,h⟩:=Option.map_eq_some_iff.1 h
   cases h
   have e1:=hrow h1
   have e2:=yB _ _ _ h2
   have e3:=sE ih _ _ _ _ h3
   rw[lQ]at e3
   simp only[aF.limbs,aF.text,aF.items,aF.tail,bQ,List.length_nil]at*;omega
  ·cases h
theorem B8m{f:Nat}{b r:List UInt8}{c:cH}(h:A1v f b=some (c,r)):c.bulk <=b.length+1:=by
 unfold A1v at h
 obtain⟨⟨m,r0⟩,h0,hx⟩:=Option.bind_eq_some_iff.1 h
 clear h
 have hl:m.length+r0.length=b.length:=by rw[(qE h0).1,List.length_append]
 clear h0
 have h:=hx
 clear hx
 simp only at h
 split at h
 ·obtain⟨⟨es,r1⟩,h1,h⟩:=Option.bind_eq_some_iff.1 h
  obtain⟨⟨is,r2⟩,h2,h⟩:=Option.bind_eq_some_iff.1 h
  obtain⟨⟨cs,r3⟩,h3,h⟩:=Option.map_eq_some_iff.1 h
  cases h
  have e1:=mT B9c _ _ _ h1
  have e2:=mT C1h _ _ _ h2
  have e3:=mT (A0l f) _ _ _ h3
  simp only[lQ]at e3
  unfold cH.bulk
  simp only[List.length_append]at*;omega
 ·cases h
end
end Go.Proofs.YthoenjlenkpnnaaDoor
