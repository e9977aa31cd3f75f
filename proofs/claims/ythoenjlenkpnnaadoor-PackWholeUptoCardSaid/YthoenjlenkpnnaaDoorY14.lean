/- pack's reader: terms of the plain kinds. -/
import Derived.Test.YthoenjlenkpnnaaDoorY12
import Derived.Test.YthoenjlenkpnnaaDoorY13
import Derived.Test.YthoenjlenkpnnaaDoorY06
import Derived.Test.YthoenjlenkpnnaaDoorY11
set_option linter.unusedVariables false
set_option linter.unusedSimpArgs false
set_option maxRecDepth 20000
set_option linter.defProp false
namespace Go.Proofs.YthoenjlenkpnnaaDoor
open Go Go.Av
section
def zJ:=And.intro (And.intro (And.intro (And.intro @nK @nL) (And.intro @lY @kW)) (And.intro (And.intro @nA @lC) (And.intro @kI @kE))) (And.intro (And.intro (And.intro @A6b @A6a) (And.intro @oU @jD)) (And.intro (And.intro @iF @cA) (And.intro @bL (And.intro @dL @cN))))
variable {G:Nat ->AV}
def TC(G:Nat ->AV)(f:Nat):Prop:=∀ rb S st,st.1.length < f ->S.box rb=some (bR st) ->aJ Tryd.prog G 36 [.ptr rb 0] S fun r s=>r=(bB f st).1.enc /\ s=S.setBox rb (bR (bB f st).2)
theorem TC.one{f:Nat}(h:TC G f):A2p G 36 aF.enc (bB f) (fun st=>st.1.length < f):=
 ⟨h,fun st hs=>Nat.lt_of_le_of_lt (sU f st) hs,fun s st hs=>Nat.lt_of_le_of_lt (dO s st) hs⟩
theorem TC.row{f:Nat}(h:TC G f){σ:AS}{rb:Nat}{st:dD}(hs:st.1.length < f)(hb:σ.box rb=some (bR st)):aJ Tryd.prog G 35 [.ptr rb 0,mfn 36 rb 0] σ fun r s=>r=dK (aS (bB f) st).1 /\ s=σ.setBox rb (bR (aS (bB f) st).2):=C7z h.one hs hb
set_option maxHeartbeats 2000000 in
theorem D3g{f:Nat}(H:TC G f){σ:AS}{rb:Nat}{st:dD}(h:σ.box rb=some (bR st))(hk:(aG 1 st).1=2):aJ Tryd.prog G 36 [.ptr rb 0] σ fun r s=>r=(cC (bB f) (aG 1 st).1 (aG 1 st).2).1.enc /\ s=σ.setBox rb (bR (cC (bB f) (aG 1 st).1 (aG 1 st).2).2):=by
 have hne:∀ b',σ.fresh b' -> (rb=b')=False:=fun b' h'=>eq_false fun e=>by subst e;rw[h'.1]at h;cases h
 have hne2:∀ b',σ.fresh b' -> (b'=rb)=False:=fun b' h'=>eq_false fun e=>by subst e;rw[h'.1]at h;cases h
 refine tW ?_
 have t1:=fun(S:AS) (h:S.box rb=some (bR st))=>aZ (G:=G) 1 (by omega) h
 have hk8:=gB st
 generalize aG 1 st=a at*
 obtain⟨k,st1⟩:=a
 simp only at*
 have hconv:=kT hk8
 have e1:((k:Int)=1)=False:=eq_false (by omega)
 have e2:((k:Int)=2)=True:=eq_true (by omega)
 have e3:((k:Int)=3)=False:=eq_false (by omega)
 have e4:((k:Int)=4)=False:=eq_false (by omega)
 have e5:((k:Int)=5)=False:=eq_false (by omega)
 have e6:((k:Int)=6)=False:=eq_false (by omega)
 have e7:((k:Int)=7)=False:=eq_false (by omega)
 have hkm:cC (bB f) k st1=(.mk 2 false [] (fJ st1).1 0 [] [],(fJ st1).2):=by simp[cC,hk]
 rw[hkm]
 have t2:=fun(S:AS) (h:S.box rb=some (bR st1))=>A1v (G:=G) h
 generalize fJ st1=a2 at*
 have hkq:PLift (_:Prop):=⟨hk⟩
 clear hk
 refine aJ.of_awp mixed Tryd.func36 rfl (by kernel_rfl) (by kernel_rfl) (by simp[Tryd.ntmps36]) Tryd.results36 ?_
 repeat'(first|refine xs ?_ ?_ <;>intros|(refine wn ?_;intro bx hbx;try simp only[fb]at hbx)|((refine aJ.mono (t1 _ (by simp[AS.setBox, *])) ?_;rintro r s ⟨rfl,rfl⟩;clear t1))|((refine aJ.mono (t2 _ (by simp[AS.setBox, *])) ?_;rintro r s ⟨rfl,rfl⟩;clear t2))|refine aQ ?_|(refine aB ?_;intro bx hbx;(try simp only[fb]at hbx))|refine aD ?_|((with_reducible refine And.intro ?_ ?_);omega)|refine aA (d':=⟨⟩) ?_|refine aR (by kernel_rfl) ?_|refine aP ?_ (by repeat' first|exact lr _|assumption|refine ls ?_ ?_|refine lt ?_ ?_|simp only[*];done|simp only[fb, *,not_false_eq_true,and_self];done|exact lf ‹_› (by simp only[*]))|refine aC ?_ (by repeat' first|exact lr _|assumption|refine ls ?_ ?_|refine lt ?_ ?_|simp only[*];done|simp only[fb, *,not_false_eq_true,and_self];done|exact lf ‹_› (by simp only[*]))|simp -dsimp only[↓bp,bq,br,seval,zJ, *]|refine wz ?_|fail)
 exact aE (σ.setBox rb (bR a2.2)) (gH.le' (by repeat' first|exact gH.refl _|refine gH.setRb ?_ _|refine gH.setBox ?_ (by simp_all [AS.fresh]) _) (by simp[AS.setBox, *])) ⟨⟨_,_,_,by rw[hkq.down];rfl,Le.nil,Le.nil,Le.nil⟩,rfl⟩
set_option maxHeartbeats 2000000 in
theorem C8r{f:Nat}(H:TC G f){σ:AS}{rb:Nat}{st:dD}(h:σ.box rb=some (bR st))(hk:(aG 1 st).1=3 \/ (aG 1 st).1=5):aJ Tryd.prog G 36 [.ptr rb 0] σ fun r s=>r=(cC (bB f) (aG 1 st).1 (aG 1 st).2).1.enc /\ s=σ.setBox rb (bR (cC (bB f) (aG 1 st).1 (aG 1 st).2).2):=by
 have hne:∀ b',σ.fresh b' -> (rb=b')=False:=fun b' h'=>eq_false fun e=>by subst e;rw[h'.1]at h;cases h
 have hne2:∀ b',σ.fresh b' -> (b'=rb)=False:=fun b' h'=>eq_false fun e=>by subst e;rw[h'.1]at h;cases h
 refine tW ?_
 have t1:=fun(S:AS) (h:S.box rb=some (bR st))=>aZ (G:=G) 1 (by omega) h
 have hk8:=gB st
 generalize aG 1 st=a at*
 obtain⟨k,st1⟩:=a
 simp only at*
 have hconv:=kT hk8
 have e1:((k:Int)=1)=False:=eq_false (by omega)
 have e2:((k:Int)=2)=False:=eq_false (by omega)
 have e4:((k:Int)=4)=False:=eq_false (by omega)
 have e6:((k:Int)=6)=False:=eq_false (by omega)
 have e7:((k:Int)=7)=False:=eq_false (by omega)
 have hkm:cC (bB f) k st1=(.mk (UInt8.ofNat k) false [] [] (aG 6 st1).1 [] [],(aG 6 st1).2):=by rcases hk with hk|hk <;>simp[cC,hk]
 rw[hkm]
 have t2:=fun(S:AS) (h:S.box rb=some (bR st1))=>aZ (G:=G) 6 (by omega) h
 generalize aG 6 st1=a2 at*
 have hkn:aF.knd (.mk (UInt8.ofNat k) false [] [] (a2.1:Int) [] [])=(k:Int):=by simp only[aF.knd,aF.kind];rw[UInt8.toNat_ofNat'];omega
 rw[hkn]
 rcases hk with hk|hk
 ·have e3:((k:Int)=3)=True:=eq_true (by omega)
  have e5:((k:Int)=5)=False:=eq_false (by omega)
  have hkq:PLift (_:Prop):=⟨hk⟩
  clear hk
  refine aJ.of_awp mixed Tryd.func36 rfl (by kernel_rfl) (by kernel_rfl) (by simp[Tryd.ntmps36]) Tryd.results36 ?_
  repeat'(first|refine xs ?_ ?_ <;>intros|(refine wn ?_;intro bx hbx;try simp only[fb]at hbx)|((refine aJ.mono (t1 _ (by simp[AS.setBox, *])) ?_;rintro r s ⟨rfl,rfl⟩;clear t1))|((refine aJ.mono (t2 _ (by simp[AS.setBox, *])) ?_;rintro r s ⟨rfl,rfl⟩;clear t2))|refine aQ ?_|(refine aB ?_;intro bx hbx;(try simp only[fb]at hbx))|refine aD ?_|((with_reducible refine And.intro ?_ ?_);omega)|refine aA (d':=⟨⟩) ?_|refine aR (by kernel_rfl) ?_|refine aP ?_ (by repeat' first|exact lr _|assumption|refine ls ?_ ?_|refine lt ?_ ?_|simp only[*];done|simp only[fb, *,not_false_eq_true,and_self];done|exact lf ‹_› (by simp only[*]))|refine aC ?_ (by repeat' first|exact lr _|assumption|refine ls ?_ ?_|refine lt ?_ ?_|simp only[*];done|simp only[fb, *,not_false_eq_true,and_self];done|exact lf ‹_› (by simp only[*]))|simp -dsimp only[↓bp,bq,br,seval,zJ, *]|refine wz ?_|fail)
  exact aE (σ.setBox rb (bR a2.2)) (gH.le' (by repeat' first|exact gH.refl _|refine gH.setRb ?_ _|refine gH.setBox ?_ (by simp_all [AS.fresh]) _) (by simp[AS.setBox, *])) ⟨⟨_,_,_,by rfl,Le.nil,Le.nil,Le.nil⟩,rfl⟩
 ·have e3:((k:Int)=3)=False:=eq_false (by omega)
  have e5:((k:Int)=5)=True:=eq_true (by omega)
  have hkq:PLift (_:Prop):=⟨hk⟩
  clear hk
  refine aJ.of_awp mixed Tryd.func36 rfl (by kernel_rfl) (by kernel_rfl) (by simp[Tryd.ntmps36]) Tryd.results36 ?_
  repeat'(first|refine xs ?_ ?_ <;>intros|(refine wn ?_;intro bx hbx;try simp only[fb]at hbx)|((refine aJ.mono (t1 _ (by simp[AS.setBox, *])) ?_;rintro r s ⟨rfl,rfl⟩;clear t1))|((refine aJ.mono (t2 _ (by simp[AS.setBox, *])) ?_;rintro r s ⟨rfl,rfl⟩;clear t2))|refine aQ ?_|(refine aB ?_;intro bx hbx;(try simp only[fb]at hbx))|refine aD ?_|((with_reducible refine And.intro ?_ ?_);omega)|refine aA (d':=⟨⟩) ?_|refine aR (by kernel_rfl) ?_|refine aP ?_ (by repeat' first|exact lr _|assumption|refine ls ?_ ?_|refine lt ?_ ?_|simp only[*];done|simp only[fb, *,not_false_eq_true,and_self];done|exact lf ‹_› (by simp only[*]))|refine aC ?_ (by repeat' first|exact lr _|assumption|refine ls ?_ ?_|refine lt ?_ ?_|simp only[*];done|simp only[fb, *,not_false_eq_true,and_self];done|exact lf ‹_› (by simp only[*]))|simp -dsimp only[↓bp,bq,br,seval,zJ, *]|refine wz ?_|fail)
  exact aE (σ.setBox rb (bR a2.2)) (gH.le' (by repeat' first|exact gH.refl _|refine gH.setRb ?_ _|refine gH.setBox ?_ (by simp_all [AS.fresh]) _) (by simp[AS.setBox, *])) ⟨⟨_,_,_,by rfl,Le.nil,Le.nil,Le.nil⟩,rfl⟩
set_option maxHeartbeats 2000000 in
theorem D3h{f:Nat}(H:TC G f){σ:AS}{rb:Nat}{st:dD}(h:σ.box rb=some (bR st))(hk:(aG 1 st).1=4)(hl:(aG 1 st).2.1.length < f):aJ Tryd.prog G 36 [.ptr rb 0] σ fun r s=>r=(cC (bB f) (aG 1 st).1 (aG 1 st).2).1.enc /\ s=σ.setBox rb (bR (cC (bB f) (aG 1 st).1 (aG 1 st).2).2):=by
 have hne:∀ b',σ.fresh b' -> (rb=b')=False:=fun b' h'=>eq_false fun e=>by subst e;rw[h'.1]at h;cases h
 have hne2:∀ b',σ.fresh b' -> (b'=rb)=False:=fun b' h'=>eq_false fun e=>by subst e;rw[h'.1]at h;cases h
 refine tW ?_
 have t1:=fun(S:AS) (h:S.box rb=some (bR st))=>aZ (G:=G) 1 (by omega) h
 have hk8:=gB st
 generalize aG 1 st=a at*
 obtain⟨k,st1⟩:=a
 simp only at*
 have hconv:=kT hk8
 have e1:((k:Int)=1)=False:=eq_false (by omega)
 have e2:((k:Int)=2)=False:=eq_false (by omega)
 have e3:((k:Int)=3)=False:=eq_false (by omega)
 have e4:((k:Int)=4)=True:=eq_true (by omega)
 have e5:((k:Int)=5)=False:=eq_false (by omega)
 have e6:((k:Int)=6)=False:=eq_false (by omega)
 have e7:((k:Int)=7)=False:=eq_false (by omega)
 have hkm:cC (bB f) k st1=(.mk 4 false [] [] (aG 2 st1).1 (aS (bB f) (aG 2 st1).2).1 [],(aS (bB f) (aG 2 st1).2).2):=by simp[cC,hk]
 rw[hkm]
 have t2:=fun(S:AS) (h:S.box rb=some (bR st1))=>aZ (G:=G) 2 (by omega) h
 have hl2:=dO 2 st1
 generalize aG 2 st1=a2 at*
 have t3:=fun(S:AS) (h:S.box rb=some (bR a2.2))=>H.row (st:=a2.2) (by omega) h
 generalize aS (bB f) a2.2=a3 at*
 have hkq:PLift (_:Prop):=⟨hk⟩
 clear hk
 refine aJ.of_awp mixed Tryd.func36 rfl (by kernel_rfl) (by kernel_rfl) (by simp[Tryd.ntmps36]) Tryd.results36 ?_
 repeat'(first|refine xs ?_ ?_ <;>intros|(refine wn ?_;intro bx hbx;try simp only[fb]at hbx)|((refine aJ.mono (t1 _ (by simp[AS.setBox, *])) ?_;rintro r s ⟨rfl,rfl⟩;clear t1))|((refine aJ.mono (t2 _ (by simp[AS.setBox, *])) ?_;rintro r s ⟨rfl,rfl⟩;clear t2))|((refine aJ.mono (t3 _ (by simp[AS.setBox, *])) ?_;rintro r s ⟨rfl,rfl⟩;clear t3))|refine aQ ?_|(refine aB ?_;intro bx hbx;(try simp only[fb]at hbx))|refine aD ?_|((with_reducible refine And.intro ?_ ?_);omega)|refine aA (d':=⟨⟩) ?_|refine aR (by kernel_rfl) ?_|refine aP ?_ (by repeat' first|exact lr _|assumption|refine ls ?_ ?_|refine lt ?_ ?_|simp only[*];done|simp only[fb, *,not_false_eq_true,and_self];done|exact lf ‹_› (by simp only[*]))|refine aC ?_ (by repeat' first|exact lr _|assumption|refine ls ?_ ?_|refine lt ?_ ?_|simp only[*];done|simp only[fb, *,not_false_eq_true,and_self];done|exact lf ‹_› (by simp only[*]))|simp -dsimp only[↓bp,bq,br,seval,zJ, *]|refine wz ?_|fail)
 exact aE (σ.setBox rb (bR a3.2)) (gH.le' (by repeat' first|exact gH.refl _|refine gH.setRb ?_ _|refine gH.setBox ?_ (by simp_all [AS.fresh]) _) (by simp[AS.setBox, *])) ⟨⟨_,_,_,by rw[hkq.down];rfl,Le.nil,Le.refl _,Le.nil⟩,rfl⟩
set_option maxHeartbeats 2000000 in
theorem D3i{f:Nat}(H:TC G f){σ:AS}{rb:Nat}{st:dD}(h:σ.box rb=some (bR st))(hk:(aG 1 st).1=6)(hl:(aG 1 st).2.1.length < f):aJ Tryd.prog G 36 [.ptr rb 0] σ fun r s=>r=(cC (bB f) (aG 1 st).1 (aG 1 st).2).1.enc /\ s=σ.setBox rb (bR (cC (bB f) (aG 1 st).1 (aG 1 st).2).2):=by
 have hne:∀ b',σ.fresh b' -> (rb=b')=False:=fun b' h'=>eq_false fun e=>by subst e;rw[h'.1]at h;cases h
 have hne2:∀ b',σ.fresh b' -> (b'=rb)=False:=fun b' h'=>eq_false fun e=>by subst e;rw[h'.1]at h;cases h
 refine tW ?_
 have t1:=fun(S:AS) (h:S.box rb=some (bR st))=>aZ (G:=G) 1 (by omega) h
 have hk8:=gB st
 generalize aG 1 st=a at*
 obtain⟨k,st1⟩:=a
 simp only at*
 have hconv:=kT hk8
 have e1:((k:Int)=1)=False:=eq_false (by omega)
 have e2:((k:Int)=2)=False:=eq_false (by omega)
 have e3:((k:Int)=3)=False:=eq_false (by omega)
 have e4:((k:Int)=4)=False:=eq_false (by omega)
 have e5:((k:Int)=5)=False:=eq_false (by omega)
 have e6:((k:Int)=6)=True:=eq_true (by omega)
 have e7:((k:Int)=7)=False:=eq_false (by omega)
 have hkm:cC (bB f) k st1=(.mk 6 false [] [] 0 (aS (bB f) st1).1 [],(aS (bB f) st1).2):=by simp[cC,hk]
 rw[hkm]
 have t2:=fun(S:AS) (h:S.box rb=some (bR st1))=>H.row (st:=st1) (by omega) h
 generalize aS (bB f) st1=a2 at*
 have hkq:PLift (_:Prop):=⟨hk⟩
 clear hk
 refine aJ.of_awp mixed Tryd.func36 rfl (by kernel_rfl) (by kernel_rfl) (by simp[Tryd.ntmps36]) Tryd.results36 ?_
 repeat'(first|refine xs ?_ ?_ <;>intros|(refine wn ?_;intro bx hbx;try simp only[fb]at hbx)|((refine aJ.mono (t1 _ (by simp[AS.setBox, *])) ?_;rintro r s ⟨rfl,rfl⟩;clear t1))|((refine aJ.mono (t2 _ (by simp[AS.setBox, *])) ?_;rintro r s ⟨rfl,rfl⟩;clear t2))|refine aQ ?_|(refine aB ?_;intro bx hbx;(try simp only[fb]at hbx))|refine aD ?_|((with_reducible refine And.intro ?_ ?_);omega)|refine aA (d':=⟨⟩) ?_|refine aR (by kernel_rfl) ?_|refine aP ?_ (by repeat' first|exact lr _|assumption|refine ls ?_ ?_|refine lt ?_ ?_|simp only[*];done|simp only[fb, *,not_false_eq_true,and_self];done|exact lf ‹_› (by simp only[*]))|refine aC ?_ (by repeat' first|exact lr _|assumption|refine ls ?_ ?_|refine lt ?_ ?_|simp only[*];done|simp only[fb, *,not_false_eq_true,and_self];done|exact lf ‹_› (by simp only[*]))|simp -dsimp only[↓bp,bq,br,seval,zJ, *]|refine wz ?_|fail)
 exact aE (σ.setBox rb (bR a2.2)) (gH.le' (by repeat' first|exact gH.refl _|refine gH.setRb ?_ _|refine gH.setBox ?_ (by simp_all [AS.fresh]) _) (by simp[AS.setBox, *])) ⟨⟨_,_,_,by rw[hkq.down];rfl,Le.nil,Le.refl _,Le.nil⟩,rfl⟩
set_option maxHeartbeats 2000000 in
theorem C8u{f:Nat}(H:TC G f){σ:AS}{rb:Nat}{st:dD}(h:σ.box rb=some (bR st))(hk:(aG 1 st).1 < 1 \/ 7 < (aG 1 st).1):aJ Tryd.prog G 36 [.ptr rb 0] σ fun r s=>r=(cC (bB f) (aG 1 st).1 (aG 1 st).2).1.enc /\ s=σ.setBox rb (bR (cC (bB f) (aG 1 st).1 (aG 1 st).2).2):=by
 have hne:∀ b',σ.fresh b' -> (rb=b')=False:=fun b' h'=>eq_false fun e=>by subst e;rw[h'.1]at h;cases h
 have hne2:∀ b',σ.fresh b' -> (b'=rb)=False:=fun b' h'=>eq_false fun e=>by subst e;rw[h'.1]at h;cases h
 refine tW ?_
 have t1:=fun(S:AS) (h:S.box rb=some (bR st))=>aZ (G:=G) 1 (by omega) h
 have hk8:=gB st
 generalize aG 1 st=a at*
 obtain⟨k,st1⟩:=a
 simp only at*
 have hconv:=kT hk8
 have e1:((k:Int)=1)=False:=eq_false (by omega)
 have e2:((k:Int)=2)=False:=eq_false (by omega)
 have e3:((k:Int)=3)=False:=eq_false (by omega)
 have e4:((k:Int)=4)=False:=eq_false (by omega)
 have e5:((k:Int)=5)=False:=eq_false (by omega)
 have e6:((k:Int)=6)=False:=eq_false (by omega)
 have e7:((k:Int)=7)=False:=eq_false (by omega)
 have hkm:cC (bB f) k st1=(.mk (UInt8.ofNat k) false [] [] 0 [] [],(st1.1,true)):=by
  unfold cC;rw[if_neg (by omega),if_neg (by omega),if_neg (by omega),if_neg (by omega),if_neg (by omega),if_neg (by omega)]
 rw[hkm]
 have hkn:aF.knd (.mk (UInt8.ofNat k) false [] [] 0 [] [])=(k:Int):=by simp only[aF.knd,aF.kind];rw[UInt8.toNat_ofNat'];omega
 rw[hkn]
 obtain⟨b1,bad1⟩:=st1
 have hkq:PLift (_:Prop):=⟨hk⟩
 clear hk
 refine aJ.of_awp mixed Tryd.func36 rfl (by kernel_rfl) (by kernel_rfl) (by simp[Tryd.ntmps36]) Tryd.results36 ?_
 repeat'(first|refine xs ?_ ?_ <;>intros|(refine wn ?_;intro bx hbx;try simp only[fb]at hbx)|((refine aJ.mono (t1 _ (by simp[AS.setBox, *])) ?_;rintro r s ⟨rfl,rfl⟩;clear t1))|refine aQ ?_|(refine aB ?_;intro bx hbx;(try simp only[fb]at hbx))|refine aD ?_|((with_reducible refine And.intro ?_ ?_);omega)|refine aA (d':=⟨⟩) ?_|refine aR (by kernel_rfl) ?_|refine aP ?_ (by repeat' first|exact lr _|assumption|refine ls ?_ ?_|refine lt ?_ ?_|simp only[*];done|simp only[fb, *,not_false_eq_true,and_self];done|exact lf ‹_› (by simp only[*]))|refine aC ?_ (by repeat' first|exact lr _|assumption|refine ls ?_ ?_|refine lt ?_ ?_|simp only[*];done|simp only[fb, *,not_false_eq_true,and_self];done|exact lf ‹_› (by simp only[*]))|simp -dsimp only[↓bp,bq,br,seval,zJ,bR, *]|refine wz ?_|fail)
 exact aE (σ.setBox rb (bR (b1,true))) (gH.le' (by repeat' first|exact gH.refl _|refine gH.setRb ?_ _|refine gH.setBox ?_ (by simp_all [AS.fresh]) _) (by simp[AS.setBox,bR, *])) ⟨⟨_,_,_,by rfl,Le.nil,Le.nil,Le.nil⟩,rfl⟩
end
section
section
variable {P:Program} {G:Nat ->AV}
def zR(P:Program)(G:Nat ->AV)(σ σ1:AS)(e:aM)(n m:Nat)(sl:Nat ->Nat)(val:Nat ->AV):Nat ->List Oper ->Prop
 |_,[]=>True
 | k,o::r=> (o.dst=some (sl k) /\ ∀ e' σ',(∀ j,j ∈ nD o ->e' (sl j)=val j) -> (∀ t,(∀ j,j < n ->sl j ≠ t) ->e' t=e t) ->
   (k=m ->eK P G o e' σ (fun r s=>r=val m /\ s=σ1)) /\ (k ≠ m ->σ'=σ \/ σ'=σ1 ->eK P G o e' σ' (fun r s=>r=val k /\ s=σ'))) /\ zR P G σ σ1 e n m sl val (k+1) r
def D4a(σ σ1:AS)(e:aM)(n m:Nat)(sl:Nat ->Nat)(val:Nat ->AV)(D:Nat ->Bool)(e':aM)(σ':AS):Prop:=
 (∀ t,(∀ j,j < n ->sl j ≠ t) ->e' t=e t) /\ (∀ k,k < n ->D k=true ->e' (sl k)=val k) /\ (D m=true ->σ'=σ1) /\ (D m=false ->σ'=σ)
theorem A5u{σ σ1:AS}{e:aM}{n m:Nat}{sl:Nat ->Nat}{val:Nat ->AV}(hm:m < n)(hi:∀ i,i < n ->∀ j,j < n ->sl i=sl j ->i=j):∀ (l:List Oper) (k:Nat),k+l.length <=n -> (∀ o,o ∈ l ->∀ j,j ∈ nD o ->j < n) ->zR P G σ σ1 e n m sl val k l ->mW P G (D4a σ σ1 e n m sl val) k l
 |[],_,_,_,_=>trivial
 | o::r,k,hl,hw,⟨⟨hd,h⟩,hr⟩=>by
  simp only[List.length_cons]at hl
  refine⟨?_,A5u hm hi r (k+1) (by omega) (fun o' ho=>hw o' (List.mem_cons_of_mem _ ho)) hr⟩
  rintro D e' σ' hD hwt ⟨hfr,hv,hq,hn⟩
  have hst:σ'=σ \/ σ'=σ1:=by
   cases hDm:D m with
   |true=>exact .inr (hq hDm)
   |false=>exact .inl (hn hDm)
  obtain⟨ha,hb⟩:=h e' σ' (fun j hj=>hv j (hw o List.mem_cons_self j hj) (hwt j hj)) hfr
  have frame:∀ v t,(∀ j,j < n ->sl j ≠ t) -> (e'.upd (some (sl k)) v) t=e t:=fun v t ht=>by
   rw[<- hfr t ht]
   exact aM.upd_other fun y hy hyu=>by cases hy;exact ht k (by omega) hyu
  have other:∀ v j,j < n ->j ≠ k -> (e'.upd (some (sl k)) v) (sl j)=e' (sl j):=fun v j hj hjk=>
   aM.upd_other fun y hy hyu=>by cases hy;exact hjk (hi k (by omega) j hj hyu).symm
  have own:∀ v,(e'.upd (some (sl k)) v) (sl k)=v:=fun v=>by simp[aM.upd]
  have dn:∀ j,j ≠ k ->uK D k j=D j:=fun j hj=>by unfold uK;rw[if_neg hj]
  have dk:uK D k k=true:=by unfold uK;rw[if_pos rfl]
  have vals:∀ j,j < n ->uK D k j=true -> (e'.upd (some (sl k)) (val k)) (sl j)=val j:=fun j hj hDj=>by
   by_cases hjk:j=k
   ·subst hjk;exact own _
   ·rw[other _ j hj hjk];exact hv j hj (by rw[<- dn j hjk];exact hDj)
  by_cases hkm:k=m
  ·subst hkm
   have he:=hn hD
   subst he
   refine eQ ?_ (ha rfl)
   rintro v s ⟨rfl,rfl⟩
   rw[hd]
   exact⟨frame _,vals,fun _=>rfl,fun hx=>by rw[dk]at hx;cases hx⟩
  ·refine eQ ?_ (hb hkm hst)
   rintro v s ⟨rfl,rfl⟩
   rw[hd]
   exact⟨frame _,vals,fun hx=>hq (by rw[<- dn m (Ne.symm hkm)];exact hx),fun hx=>hn (by rw[<- dn m (Ne.symm hkm)];exact hx)⟩
theorem B7g {R:aM ->AS ->Prop} {e:aM} {σ:AS} {l:List Oper} {d:Dum l.toArray} {d':Dum R} {d2:Dum e} {d3:Dum σ} (σ1:AS) (n m:Nat) (sl:Nat ->Nat) (val:Nat ->AV) (hn:tR l.toArray n=true) (hm:m < n) (hi:∀ i,i < n ->∀ j,j < n ->sl i=sl j ->i=j)
  {hd tl:List Oper} (h1:l.take n=hd) (h2:l.drop n=tl) (hs:zR P G σ σ1 e n m sl val 0 hd)
  (hq:∀ e',(∀ k,k < n ->e' (sl k)=val k) -> (∀ t,(∀ k,k < n ->sl k ≠ t) ->e' t=e t) ->cF P G l R tl e' σ1):qP P G l.toArray R e σ d d' d2 d3:=by
 refine A3x n (D4a σ σ1 e n m sl val) hn h1 h2 (fun _=> ⟨fun _ _=>rfl,fun k _ h=> (by cases h),fun h=> (by cases h),fun _=>rfl⟩) ?_ (fun D e' s hD ⟨hfr,hv,hq',_⟩=>by
  have:=hq' (hD m hm);subst this;exact hq e' (fun k hk=>hv k hk (hD k hk)) hfr)
 unfold tR at hn
 simp only[Bool.and_eq_true,decide_eq_true_eq,List.all_eq_true,List.mem_range]at hn
 obtain⟨⟨⟨hns,hb⟩,_⟩,_⟩:=hn
 refine A5u hm hi hd 0 (by rw[<- h1];simp only[List.length_take];omega) (fun o ho j hj=> ?_) hs
 subst h1
 obtain⟨i,hio⟩:=List.getElem?_of_mem ho
 have hin:i < n:=by
  have:=(List.getElem?_eq_some_iff.1 hio).1
  simp only[List.length_take]at this;omega
 rw[List.getElem?_take_of_lt hin]at hio
 have:=hb i hin
 simp only[List.getElem?_toArray,hio,Bool.and_eq_true,List.all_eq_true,decide_eq_true_eq]at this
 have:=this.2 j hj
 omega
theorem A3y {R:aM ->AS ->Prop} {e:aM} {σ:AS} {l:List Oper} {d:Dum l.toArray} {d':Dum R} {d2:Dum e} {d3:Dum σ} (b:Nat) (z:List AV) (n m:Nat) (sl:Nat ->Nat) (val:Nat ->AV) (hn:tR l.toArray n=true) (hm:m < n) (hi:∀ i,i < n ->∀ j,j < n ->sl i=sl j ->i=j)
  {hd tl:List Oper} (h1:l.take n=hd) (h2:l.drop n=tl) (hs:zR P G σ (σ.setBox b z) e n m sl val 0 hd)
  (hq:∀ e',(∀ k,k < n ->e' (sl k)=val k) -> (∀ t,(∀ k,k < n ->sl k ≠ t) ->e' t=e t) ->cF P G l R tl e' (σ.setBox b z)):qP P G l.toArray R e σ d d' d2 d3:=B7g (σ.setBox b z) n m sl val hn hm hi h1 h2 hs hq
end
end
set_option maxRecDepth 20000
section
def lX:=And.intro (And.intro (And.intro (And.intro @nK @nL) (And.intro @lY @kW)) (And.intro (And.intro @nA @lC) (And.intro @kI @kE))) (And.intro (And.intro (And.intro @A6b @A6a) (And.intro @oU @jD)) (And.intro (And.intro @iF @cA) (And.intro @bL (And.intro @dL @cN))))
variable {G:Nat ->AV}
theorem A9a{n:Nat}{E:TypeId}{σ0 σ:AS}{v:AV}{l:List AV}(h:fU n E σ0 σ v l):one v=true /\ flat v=[v] /\ isv v=true:=by cases h <;>exact⟨rfl,rfl,rfl⟩
set_option maxHeartbeats 2000000 in
theorem C8s{f:Nat}(H:TC G f){σ:AS}{rb:Nat}{st:dD}(h:σ.box rb=some (bR st))(hk:(aG 1 st).1=7)(hl:(aG 1 st).2.1.length < f)(hg0:(bY (aS (bB f) (aG 1 st).2).2).1=false):aJ Tryd.prog G 36 [.ptr rb 0] σ fun r s=>r=(cC (bB f) (aG 1 st).1 (aG 1 st).2).1.enc /\ s=σ.setBox rb (bR (cC (bB f) (aG 1 st).1 (aG 1 st).2).2):=by
 have hne:∀ b',σ.fresh b' -> (rb=b')=False:=fun b' h'=>eq_false fun e=>by subst e;rw[h'.1]at h;cases h
 have hne2:∀ b',σ.fresh b' -> (b'=rb)=False:=fun b' h'=>eq_false fun e=>by subst e;rw[h'.1]at h;cases h
 refine tW ?_
 have t1:=fun(S:AS) (h:S.box rb=some (bR st))=>aZ (G:=G) 1 (by omega) h
 have hk8:=gB st
 generalize aG 1 st=a at*
 obtain⟨k,st1⟩:=a
 simp only at*
 have hconv:=kT hk8
 have e1:((k:Int)=1)=False:=eq_false (by omega)
 have e2:((k:Int)=2)=False:=eq_false (by omega)
 have e3:((k:Int)=3)=False:=eq_false (by omega)
 have e4:((k:Int)=4)=False:=eq_false (by omega)
 have e5:((k:Int)=5)=False:=eq_false (by omega)
 have e6:((k:Int)=6)=False:=eq_false (by omega)
 have e7:((k:Int)=7)=True:=eq_true (by omega)
 have t2:=fun(S:AS) (h:S.box rb=some (bR st1))=>H.row (st:=st1) (by omega) h
 have t3:=fun(S:AS) (h:S.box rb=some (bR (aS (bB f) st1).2))=>xB (G:=G) h
 rw[hg0]at t3
 have hkm:cC (bB f) k st1=(.mk 7 false [] [] 0 (aS (bB f) st1).1 [],(bY (aS (bB f) st1).2).2):=by
  unfold cC;rw[if_neg (by omega),if_neg (by omega),if_neg (by omega),if_neg (by omega),if_neg (by omega),if_pos hk,if_neg (by rw[hg0];decide)]
 rw[hkm]
 clear hg0 hkm
 generalize bY (aS (bB f) st1).2=a3 at*
 generalize aS (bB f) st1=a2 at*
 have hkq:PLift (_:Prop):=⟨hk⟩
 clear hk
 refine aJ.of_awp mixed Tryd.func36 rfl (by kernel_rfl) (by kernel_rfl) (by simp[Tryd.ntmps36]) Tryd.results36 ?_
 repeat'(first|refine xs ?_ ?_ <;>intros|(refine wn ?_;intro bx hbx;try simp only[fb]at hbx)|((refine aJ.mono (t1 _ (by simp[AS.setBox, *])) ?_;rintro r s ⟨rfl,rfl⟩;clear t1))|((refine aJ.mono (t2 _ (by simp[AS.setBox, *])) ?_;rintro r s ⟨rfl,rfl⟩;clear t2))|((refine aJ.mono (t3 _ (by simp[AS.setBox, *])) ?_;rintro r s ⟨rfl,rfl⟩;clear t3))|refine aQ ?_|(refine aB ?_;intro bx hbx;(try simp only[fb]at hbx))|refine aD ?_|((with_reducible refine And.intro ?_ ?_);omega)|refine aA (d':=⟨⟩) ?_|refine aR (by kernel_rfl) ?_|refine aP ?_ (by repeat' first|exact lr _|assumption|refine ls ?_ ?_|refine lt ?_ ?_|simp only[*];done|simp only[fb, *,not_false_eq_true,and_self];done|exact lf ‹_› (by simp only[*]))|refine aC ?_ (by repeat' first|exact lr _|assumption|refine ls ?_ ?_|refine lt ?_ ?_|simp only[*];done|simp only[fb, *,not_false_eq_true,and_self];done|exact lf ‹_› (by simp only[*]))|simp -dsimp only[↓bp,bq,br,seval,lX, *]|refine wz ?_|fail)
 exact aE (σ.setBox rb (bR a3.2)) (gH.le' (by repeat' first|exact gH.refl _|refine gH.setRb ?_ _|refine gH.setBox ?_ (by simp_all [AS.fresh]) _) (by simp[AS.setBox, *])) ⟨⟨_,_,_,by rw[hkq.down];rfl,Le.nil,Le.refl _,Le.nil⟩,rfl⟩
set_option maxHeartbeats 2000000 in
theorem C8t{f:Nat}(H:TC G f){σ:AS}{rb:Nat}{st:dD}(h:σ.box rb=some (bR st))(hk:(aG 1 st).1=7)(hl:(aG 1 st).2.1.length < f)(hg0:(bY (aS (bB f) (aG 1 st).2).2).1=true):aJ Tryd.prog G 36 [.ptr rb 0] σ fun r s=>r=(cC (bB f) (aG 1 st).1 (aG 1 st).2).1.enc /\ s=σ.setBox rb (bR (cC (bB f) (aG 1 st).1 (aG 1 st).2).2):=by
 have hne:∀ b',σ.fresh b' -> (rb=b')=False:=fun b' h'=>eq_false fun e=>by subst e;rw[h'.1]at h;cases h
 have hne2:∀ b',σ.fresh b' -> (b'=rb)=False:=fun b' h'=>eq_false fun e=>by subst e;rw[h'.1]at h;cases h
 refine tW ?_
 have t1:=fun(S:AS) (h:S.box rb=some (bR st))=>aZ (G:=G) 1 (by omega) h
 have hk8:=gB st
 generalize aG 1 st=a at*
 obtain⟨k,st1⟩:=a
 simp only at*
 have hconv:=kT hk8
 have e1:((k:Int)=1)=False:=eq_false (by omega)
 have e2:((k:Int)=2)=False:=eq_false (by omega)
 have e3:((k:Int)=3)=False:=eq_false (by omega)
 have e4:((k:Int)=4)=False:=eq_false (by omega)
 have e5:((k:Int)=5)=False:=eq_false (by omega)
 have e6:((k:Int)=6)=False:=eq_false (by omega)
 have e7:((k:Int)=7)=True:=eq_true (by omega)
 have t2:=fun(S:AS) (h:S.box rb=some (bR st1))=>H.row (st:=st1) (by omega) h
 have t3:=fun(S:AS) (h:S.box rb=some (bR (aS (bB f) st1).2))=>xB (G:=G) h
 rw[hg0]at t3
 have hl2:=iC (sU f) st1
 have hl3:=nB (aS (bB f) st1).2
 have t4:=fun(S:AS) (h:S.box rb=some (bR (bY (aS (bB f) st1).2).2))=>H rb S _ (by omega) h
 have hkm:cC (bB f) k st1=(.mk 7 false [] [] 0 (aS (bB f) st1).1 [(bB f (bY (aS (bB f) st1).2).2).1],(bB f (bY (aS (bB f) st1).2).2).2):=by
  unfold cC;rw[if_neg (by omega),if_neg (by omega),if_neg (by omega),if_neg (by omega),if_neg (by omega),if_pos hk,if_pos (by rw[hg0])]
 rw[hkm]
 clear hg0 hkm hl2 hl3
 generalize bB f (bY (aS (bB f) st1).2).2=a4 at*
 generalize bY (aS (bB f) st1).2=a3 at*
 generalize aS (bB f) st1=a2 at*
 refine aJ.mono (Q:=fun r s=>r= .agg [.int .u8 k, .bool false, .nil, .str [], .int .i64 0,dK a2.1, .sl .none [a4.1.enc] []] /\ s=σ.setBox rb (bR a4.2)) (D7g (rb:=rb) (w:=7) (E:=53) (xs:=[a4.1.enc]) (C:=fun v=> .agg [.int .u8 k, .bool false, .nil, .str [], .int .i64 0,dK a2.1,v]) (T:= .agg [.int .u8 k, .bool false, .nil, .str [], .int .i64 0,dK a2.1, .sl .none [a4.1.enc] []]) (z:=bR a4.2) (fun b m=>Has.agg 6 (by simp) Has.bs) (fun b m ys=>Frz.agg _ _ rfl (fun d hd=>by simp at hd;rcases hd with rfl|rfl|rfl|rfl|rfl|rfl|rfl <;>rfl) (fun j g1 g2=>by
  match j,g1,g2 with
  |0,_,_=>exact .same _
  |1,_,_=>exact .same _
  |2,_,_=>exact .same _
  |3,_,_=>exact .same _
  |4,_,_=>exact .same _
  |5,_,_=>exact .same _
  |6,_,_=>exact .here _)) (fun v hv=>Le.agg (.cons (Le.refl _) (.cons (Le.refl _) (.cons (Le.refl _) (.cons (Le.refl _) (.cons (Le.refl _) (.cons (Le.refl _) (.cons hv .nil))))))) (fun d hd=>by simp at hd;rcases hd with rfl|rfl|rfl|rfl|rfl|rfl|rfl <;>rfl)) ?_) ?_
 case refine_2=>
  rintro r s ⟨rfl,rfl⟩
  exact⟨⟨_,_,_,by rw[hk];rfl,Le.nil,Le.refl _,Le.refl _⟩,rfl⟩
 have hok:(flat a4.1.enc).length=7 /\ isv a4.1.enc=true:=⟨by rw[aF.flat_enc];rfl,a4.1.isv_enc⟩
 have hkq:PLift (_:Prop):=⟨hk⟩
 clear hk
 refine aJ.of_awp mixed Tryd.func36 rfl (by kernel_rfl) (by kernel_rfl) (by simp[Tryd.ntmps36]) Tryd.results36 ?_
 repeat'(first|(refine wn ?_;intro bx hbx;try simp only[fb]at hbx)|((refine aJ.mono (t1 _ (by simp[AS.setBox, *])) ?_;rintro r s ⟨rfl,rfl⟩;clear t1))|((refine aJ.mono (t2 _ (by simp[AS.setBox, *])) ?_;rintro r s ⟨rfl,rfl⟩;clear t2))|((refine aJ.mono (t3 _ (by simp[AS.setBox, *])) ?_;rintro r s ⟨rfl,rfl⟩;clear t3))|((refine aJ.mono (t4 _ (by simp[AS.setBox, *])) ?_;rintro r s ⟨rfl,rfl⟩;clear t4))|refine aQ ?_|(refine aB ?_;intro bx hbx;(try simp only[fb]at hbx))|refine aD ?_|((with_reducible refine And.intro ?_ ?_);omega)|refine aA (d':=⟨⟩) ?_|refine aP ?_ (by repeat' first|exact lr _|assumption|refine ls ?_ ?_|refine lt ?_ ?_|simp only[*];done|simp only[fb, *,not_false_eq_true,and_self];done|exact lf ‹_› (by simp only[*]))|refine aC ?_ (by repeat' first|exact lr _|assumption|refine ls ?_ ?_|refine lt ?_ ?_|simp only[*];done|simp only[fb, *,not_false_eq_true,and_self];done|exact lf ‹_› (by simp only[*]))|simp -dsimp only[↓bp,bq,br,seval,lX, *]|refine wz ?_|fail)
 rename_i b0 hb0
 obtain⟨⟨hx1,hx2,hx3⟩,hx4,hx5⟩:=hbx
 have hx6:=hne _ hb0
 have hx7:=hne2 _ hb0
 refine A3y rb (bR a4.2) 5 3 (fun k=>77+k) (fun k=> [.ptr bx 6, .nil, .ptr rb 0,a4.1.enc, .sl .full [a4.1.enc] []].getD k .undef) (by decide+kernel) (by decide) (by intro i _ j _ h;simpa using h) rfl rfl ?_ ?_
 ·refine⟨?_,?_,?_,?_,?_,trivial⟩
  ·refine⟨rfl,fun e' s hw hf=> ⟨fun hk=>absurd hk (by decide),fun _ hs=> ?_⟩⟩
   have h0:=hf 3 (by decide)
   simp -dsimp only[↓bp,bq,br,seval,lX]at h0
   simp -dsimp only[↓bp,bq,br,seval,lX,h0]
  ·refine⟨rfl,fun e' s hw hf=> ⟨fun hk=>absurd hk (by decide),fun _ hs=> ?_⟩⟩
   have h1:e' 77= .ptr bx 6:=hw 0 (by decide+kernel)
   rcases hs with rfl|rfl
   ·simp -dsimp only[↓bp,bq,br,seval,lX,h1,hx2,hx3,hx4,hx5,hx6,hx7,ite_false,ite_true]
   ·simp -dsimp only[↓bp,bq,br,seval,lX,h1,hx2,hx3,hx4,hx5,hx6,hx7,ite_false,ite_true]
  ·refine⟨rfl,fun e' s hw hf=> ⟨fun hk=>absurd hk (by decide),fun _ hs=> ?_⟩⟩
   have h0:=hf 0 (by decide)
   simp -dsimp only[↓bp,bq,br,seval,lX]at h0
   simp -dsimp only[↓bp,bq,br,seval,lX,h0]
  ·refine⟨rfl,fun e' s hw hf=> ⟨fun _=> ?_,fun hk=>absurd rfl hk⟩⟩
   have h2:e' 79= .ptr rb 0:=hw 2 (by decide+kernel)
   simp -dsimp only[↓bp,bq,br,seval,lX,h2]
   exact t4 _ (by simp[AS.setBox, *])
  ·refine⟨rfl,fun e' s hw hf=> ⟨fun hk=>absurd hk (by decide),fun _ hs=> ?_⟩⟩
   have h3:e' 80=a4.1.enc:=hw 3 (by decide+kernel)
   simp -dsimp only[↓bp,bq,br,seval,lX,h3]
   refine aA (d':=⟨⟩) ?_
   simp -dsimp only[↓bp,bq,br,seval,lX,hok]
 ·intro e' hv hf
  have h0:=hf 3 (by decide)
  have g2:=hf 2 (by decide)
  simp -dsimp only[↓bp,bq,br,seval,lX]at h0 g2
  have h1:e' 78= .nil:=hv 1 (by decide)
  have h2:e' 81= .sl .full [a4.1.enc] []:=hv 4 (by decide)
  clear hv hf
  have hle:∀ S,gH rb σ S -> (σ.delBox rb).le S:=fun S h=> ⟨fun i cs hi=>by
   have hi':(if i=rb then none else σ.box i)=some cs:=hi
   split at hi'
   ·cases hi'
   ·rename_i e;exact h.box i cs e hi',h.tip,h.ty⟩
  have hd0:(σ.delBox rb).box b0=none:=by show(if b0=rb then none else σ.box b0)=none;split;rfl;exact hb0.1
  have hdx:(σ.delBox rb).box bx=none:=by show(if bx=rb then none else σ.box bx)=none;split;rfl;exact hx1.1
  have hdr:(σ.delBox rb).box rb=none:=by simp[AS.delBox]
  repeat'(first|refine xs ?_ ?_ <;>intros|(refine wn ?_;intro bx hbx;try simp only[fb]at hbx)|((refine pQ (σ0:=σ.delBox rb) (ys:=[a4.1.enc]) (.nil (hle _ (by repeat' first|exact gH.refl _|refine gH.setRb ?_ _|refine gH.setBox ?_ (by simp_all [AS.fresh]) _))) rdT (kO iF.2.2.2.1) (fun a ha=>by simp at ha;subst ha;exact hok) (by simp) (fun v2 σ2 hA=> ?_);have kr:=hA.keep rb (bR a4.2) fF trivial;have kx:=hA.keep bx [.int .u8 k, .bool false, .nil, .str [], .int .i64 0,dK a2.1, .nil] (by simp[AS.setBox, *]) trivial;have k0:=hA.keep b0 [.int .u8 0, .bool false, .nil, .str [], .int .i64 0, .nil, .nil] (by simp[AS.setBox, *]) trivial;obtain⟨w1,w2,w3⟩:=A9a hA.buf;obtain⟨kr1,kr2⟩:=kr;obtain⟨kx1,kx2⟩:=kx;obtain⟨k01,k02⟩:=k0;replace hA:=hA.buf;rw[List.nil_append]at hA))|refine aQ ?_|(refine aB ?_;intro bx hbx;(try simp only[fb]at hbx))|refine aD ?_|((with_reducible refine And.intro ?_ ?_);omega)|refine aA (d':=⟨⟩) ?_|refine aR (by kernel_rfl) ?_|refine aP ?_ (by repeat' first|exact lr _|assumption|refine ls ?_ ?_|refine lt ?_ ?_|simp only[*];done|simp only[fb, *,not_false_eq_true,and_self];done|exact lf ‹_› (by simp only[*]))|refine aC ?_ (by repeat' first|exact lr _|assumption|refine ls ?_ ?_|refine lt ?_ ?_|simp only[*];done|simp only[fb, *,not_false_eq_true,and_self];done|exact lf ‹_› (by simp only[*]))|simp -dsimp only[↓bp,bq,br,seval,lX, *]|refine wz ?_|fail)
  exact aE _ (AS.le.refl _) ⟨v2,rfl,(hA.setOther hdx kx2 _).setOther hd0 k02 _,kr2,by simp[AS.setBox, *]⟩
end
set_option maxRecDepth 20000
section
def iK:=And.intro (And.intro (And.intro (And.intro @nK @nL) (And.intro @lY @kW)) (And.intro (And.intro @nA @lC) (And.intro @kI @kE))) (And.intro (And.intro (And.intro @A6b @A6a) (And.intro @oU @jD)) (And.intro (And.intro @iF @cA) (And.intro @bL (And.intro @dL @cN))))
variable {G:Nat ->AV}
theorem rdU:fV Tryd.prog 51=some (88,1,4):=lC.2.2.2.2.2.2
set_option maxHeartbeats 2000000 in
theorem D3f{f:Nat}(H:TC G f){σ:AS}{rb:Nat}{st:dD}(h:σ.box rb=some (bR st))(hk:(aG 1 st).1=1):aJ Tryd.prog G 36 [.ptr rb 0] σ fun r s=>r=(cC (bB f) (aG 1 st).1 (aG 1 st).2).1.enc /\ s=σ.setBox rb (bR (cC (bB f) (aG 1 st).1 (aG 1 st).2).2):=by
 have hne:∀ b',σ.fresh b' -> (rb=b')=False:=fun b' h'=>eq_false fun e=>by subst e;rw[h'.1]at h;cases h
 have hne2:∀ b',σ.fresh b' -> (b'=rb)=False:=fun b' h'=>eq_false fun e=>by subst e;rw[h'.1]at h;cases h
 refine tW ?_
 have t1:=fun(S:AS) (h:S.box rb=some (bR st))=>aZ (G:=G) 1 (by omega) h
 have hk8:=gB st
 generalize aG 1 st=a at*
 obtain⟨k,st1⟩:=a
 simp only at*
 have hconv:=kT hk8
 have e1:((k:Int)=1)=True:=eq_true (by omega)
 have e2:((k:Int)=2)=False:=eq_false (by omega)
 have e3:((k:Int)=3)=False:=eq_false (by omega)
 have e4:((k:Int)=4)=False:=eq_false (by omega)
 have e5:((k:Int)=5)=False:=eq_false (by omega)
 have e6:((k:Int)=6)=False:=eq_false (by omega)
 have e7:((k:Int)=7)=False:=eq_false (by omega)
 have t2:=fun(S:AS) (h:S.box rb=some (bR st1))=>xB (G:=G) h
 have t3:=fun(S:AS) (h:S.box rb=some (bR (bY st1).2))=>aZ (G:=G) 1 (by omega) h
 have hn8:=gB (bY st1).2
 have hkm:cC (bB f) k st1=(.mk 1 (bY st1).1 ((cT (aG 4) (aG 1 (bY st1).2).1 (aG 1 (bY st1).2).2).1.map UInt32.ofNat) [] 0 [] [],(cT (aG 4) (aG 1 (bY st1).2).1 (aG 1 (bY st1).2).2).2):=by
  unfold cC;rw[if_pos hk]
 rw[hkm]
 clear hkm
 generalize aG 1 (bY st1).2=a3 at*
 generalize bY st1=a2 at*
 obtain⟨g,s2⟩:=a2
 obtain⟨n,s3⟩:=a3
 simp only at*
 obtain⟨R,hR⟩:∃ R,R=cT (aG 4) n s3:=⟨_,rfl⟩
 rw[<- hR]
 refine aJ.mono (Q:=fun r s=>r= .agg [.int .u8 k, .bool g,jF (R.1.map UInt32.ofNat), .str [], .int .i64 0, .nil, .nil] /\ s=σ.setBox rb (bR R.2)) (D7g (rb:=rb) (w:=1) (E:=88) (xs:=(R.1.map UInt32.ofNat).map mM) (C:=fun v=> .agg [.int .u8 k, .bool g,v, .str [], .int .i64 0, .nil, .nil]) (T:= .agg [.int .u8 k, .bool g,jF (R.1.map UInt32.ofNat), .str [], .int .i64 0, .nil, .nil]) (z:=bR R.2) (fun b m=>Has.agg 2 (by simp) Has.bs) (fun b m ys=>Frz.agg _ _ rfl (fun d hd=>by simp at hd;rcases hd with rfl|rfl|rfl|rfl|rfl|rfl|rfl <;>rfl) (fun j g1 g2=>by
  match j,g1,g2 with
  |0,_,_=>exact .same _
  |1,_,_=>exact .same _
  |2,_,_=>exact .here _
  |3,_,_=>exact .same _
  |4,_,_=>exact .same _
  |5,_,_=>exact .same _
  |6,_,_=>exact .same _)) (fun v hv=>Le.agg (.cons (Le.refl _) (.cons (Le.refl _) (.cons hv (.cons (Le.refl _) (.cons (Le.refl _) (.cons (Le.refl _) (.cons (Le.refl _) .nil))))))) (fun d hd=>by simp at hd;rcases hd with rfl|rfl|rfl|rfl|rfl|rfl|rfl <;>rfl)) ?_) ?_
 case refine_2=>
  rintro r s ⟨rfl,rfl⟩
  exact⟨⟨_,_,_,by rw[hk];rfl,Le.refl _,Le.nil,Le.nil⟩,rfl⟩
 have hkq:PLift (_:Prop):=⟨hk⟩
 clear hk
 refine aJ.of_awp mixed Tryd.func36 rfl (by kernel_rfl) (by kernel_rfl) (by simp[Tryd.ntmps36]) Tryd.results36 ?_
 repeat'(first|(refine wn ?_;intro bx hbx;try simp only[fb]at hbx)|((refine aJ.mono (t1 _ (by simp[AS.setBox, *])) ?_;rintro r s ⟨rfl,rfl⟩;clear t1))|((refine aJ.mono (t2 _ (by simp[AS.setBox, *])) ?_;rintro r s ⟨rfl,rfl⟩;clear t2))|((refine aJ.mono (t3 _ (by simp[AS.setBox, *])) ?_;rintro r s ⟨rfl,rfl⟩;clear t3))|refine aQ ?_|(refine aB ?_;intro bx hbx;(try simp only[fb]at hbx))|refine aD ?_|((with_reducible refine And.intro ?_ ?_);omega)|refine aA (d':=⟨⟩) ?_|refine aP ?_ (by repeat' first|exact lr _|assumption|refine ls ?_ ?_|refine lt ?_ ?_|simp only[*];done|simp only[fb, *,not_false_eq_true,and_self];done|exact lf ‹_› (by simp only[*]))|refine aC ?_ (by repeat' first|exact lr _|assumption|refine ls ?_ ?_|refine lt ?_ ?_|simp only[*];done|simp only[fb, *,not_false_eq_true,and_self];done|exact lf ‹_› (by simp only[*]))|simp -dsimp only[↓bp,bq,br,seval,iK, *]|refine wz ?_|fail)
 rename_i b0 hb0
 obtain⟨⟨hx1,hx2,hx3⟩,hx4,hx5⟩:=hbx
 have hx6:=hne _ hb0
 have hx7:=hne2 _ hb0
 have hle:∀ S,gH rb σ S -> (σ.delBox rb).le S:=fun S h=> ⟨fun i cs hi=>by
  have hi':(if i=rb then none else σ.box i)=some cs:=hi
  split at hi'
  ·cases hi'
  ·rename_i e;exact h.box i cs e hi',h.tip,h.ty⟩
 have hd0:(σ.delBox rb).box b0=none:=by show(if b0=rb then none else σ.box b0)=none;split;rfl;exact hb0.1
 have hdx:(σ.delBox rb).box bx=none:=by show(if bx=rb then none else σ.box bx)=none;split;rfl;exact hx1.1
 have hdr:(σ.delBox rb).box rb=none:=by simp[AS.delBox]
 clear hkq
 refine aY (fun m e S=>∃ l st' v,e 4= .int .i64 m /\ l.length+m <=n /\ cT (aG 4) n s3=(l++(cT (aG 4) m st').1,(cT (aG 4) m st').2) /\ S.box rb=some (bR st') /\ S.box bx=some [.int .u8 k, .bool g,v, .str [], .int .i64 0, .nil, .nil] /\ S.box b0=some [.int .u8 0, .bool false, .nil, .str [], .int .i64 0, .nil, .nil] /\ fU 1 88 (σ.delBox rb) S v ((l.map UInt32.ofNat).map mM) /\ eM v rb /\ eM v bx /\ eM v b0) n ⟨[],s3, .nil,by simp -dsimp only[↓bp,bq,br,seval,iK],by simp,by simp,by simp[AS.setBox, *],by simp[AS.setBox, *],by simp[AS.setBox, *], .nil (hle _ (by repeat' first|exact gH.refl _|refine gH.setRb ?_ _|refine gH.setBox ?_ (by simp_all [AS.fresh]) _)),trivial,trivial,trivial⟩ ?_
 rintro m e S ⟨l,st',v,h4,hlm,hrow,hrb,hxb,h0b,hW,hn1,hn2,hn3⟩
 simp -dsimp only[↓bp,bq,br,seval,iK]at h4
 by_cases hc:0 < m /\ st'.2=false
 ·obtain⟨hm,hb⟩:=hc
  obtain⟨m,rfl⟩:∃ k,m=k+1:=⟨m - 1,by omega⟩
  have c1:((0:Int) < ((m+1:Nat):Int))=True:=eq_true (by omega)
  have t4:=fun(S:AS) (h:S.box rb=some (bR st'))=>aZ (G:=G) 4 (by omega) h
  have hrow2:cT (aG 4) n s3=(l++[(aG 4 st').1]++(cT (aG 4) m (aG 4 st').2).1,(cT (aG 4) m (aG 4 st').2).2):=by
   rw[hrow];simp only[cT,hb];simp
  have hbx:S.box rb=some [eD st'.1, .bool false]:=by rw[hrb,bR,hb]
  have hwr:IntKind.i64.wrap (((m+1:Nat):Int) - 1)=(m:Int):=by rw[aH (by omega) (by omega)];omega
  have t4':=t4 S hrb
  clear hrow hR hrb t4 hb
  generalize aG 4 st'=o at*
  obtain⟨x,st2⟩:=o
  simp only at*
  have hcv:IntKind.u32.wrap (x:Int)=((UInt32.ofNat x).toNat:Int):=by rw[IntKind.wrap_u32,UInt32.toNat_ofNat'];omega
  have hW2:=hW.setOther hdr hn1 (bR st2)
  repeat'(first|(refine wn ?_;intro bx hbx;try simp only[fb]at hbx)|refine aQ ?_|(refine aB ?_;intro bx hbx;(try simp only[fb]at hbx))|refine aD ?_|((with_reducible refine And.intro ?_ ?_);omega)|refine aA (d':=⟨⟩) ?_|refine aP ?_ (by repeat' first|exact lr _|assumption|refine ls ?_ ?_|refine lt ?_ ?_|simp only[*];done|simp only[fb, *,not_false_eq_true,and_self];done|exact lf ‹_› (by simp only[*]))|refine aC ?_ (by repeat' first|exact lr _|assumption|refine ls ?_ ?_|refine lt ?_ ?_|simp only[*];done|simp only[fb, *,not_false_eq_true,and_self];done|exact lf ‹_› (by simp only[*]))|simp -dsimp only[↓bp,bq,br,seval,iK, *]|refine wz ?_|fail)
  refine A3y rb (bR st2) 6 3 (fun k=>32+k) (fun k=> [.ptr bx 2,v, .ptr rb 0, .int .i64 x,mM (UInt32.ofNat x), .sl .full [mM (UInt32.ofNat x)] []].getD k .undef) (by decide+kernel) (by decide) (by intro i _ j _ h;simpa using h) rfl rfl ?_ ?_
  ·refine⟨?_,?_,?_,?_,?_,?_,trivial⟩
   ·refine⟨rfl,fun e' s hw hf=> ⟨fun hk=>absurd hk (by decide),fun _ hs=> ?_⟩⟩
    have h0:=hf 3 (by decide)
    simp -dsimp only[↓bp,bq,br,seval,iK]at h0
    simp -dsimp only[↓bp,bq,br,seval,iK,h0]
   ·refine⟨rfl,fun e' s hw hf=> ⟨fun hk=>absurd hk (by decide),fun _ hs=> ?_⟩⟩
    have h1:e' 32= .ptr bx 2:=hw 0 (by decide+kernel)
    rcases hs with rfl|rfl
    ·simp -dsimp only[↓bp,bq,br,seval,iK,h1,hxb]
    ·simp -dsimp only[↓bp,bq,br,seval,iK,h1,hxb,hx4,hx5,hx6,hx7,ite_false,ite_true]
   ·refine⟨rfl,fun e' s hw hf=> ⟨fun hk=>absurd hk (by decide),fun _ hs=> ?_⟩⟩
    have h0:=hf 0 (by decide)
    simp -dsimp only[↓bp,bq,br,seval,iK]at h0
    simp -dsimp only[↓bp,bq,br,seval,iK,h0]
   ·refine⟨rfl,fun e' s hw hf=> ⟨fun _=> ?_,fun hk=>absurd rfl hk⟩⟩
    have h2:e' 34= .ptr rb 0:=hw 2 (by decide+kernel)
    simp -dsimp only[↓bp,bq,br,seval,iK,h2]
    exact t4'
   ·refine⟨rfl,fun e' s hw hf=> ⟨fun hk=>absurd hk (by decide),fun _ hs=> ?_⟩⟩
    have h3:e' 35= .int .i64 x:=hw 3 (by decide+kernel)
    simp -dsimp only[↓bp,bq,br,seval,iK,h3,hcv]
    all_goals first|rfl|skip
   ·refine⟨rfl,fun e' s hw hf=> ⟨fun hk=>absurd hk (by decide),fun _ hs=> ?_⟩⟩
    have h3:e' 36=mM (UInt32.ofNat x):=hw 4 (by decide+kernel)
    simp -dsimp only[↓bp,bq,br,seval,iK,h3]
    refine aA (d':=⟨⟩) ?_
    simp -dsimp only[↓bp,bq,br,seval,iK,mM]
  ·intro e' hv hf
   have h0:=hf 3 (by decide)
   have g2:=hf 4 (by decide)
   simp -dsimp only[↓bp,bq,br,seval,iK]at h0 g2
   have h1:e' 33=v:=hv 1 (by decide)
   have h2:e' 37= .sl .full [mM (UInt32.ofNat x)] []:=hv 5 (by decide)
   clear hv hf
   repeat'(first|refine xs ?_ ?_ <;>intros|(refine wn ?_;intro bx hbx;try simp only[fb]at hbx)|((refine pQ (σ0:=σ.delBox rb) (ys:=[mM (UInt32.ofNat x)]) hW2 rdU (kO lC.2.2.2.1) (fun a ha=>by simp at ha;subst ha;exact⟨rfl,rfl⟩) (by simp only[List.length_map,List.length_cons,List.length_nil];omega) (fun v2 σ2 hA=> ?_);have kr:=hA.keep rb (bR st2) fF hn1;have kx:=hA.keep bx [.int .u8 k, .bool g,v, .str [], .int .i64 0, .nil, .nil] (by simp[AS.setBox, *]) hn2;have k0:=hA.keep b0 [.int .u8 0, .bool false, .nil, .str [], .int .i64 0, .nil, .nil] (by simp[AS.setBox, *]) hn3;obtain⟨w1,w2,w3⟩:=A9a hA.buf;obtain⟨kr1,kr2⟩:=kr;obtain⟨kx1,kx2⟩:=kx;obtain⟨k01,k02⟩:=k0;replace hA:=hA.buf))|refine aQ ?_|(refine aB ?_;intro bx hbx;(try simp only[fb]at hbx))|refine aD ?_|((with_reducible refine And.intro ?_ ?_);omega)|refine aA (d':=⟨⟩) ?_|refine aR (by kernel_rfl) ?_|refine aP ?_ (by repeat' first|exact lr _|assumption|refine ls ?_ ?_|refine lt ?_ ?_|simp only[*];done|simp only[fb, *,not_false_eq_true,and_self];done|exact lf ‹_› (by simp only[*]))|refine aC ?_ (by repeat' first|exact lr _|assumption|refine ls ?_ ?_|refine lt ?_ ?_|simp only[*];done|simp only[fb, *,not_false_eq_true,and_self];done|exact lf ‹_› (by simp only[*]))|simp -dsimp only[↓bp,bq,br,seval,iK, *]|refine wz ?_|fail)
   exact⟨m,by omega,l++[x],st2,v2,rfl,by simp;omega,by first|rfl|exact hrow2,by simp[AS.setBox, *],by simp[AS.setBox, *],by simpa using hA.setOther hdx kx2 _,kr2,kx2,k02⟩
 ·have hend:cT (aG 4) m st'=([],st'):=by
   cases m with
   |zero=>rfl
   | succ m=>
    have:st'.2=true:=by cases hb:st'.2 with|true=>rfl|false=>exact absurd ⟨by omega,hb⟩ hc
    simp[cT,this]
  rw[hend,List.append_nil]at hrow
  rw[hrow]at hR
  subst hR
  simp only at*
  obtain⟨w1,w2,w3⟩:=A9a hW
  have fin:fU 1 88 (σ.delBox rb) (S.setBox b0 [.int .u8 k, .bool g,v, .str [], .int .i64 0, .nil, .nil]) v ((l.map UInt32.ofNat).map mM) /\ eM v rb /\ (S.setBox b0 [.int .u8 k, .bool g,v, .str [], .int .i64 0, .nil, .nil]).box rb=some (bR st'):=⟨hW.setOther hd0 hn3 _,hn1,by simp[AS.setBox, *]⟩
  by_cases hm:0 < m
  ·have c1:((0:Int) < (m:Int))=True:=eq_true (by omega)
   have hb:st'.2=true:=by cases hb:st'.2 with|true=>rfl|false=>exact absurd ⟨hm,hb⟩ hc
   have hbx:S.box rb=some [eD st'.1, .bool true]:=by rw[hrb,bR,hb]
   clear hc hend hrow hrb hb
   repeat'(first|refine xs ?_ ?_ <;>intros|(refine wn ?_;intro bx hbx;try simp only[fb]at hbx)|refine aQ ?_|(refine aB ?_;intro bx hbx;(try simp only[fb]at hbx))|refine aD ?_|((with_reducible refine And.intro ?_ ?_);omega)|refine aA (d':=⟨⟩) ?_|refine aR (by kernel_rfl) ?_|refine aP ?_ (by repeat' first|exact lr _|assumption|refine ls ?_ ?_|refine lt ?_ ?_|simp only[*];done|simp only[fb, *,not_false_eq_true,and_self];done|exact lf ‹_› (by simp only[*]))|refine aC ?_ (by repeat' first|exact lr _|assumption|refine ls ?_ ?_|refine lt ?_ ?_|simp only[*];done|simp only[fb, *,not_false_eq_true,and_self];done|exact lf ‹_› (by simp only[*]))|simp -dsimp only[↓bp,bq,br,seval,iK, *]|refine wz ?_|fail)
   exact aE _ (AS.le.refl _) ⟨v,rfl,fin⟩
  ·have c1:((0:Int) < (m:Int))=False:=eq_false (by omega)
   clear hc hend hrow
   repeat'(first|refine xs ?_ ?_ <;>intros|(refine wn ?_;intro bx hbx;try simp only[fb]at hbx)|refine aQ ?_|(refine aB ?_;intro bx hbx;(try simp only[fb]at hbx))|refine aD ?_|((with_reducible refine And.intro ?_ ?_);omega)|refine aA (d':=⟨⟩) ?_|refine aR (by kernel_rfl) ?_|refine aP ?_ (by repeat' first|exact lr _|assumption|refine ls ?_ ?_|refine lt ?_ ?_|simp only[*];done|simp only[fb, *,not_false_eq_true,and_self];done|exact lf ‹_› (by simp only[*]))|refine aC ?_ (by repeat' first|exact lr _|assumption|refine ls ?_ ?_|refine lt ?_ ?_|simp only[*];done|simp only[fb, *,not_false_eq_true,and_self];done|exact lf ‹_› (by simp only[*]))|simp -dsimp only[↓bp,bq,br,seval,iK, *]|refine wz ?_|fail)
   exact aE _ (AS.le.refl _) ⟨v,rfl,fin⟩
theorem B0p:∀ f,TC G f
 |0=>fun rb S st h _=>absurd h (by omega)
 | f+1=>fun rb S st hl h=>by
  have H:=B0p f
  have hk8:=gB st
  have hlt:(aG 1 st).1 ≠ 0 -> (aG 1 st).2.1.length < f:=fun hk=>by have:=B3t st hk;omega
  show aJ Tryd.prog G 36 [.ptr rb 0] S fun r s=>r=(cC (bB f) (aG 1 st).1 (aG 1 st).2).1.enc /\ s=S.setBox rb (bR (cC (bB f) (aG 1 st).1 (aG 1 st).2).2)
  by_cases k1:(aG 1 st).1=1
  ·exact D3f H h k1
  by_cases k2:(aG 1 st).1=2
  ·exact D3g H h k2
  by_cases k3:(aG 1 st).1=3 \/ (aG 1 st).1=5
  ·exact C8r H h k3
  by_cases k4:(aG 1 st).1=4
  ·exact D3h H h k4 (hlt (by omega))
  by_cases k6:(aG 1 st).1=6
  ·exact D3i H h k6 (hlt (by omega))
  by_cases k7:(aG 1 st).1=7
  ·cases hg:(bY (aS (bB f) (aG 1 st).2).2).1 with
   |false=>exact C8s H h k7 (hlt (by omega)) hg
   |true=>exact C8t H h k7 (hlt (by omega)) hg
  exact C8u H h (by omega)
end
set_option maxRecDepth 20000
section
def wX:=And.intro (And.intro (And.intro (And.intro @nK @nL) (And.intro @lY (And.intro @kW @kI))) (And.intro (And.intro @kE (And.intro @A6b @A6a)) (And.intro @uI (And.intro @sV @oT)))) (And.intro (And.intro (And.intro @nP @jD) (And.intro @iF (And.intro @yJ @B4m))) (And.intro (And.intro @cA (And.intro @bL @dH)) (And.intro @cK (And.intro @hU @fW))))
variable {G:Nat ->AV}
theorem B3d(hg:lF G):A2p G 34 aO.enc lO (fun _=>True):=
 ⟨fun rb S st _ h=>B9u hg h,fun _ _=>trivial,fun _ _ _=>trivial⟩
def noC:AV:= .agg [.nil, .nil, .nil]
theorem C2v(n:Nat)(st:dD)(σ:AS):dP Tryd.prog σ 27 9 (tkA n st)=some (.str (bV n st).1):=by
 unfold tkA bV
 by_cases hc:st.2=true \/ st.1.length < n
 ·rw[if_pos hc,if_pos hc]
  simp -dsimp only[↓bp,bq,br,seval,wX]
  rfl
 ·rw[if_neg hc,if_neg hc]
  simp -dsimp only[↓bp,bq,br,seval,wX]
  rw[yQ];rfl
set_option maxHeartbeats 4000000 in
theorem D0p{b:List UInt8}(h:(bV 4 (b,false)).1 ≠ iU)(σ:AS):aJ Tryd.prog G 9 [eD b] σ fun r s=>r= .tup [noC, .int .i64 4] /\ s=σ:=by
 have t1:=fun(S:AS) (rb:Nat) (h:S.box rb=some (bR (b,false)))=>rK (G:=G) 4 h
 have e1:=C2v 4 (b,false)
 have c1:((bV 4 (b,false)).1=[112,105,103,115])=False:=eq_false h
 have hb:bR (b,false)=[eD b, .bool false]:=rfl
 clear h
 generalize bV 4 (b,false)=a1 at*
 obtain⟨x1,b1,bad1⟩:=a1
 generalize tkA 4 (b,false)=tk at*
 simp only at*
 unfold eD noC at*
 refine aJ.of_awp mixed Tryd.func9 rfl (by kernel_rfl) (by kernel_rfl) (by simp[Tryd.ntmps9]) Tryd.results9 ?_
 repeat'(first|refine xs ?_ ?_ <;>intros|(refine wn ?_;intro bx hbx;try simp only[fb]at hbx)|((refine aJ.mono (t1 _ _ (by simp[AS.setBox, *])) ?_;rintro r s ⟨rfl,rfl⟩;clear t1))|refine aQ ?_|(refine aB ?_;intro bx hbx;(try simp only[fb]at hbx))|refine aD ?_|((with_reducible refine And.intro ?_ ?_);omega)|refine aA (d':=⟨⟩) ?_|refine aR (by kernel_rfl) ?_|refine aP ?_ (by repeat' first|exact lr _|assumption|refine ls ?_ ?_|refine lt ?_ ?_|simp only[*];done|simp only[fb, *,not_false_eq_true,and_self];done|exact lf ‹_› (by simp only[*]))|refine aC ?_ (by repeat' first|exact lr _|assumption|refine ls ?_ ?_|refine lt ?_ ?_|simp only[*];done|simp only[fb, *,not_false_eq_true,and_self];done|exact lf ‹_› (by simp only[*]))|simp -dsimp only[↓bp,bq,br,seval,wX,bR,eD, *]|refine wz ?_|fail)
def B2t(f:Nat)(st:dD):cU × dD:=
 (⟨(aS uD st).1,(aS lO (aS uD st).2).1,(aS (bB f) (aS lO (aS uD st).2).2).1⟩,(aS (bB f) (aS lO (aS uD st).2).2).2)
theorem B7l(st:dD):(uD st).2.1.length <=st.1.length:=by
 unfold uD
 exact Nat.le_trans (dO _ _) (Nat.le_trans (dO _ _) (Nat.le_trans (dO _ _) (Nat.le_trans (dO _ _) (sJ _))))
theorem A7z(i:aO)(f:UInt8)(st:dD):(cJ i f st).2.1.length <=st.1.length:=by
 unfold cJ
 repeat' split
 all_goals first|exact dO _ _|exact sJ _|exact iC (dO 2) _|exact Nat.le_refl _
theorem tH:∀ (l:List UInt8) (i:aO) (st:dD),(fQ l i st).2.1.length <=st.1.length
 |[],i,st=>Nat.le_refl _
 | f::l,i,st=>by
  simp only[fQ]
  exact Nat.le_trans (tH l _ _) (A7z i f st)
theorem B9s(st:dD):(lO st).2.1.length <=st.1.length:=by
 unfold lO
 split
 ·exact dO _ _
 ·exact Nat.le_trans (tH _ _ _) (dO _ _)
def C5f(c:cU)(st:dD)(ok:Bool):AV:=if st.2=true \/ st.1 ≠ [] \/ ok=false then .tup [noC, .int .i64 4]else .tup [c.enc, .int .i64 0]
set_option maxHeartbeats 4000000 in
theorem B8s(hg:lF G){b:List UInt8}(h:(bV 4 (b,false)).1=iU)(ok:Bool)(hok:(B2t (b.length+1) (bV 4 (b,false)).2).2=([],false) ->aN Tryd.prog G 8 [(B2t (b.length+1) (bV 4 (b,false)).2).1.enc] (.bool ok))(σ:AS):
  aJ Tryd.prog G 9 [eD b] σ fun r s=>r=C5f (B2t (b.length+1) (bV 4 (b,false)).2).1 (B2t (b.length+1) (bV 4 (b,false)).2).2 ok /\ s=σ:=by
 have t1:=fun(S:AS) (rb:Nat) (h:S.box rb=some (bR (b,false)))=>rK (G:=G) 4 h
 have e1:=C2v 4 (b,false)
 have c1:((bV 4 (b,false)).1=[112,105,103,115])=True:=eq_true h
 have hb:bR (b,false)=[eD b, .bool false]:=rfl
 have hl1:=sR 4 (b,false)
 clear h
 unfold B2t at*
 generalize bV 4 (b,false)=a1 at*
 obtain⟨x1,st1⟩:=a1
 generalize tkA 4 (b,false)=tk at*
 simp only at*
 have t2:=fun(S:AS) (rb:Nat) (h:S.box rb=some (bR st1))=>C7w (G:=G) B2o trivial h
 have hl2:=iC B7l st1
 generalize aS uD st1=a2 at*
 obtain⟨es,st2⟩:=a2
 have t3:=fun(S:AS) (rb:Nat) (h:S.box rb=some (bR st2))=>C7y (B3d hg) trivial h
 have hl3:=iC B9s st2
 generalize aS lO st2=a3 at*
 obtain⟨is,st3⟩:=a3
 have t4:=fun(S:AS) (rb:Nat) (h:S.box rb=some (bR st3))=> (B0p (G:=G) (b.length+1)).row (by simp only at*;omega) h
 generalize aS (bB (b.length+1)) st3=a4 at*
 obtain⟨cs,b4,bad4⟩:=a4
 simp only at*
 have hen:∀ (x:List dA) (y:List aO) (z:List aF),AV.agg [.sl .none (x.map dA.enc) [], .sl .none (y.map aO.enc) [],dK z]=(⟨x,y,z⟩:cU).enc:=fun x y z=>rfl
 clear hl1 hl2 hl3 hg
 unfold eD C5f noC at*
 cases bad4 with
 | true=>
  rw[if_pos (.inl rfl)]
  have hb4:bR (b4,true)=[.sl .none (aI b4) [], .bool true]:=rfl
  clear hok
  refine aJ.of_awp mixed Tryd.func9 rfl (by kernel_rfl) (by kernel_rfl) (by simp[Tryd.ntmps9]) Tryd.results9 ?_
  repeat'(first|refine xs ?_ ?_ <;>intros|(refine wn ?_;intro bx hbx;try simp only[fb]at hbx)|((refine aJ.mono (t1 _ _ (by simp[AS.setBox, *])) ?_;rintro r s ⟨rfl,rfl⟩;clear t1))|((refine aJ.mono (t2 _ _ (by simp[AS.setBox, *])) ?_;rintro r s ⟨rfl,rfl⟩;clear t2))|((refine aJ.mono (t3 _ _ (by simp[AS.setBox, *])) ?_;rintro r s ⟨rfl,rfl⟩;clear t3))|((refine aJ.mono (t4 _ _ (by simp[AS.setBox, *])) ?_;rintro r s ⟨rfl,rfl⟩;clear t4))|refine aQ ?_|(refine aB ?_;intro bx hbx;(try simp only[fb]at hbx))|refine aD ?_|((with_reducible refine And.intro ?_ ?_);omega)|refine aA (d':=⟨⟩) ?_|refine aR (by kernel_rfl) ?_|refine aP ?_ (by repeat' first|exact lr _|assumption|refine ls ?_ ?_|refine lt ?_ ?_|simp only[*];done|simp only[fb, *,not_false_eq_true,and_self];done|exact lf ‹_› (by simp only[*]))|refine aC ?_ (by repeat' first|exact lr _|assumption|refine ls ?_ ?_|refine lt ?_ ?_|simp only[*];done|simp only[fb, *,not_false_eq_true,and_self];done|exact lf ‹_› (by simp only[*]))|simp -dsimp only[↓bp,bq,br,seval,wX, *]|refine wz ?_|fail)|false=>
  have hb4:bR (b4,false)=[.sl .none (aI b4) [], .bool false]:=rfl
  have hlen:=pK b4
  by_cases hr:b4=[]
  ·subst hr
   have hR:=hok rfl
   have hbe:aI []=[]:=rfl
   rw[hbe]at hb4
   have q1:((0:Int) < ((0:Nat):Int))=False:=eq_false (by omega)
   clear hok hlen
   cases ok with
   | false=>
    rw[if_pos (.inr (.inr rfl))]
    refine aJ.of_awp mixed Tryd.func9 rfl (by kernel_rfl) (by kernel_rfl) (by simp[Tryd.ntmps9]) Tryd.results9 ?_
    repeat'(first|refine xs ?_ ?_ <;>intros|(refine wn ?_;intro bx hbx;try simp only[fb]at hbx)|((refine aJ.mono (t1 _ _ (by simp[AS.setBox, *])) ?_;rintro r s ⟨rfl,rfl⟩;clear t1))|((refine aJ.mono (t2 _ _ (by simp[AS.setBox, *])) ?_;rintro r s ⟨rfl,rfl⟩;clear t2))|((refine aJ.mono (t3 _ _ (by simp[AS.setBox, *])) ?_;rintro r s ⟨rfl,rfl⟩;clear t3))|((refine aJ.mono (t4 _ _ (by simp[AS.setBox, *])) ?_;rintro r s ⟨rfl,rfl⟩;clear t4))|refine wp hR ?_|refine aQ ?_|(refine aB ?_;intro bx hbx;(try simp only[fb]at hbx))|refine aD ?_|((with_reducible refine And.intro ?_ ?_);omega)|refine aA (d':=⟨⟩) ?_|refine aR (by kernel_rfl) ?_|refine aP ?_ (by repeat' first|exact lr _|assumption|refine ls ?_ ?_|refine lt ?_ ?_|simp only[*];done|simp only[fb, *,not_false_eq_true,and_self];done|exact lf ‹_› (by simp only[*]))|refine aC ?_ (by repeat' first|exact lr _|assumption|refine ls ?_ ?_|refine lt ?_ ?_|simp only[*];done|simp only[fb, *,not_false_eq_true,and_self];done|exact lf ‹_› (by simp only[*]))|simp -dsimp only[↓bp,bq,br,seval,wX,hen, *]|refine wz ?_|fail)|true=>
    rw[if_neg (by simp)]
    refine aJ.of_awp mixed Tryd.func9 rfl (by kernel_rfl) (by kernel_rfl) (by simp[Tryd.ntmps9]) Tryd.results9 ?_
    repeat'(first|refine xs ?_ ?_ <;>intros|(refine wn ?_;intro bx hbx;try simp only[fb]at hbx)|((refine aJ.mono (t1 _ _ (by simp[AS.setBox, *])) ?_;rintro r s ⟨rfl,rfl⟩;clear t1))|((refine aJ.mono (t2 _ _ (by simp[AS.setBox, *])) ?_;rintro r s ⟨rfl,rfl⟩;clear t2))|((refine aJ.mono (t3 _ _ (by simp[AS.setBox, *])) ?_;rintro r s ⟨rfl,rfl⟩;clear t3))|((refine aJ.mono (t4 _ _ (by simp[AS.setBox, *])) ?_;rintro r s ⟨rfl,rfl⟩;clear t4))|refine wp hR ?_|refine aQ ?_|(refine aB ?_;intro bx hbx;(try simp only[fb]at hbx))|refine aD ?_|((with_reducible refine And.intro ?_ ?_);omega)|refine aA (d':=⟨⟩) ?_|refine aR (by kernel_rfl) ?_|refine aP ?_ (by repeat' first|exact lr _|assumption|refine ls ?_ ?_|refine lt ?_ ?_|simp only[*];done|simp only[fb, *,not_false_eq_true,and_self];done|exact lf ‹_› (by simp only[*]))|refine aC ?_ (by repeat' first|exact lr _|assumption|refine ls ?_ ?_|refine lt ?_ ?_|simp only[*];done|simp only[fb, *,not_false_eq_true,and_self];done|exact lf ‹_› (by simp only[*]))|simp -dsimp only[↓bp,bq,br,seval,wX,hen,cU.flat_enc,cU.isv_enc, *]|refine wz ?_|fail)
    all_goals first|rfl|skip
  ·rw[if_pos (.inr (.inl hr))]
   have hp:0 < b4.length:=List.length_pos_iff.2 hr
   have q1:((0:Int) < (b4.length:Int))=True:=eq_true (by omega)
   clear hok hr
   refine aJ.of_awp mixed Tryd.func9 rfl (by kernel_rfl) (by kernel_rfl) (by simp[Tryd.ntmps9]) Tryd.results9 ?_
   repeat'(first|refine xs ?_ ?_ <;>intros|(refine wn ?_;intro bx hbx;try simp only[fb]at hbx)|((refine aJ.mono (t1 _ _ (by simp[AS.setBox, *])) ?_;rintro r s ⟨rfl,rfl⟩;clear t1))|((refine aJ.mono (t2 _ _ (by simp[AS.setBox, *])) ?_;rintro r s ⟨rfl,rfl⟩;clear t2))|((refine aJ.mono (t3 _ _ (by simp[AS.setBox, *])) ?_;rintro r s ⟨rfl,rfl⟩;clear t3))|((refine aJ.mono (t4 _ _ (by simp[AS.setBox, *])) ?_;rintro r s ⟨rfl,rfl⟩;clear t4))|refine aQ ?_|(refine aB ?_;intro bx hbx;(try simp only[fb]at hbx))|refine aD ?_|((with_reducible refine And.intro ?_ ?_);omega)|refine aA (d':=⟨⟩) ?_|refine aR (by kernel_rfl) ?_|refine aP ?_ (by repeat' first|exact lr _|assumption|refine ls ?_ ?_|refine lt ?_ ?_|simp only[*];done|simp only[fb, *,not_false_eq_true,and_self];done|exact lf ‹_› (by simp only[*]))|refine aC ?_ (by repeat' first|exact lr _|assumption|refine ls ?_ ?_|refine lt ?_ ?_|simp only[*];done|simp only[fb, *,not_false_eq_true,and_self];done|exact lf ‹_› (by simp only[*]))|simp -dsimp only[↓bp,bq,br,seval,wX,hlen, *]|refine wz ?_|fail)
end
set_option maxRecDepth 20000
section
structure eW{α:Type}(m:dD ->α × dD)(D:Rd α):Prop where
 bad:∀ b,(m (b,true)).2.2=true
 yes:∀ b x r,D b=some (x,r) ->m (b,false)=(x,(r,false))
 no:∀ b,D b=none -> (m (b,false)).2.2=true
theorem eW.two{α:Type}{m:dD ->α × dD}{D:Rd α}(h:eW m D)(b:List UInt8):(∃ x r,D b= .some (x,r) /\ m (b,false)=(x,(r,false))) \/ (D b= .none /\ (m (b,false)).2.2=true):=by
 cases e:D b with
 |none=>exact .inr ⟨rfl,h.no b e⟩
 |some y=>obtain⟨x,r⟩:=y;exact .inl ⟨x,r,rfl,h.yes b x r e⟩
theorem eW.bind{α β:Type}{m:dD ->α × dD}{D:Rd α}(h:eW m D){m2:α ->dD ->β × dD}{D2:α ->Rd β}(h2:∀ x,eW (m2 x) (D2 x)):eW (fun st=>m2 (m st).1 (m st).2) (fun b=> (D b).bind fun p=>D2 p.1 p.2):=by
 have key:∀ x (st:dD),st.2=true -> (m2 x st).2.2=true:=fun x st hs=>by
  obtain⟨b,bad⟩:=st
  simp only at hs;subst hs
  exact(h2 x).bad b
 refine⟨fun b=>key _ _ (h.bad b),fun b x r hx=> ?_,fun b hx=> ?_⟩
 ·obtain⟨⟨y,r1⟩,e1,e2⟩:=Option.bind_eq_some_iff.1 hx
  show m2 (m (b,false)).1 (m (b,false)).2=_
  rw[h.yes b y r1 e1]
  exact(h2 y).yes r1 x r e2
 ·show(m2 (m (b,false)).1 (m (b,false)).2).2.2=true
  rcases h.two b with⟨y,r1,e1,e2⟩|⟨e1,e2⟩
  ·rw[e2]
   rw[e1]at hx
   exact(h2 y).no r1 hx
  ·exact key _ _ e2
theorem eW.ret{α:Type}(x:α):eW (fun st=> (x,st)) (fun b=>some (x,b)):=
 ⟨fun _=>rfl,fun b y r h=>by cases h;rfl,fun b h=>by cases h⟩
theorem eW.map{α β:Type}{m:dD ->α × dD}{D:Rd α}(h:eW m D)(g:α ->β):eW (fun st=> (g (m st).1,(m st).2)) (fun b=> (D b).map fun p=> (g p.1,p.2)):=by
 have:=h.bind (m2:=fun x st=> (g x,st)) (D2:=fun x b=>some (g x,b)) (fun x=>eW.ret (g x))
 have e:(fun b=> (D b).map fun p=> (g p.1,p.2))=(fun b=> (D b).bind fun p=>some (g p.1,p.2)):=by funext b;cases D b <;>rfl
 rw[e];exact this
theorem eW.fail{α:Type}(x:α):eW (fun st=> (x,(st.1,true))) (fun _=>none):=⟨fun _=>rfl,fun b y r h=> (nomatch h),fun _ _=>rfl⟩
theorem rJ(n:Nat):eW (bV n) (lT n):=by
 refine⟨fun b=>by simp[bV],fun b x r h=> ?_,fun b h=> ?_⟩
 ·unfold lT at h
  split at h
  ·rename_i hn
   cases h
   unfold bV
   rw[if_neg (by simp;omega)]
  ·cases h
 ·unfold lT at h
  split at h
  ·cases h
  ·rename_i hn
   unfold bV
   rw[if_pos (by simp;omega)]
theorem fE(s:Nat):eW (aG s) (eV s):=by
 have h:=(rJ s).map jE
 have e:(eV s)=(fun b=> (lT s b).map fun p=> (jE p.1,p.2)):=by funext b;unfold eV lT;split <;>rfl
 rw[e];exact h
theorem wI:eW fJ oK:=(fE 1).bind (m2:=bV) (D2:=lT) rJ
theorem zM:eW bY lD:=by
 refine(fE 1).bind (m2:=fun n st=> (n==1,(st.1,st.2||decide (1 < n)))) (D2:=fun n r=>if 1 < n then none else some (n==1,r)) fun n=> ?_
 refine⟨fun b=>by simp,fun b x r h=> ?_,fun b h=> ?_⟩
 ·split at h
  ·cases h
  ·rename_i hn;cases h;simp[hn]
 ·split at h
  ·rename_i hn;simp[hn]
  ·cases h
theorem A2b{α:Type}{one:dD ->α × dD}{D:Rd α}(h:eW one D):∀ n,eW (cT one n) (jZ D n)
 |0=>eW.ret []
 | n+1=>by
  have ih:=A2b h n
  have hb:=h.bind (m2:=fun x st=> (x::(cT one n st).1,(cT one n st).2)) (D2:=fun x b=> (jZ D n b).map fun p=> (x::p.1,p.2)) (fun x=>ih.map (x:: ·))
  refine⟨fun b=>rfl,fun b x r hx=> ?_,fun b hx=> ?_⟩
  ·have:=hb.yes b x r hx
   simp only[cT];exact this
  ·have:=hb.no b hx
   simp only[cT];exact this
theorem kA{α:Type}{one:dD ->α × dD}{D:Rd α}(h:eW one D):eW (aS one) (fK D):=(fE 2).bind (m2:=cT one) (D2:=jZ D) (A2b h)
theorem C4r:eW uD A0y:=
 wI.bind (m2:=fun s st=> ((⟨s,(aG 1 st).1,(aG 1 (aG 1 st).2).1,(aG 2 (aG 1 (aG 1 st).2).2).1,(aG 2 (aG 2 (aG 1 (aG 1 st).2).2).2).1⟩:dA),(aG 2 (aG 2 (aG 1 (aG 1 st).2).2).2).2)) (D2:=fun s r=> (eV 1 r).bind fun(a,r)=> (eV 1 r).bind fun(x,r)=> (eV 2 r).bind fun(n,r)=> (eV 2 r).map fun(p,r)=> ((⟨s,a,x,n,p⟩:dA),r)) fun s=>
 (fE 1).bind (m2:=fun a st=> ((⟨s,a,(aG 1 st).1,(aG 2 (aG 1 st).2).1,(aG 2 (aG 2 (aG 1 st).2).2).1⟩:dA),(aG 2 (aG 2 (aG 1 st).2).2).2)) (D2:=fun a r=> (eV 1 r).bind fun(x,r)=> (eV 2 r).bind fun(n,r)=> (eV 2 r).map fun(p,r)=> ((⟨s,a,x,n,p⟩:dA),r)) fun a=>
 (fE 1).bind (m2:=fun x st=> ((⟨s,a,x,(aG 2 st).1,(aG 2 (aG 2 st).2).1⟩:dA),(aG 2 (aG 2 st).2).2)) (D2:=fun x r=> (eV 2 r).bind fun(n,r)=> (eV 2 r).map fun(p,r)=> ((⟨s,a,x,n,p⟩:dA),r)) fun x=>
 (fE 2).bind (m2:=fun n st=> ((⟨s,a,x,n,(aG 2 st).1⟩:dA),(aG 2 st).2)) (D2:=fun n r=> (eV 2 r).map fun(p,r)=> ((⟨s,a,x,n,p⟩:dA),r)) fun n=>
 (fE 2).map fun p=> (⟨s,a,x,n,p⟩:dA)
theorem B2q(i:aO)(f:UInt8):eW (cJ i f) (eE i f):=by
 have h2:=fE 2
 have e:∀ (m:dD ->aO × dD) (D:Rd aO),cJ i f=m ->eE i f=D ->eW m D ->eW (cJ i f) (eE i f):=fun m D e1 e2 h=>by rw[e1,e2];exact h
 by_cases k65:f=65
 ·subst k65;exact e _ _ (by funext st;simp[cJ];try rfl) (by funext b;simp[eE,nO];try rfl) (h2.map fun n=> {i with a:=n})
 by_cases k66:f=66
 ·subst k66;exact e _ _ (by funext st;simp[cJ];try rfl) (by funext b;simp[eE,nO];try rfl) (h2.map fun n=> {i with b:=n})
 by_cases k67:f=67
 ·subst k67;exact e _ _ (by funext st;simp[cJ];try rfl) (by funext b;simp[eE,nO];try rfl) (h2.map fun n=> {i with c:=n})
 by_cases k78:f=78
 ·subst k78;exact e _ _ (by funext st;simp[cJ];try rfl) (by funext b;simp[eE,nO];try rfl) (h2.map fun n=> {i with n:=n})
 by_cases k76:f=76
 ·subst k76;exact e _ _ (by funext st;simp[cJ];try rfl) (by funext b;simp[eE,nO];try rfl) (h2.map fun n=> {i with l:=n})
 by_cases k84:f=84
 ·subst k84;exact e _ _ (by funext st;simp[cJ];try rfl) (by funext b;simp[eE];try rfl) (wI.map fun s=> {i with text:=s})
 by_cases k83:f=83
 ·subst k83;exact e _ _ (by funext st;simp[cJ];try rfl) (by funext b;simp[eE];try rfl) ((kA h2).map fun l=> {i with slots:=l.map Int.ofNat})
 exact e _ _ (by funext st;simp[cJ, *];try rfl) (by funext b;simp[eE, *];try rfl) (eW.ret i)
theorem mH:∀ (l:List UInt8) (i:aO),eW (fQ l i) (iG l i)
 |[],i=>eW.ret i
 |f::l,i=> (B2q i f).bind (m2:=fQ l) (D2:=iG l) (mH l)
theorem kR:∀ (l:List UInt8) (i:aO) (st:dD),fQ l i st=fQ (l.filter fun c=> !(c==45)) i st
 |[],i,st=>rfl
 | c::l,i,st=>by
  by_cases h:c=45
  ·subst h
   have:cJ i 45 st=(i,st):=by simp[cJ]
   simp only[fQ,this]
   rw[kR l i st];rfl
  ·have:(!(c==45))=true:=by simpa using h
   rw[List.filter_cons,if_pos this]
   simp only[fQ]
   exact kR l _ _
theorem B0i:∀ k:Fin 256,decide (rW (UInt8.ofNat k)=[] ↔ (30 <=k.1 \/ pF (UInt8.ofNat k)=[]))=true:=by decide+kernel
theorem C6c:eW lO uE:=by
 refine⟨fun b=> ?_,fun b x r h=> ?_,fun b h=> ?_⟩
 ·have e:aG 1 (b,true)=(0,(b,true)):=by simp[aG,bV,jE]
  unfold lO
  rw[e,if_pos (.inr (show pF (UInt8.ofNat 0)=[]by decide))]
 ·unfold uE at h
  obtain⟨⟨k,r1⟩,h1,h2⟩:=Option.bind_eq_some_iff.1 h
  have e:=(fE 1).yes _ _ _ h1
  have hk:=(dN h1).2
  have ho:=of_decide_eq_true (B0i ⟨k,by simpa using hk⟩)
  simp only at h2 ho
  split at h2
  ·cases h2
  ·rename_i hn
   unfold lO
   rw[e]
   simp only
   rw[if_neg (fun hx=>hn (ho.2 hx)),kR,(A5d _).1]
   exact(mH _ _).yes _ _ _ h2
 ·unfold uE at h
  rcases(fE 1).two b with⟨k,r1,e1,e2⟩|⟨e1,e2⟩
  ·rw[e1]at h
   have hk:=(dN e1).2
   have ho:=of_decide_eq_true (B0i ⟨k,by simpa using hk⟩)
   simp only[Option.bind_some]at h
   simp only at ho
   unfold lO
   rw[e2]
   simp only
   split at h
   ·rename_i hn;rw[if_pos (ho.1 hn)]
   ·rename_i hn
    rw[if_neg (fun hx=>hn (ho.2 hx)),kR,(A5d _).1]
    exact(mH _ _).no _ h
  ·unfold lO
   split
   ·rfl
   ·obtain⟨b2,hb2⟩:∃ b2,(aG 1 (b,false)).2=(b2,true):=⟨_,Prod.ext rfl e2⟩
    rw[hb2]
    exact(mH _ _).bad b2
theorem C0g{T:dD ->aF × dD}{D:Rd aF}(h:eW T D)(k:Nat):eW (cC T k) (jA D k):=by
 have e:∀ (m:dD ->aF × dD) (D':Rd aF),cC T k=m ->jA D k=D' ->eW m D' ->eW (cC T k) (jA D k):=fun m D' e1 e2 h=>by rw[e1,e2];exact h
 by_cases k1:k=1
 ·subst k1
  refine e _ _ (by funext st;unfold cC;rw[if_pos rfl]) (by funext b;unfold jA;rw[if_pos rfl]) ?_
  exact zM.bind (m2:=fun g st=> (aF.mk 1 g ((cT (aG 4) (aG 1 st).1 (aG 1 st).2).1.map UInt32.ofNat) [] 0 [] [],(cT (aG 4) (aG 1 st).1 (aG 1 st).2).2)) (D2:=fun g r=> (eV 1 r).bind fun(n,r)=> (jZ (eV 4) n r).map fun(l,r)=> (aF.mk 1 g (l.map UInt32.ofNat) [] 0 [] [],r)) fun g=>
   (fE 1).bind (m2:=fun n st=> (aF.mk 1 g ((cT (aG 4) n st).1.map UInt32.ofNat) [] 0 [] [],(cT (aG 4) n st).2)) (D2:=fun n r=> (jZ (eV 4) n r).map fun(l,r)=> (aF.mk 1 g (l.map UInt32.ofNat) [] 0 [] [],r)) fun n=>
   (A2b (fE 4) n).map fun l=>aF.mk 1 g (l.map UInt32.ofNat) [] 0 [] []
 by_cases k2:k=2
 ·subst k2
  exact e _ _ (by funext st;unfold cC;rw[if_neg (by omega),if_pos rfl]) (by funext b;unfold jA;rw[if_neg (by omega),if_pos rfl]) (wI.map fun s=>aF.mk 2 false [] s 0 [] [])
 by_cases k3:k=3 \/ k=5
 ·exact e _ _ (by funext st;unfold cC;rw[if_neg k1,if_neg k2,if_pos k3]) (by funext b;unfold jA;rw[if_neg k1,if_neg k2,if_pos k3]) ((fE 6).map fun n=>aF.mk (UInt8.ofNat k) false [] [] n [] [])
 by_cases k4:k=4
 ·refine e _ _ (by funext st;unfold cC;rw[if_neg k1,if_neg k2,if_neg k3,if_pos k4]) (by funext b;unfold jA;rw[if_neg k1,if_neg k2,if_neg k3,if_pos k4]) ?_
  exact(fE 2).bind (m2:=fun n st=> (aF.mk 4 false [] [] n (aS T st).1 [],(aS T st).2)) (D2:=fun n r=> (fK D r).map fun(l,r)=> (aF.mk 4 false [] [] n l [],r)) fun n=> (kA h).map fun l=>aF.mk 4 false [] [] n l []
 by_cases k6:k=6
 ·exact e _ _ (by funext st;unfold cC;rw[if_neg k1,if_neg k2,if_neg k3,if_neg k4,if_pos k6]) (by funext b;unfold jA;rw[if_neg k1,if_neg k2,if_neg k3,if_neg k4,if_pos k6]) ((kA h).map fun l=>aF.mk 6 false [] [] 0 l [])
 by_cases k7:k=7
 ·refine e _ _ (by funext st;unfold cC;rw[if_neg k1,if_neg k2,if_neg k3,if_neg k4,if_neg k6,if_pos k7]) (by funext b;unfold jA;rw[if_neg k1,if_neg k2,if_neg k3,if_neg k4,if_neg k6,if_pos k7]) ?_
  refine(kA h).bind (m2:=fun l st=>if(bY st).1=true then(aF.mk 7 false [] [] 0 l [(T (bY st).2).1],(T (bY st).2).2)else(aF.mk 7 false [] [] 0 l [],(bY st).2)) (D2:=fun l r=> (lD r).bind fun(g,r)=> (jZ D (if g then 1 else 0) r).map fun(ts,r)=> (aF.mk 7 false [] [] 0 l ts,r)) fun l=> ?_
  refine zM.bind (m2:=fun g st=>if g=true then(aF.mk 7 false [] [] 0 l [(T st).1],(T st).2)else(aF.mk 7 false [] [] 0 l [],st)) (D2:=fun g r=> (jZ D (if g then 1 else 0) r).map fun(ts,r)=> (aF.mk 7 false [] [] 0 l ts,r)) fun g=> ?_
  cases g with
  |false=>exact eW.ret _
  | true=>
   have:=h.map fun t=>aF.mk 7 false [] [] 0 l [t]
   have e:(fun r=> (jZ D (if true=true then 1 else 0) r).map fun(p:List aF × List UInt8)=> (aF.mk 7 false [] [] 0 l p.1,p.2))=(fun r=> (D r).map fun p=> (aF.mk 7 false [] [] 0 l [p.1],p.2)):=by
    funext r
    simp only[if_true,jZ]
    cases D r <;>rfl
   show eW _ (fun r=> (jZ D (if true=true then 1 else 0) r).map fun(p:List aF × List UInt8)=> (aF.mk 7 false [] [] 0 l p.1,p.2))
   rw[e]
   exact this
 exact e _ _ (by funext st;unfold cC;rw[if_neg k1,if_neg k2,if_neg k3,if_neg k4,if_neg k6,if_neg k7]) (by funext b;unfold jA;rw[if_neg k1,if_neg k2,if_neg k3,if_neg k4,if_neg k6,if_neg k7]) (eW.fail _)
theorem A5v:∀ f,eW (bB f) (gD f)
 |0=>eW.fail _
 |f+1=> (fE 1).bind (m2:=cC (bB f)) (D2:=jA (gD f)) (C0g (A5v f))
end
set_option maxRecDepth 20000
section
def xE{α:Type}(D:Rd α)(w:α ->Nat):Prop:=∀ b x r,D b=some (x,r) ->w x+r.length <=b.length
theorem eI(s:Nat):xE (eV s) (fun _=>s):=fun b x r h=>by
 unfold eV at h
 split at h
 ·cases h;simp;omega
 ·cases h
theorem sK:xE oK (fun s=>s.length+1):=fun b x r h=>by
 unfold oK at h
 obtain⟨⟨n,r1⟩,h1,h2⟩:=Option.bind_eq_some_iff.1 h
 have:=eI 1 _ _ _ h1
 obtain⟨rfl,rfl⟩:=pG h2
 simp only[List.length_append]at this ⊢;omega
theorem xA:xE lD (fun _=>1):=fun b x r h=>by
 unfold lD at h
 obtain⟨⟨n,r1⟩,h1,h2⟩:=Option.bind_eq_some_iff.1 h
 have:=eI 1 _ _ _ h1
 simp only at h2 this
 split at h2
 ·cases h2
 ·cases h2;omega
theorem rE{α:Type}{D:Rd α}{w:α ->Nat}(h:xE D w):∀ n,xE (jZ D n) (cP w)
 |0=>fun b x r hx=>by cases hx;simp[cP]
 | n+1=>fun b x r hx=>by
  simp only[jZ]at hx
  obtain⟨⟨y,r1⟩,h1,h2⟩:=Option.bind_eq_some_iff.1 hx
  obtain⟨⟨l,r2⟩,h3,h4⟩:=Option.map_eq_some_iff.1 h2
  cases h4
  have e1:=h _ _ _ h1
  have e2:=rE h n _ _ _ h3
  simp only[cP]at*;omega
theorem lS{α:Type}{D:Rd α}{w:α ->Nat}(h:xE D w):xE (fK D) (fun l=>cP w l+2):=fun b x r hx=>by
 unfold fK at hx
 obtain⟨⟨n,r1⟩,h1,h2⟩:=Option.bind_eq_some_iff.1 hx
 have e1:=eI 2 _ _ _ h1
 have e2:=rE h n _ _ _ h2
 simp only at e1 ⊢;omega
theorem B7m:xE A0y dA.bulk:=fun b x r h=>by
 unfold A0y at h
 obtain⟨⟨s,r1⟩,h1,h⟩:=Option.bind_eq_some_iff.1 h
 obtain⟨⟨a,r2⟩,h2,h⟩:=Option.bind_eq_some_iff.1 h
 obtain⟨⟨y,r3⟩,h3,h⟩:=Option.bind_eq_some_iff.1 h
 obtain⟨⟨n,r4⟩,h4,h⟩:=Option.bind_eq_some_iff.1 h
 obtain⟨⟨p,r5⟩,h5,h⟩:=Option.map_eq_some_iff.1 h
 cases h
 have e1:=sK _ _ _ h1
 have e2:=eI 1 _ _ _ h2
 have e3:=eI 1 _ _ _ h3
 have e4:=eI 2 _ _ _ h4
 have e5:=eI 2 _ _ _ h5
 unfold dA.bulk
 simp only at*;omega
theorem vO{α:Type}{w:α ->Nat}(hw:∀ x,1 <=w x):∀ l:List α,l.length <=cP w l
 |[]=>by simp[cP]
 |x::l=>by have:=hw x;have:=vO hw l;simp only[cP,List.length_cons];omega
theorem A8a(i:aO)(f:UInt8)(b:List UInt8)(j:aO)(r:List UInt8)(h:eE i f b=some (j,r)):j.text.length+j.slots.length+r.length <=i.text.length+i.slots.length+b.length:=by
 unfold eE at h
 split at h
 ·obtain⟨⟨n,r1⟩,h1,h⟩:=Option.map_eq_some_iff.1 h
  cases h
  have:=eI 2 _ _ _ h1
  have hs:(nO i f n).text=i.text /\ (nO i f n).slots=i.slots:=⟨by unfold nO;(repeat' split) <;>rfl,by unfold nO;(repeat' split) <;>rfl⟩
  rw[hs.1,hs.2];simp only at this;omega
 ·split at h
  ·obtain⟨⟨n,r1⟩,h1,h⟩:=Option.map_eq_some_iff.1 h
   cases h
   have:=sK _ _ _ h1
   simp only at this ⊢;omega
  ·split at h
   ·obtain⟨⟨n,r1⟩,h1,h⟩:=Option.map_eq_some_iff.1 h
    cases h
    have:=lS (eI 2) _ _ _ h1
    have hl:=vO (w:=fun _:Nat=>2) (fun _=>by omega) n
    simp only[List.length_map]at this ⊢;omega
   ·cases h;omega
theorem tI:∀ (l:List UInt8) (i:aO) (b:List UInt8) (j:aO) (r:List UInt8),iG l i b=some (j,r) ->j.text.length+j.slots.length+r.length <=i.text.length+i.slots.length+b.length
 |[],i,b,j,r,h=>by cases h;omega
 | f::l,i,b,j,r,h=>by
  simp only[iG]at h
  obtain⟨⟨y,r1⟩,h1,h2⟩:=Option.bind_eq_some_iff.1 h
  have e1:=A8a _ _ _ _ _ h1
  have e2:=tI l _ _ _ _ h2
  simp only at*;omega
theorem B9t:xE uE aO.bulk:=fun b x r h=>by
 unfold uE at h
 obtain⟨⟨k,r1⟩,h1,h2⟩:=Option.bind_eq_some_iff.1 h
 have e1:=eI 1 _ _ _ h1
 simp only at h2 e1
 split at h2
 ·cases h2
 ·have e2:=tI _ _ _ _ _ h2
  unfold aO.bulk
  simp only[sD,List.length_nil]at e2;omega
theorem kQ:∀ l:List aF,cP aF.bulk l=dI l
 |[]=>rfl
 |x::l=>by rw[cP,dI,kQ l]
theorem zL:∀ f,xE (gD f) aF.bulk
 |0=>fun b x r h=>by cases h
 | f+1=>fun b x r h=>by
  have ih:=zL f
  simp only[gD]at h
  obtain⟨⟨k,r0⟩,h0,hx⟩:=Option.bind_eq_some_iff.1 h
  have e0:=eI 1 _ _ _ h0
  clear h h0
  have h:jA (gD f) k r0=some (x,r):=hx
  clear hx
  have hrow:∀ {b l r},fK (gD f) b=some (l,r) ->dI l+2+r.length <=b.length:=fun h=>by rw[<- kQ];exact lS ih _ _ _ h
  unfold jA at h
  rw[aF.bulk_eq]
  simp only at e0
  split at h
  ·obtain⟨⟨g,r1⟩,h1,h⟩:=Option.bind_eq_some_iff.1 h
   obtain⟨⟨n,r2⟩,h2,h⟩:=Option.bind_eq_some_iff.1 h
   obtain⟨⟨l,r3⟩,h3,h⟩:=Option.map_eq_some_iff.1 h
   cases h
   have e1:=xA _ _ _ h1
   have e2:=eI 1 _ _ _ h2
   have e3:=rE (eI 4) _ _ _ _ h3
   have hl:=vO (w:=fun _:Nat=>4) (fun _=>by omega) l
   simp only[aF.limbs,aF.text,aF.items,aF.tail,List.length_map,dI,List.length_nil]at*;omega
  split at h
  ·obtain⟨⟨s,r1⟩,h1,h⟩:=Option.map_eq_some_iff.1 h
   cases h
   have e1:=sK _ _ _ h1
   simp only[aF.limbs,aF.text,aF.items,aF.tail,dI,List.length_nil]at*;omega
  split at h
  ·obtain⟨⟨s,r1⟩,h1,h⟩:=Option.map_eq_some_iff.1 h
   cases h
   have e1:=eI 6 _ _ _ h1
   simp only[aF.limbs,aF.text,aF.items,aF.tail,dI,List.length_nil]at*;omega
  split at h
  ·obtain⟨⟨n,r1⟩,h1,h⟩:=Option.bind_eq_some_iff.1 h
   obtain⟨⟨l,r2⟩,h2,h⟩:=Option.map_eq_some_iff.1 h
   cases h
   have e1:=eI 2 _ _ _ h1
   have e2:=hrow h2
   simp only[aF.limbs,aF.text,aF.items,aF.tail,dI,List.length_nil]at*;omega
  split at h
  ·obtain⟨⟨l,r2⟩,h2,h⟩:=Option.map_eq_some_iff.1 h
   cases h
   have e2:=hrow h2
   simp only[aF.limbs,aF.text,aF.items,aF.tail,dI,List.length_nil]at*;omega
  split at h
  ·obtain⟨⟨l,r1⟩,h1,h⟩:=Option.bind_eq_some_iff.1 h
   obtain⟨⟨g,r2⟩,h2,h⟩:=Option.bind_eq_some_iff.1 h
   obtain⟨⟨ts,r3⟩,h3,h⟩:=Option.map_eq_some_iff.1 h
   cases h
   have e1:=hrow h1
   have e2:=xA _ _ _ h2
   have e3:=rE ih _ _ _ _ h3
   rw[kQ]at e3
   simp only[aF.limbs,aF.text,aF.items,aF.tail,dI,List.length_nil]at*;omega
  ·cases h
theorem A3u{f:Nat}{b r:List UInt8}{c:cU}(h:A0v f b=some (c,r)):c.bulk <=b.length+1:=by
 unfold A0v at h
 obtain⟨⟨m,r0⟩,h0,hx⟩:=Option.bind_eq_some_iff.1 h
 clear h
 have hl:m.length+r0.length=b.length:=by rw[(pG h0).1,List.length_append]
 clear h0
 have h:=hx
 clear hx
 simp only at h
 split at h
 ·obtain⟨⟨es,r1⟩,h1,h⟩:=Option.bind_eq_some_iff.1 h
  obtain⟨⟨is,r2⟩,h2,h⟩:=Option.bind_eq_some_iff.1 h
  obtain⟨⟨cs,r3⟩,h3,h⟩:=Option.map_eq_some_iff.1 h
  cases h
  have e1:=lS B7m _ _ _ h1
  have e2:=lS B9t _ _ _ h2
  have e3:=lS (zL f) _ _ _ h3
  simp only[kQ]at e3
  unfold cU.bulk
  simp only[List.length_append]at*;omega
 ·cases h
end
end Go.Proofs.YthoenjlenkpnnaaDoor
