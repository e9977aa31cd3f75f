/- Right terms, and their size: the function at some kinds. -/
import Derived.Test.YthoenjlenkpnnaaDoorY08
import Derived.Test.YthoenjlenkpnnaaDoorY12
import Derived.Test.YthoenjlenkpnnaaDoorY09
import Derived.Test.YthoenjlenkpnnaaDoorY07
import Derived.Test.YthoenjlenkpnnaaDoorY10
import Derived.Test.YthoenjlenkpnnaaDoorY11
set_option linter.unusedVariables false
set_option linter.unusedSimpArgs false
set_option maxRecDepth 20000
set_option linter.defProp false
namespace Go.Proofs.YthoenjlenkpnnaaDoor
open Go Go.Av
section
def bN:=And.intro (And.intro (And.intro (And.intro @nK @nL) (And.intro @lY (And.intro @nA @kW))) (And.intro (And.intro @lC (And.intro @oU @iF)) (And.intro @jD (And.intro @aF.flat_enc @aF.isv_enc)))) (And.intro (And.intro (And.intro @aF.fold_enc (And.intro @cA @bL)) (And.intro @dE (And.intro @fR @gJ))) (And.intro (And.intro @dL (And.intro @cN @fA)) (And.intro @gN (And.intro @fZ @eO))))
variable (G:Nat ->AV)
set_option maxHeartbeats 4000000 in
theorem C8i(t:aF)(hb:t.bulk <=1000000000)(hk:t.knd=6)(hit:∀ x,x ∈ t.items ->aN Tryd.prog G 46 [x.enc] (.int .i64 (size x)))(htt:∀ x,x ∈ t.tail ->aN Tryd.prog G 46 [x.enc] (.int .i64 (size x))):
  aN Tryd.prog G 46 [t.enc] (.int .i64 (size t)):=by
 have hli:=eY t
 have hlt:=gA t
 have hll:=eZ t
 have hwr:=nE G t hb
 have hp0:=gR G t
 have hp1:=gS G t
 have hp2:=gT G t
 have hp3:=gU G t
 have hp4:=fX G t
 have hse:=gO t
 have hle:=fun x (_:x ∈ t.items)=>jP x
 have hw1:IntKind.i64.wrap (1+(t.limbs.length:Int))=1+t.limbs.length:=aH (by omega) (by omega)
 have hkn:=t.knd_nn
 intro σ
 refine aJ.of_awp mixed Tryd.func46 rfl (by kernel_rfl) (by kernel_rfl) (by simp[Tryd.ntmps46]) Tryd.results46 ?_
 simp -dsimp only[↓bp,bq,br,seval,bN]
 refine eT fun b1 h1=> ?_
 simp -dsimp only[↓bp,bq,br,seval,bN]
 refine bO fun b3 h3=> ?_
 simp only[cY]at h3
 obtain⟨h3,h31,h13⟩:=h3
 simp -dsimp only[↓bp,bq,br,seval,bN]
 refine bO fun b5 h5=> ?_
 simp only[cY]at h5
 obtain⟨⟨h5,h51,h15⟩,h53,h35⟩:=h5
 have e1: ¬ t.knd=1:=by omega
 have e2: ¬ t.knd=2:=by omega
 have e3: ¬ t.knd=3:=by omega
 have e4: ¬ t.knd=4:=by omega
 have e5: ¬ t.knd=5:=by omega
 have e6:t.knd=6:=hk
 have e7: ¬ t.knd=7:=by omega
 have k1:=eq_false e1
 have k2:=eq_false e2
 have k3:=eq_false e3
 have k5:=eq_false e5
 have k4:=eq_false e4
 have k6:=eq_true e6
 have hhd:head t=(1,0,bare t false false true false):=by unfold head;rw[if_neg e2,if_neg (by simp[e3,e5]),if_neg e4,if_pos e6]
 clear hk e1 e2 e3 e5 e4 e6
 cases hbr:bare t false false true false
 ·rw[hbr]at hhd hp3
  repeat'(first|refine xs ?_ ?_ <;>intros|(refine wn ?_;intro bx hbx;try simp only[fb]at hbx)|refine wp hp3 ?_|refine aQ ?_|(refine aB ?_;intro bx hbx;(try simp only[fb]at hbx))|refine aD ?_|((with_reducible refine And.intro ?_ ?_);omega)|refine aA (d':=⟨⟩) ?_|refine aR (by kernel_rfl) ?_|refine aP ?_ (by repeat' first|exact lr _|assumption|refine ls ?_ ?_|refine lt ?_ ?_|simp only[*];done|simp only[fb, *,not_false_eq_true,and_self];done|exact lf ‹_› (by simp only[*]))|refine aC ?_ (by repeat' first|exact lr _|assumption|refine ls ?_ ?_|refine lt ?_ ?_|simp only[*];done|simp only[fb, *,not_false_eq_true,and_self];done|exact lf ‹_› (by simp only[*]))|simp -dsimp only[↓bp,bq,br,seval,bN,h53,h35,h51,h15,h31,h13, *]|refine wz ?_|fail)
  refine aJ.mono (bI G t.items 0 (by omega) (by omega) (by omega) hit _ b5 b3 h53 1 false (by simp -dsimp only[↓bp,bq,br,seval,bN,h53,h35,h51,h15,h31,h13]) (by simp -dsimp only[↓bp,bq,br,seval,bN,h53,h35,h51,h15,h31,h13]) (by omega) (fun _=>by omega) (by omega)) ?_
  rintro r σ' rfl
  have ha:=eJ t.items hle 0 (by omega) (by omega) (1,false) (by simp only;omega) (fun _=>by simp only;omega) (by simp only;omega)
  simp -dsimp only[↓bp,bq,br,seval,bN,h53,h35,h51,h15,h31,h13]
  refine aJ.mono (bI G t.tail 0 (by omega) (by omega) (by omega) htt _ b5 b3 h53 (aU t.items 0 (1,false)).1 (aU t.items 0 (1,false)).2 (by simp -dsimp only[↓bp,bq,br,seval,bN,h53,h35,h51,h15,h31,h13]) (by simp -dsimp only[↓bp,bq,br,seval,bN,h53,h35,h51,h15,h31,h13]) ha.1 ha.2.1 ha.2.2) ?_
  rintro r σ' rfl
  simp -dsimp only[↓bp,bq,br,seval,bN,h53,h35,h51,h15,h31,h13]
  cases hfin:(aU t.tail 0 ((aU t.items 0 (1,false)).1,(aU t.items 0 (1,false)).2)).2
  ·simp -dsimp only[↓bp,bq,br,seval,bN,h53,h35,h51,h15,h31,h13]
   refine aL ?_ (by repeat'(first|exact AS.le.refl _|assumption|(refine bQ (by assumption) ?_)))
   rw[hse,hhd]
   simp only[k1,hfin,if_false,Bool.true_and,Bool.false_and,Bool.false_eq_true,if_true]
  ·simp -dsimp only[↓bp,bq,br,seval,bN,h53,h35,h51,h15,h31,h13]
   refine aL ?_ (by repeat'(first|exact AS.le.refl _|assumption|(refine bQ (by assumption) ?_)))
   rw[hse,hhd]
   simp only[k1,hfin,if_false,Bool.true_and,Bool.false_and,Bool.false_eq_true,if_true]
 ·rw[hbr]at hhd hp3
  repeat'(first|refine xs ?_ ?_ <;>intros|(refine wn ?_;intro bx hbx;try simp only[fb]at hbx)|refine wp hp3 ?_|refine aQ ?_|(refine aB ?_;intro bx hbx;(try simp only[fb]at hbx))|refine aD ?_|((with_reducible refine And.intro ?_ ?_);omega)|refine aA (d':=⟨⟩) ?_|refine aR (by kernel_rfl) ?_|refine aP ?_ (by repeat' first|exact lr _|assumption|refine ls ?_ ?_|refine lt ?_ ?_|simp only[*];done|simp only[fb, *,not_false_eq_true,and_self];done|exact lf ‹_› (by simp only[*]))|refine aC ?_ (by repeat' first|exact lr _|assumption|refine ls ?_ ?_|refine lt ?_ ?_|simp only[*];done|simp only[fb, *,not_false_eq_true,and_self];done|exact lf ‹_› (by simp only[*]))|simp -dsimp only[↓bp,bq,br,seval,bN,h53,h35,h51,h15,h31,h13, *]|refine wz ?_|fail)
  refine aJ.mono (bI G t.items 0 (by omega) (by omega) (by omega) hit _ b5 b3 h53 1 true (by simp -dsimp only[↓bp,bq,br,seval,bN,h53,h35,h51,h15,h31,h13]) (by simp -dsimp only[↓bp,bq,br,seval,bN,h53,h35,h51,h15,h31,h13]) (by omega) (fun _=>by omega) (by omega)) ?_
  rintro r σ' rfl
  have ha:=eJ t.items hle 0 (by omega) (by omega) (1,true) (by simp only;omega) (fun _=>by simp only;omega) (by simp only;omega)
  simp -dsimp only[↓bp,bq,br,seval,bN,h53,h35,h51,h15,h31,h13]
  refine aJ.mono (bI G t.tail 0 (by omega) (by omega) (by omega) htt _ b5 b3 h53 (aU t.items 0 (1,true)).1 (aU t.items 0 (1,true)).2 (by simp -dsimp only[↓bp,bq,br,seval,bN,h53,h35,h51,h15,h31,h13]) (by simp -dsimp only[↓bp,bq,br,seval,bN,h53,h35,h51,h15,h31,h13]) ha.1 ha.2.1 ha.2.2) ?_
  rintro r σ' rfl
  simp -dsimp only[↓bp,bq,br,seval,bN,h53,h35,h51,h15,h31,h13]
  cases hfin:(aU t.tail 0 ((aU t.items 0 (1,true)).1,(aU t.items 0 (1,true)).2)).2
  ·simp -dsimp only[↓bp,bq,br,seval,bN,h53,h35,h51,h15,h31,h13]
   refine aL ?_ (by repeat'(first|exact AS.le.refl _|assumption|(refine bQ (by assumption) ?_)))
   rw[hse,hhd]
   simp only[k1,hfin,if_false,Bool.true_and,Bool.false_and,Bool.false_eq_true,if_true]
  ·simp -dsimp only[↓bp,bq,br,seval,bN,h53,h35,h51,h15,h31,h13]
   refine aL ?_ (by repeat'(first|exact AS.le.refl _|assumption|(refine bQ (by assumption) ?_)))
   rw[hse,hhd]
   simp only[k1,hfin,if_false,Bool.true_and,Bool.false_and,Bool.false_eq_true,if_true]
set_option maxHeartbeats 4000000 in
theorem C8c(t:aF)(hb:t.bulk <=1000000000)(hk: ¬ (1 <=t.knd /\ t.knd <=7))(hit:∀ x,x ∈ t.items ->aN Tryd.prog G 46 [x.enc] (.int .i64 (size x)))(htt:∀ x,x ∈ t.tail ->aN Tryd.prog G 46 [x.enc] (.int .i64 (size x))):
  aN Tryd.prog G 46 [t.enc] (.int .i64 (size t)):=by
 have hli:=eY t
 have hlt:=gA t
 have hll:=eZ t
 have hwr:=nE G t hb
 have hp0:=gR G t
 have hp1:=gS G t
 have hp2:=gT G t
 have hp3:=gU G t
 have hp4:=fX G t
 have hse:=gO t
 have hle:=fun x (_:x ∈ t.items)=>jP x
 have hw1:IntKind.i64.wrap (1+(t.limbs.length:Int))=1+t.limbs.length:=aH (by omega) (by omega)
 have hkn:=t.knd_nn
 intro σ
 refine aJ.of_awp mixed Tryd.func46 rfl (by kernel_rfl) (by kernel_rfl) (by simp[Tryd.ntmps46]) Tryd.results46 ?_
 simp -dsimp only[↓bp,bq,br,seval,bN]
 refine eT fun b1 h1=> ?_
 simp -dsimp only[↓bp,bq,br,seval,bN]
 refine bO fun b3 h3=> ?_
 simp only[cY]at h3
 obtain⟨h3,h31,h13⟩:=h3
 simp -dsimp only[↓bp,bq,br,seval,bN]
 refine bO fun b5 h5=> ?_
 simp only[cY]at h5
 obtain⟨⟨h5,h51,h15⟩,h53,h35⟩:=h5
 have e1: ¬ t.knd=1:=by omega
 have e2: ¬ t.knd=2:=by omega
 have e3: ¬ t.knd=3:=by omega
 have e4: ¬ t.knd=4:=by omega
 have e5: ¬ t.knd=5:=by omega
 have e6: ¬ t.knd=6:=by omega
 have e7: ¬ t.knd=7:=by omega
 have k1:=eq_false e1
 have k2:=eq_false e2
 have k3:=eq_false e3
 have k5:=eq_false e5
 have k4:=eq_false e4
 have k6:=eq_false e6
 have k7:=eq_false e7
 have k7:=eq_false e7
 have hhd:head t=(1,0,false):=by unfold head;rw[if_neg e2,if_neg (by simp[e3,e5]),if_neg e4,if_neg e6,if_neg e7]
 clear hk e1 e2 e3 e5 e4 e6 e7
 repeat'(first|refine xs ?_ ?_ <;>intros|(refine wn ?_;intro bx hbx;try simp only[fb]at hbx)|refine aQ ?_|(refine aB ?_;intro bx hbx;(try simp only[fb]at hbx))|refine aD ?_|((with_reducible refine And.intro ?_ ?_);omega)|refine aA (d':=⟨⟩) ?_|refine aR (by kernel_rfl) ?_|refine aP ?_ (by repeat' first|exact lr _|assumption|refine ls ?_ ?_|refine lt ?_ ?_|simp only[*];done|simp only[fb, *,not_false_eq_true,and_self];done|exact lf ‹_› (by simp only[*]))|refine aC ?_ (by repeat' first|exact lr _|assumption|refine ls ?_ ?_|refine lt ?_ ?_|simp only[*];done|simp only[fb, *,not_false_eq_true,and_self];done|exact lf ‹_› (by simp only[*]))|simp -dsimp only[↓bp,bq,br,seval,bN,h53,h35,h51,h15,h31,h13, *]|refine wz ?_|fail)
 refine aJ.mono (bI G t.items 0 (by omega) (by omega) (by omega) hit _ b5 b3 h53 1 false (by simp -dsimp only[↓bp,bq,br,seval,bN,h53,h35,h51,h15,h31,h13]) (by simp -dsimp only[↓bp,bq,br,seval,bN,h53,h35,h51,h15,h31,h13]) (by omega) (fun _=>by omega) (by omega)) ?_
 rintro r σ' rfl
 have ha:=eJ t.items hle 0 (by omega) (by omega) (1,false) (by simp only;omega) (fun _=>by simp only;omega) (by simp only;omega)
 simp -dsimp only[↓bp,bq,br,seval,bN,h53,h35,h51,h15,h31,h13]
 refine aJ.mono (bI G t.tail 0 (by omega) (by omega) (by omega) htt _ b5 b3 h53 (aU t.items 0 (1,false)).1 (aU t.items 0 (1,false)).2 (by simp -dsimp only[↓bp,bq,br,seval,bN,h53,h35,h51,h15,h31,h13]) (by simp -dsimp only[↓bp,bq,br,seval,bN,h53,h35,h51,h15,h31,h13]) ha.1 ha.2.1 ha.2.2) ?_
 rintro r σ' rfl
 simp -dsimp only[↓bp,bq,br,seval,bN,h53,h35,h51,h15,h31,h13]
 cases hfin:(aU t.tail 0 ((aU t.items 0 (1,false)).1,(aU t.items 0 (1,false)).2)).2
 ·simp -dsimp only[↓bp,bq,br,seval,bN,h53,h35,h51,h15,h31,h13]
  refine aL ?_ (by repeat'(first|exact AS.le.refl _|assumption|(refine bQ (by assumption) ?_)))
  rw[hse,hhd]
  simp only[k1,hfin,if_false,Bool.true_and,Bool.false_and,Bool.false_eq_true,if_true]
 ·simp -dsimp only[↓bp,bq,br,seval,bN,h53,h35,h51,h15,h31,h13]
  refine aL ?_ (by repeat'(first|exact AS.le.refl _|assumption|(refine bQ (by assumption) ?_)))
  rw[hse,hhd]
  simp only[k1,hfin,if_false,Bool.true_and,Bool.false_and,Bool.false_eq_true,if_true]
end
section
variable (G:Nat ->AV)
theorem B4d(t:aF):t.bulk <=1000000000 ->aN Tryd.prog G 46 [t.enc] (.int .i64 (size t)):=by
 refine aF.ind (P:=fun t=>t.bulk <=1000000000 ->aN Tryd.prog G 46 [t.enc] (.int .i64 (size t))) (fun t ih1 ih2 hb=> ?_) t
 have hit:∀ x,x ∈ t.items ->aN Tryd.prog G 46 [x.enc] (.int .i64 (size x)):=fun x hx=>ih1 x hx (by have:=rV hx;omega)
 have htt:∀ x,x ∈ t.tail ->aN Tryd.prog G 46 [x.enc] (.int .i64 (size x)):=fun x hx=>ih2 x hx (by have:=rX hx;omega)
 by_cases h7:t.knd=7
 ·exact B4c G t hb h7 hit htt
 by_cases h1:t.knd=1
 ·exact C8d G t hb h1 hit htt
 by_cases h2:t.knd=2
 ·exact C8e G t hb h2 hit htt
 by_cases h3:t.knd=3
 ·exact C8f G t hb h3 hit htt
 by_cases h4:t.knd=4
 ·exact C8g G t hb h4 hit htt
 by_cases h5:t.knd=5
 ·exact C8h G t hb h5 hit htt
 by_cases h6:t.knd=6
 ·exact C8i G t hb h6 hit htt
 ·exact C8c G t hb (by omega) hit htt
end
set_option maxRecDepth 20000
section
variable (G:Nat ->AV)
end
set_option maxRecDepth 20000
section
variable (G:Nat ->AV)
end
set_option maxRecDepth 20000
section
def B4j:=And.intro (And.intro (And.intro (And.intro @nK @nL) (And.intro @lY (And.intro @nA @kW))) (And.intro (And.intro @lC (And.intro @oU @iF)) (And.intro @jD (And.intro @aF.flat_enc @aF.isv_enc)))) (And.intro (And.intro (And.intro @aF.fold_enc (And.intro @cA @bL)) (And.intro @dE (And.intro @fR @gJ))) (And.intro (And.intro @dL (And.intro @cN @fA)) (And.intro @gN (And.intro @fZ @eO))))
variable (G:Nat ->AV)
theorem A9f(t:aF)(hb:t.bulk <=1000000000):aN Tryd.prog G 26 [t.enc] (.bool (right t)):=by
 have h:=B4d G t hb
 unfold right
 intro σ
 refine aJ.of_awp mixed Tryd.func26 rfl (by kernel_rfl) (by kernel_rfl) (by simp[Tryd.ntmps26]) Tryd.results26 ?_
 repeat'(first|refine xs ?_ ?_ <;>intros|(refine wn ?_;intro bx hbx;try simp only[fb]at hbx)|refine wp h ?_|refine aQ ?_|(refine aB ?_;intro bx hbx;(try simp only[fb]at hbx))|refine aD ?_|((with_reducible refine And.intro ?_ ?_);omega)|refine aA (d':=⟨⟩) ?_|refine aR (by kernel_rfl) ?_|refine aP ?_ (by repeat' first|exact lr _|assumption|refine ls ?_ ?_|refine lt ?_ ?_|simp only[*];done|simp only[fb, *,not_false_eq_true,and_self];done|exact lf ‹_› (by simp only[*]))|refine aC ?_ (by repeat' first|exact lr _|assumption|refine ls ?_ ?_|refine lt ?_ ?_|simp only[*];done|simp only[fb, *,not_false_eq_true,and_self];done|exact lf ‹_› (by simp only[*]))|simp -dsimp only[↓bp,bq,br,seval,B4j, *]|refine wz ?_|fail)
 all_goals rfl
end
set_option maxRecDepth 20000
section
variable {G:Nat ->AV}
end
set_option maxRecDepth 20000
section
variable {G:Nat ->AV}
end
set_option maxRecDepth 20000
section
variable {G:Nat ->AV}
end
set_option maxRecDepth 20000
section
open Go Go.Av Go.RowKit
variable {G:Nat ->AV}
theorem C3e{K:aT}{s t:List UInt8}{l:List Value}(h:lE K [.str s, .str t] l):l=[.string ⟨⟨s⟩⟩, .string ⟨⟨t⟩⟩]:=by
 match l,h with
 |[a,b],⟨h1,h2,_⟩=>rw[VR.str_iff]at h1 h2;rw[h1,h2]
theorem oF(hm:∃ m,G 4= .rp [.int .i64 m])(s t:List UInt8)(hs:s.length < 4294967281):aN Tryd.prog G 74 [.str s, .str t] (.bool (Lib.contains s t)):=by
 obtain⟨m,hm⟩:=hm
 refine aN.of_calls (vals:=[.string ⟨⟨s⟩⟩, .string ⟨⟨t⟩⟩]) (u:= .bool (Lib.contains s t)) (by kernel_rfl) (fun K l h=>C3e h) (fun K=> .bool _) (fun K σ w hr=> ?_)
 have hg:=hr.glob 4
 rw[hm]at hg
 have hc:w.cell? ⟨4,0,none⟩=some (.int .i64 m):=by
  cases hg with
  | rp _ b off f h1 himm hv=>
   have h2:=hr.imm _ _ _ (himm 0 (by simp))
   have h3:=hv 0 (by simp)
   simp only[List.getElem_cons_zero,VR.int_iff]at h3
   rw[h3]at h2
   exact h2
 exact(Tryd.strings_Contains ⟨⟨s⟩⟩ ⟨⟨t⟩⟩ m w (by show s.length < _;exact hs) hc).mono fun e w' ⟨he,hw⟩=> ⟨he,by subst hw;exact Below.refl _ _⟩
variable (G)
end
set_option maxRecDepth 20000
section
def gY:=And.intro (And.intro (And.intro (And.intro @nK @nL) (And.intro @lY (And.intro @kW @uH))) (And.intro (And.intro @oT @kE) (And.intro @C2p (And.intro @D6z @D7a)))) (And.intro (And.intro (And.intro @D7b @dH) (And.intro @cK (And.intro @dR @eF))) (And.intro (And.intro @aO.flat_enc @aO.isv_enc) (And.intro @aO.fold_enc (And.intro @hU @fW))))
def Shp.cells(s:Shp):List AV:=[.str s.word, .str s.fields, .bool s.next]
def jC:List AV:=D6r.flatMap Shp.cells
def dT:List AV:=cO.flatMap fun r=>r.map AV.str
structure kJ(G:Nat ->AV):Prop where
 shapes:G 2= .rp jC
 builtin:G 3= .rp dT
 most:∃ m,G 4= .rp [.int .i64 m]
variable {G:Nat ->AV}
def D2y(s:Shp):AV:= .agg [.str s.word, .str s.fields, .bool s.next]
theorem C2b:∀ k:Fin 30,(jC.drop (k.1*3)).take 3=(cV (UInt8.ofNat k)).cells:=by
 intro k
 match k with
 |⟨0,_⟩|⟨1,_⟩|⟨2,_⟩|⟨3,_⟩|⟨4,_⟩|⟨5,_⟩|⟨6,_⟩|⟨7,_⟩|⟨8,_⟩|⟨9,_⟩|⟨10,_⟩|⟨11,_⟩|⟨12,_⟩|⟨13,_⟩|⟨14,_⟩|⟨15,_⟩|⟨16,_⟩|⟨17,_⟩|⟨18,_⟩|⟨19,_⟩|⟨20,_⟩|⟨21,_⟩|⟨22,_⟩|⟨23,_⟩|⟨24,_⟩|⟨25,_⟩|⟨26,_⟩|⟨27,_⟩|⟨28,_⟩|⟨29,_⟩=>rfl
 |⟨n+30,h⟩=>omega
theorem C8b{op:UInt8}(h:op.toNat < 30):(jC.drop (op.toNat*3)).take 3=[.str (cV op).word, .str (cV op).fields, .bool (cV op).next]:=by
 have:=C2b ⟨op.toNat,h⟩
 simp only[UInt8.ofNat_toNat]at this
 exact this
theorem C7j(hg:kJ G)(op:UInt8):aN Tryd.prog G 48 [.int .u8 op.toNat] (D2y (cV op)):=by
 have hlt:=op.toNat_lt
 have hw:IntKind.i64.wrap (op.toNat:Int)=op.toNat:=aH (by omega) (by omega)
 have hgs:=hg.shapes
 unfold D2y
 clear hg
 intro σ
 by_cases h:30 <=op.toNat
 ·have h1:((30:Int) <=(op.toNat:Int))=True:=eq_true (by omega)
  have hs:cV op=⟨[],[],false⟩:=by
   unfold cV
   rw[List.getElem?_eq_none (by show 30 <=_;exact h)];rfl
  rw[hs]
  clear hs h hlt
  refine aJ.of_awp mixed Tryd.func48 rfl (by kernel_rfl) (by kernel_rfl) (by simp[Tryd.ntmps48]) Tryd.results48 ?_
  repeat'(first|refine xs ?_ ?_ <;>intros|(refine wn ?_;intro bx hbx;try simp only[fb]at hbx)|refine aQ ?_|(refine aB ?_;intro bx hbx;(try simp only[fb]at hbx))|refine aD ?_|((with_reducible refine And.intro ?_ ?_);omega)|refine aA (d':=⟨⟩) ?_|refine aR (by kernel_rfl) ?_|refine aP ?_ (by repeat' first|exact lr _|assumption|refine ls ?_ ?_|refine lt ?_ ?_|simp only[*];done|simp only[fb, *,not_false_eq_true,and_self];done|exact lf ‹_› (by simp only[*]))|refine aC ?_ (by repeat' first|exact lr _|assumption|refine ls ?_ ?_|refine lt ?_ ?_|simp only[*];done|simp only[fb, *,not_false_eq_true,and_self];done|exact lf ‹_› (by simp only[*]))|simp -dsimp only[↓bp,bq,br,seval,gY, *]|refine wz ?_|fail)
  all_goals rfl
 ·have h1:((30:Int) <=(op.toNat:Int))=False:=eq_false (by omega)
  have hsr:=C8b (Nat.lt_of_not_le h)
  have nQ:3 <=(jC.drop (op.toNat*3)).length:=by rw[List.length_drop,show jC.length=90 from rfl];omega
  have hl2:((op.toNat:Int) < 30)=True:=eq_true (by omega)
  have h0:((0:Int) <=op.toNat)=True:=eq_true (by omega)
  generalize cV op=s at*
  clear h hlt
  refine aJ.of_awp mixed Tryd.func48 rfl (by kernel_rfl) (by kernel_rfl) (by simp[Tryd.ntmps48]) Tryd.results48 ?_
  repeat'(first|refine xs ?_ ?_ <;>intros|(refine wn ?_;intro bx hbx;try simp only[fb]at hbx)|refine aQ ?_|(refine aB ?_;intro bx hbx;(try simp only[fb]at hbx))|refine aD ?_|((with_reducible refine And.intro ?_ ?_);omega)|refine aA (d':=⟨⟩) ?_|refine aR (by kernel_rfl) ?_|refine aP ?_ (by repeat' first|exact lr _|assumption|refine ls ?_ ?_|refine lt ?_ ?_|simp only[*];done|simp only[fb, *,not_false_eq_true,and_self];done|exact lf ‹_› (by simp only[*]))|refine aC ?_ (by repeat' first|exact lr _|assumption|refine ls ?_ ?_|refine lt ?_ ?_|simp only[*];done|simp only[fb, *,not_false_eq_true,and_self];done|exact lf ‹_› (by simp only[*]))|simp -dsimp only[↓bp,bq,br,seval,gY, *]|refine wz ?_|fail)
  all_goals rfl
theorem A0s:∀ (k a:Fin 4),((dT.drop (k.1*4)).drop (a.1*1)).take 1=[.str ((cO.getD k.1 []).getD a.1 [])]:=by
 intro k a
 match k,a with
 |⟨0,_⟩,⟨0,_⟩|⟨0,_⟩,⟨1,_⟩|⟨0,_⟩,⟨2,_⟩|⟨0,_⟩,⟨3,_⟩|⟨1,_⟩,⟨0,_⟩|⟨1,_⟩,⟨1,_⟩|⟨1,_⟩,⟨2,_⟩|⟨1,_⟩,⟨3,_⟩|⟨2,_⟩,⟨0,_⟩|⟨2,_⟩,⟨1,_⟩|⟨2,_⟩,⟨2,_⟩|⟨2,_⟩,⟨3,_⟩|⟨3,_⟩,⟨0,_⟩|⟨3,_⟩,⟨1,_⟩|⟨3,_⟩,⟨2,_⟩|⟨3,_⟩,⟨3,_⟩=>rfl
 |⟨n+4,h⟩,_=>omega
 |_,⟨n+4,h⟩=>omega
theorem A0r:∀ (k a:Fin 4),((cO.getD k.1 []).getD a.1 []).length <=1000:=by decide+kernel
theorem A4s(name:List UInt8)(a:Nat)(k:Nat)(h:k < 4):mL name a k (cO.drop k)=if qU ((cO.getD k []).getD a []) name=true then k else mL name a (k+1) (cO.drop (k+1)):=by
 have hk:cO[k]? =some (cO.getD k []):=by
  rw[List.getD_eq_getElem?_getD,List.getElem?_eq_getElem (by show k < 4;exact h)];rfl
 rw[qQ _ _ _ hk];rfl
set_option maxHeartbeats 2000000 in
theorem B3k(hg:kJ G)(name:List UInt8)(hn:name.length <=1000000000)(a:Nat)(ha:a <=1000000000):aN Tryd.prog G 69 [.str name, .int .i64 a] (.int .i64 (eG name a:Nat)):=by
 have hc32:=oF hg.most name [32] (by omega)
 have hcw:=fun l hl=>oF hg.most ([32]++l++[32]) ([32]++name++[32]) hl
 have hgb:=hg.builtin
 have ha0:((a:Int) < 0)=False:=eq_false (by omega)
 clear hg
 intro σ
 by_cases h1:name=[]
 ·have h1':(name=[])=True:=eq_true h1
  have hl:eG name a=0:=if_pos (.inl h1)
  rw[hl]
  clear h1 hl
  refine aJ.of_awp mixed Tryd.func69 rfl (by kernel_rfl) (by kernel_rfl) (by simp[Tryd.ntmps69]) Tryd.results69 ?_
  repeat'(first|refine xs ?_ ?_ <;>intros|(refine wn ?_;intro bx hbx;try simp only[fb]at hbx)|refine wp hc32 ?_|refine aQ ?_|(refine aB ?_;intro bx hbx;(try simp only[fb]at hbx))|refine aD ?_|((with_reducible refine And.intro ?_ ?_);omega)|refine aA (d':=⟨⟩) ?_|refine aR (by kernel_rfl) ?_|refine aP ?_ (by repeat' first|exact lr _|assumption|refine ls ?_ ?_|refine lt ?_ ?_|simp only[*];done|simp only[fb, *,not_false_eq_true,and_self];done|exact lf ‹_› (by simp only[*]))|refine aC ?_ (by repeat' first|exact lr _|assumption|refine ls ?_ ?_|refine lt ?_ ?_|simp only[*];done|simp only[fb, *,not_false_eq_true,and_self];done|exact lf ‹_› (by simp only[*]))|simp -dsimp only[↓bp,bq,br,seval,gY, *]|refine wz ?_|fail)
  all_goals rfl
 have h1':(name=[])=False:=eq_false h1
 by_cases h3:3 < a
 ·have h3':((3:Int) < (a:Int))=True:=eq_true (by omega)
  have hl:eG name a=0:=if_pos (.inr (.inl h3))
  rw[hl]
  clear h1 h3 hl
  refine aJ.of_awp mixed Tryd.func69 rfl (by kernel_rfl) (by kernel_rfl) (by simp[Tryd.ntmps69]) Tryd.results69 ?_
  repeat'(first|refine xs ?_ ?_ <;>intros|(refine wn ?_;intro bx hbx;try simp only[fb]at hbx)|refine wp hc32 ?_|refine aQ ?_|(refine aB ?_;intro bx hbx;(try simp only[fb]at hbx))|refine aD ?_|((with_reducible refine And.intro ?_ ?_);omega)|refine aA (d':=⟨⟩) ?_|refine aR (by kernel_rfl) ?_|refine aP ?_ (by repeat' first|exact lr _|assumption|refine ls ?_ ?_|refine lt ?_ ?_|simp only[*];done|simp only[fb, *,not_false_eq_true,and_self];done|exact lf ‹_› (by simp only[*]))|refine aC ?_ (by repeat' first|exact lr _|assumption|refine ls ?_ ?_|refine lt ?_ ?_|simp only[*];done|simp only[fb, *,not_false_eq_true,and_self];done|exact lf ‹_› (by simp only[*]))|simp -dsimp only[↓bp,bq,br,seval,gY, *]|refine wz ?_|fail)
  all_goals rfl
 have h3':((3:Int) < (a:Int))=False:=eq_false (by omega)
 cases hcn:Lib.contains name [32]with
 | true=>
  have hl:eG name a=0:=if_pos (.inr (.inr hcn))
  rw[hl]
  rw[hcn]at hc32
  clear h1 h3 hl hcn
  refine aJ.of_awp mixed Tryd.func69 rfl (by kernel_rfl) (by kernel_rfl) (by simp[Tryd.ntmps69]) Tryd.results69 ?_
  repeat'(first|refine xs ?_ ?_ <;>intros|(refine wn ?_;intro bx hbx;try simp only[fb]at hbx)|refine wp hc32 ?_|refine aQ ?_|(refine aB ?_;intro bx hbx;(try simp only[fb]at hbx))|refine aD ?_|((with_reducible refine And.intro ?_ ?_);omega)|refine aA (d':=⟨⟩) ?_|refine aR (by kernel_rfl) ?_|refine aP ?_ (by repeat' first|exact lr _|assumption|refine ls ?_ ?_|refine lt ?_ ?_|simp only[*];done|simp only[fb, *,not_false_eq_true,and_self];done|exact lf ‹_› (by simp only[*]))|refine aC ?_ (by repeat' first|exact lr _|assumption|refine ls ?_ ?_|refine lt ?_ ?_|simp only[*];done|simp only[fb, *,not_false_eq_true,and_self];done|exact lf ‹_› (by simp only[*]))|simp -dsimp only[↓bp,bq,br,seval,gY, *]|refine wz ?_|fail)
  all_goals rfl
 | false=>
  have hl:eG name a=mL name a 0 cO:=if_neg (by simp[h1,h3,hcn])
  rw[hl]
  rw[hcn]at hc32
  clear h1 hl hcn
  have ha3:a < 4:=by omega
  refine aJ.of_awp mixed Tryd.func69 rfl (by kernel_rfl) (by kernel_rfl) (by simp[Tryd.ntmps69]) Tryd.results69 ?_
  repeat'(first|refine xs ?_ ?_ <;>intros|(refine wn ?_;intro bx hbx;try simp only[fb]at hbx)|refine wp hc32 ?_|refine aQ ?_|(refine aB ?_;intro bx hbx;(try simp only[fb]at hbx))|refine aD ?_|((with_reducible refine And.intro ?_ ?_);omega)|refine aA (d':=⟨⟩) ?_|refine aR (by kernel_rfl) ?_|refine aP ?_ (by repeat' first|exact lr _|assumption|refine ls ?_ ?_|refine lt ?_ ?_|simp only[*];done|simp only[fb, *,not_false_eq_true,and_self];done|exact lf ‹_› (by simp only[*]))|refine aC ?_ (by repeat' first|exact lr _|assumption|refine ls ?_ ?_|refine lt ?_ ?_|simp only[*];done|simp only[fb, *,not_false_eq_true,and_self];done|exact lf ‹_› (by simp only[*]))|simp -dsimp only[↓bp,bq,br,seval,gY, *]|refine wz ?_|fail)
  refine iT mixed (fun n e=>∃ k:Nat,k <=4 /\ n=4 - k /\ e 20= .int .i64 k /\ mL name a k (cO.drop k)=mL name a 0 cO) 4
   ⟨0,by omega,by omega,by first|(simp -dsimp only[↓bp,bq,br,seval,gY];done)|(simp -dsimp only[↓bp,bq,br,seval,gY];try rfl),rfl⟩ ?_
  rintro n v ⟨k,hk,rfl,h20,hK⟩
  simp -dsimp only[↓bp,bq,br,seval,gY]at h20
  by_cases hlt:(k:Int) < 4
  ·have hk4:k < 4:=by omega
   have hlt':=eq_true hlt
   have h0k:((0:Int) <=(k:Int))=True:=eq_true (by omega)
   have h0a:((0:Int) <=(a:Int))=True:=eq_true (by omega)
   have h4a:((a:Int) < 4)=True:=eq_true (by omega)
   have hrow:=A0s ⟨k,hk4⟩ ⟨a,ha3⟩
   have hlen:=A0r ⟨k,hk4⟩ ⟨a,ha3⟩
   have hd1:4 <=(dT.drop (k*4)).length:=by rw[List.length_drop,show dT.length=16 from rfl];omega
   have hd2:1 <=((dT.drop (k*4)).drop (a*1)).length:=by rw[List.length_drop];omega
   simp only at hrow hlen
   have hhd:((dT.drop (k*4)).drop (a*1)).head? =some (.str ((cO.getD k []).getD a [])):=by
    cases hx:(dT.drop (k*4)).drop (a*1)with
    |nil=>rw[hx]at hrow;cases hrow
    |cons x l=>rw[hx]at hrow;simp only[List.take_succ_cons,List.take_zero,List.cons.injEq,and_true]at hrow;rw[hrow];rfl
   rw[A4s name a k hk4]at hK
   have hw:aN Tryd.prog G 74 [.str (32::((cO.getD k []).getD a []++[32])), .str (32::(name++[32]))] (.bool (Lib.contains ([32]++(cO.getD k []).getD a []++[32]) ([32]++name++[32]))):=hcw ((cO.getD k []).getD a []) (by rw[List.length_append,List.length_append];simp only[List.length_singleton];omega)
   have hwi:IntKind.i64.wrap ((k:Int)+1)=((k+1:Nat):Int):=by rw[aH (by omega) (by omega)];rfl
   have m1:(1+((cO.getD k []).getD a []).length <=maxLen)=True:=eq_true (by unfold maxLen;omega)
   have m2:(((cO.getD k []).getD a []).length+1+1 <=maxLen)=True:=eq_true (by unfold maxLen;omega)
   have m3:(1+name.length <=maxLen)=True:=eq_true (by unfold maxLen;omega)
   have m4:(name.length+1+1 <=maxLen)=True:=eq_true (by unfold maxLen;omega)
   unfold qU at hK
   generalize(cO.getD k []).getD a []=L at*
   clear hcw hlt hk hlen hn ha ha3 h3 hc32
   cases hb:Lib.contains ([32]++L++[32]) ([32]++name++[32])with
   | true=>
    rw[hb]at hw hK
    simp only[if_true]at hK
    rw[<- hK]
    clear hK hb
    repeat'(first|refine xs ?_ ?_ <;>intros|(refine wn ?_;intro bx hbx;try simp only[fb]at hbx)|refine wp hw ?_|refine aQ ?_|(refine aB ?_;intro bx hbx;(try simp only[fb]at hbx))|refine aD ?_|((with_reducible refine And.intro ?_ ?_);omega)|refine aA (d':=⟨⟩) ?_|refine aR (by kernel_rfl) ?_|refine aP ?_ (by repeat' first|exact lr _|assumption|refine ls ?_ ?_|refine lt ?_ ?_|simp only[*];done|simp only[fb, *,not_false_eq_true,and_self];done|exact lf ‹_› (by simp only[*]))|refine aC ?_ (by repeat' first|exact lr _|assumption|refine ls ?_ ?_|refine lt ?_ ?_|simp only[*];done|simp only[fb, *,not_false_eq_true,and_self];done|exact lf ‹_› (by simp only[*]))|simp -dsimp only[↓bp,bq,br,seval,gY, *]|refine wz ?_|fail)
    all_goals rfl
   | false=>
    rw[hb]at hw hK
    simp only[Bool.false_eq_true,if_false]at hK
    clear hb
    repeat'(first|refine xs ?_ ?_ <;>intros|(refine wn ?_;intro bx hbx;try simp only[fb]at hbx)|refine wp hw ?_|refine aQ ?_|(refine aB ?_;intro bx hbx;(try simp only[fb]at hbx))|refine aD ?_|((with_reducible refine And.intro ?_ ?_);omega)|refine aA (d':=⟨⟩) ?_|refine aR (by kernel_rfl) ?_|refine aP ?_ (by repeat' first|exact lr _|assumption|refine ls ?_ ?_|refine lt ?_ ?_|simp only[*];done|simp only[fb, *,not_false_eq_true,and_self];done|exact lf ‹_› (by simp only[*]))|refine aC ?_ (by repeat' first|exact lr _|assumption|refine ls ?_ ?_|refine lt ?_ ?_|simp only[*];done|simp only[fb, *,not_false_eq_true,and_self];done|exact lf ‹_› (by simp only[*]))|simp -dsimp only[↓bp,bq,br,seval,gY, *]|refine wz ?_|fail)
    all_goals exact⟨4 - (k+1),by omega,k+1,by omega,rfl,rfl,hK⟩
  ·have:k=4:=by omega
   subst this
   have hlt':=eq_false hlt
   rw[<- hK]
   clear hcw hlt hk hK hc32
   repeat'(first|refine xs ?_ ?_ <;>intros|(refine wn ?_;intro bx hbx;try simp only[fb]at hbx)|refine aQ ?_|(refine aB ?_;intro bx hbx;(try simp only[fb]at hbx))|refine aD ?_|((with_reducible refine And.intro ?_ ?_);omega)|refine aA (d':=⟨⟩) ?_|refine aR (by kernel_rfl) ?_|refine aP ?_ (by repeat' first|exact lr _|assumption|refine ls ?_ ?_|refine lt ?_ ?_|simp only[*];done|simp only[fb, *,not_false_eq_true,and_self];done|exact lf ‹_› (by simp only[*]))|refine aC ?_ (by repeat' first|exact lr _|assumption|refine ls ?_ ?_|refine lt ?_ ?_|simp only[*];done|simp only[fb, *,not_false_eq_true,and_self];done|exact lf ‹_› (by simp only[*]))|simp -dsimp only[↓bp,bq,br,seval,gY, *]|refine wz ?_|fail)
   all_goals rfl
theorem A5w(hg:kJ G)(i:aO)(hi:i.bulk <=1000000000):aN Tryd.prog G 52 [i.enc] (.bool (mZ i)):=by
 unfold aO.bulk at hi
 have hk:=B3k hg i.text (by omega) i.slots.length (by omega)
 clear hg
 have h10:(i.opI=10)=(i.op=10):=propext ⟨fun h=>UInt8.toNat_inj.1 (by have:(10:UInt8).toNat=10:=rfl;unfold aO.opI at h;omega),fun h=>by unfold aO.opI;rw[h];rfl⟩
 have hz0:((eG i.text i.slots.length:Int)=0)=(eG i.text i.slots.length=0):=propext ⟨fun h=>by omega,fun h=>by omega⟩
 have hz2:((eG i.text i.slots.length:Int)=2)=(eG i.text i.slots.length=2):=propext ⟨fun h=>by omega,fun h=>by omega⟩
 have hs2:((i.slots.length:Int)=2)=(i.slots.length=2):=propext ⟨fun h=>by omega,fun h=>by omega⟩
 unfold mZ
 clear hi
 by_cases h1:i.op=10
 ·rw[if_pos h1]
  rw[eq_true h1]at h10
  clear h1 hz2 hs2
  by_cases h2:eG i.text i.slots.length=0
  ·rw[eq_true h2]at hz0
   rw[decide_eq_false (by simp[h2])]
   clear h2
   intro σ
   refine aJ.of_awp mixed Tryd.func52 rfl (by kernel_rfl) (by kernel_rfl) (by simp[Tryd.ntmps52]) Tryd.results52 ?_
   repeat'(first|refine xs ?_ ?_ <;>intros|(refine wn ?_;intro bx hbx;try simp only[fb]at hbx)|refine wp hk ?_|refine aQ ?_|(refine aB ?_;intro bx hbx;(try simp only[fb]at hbx))|refine aD ?_|((with_reducible refine And.intro ?_ ?_);omega)|refine aA (d':=⟨⟩) ?_|refine aR (by kernel_rfl) ?_|refine aP ?_ (by repeat' first|exact lr _|assumption|refine ls ?_ ?_|refine lt ?_ ?_|simp only[*];done|simp only[fb, *,not_false_eq_true,and_self];done|exact lf ‹_› (by simp only[*]))|refine aC ?_ (by repeat' first|exact lr _|assumption|refine ls ?_ ?_|refine lt ?_ ?_|simp only[*];done|simp only[fb, *,not_false_eq_true,and_self];done|exact lf ‹_› (by simp only[*]))|simp -dsimp only[↓bp,bq,br,seval,gY, *]|refine wz ?_|fail)
   all_goals rfl
  ·rw[eq_false h2]at hz0
   rw[decide_eq_true h2]
   clear h2
   intro σ
   refine aJ.of_awp mixed Tryd.func52 rfl (by kernel_rfl) (by kernel_rfl) (by simp[Tryd.ntmps52]) Tryd.results52 ?_
   repeat'(first|refine xs ?_ ?_ <;>intros|(refine wn ?_;intro bx hbx;try simp only[fb]at hbx)|refine wp hk ?_|refine aQ ?_|(refine aB ?_;intro bx hbx;(try simp only[fb]at hbx))|refine aD ?_|((with_reducible refine And.intro ?_ ?_);omega)|refine aA (d':=⟨⟩) ?_|refine aR (by kernel_rfl) ?_|refine aP ?_ (by repeat' first|exact lr _|assumption|refine ls ?_ ?_|refine lt ?_ ?_|simp only[*];done|simp only[fb, *,not_false_eq_true,and_self];done|exact lf ‹_› (by simp only[*]))|refine aC ?_ (by repeat' first|exact lr _|assumption|refine ls ?_ ?_|refine lt ?_ ?_|simp only[*];done|simp only[fb, *,not_false_eq_true,and_self];done|exact lf ‹_› (by simp only[*]))|simp -dsimp only[↓bp,bq,br,seval,gY, *]|refine wz ?_|fail)
   all_goals rfl
 ·rw[if_neg h1]
  rw[eq_false h1]at h10
  clear h1 hz0
  intro σ
  refine aJ.of_awp mixed Tryd.func52 rfl (by kernel_rfl) (by kernel_rfl) (by simp[Tryd.ntmps52]) Tryd.results52 ?_
  repeat'(first|refine xs ?_ ?_ <;>intros|(refine wn ?_;intro bx hbx;try simp only[fb]at hbx)|refine wp hk ?_|refine aQ ?_|(refine aB ?_;intro bx hbx;(try simp only[fb]at hbx))|refine aD ?_|((with_reducible refine And.intro ?_ ?_);omega)|refine aA (d':=⟨⟩) ?_|refine aR (by kernel_rfl) ?_|refine aP ?_ (by repeat' first|exact lr _|assumption|refine ls ?_ ?_|refine lt ?_ ?_|simp only[*];done|simp only[fb, *,not_false_eq_true,and_self];done|exact lf ‹_› (by simp only[*]))|refine aC ?_ (by repeat' first|exact lr _|assumption|refine ls ?_ ?_|refine lt ?_ ?_|simp only[*];done|simp only[fb, *,not_false_eq_true,and_self];done|exact lf ‹_› (by simp only[*]))|simp -dsimp only[↓bp,bq,br,seval,gY, *]|refine wz ?_|fail)
  all_goals(first|(simp only[hz2,hs2, *,Bool.and_true,Bool.true_and,Bool.and_false,Bool.false_and,Bool.or_true,Bool.true_or,Bool.or_false,Bool.false_or,Bool.not_true,Bool.not_false,if_true,if_false,Bool.and_self,Bool.or_self];done)|(simp[hz2,hs2, *];done)|(simp_all [hz2,hs2];done))
end
set_option maxRecDepth 20000
section
def pO:=And.intro (And.intro (And.intro (And.intro @nK (And.intro @nL @lY)) (And.intro @kW (And.intro @C2q @kI))) (And.intro (And.intro @kE (And.intro @uH @oT)) (And.intro @nP (And.intro @A5y @A6c)))) (And.intro (And.intro (And.intro @A5z (And.intro @C2r @C2s)) (And.intro @D7d (And.intro @dH @cK))) (And.intro (And.intro @dR (And.intro @eF @iQ)) (And.intro (And.intro @aO.flat_enc @aO.isv_enc) (And.intro @aO.fold_enc @pC))))
variable {G:Nat ->AV}
def pkF:List (List UInt8):=[[],[65,78],[65,66],[65,83],[65,66,67],[65,78,83],[65,78,83],[78,83],[65,66,83],[66,83],[65,84,83],[66],[76],[66,78,76],[66,76],[66,78,76],[66,67,76],[65,66,78],[65,66],[65,66],[65,84,83,76],[78],[65,76],[45],[76],[66],[65,76],[45],[66],[66]]
def mR:List AV:=pkF.map AV.str
structure lF(G:Nat ->AV):Prop where
 fields:G 0= .rp mR
def pF(op:UInt8):List UInt8:=pkF.getD op.toNat []
theorem D2p:∀ k:Fin 256,(decide ((pF (UInt8.ofNat k)).filter (fun c=> !(c==45))=rF (UInt8.ofNat k)) && (pF (UInt8.ofNat k)).all (fun c=>decide (c.toNat < 128)))=true:=by decide+kernel
theorem A5d(op:UInt8):(pF op).filter (fun c=> !(c==45))=rF op /\ (pF op).all (fun c=>decide (c.toNat < 128))=true:=by
 have:=jX (p:=fun op=>decide ((pF op).filter (fun c=> !(c==45))=rF op) && (pF op).all (fun c=>decide (c.toNat < 128))) D2p op
 simpa using this
theorem A4a(i:aO):aX i 45=[]:=by unfold aX;simp
theorem A8v(i:aO):∀ l:List UInt8,l.flatMap (aX i)=(l.filter (fun c=> !(c==45))).flatMap (aX i)
 |[]=>rfl
 | c::l=>by
  by_cases h:c=45
  ·subst h;simp[A4a,A8v i l]
  ·have:(!(c==45))=true:=by simpa using h
   rw[List.filter_cons,if_pos this,List.flatMap_cons,List.flatMap_cons,A8v i l]
theorem B0e(i:aO):lN i=bU 1 i.op.toNat++(pF i.op).flatMap (aX i):=by rw[A8v,(A5d i.op).1];rfl
theorem A7w(i:aO)(f:UInt8):(aX i f).length <=3*i.bulk:=by
 have hs:(tO i.slots).length=2*i.slots.length:=sL 2 i.slots
 unfold aO.bulk
 unfold aX gK
 repeat' split
 all_goals simp only[bC,List.length_append,hs,List.length_nil]
 all_goals omega
theorem pV(i:aO):∀ (l:List UInt8),(l.flatMap (aX i)).length <=3*i.bulk*l.length
 |[]=>by simp
 | f::l=>by
  have h1:=A7w i f
  have h2:=pV i l
  rw[List.flatMap_cons,List.length_append,List.length_cons,Nat.mul_succ];omega
theorem C1g:∀ k:Fin 256,decide ((pF (UInt8.ofNat k)).length <=4)=true:=by decide+kernel
theorem B0j(op:UInt8):(pF op).length <=4:=of_decide_eq_true (jX (p:=fun op=>decide ((pF op).length <=4)) C1g op)
theorem C7n:∀ k:Fin 30,pkF[k.1]? =some (pF (UInt8.ofNat k)):=by decide+kernel
theorem C1h{op:UInt8}(h:op.toNat < 30):∃ r,mR.drop (op.toNat*1)= .str (pF op)::r:=by
 have h1:=C7n ⟨op.toNat,h⟩
 simp only[UInt8.ofNat_toNat]at h1
 have h2:mR[op.toNat]? =some (.str (pF op)):=by unfold mR;rw[List.getElem?_map,h1];rfl
 rw[Nat.mul_one]
 exact⟨_,qQ _ _ _ h2⟩
structure RW(σ0 σ:AS)(b bx it:Nat)(i:aO)(fs X:List UInt8)(p:Nat):Prop where
 hB:dZ ((σ0.setBox bx (flat i.enc)).setTy it (.ob (.iter fs p),0)) σ b X
 pos:0 < X.length
theorem RW.box{σ0 σ:AS}{b bx it:Nat}{i:aO}{fs X:List UInt8}{p:Nat}(h:RW σ0 σ b bx it i fs X p):σ.box bx=some (flat i.enc):=h.hB.le.box bx _ AS.set_get
theorem RW.ty{σ0 σ:AS}{b bx it:Nat}{i:aO}{fs X:List UInt8}{p:Nat}(h:RW σ0 σ b bx it i fs X p):σ.ty it=some (.ob (.iter fs p),0):=h.hB.le.ty it _ (by simp[AS.setTy])
theorem RW.next{σ0 σ:AS}{b bx it:Nat}{i:aO}{fs X:List UInt8}{p:Nat}(h:RW σ0 σ b bx it i fs X p):RW σ0 (σ.setTy it (.ob (.iter fs (p+1)),0)) b bx it i fs X (p+1):=by
 refine⟨?_,h.pos⟩
 have:=h.hB.setTy (c:=it) (.inl ⟨(.ob (.iter fs p),0),by simp[AS.setTy]⟩) (.ob (.iter fs (p+1)),0)
 rw[zO]at this
 exact this
set_option maxHeartbeats 4000000 in
theorem A9p(hg:lF G)(i:aO)(hr:Rg i)(hop:i.op.toNat < 30){σ0 σ:AS}{b:Nat}{xs:List UInt8}(h:dZ σ0 σ b xs)(h0:0 < xs.length)(hl:xs.length+16*i.bulk <=900000000):
  aJ Tryd.prog G 20 [.ptr b 0,i.enc] σ fun r σ'=>r= .tup [] /\ dZ σ0 σ' b (xs++lN i):=by
 have hgs:=hg.fields
 obtain⟨rest,hrow⟩:=C1h hop
 have h4:=B0j i.op
 have hasc:=(A5d i.op).2
 rw[B0e]
 have hbk:=i.bulk_pos
 have hfl:∀ p,((pF i.op).take p).length <=4 -> (((pF i.op).take p).flatMap (aX i)).length <=12*i.bulk:=fun p hp=>by
  have h1:=pV i ((pF i.op).take p)
  have h2:3*i.bulk*((pF i.op).take p).length <=3*i.bulk*4:=Nat.mul_le_mul_left _ hp
  omega
 have nQ:(xs++bU 1 i.op.toNat).length=xs.length+1:=by rw[List.length_append,bC]
 have t1:=fun(bx:Nat) (hbx:σ.fresh bx) (z:List AV)=>dM (G:=G) (h.setBox (.inr hbx.1) z) h0 1 (by omega) i.opI i.opI_nn (by have:=i.opI_lt;omega) (by omega) .full
 have hopn:i.opI.toNat=i.op.toNat:=rfl
 rw[hopn]at t1
 have hwk:IntKind.i64.wrap i.opI=i.opI:=aH (by have:=i.opI_nn;omega) (by have:=i.opI_lt;omega)
 have c1:(i.opI < 30)=True:=eq_true (by unfold aO.opI;omega)
 have c0:(0 <=i.opI)=True:=eq_true i.opI_nn
 have hle:=h.le
 generalize pF i.op=fs at*
 clear h hg
 refine aJ.of_awp mixed Tryd.func20 rfl (by kernel_rfl) (by kernel_rfl) (by simp[Tryd.ntmps20]) Tryd.results20 ?_
 repeat'(first|refine xs ?_ ?_ <;>intros|(refine wn ?_;intro bx hbx;try simp only[fb]at hbx)|((refine aJ.mono (t1 _ hbx _) ?_;rintro r s3 ⟨rfl,hB1⟩;clear t1;have f1:=hB1.le.box bx _ AS.set_get))|((refine pC kW.2.1 (fun it hit=> ?_)))|refine aQ ?_|(refine aB ?_;intro bx hbx;(try simp only[fb]at hbx))|refine aD ?_|((with_reducible refine And.intro ?_ ?_);omega)|refine aA (d':=⟨⟩) ?_|refine aR (by kernel_rfl) ?_|refine aP ?_ (by repeat' first|exact lr _|assumption|refine ls ?_ ?_|refine lt ?_ ?_|simp only[*];done|simp only[fb, *,not_false_eq_true,and_self];done|exact lf ‹_› (by simp only[*]))|refine aC ?_ (by repeat' first|exact lr _|assumption|refine ls ?_ ?_|refine lt ?_ ?_|simp only[*];done|simp only[fb, *,not_false_eq_true,and_self];done|exact lf ‹_› (by simp only[*]))|simp -dsimp only[↓bp,bq,br,seval,pO,hwk,hopn,hrow, *]|refine wz ?_|fail)
 have hfe:=i.flat_enc
 rw[<- hfe]at hB1
 have hB2:=hB1.setTy (c:=it) (.inr hit.2.2) (.ob (.iter fs 0),0)
 refine aY (fun n e σ'=>∃ p:Nat,p <=fs.length /\ n=fs.length - p /\ RW σ0 σ' b bx it i fs (xs++bU 1 i.op.toNat++(fs.take p).flatMap (aX i)) p) fs.length ⟨0,by omega,by omega,by simpa using hB2,by rw[List.length_append,List.length_append];omega⟩ ?_
 rintro n e σ2 ⟨p,hp,rfl,hR⟩
 have hty:=hR.ty
 have hbx2:=hR.box
 rw[hfe]at hbx2
 by_cases hlt:p < fs.length
 ·obtain⟨c,hc⟩:∃ c,fs[p]? =some c:=⟨_,List.getElem?_eq_getElem hlt⟩
  have hR2:=hR.next
  have hlen:(xs++bU 1 i.op.toNat++(fs.take p).flatMap (aX i)).length <=xs.length+1+12*i.bulk:=by
   have:=hfl p (by rw[List.length_take];omega)
   rw[List.length_append,nQ];omega
  have hpos:=hR.pos
  have hfin:∀ s7,dZ ((σ0.setBox bx (flat i.enc)).setTy it (.ob (.iter fs (p+1)),0)) s7 b (xs++bU 1 i.op.toNat++(fs.take p).flatMap (aX i)++aX i c) ->RW σ0 s7 b bx it i fs (xs++bU 1 i.op.toNat++(fs.take (p+1)).flatMap (aX i)) (p+1):=fun s7 h7=>by
   refine⟨?_,by rw[List.length_append,List.length_append];omega⟩
   rw[aK _ _ _ hc,List.flatMap_append,List.flatMap_cons,List.flatMap_nil,List.append_nil,<- List.append_assoc]
   exact h7
  have hca:c.toNat < 128:=of_decide_eq_true (List.all_eq_true.1 hasc c (List.mem_of_getElem? hc))
  have hbul:i.bulk=i.text.length+i.slots.length+1:=rfl
  clear hB1 hB2 f1 hR hfl hasc
  generalize xs++bU 1 i.op.toNat++(fs.take p).flatMap (aX i)=X at*
  have hb2:=hR2.box
  rw[hfe]at hb2
  by_cases k65:c=65
  ·subst k65
   have hf:aX i 65=bU 2 i.a.toNat:=by simp[aX]
   rw[hf]at hfin
   have t1:=dM (G:=G) hR2.hB hR2.pos 2 (by omega) i.a hr.a.1 (by have:=hr.a.2;omega) (by omega) .full
   clear hf hlen
   repeat'(first|refine xs ?_ ?_ <;>intros|(refine wn ?_;intro bx hbx;try simp only[fb]at hbx)|(refine aV hty hc (by decide) ?_)|((refine aJ.mono t1 ?_;rintro r s7 ⟨rfl,hB7⟩;clear t1))|refine aQ ?_|(refine aB ?_;intro bx hbx;(try simp only[fb]at hbx))|refine aD ?_|((with_reducible refine And.intro ?_ ?_);omega)|refine aA (d':=⟨⟩) ?_|refine aR (by kernel_rfl) ?_|refine aP ?_ (by repeat' first|exact lr _|assumption|refine ls ?_ ?_|refine lt ?_ ?_|simp only[*];done|simp only[fb, *,not_false_eq_true,and_self];done|exact lf ‹_› (by simp only[*]))|refine aC ?_ (by repeat' first|exact lr _|assumption|refine ls ?_ ?_|refine lt ?_ ?_|simp only[*];done|simp only[fb, *,not_false_eq_true,and_self];done|exact lf ‹_› (by simp only[*]))|simp -dsimp only[↓bp,bq,br,seval,pO, *]|refine wz ?_|fail)
   exact⟨fs.length - (p+1),by omega,p+1,by omega,rfl,hfin _ hB7⟩
  by_cases k66:c=66
  ·subst k66
   have hf:aX i 66=bU 2 i.b.toNat:=by simp[aX]
   rw[hf]at hfin
   have t1:=dM (G:=G) hR2.hB hR2.pos 2 (by omega) i.b hr.b.1 (by have:=hr.b.2;omega) (by omega) .full
   clear hf hlen
   repeat'(first|refine xs ?_ ?_ <;>intros|(refine wn ?_;intro bx hbx;try simp only[fb]at hbx)|(refine aV hty hc (by decide) ?_)|((refine aJ.mono t1 ?_;rintro r s7 ⟨rfl,hB7⟩;clear t1))|refine aQ ?_|(refine aB ?_;intro bx hbx;(try simp only[fb]at hbx))|refine aD ?_|((with_reducible refine And.intro ?_ ?_);omega)|refine aA (d':=⟨⟩) ?_|refine aR (by kernel_rfl) ?_|refine aP ?_ (by repeat' first|exact lr _|assumption|refine ls ?_ ?_|refine lt ?_ ?_|simp only[*];done|simp only[fb, *,not_false_eq_true,and_self];done|exact lf ‹_› (by simp only[*]))|refine aC ?_ (by repeat' first|exact lr _|assumption|refine ls ?_ ?_|refine lt ?_ ?_|simp only[*];done|simp only[fb, *,not_false_eq_true,and_self];done|exact lf ‹_› (by simp only[*]))|simp -dsimp only[↓bp,bq,br,seval,pO, *]|refine wz ?_|fail)
   exact⟨fs.length - (p+1),by omega,p+1,by omega,rfl,hfin _ hB7⟩
  by_cases k67:c=67
  ·subst k67
   have hf:aX i 67=bU 2 i.c.toNat:=by simp[aX]
   rw[hf]at hfin
   have t1:=dM (G:=G) hR2.hB hR2.pos 2 (by omega) i.c hr.c.1 (by have:=hr.c.2;omega) (by omega) .full
   clear hf hlen
   repeat'(first|refine xs ?_ ?_ <;>intros|(refine wn ?_;intro bx hbx;try simp only[fb]at hbx)|(refine aV hty hc (by decide) ?_)|((refine aJ.mono t1 ?_;rintro r s7 ⟨rfl,hB7⟩;clear t1))|refine aQ ?_|(refine aB ?_;intro bx hbx;(try simp only[fb]at hbx))|refine aD ?_|((with_reducible refine And.intro ?_ ?_);omega)|refine aA (d':=⟨⟩) ?_|refine aR (by kernel_rfl) ?_|refine aP ?_ (by repeat' first|exact lr _|assumption|refine ls ?_ ?_|refine lt ?_ ?_|simp only[*];done|simp only[fb, *,not_false_eq_true,and_self];done|exact lf ‹_› (by simp only[*]))|refine aC ?_ (by repeat' first|exact lr _|assumption|refine ls ?_ ?_|refine lt ?_ ?_|simp only[*];done|simp only[fb, *,not_false_eq_true,and_self];done|exact lf ‹_› (by simp only[*]))|simp -dsimp only[↓bp,bq,br,seval,pO, *]|refine wz ?_|fail)
   exact⟨fs.length - (p+1),by omega,p+1,by omega,rfl,hfin _ hB7⟩
  by_cases k78:c=78
  ·subst k78
   have hf:aX i 78=bU 2 i.n.toNat:=by simp[aX]
   rw[hf]at hfin
   have t1:=dM (G:=G) hR2.hB hR2.pos 2 (by omega) i.n hr.n.1 (by have:=hr.n.2;omega) (by omega) .full
   clear hf hlen
   repeat'(first|refine xs ?_ ?_ <;>intros|(refine wn ?_;intro bx hbx;try simp only[fb]at hbx)|(refine aV hty hc (by decide) ?_)|((refine aJ.mono t1 ?_;rintro r s7 ⟨rfl,hB7⟩;clear t1))|refine aQ ?_|(refine aB ?_;intro bx hbx;(try simp only[fb]at hbx))|refine aD ?_|((with_reducible refine And.intro ?_ ?_);omega)|refine aA (d':=⟨⟩) ?_|refine aR (by kernel_rfl) ?_|refine aP ?_ (by repeat' first|exact lr _|assumption|refine ls ?_ ?_|refine lt ?_ ?_|simp only[*];done|simp only[fb, *,not_false_eq_true,and_self];done|exact lf ‹_› (by simp only[*]))|refine aC ?_ (by repeat' first|exact lr _|assumption|refine ls ?_ ?_|refine lt ?_ ?_|simp only[*];done|simp only[fb, *,not_false_eq_true,and_self];done|exact lf ‹_› (by simp only[*]))|simp -dsimp only[↓bp,bq,br,seval,pO, *]|refine wz ?_|fail)
   exact⟨fs.length - (p+1),by omega,p+1,by omega,rfl,hfin _ hB7⟩
  by_cases k76:c=76
  ·subst k76
   have hf:aX i 76=bU 2 i.l.toNat:=by simp[aX]
   rw[hf]at hfin
   have t1:=dM (G:=G) hR2.hB hR2.pos 2 (by omega) i.l hr.l.1 (by have:=hr.l.2;omega) (by omega) .full
   clear hf hlen
   repeat'(first|refine xs ?_ ?_ <;>intros|(refine wn ?_;intro bx hbx;try simp only[fb]at hbx)|(refine aV hty hc (by decide) ?_)|((refine aJ.mono t1 ?_;rintro r s7 ⟨rfl,hB7⟩;clear t1))|refine aQ ?_|(refine aB ?_;intro bx hbx;(try simp only[fb]at hbx))|refine aD ?_|((with_reducible refine And.intro ?_ ?_);omega)|refine aA (d':=⟨⟩) ?_|refine aR (by kernel_rfl) ?_|refine aP ?_ (by repeat' first|exact lr _|assumption|refine ls ?_ ?_|refine lt ?_ ?_|simp only[*];done|simp only[fb, *,not_false_eq_true,and_self];done|exact lf ‹_› (by simp only[*]))|refine aC ?_ (by repeat' first|exact lr _|assumption|refine ls ?_ ?_|refine lt ?_ ?_|simp only[*];done|simp only[fb, *,not_false_eq_true,and_self];done|exact lf ‹_› (by simp only[*]))|simp -dsimp only[↓bp,bq,br,seval,pO, *]|refine wz ?_|fail)
   exact⟨fs.length - (p+1),by omega,p+1,by omega,rfl,hfin _ hB7⟩
  by_cases k84:c=84
  ·subst k84
   have hf:aX i 84=gK i.text:=by simp[aX]
   rw[hf]at hfin
   have t1:=wJ (G:=G) hR2.hB hR2.pos i.text (by omega)
   clear hf hlen
   repeat'(first|refine xs ?_ ?_ <;>intros|(refine wn ?_;intro bx hbx;try simp only[fb]at hbx)|(refine aV hty hc (by decide) ?_)|((refine aJ.mono t1 ?_;rintro r s7 ⟨rfl,hB7⟩;clear t1))|refine aQ ?_|(refine aB ?_;intro bx hbx;(try simp only[fb]at hbx))|refine aD ?_|((with_reducible refine And.intro ?_ ?_);omega)|refine aA (d':=⟨⟩) ?_|refine aR (by kernel_rfl) ?_|refine aP ?_ (by repeat' first|exact lr _|assumption|refine ls ?_ ?_|refine lt ?_ ?_|simp only[*];done|simp only[fb, *,not_false_eq_true,and_self];done|exact lf ‹_› (by simp only[*]))|refine aC ?_ (by repeat' first|exact lr _|assumption|refine ls ?_ ?_|refine lt ?_ ?_|simp only[*];done|simp only[fb, *,not_false_eq_true,and_self];done|exact lf ‹_› (by simp only[*]))|simp -dsimp only[↓bp,bq,br,seval,pO, *]|refine wz ?_|fail)
   exact⟨fs.length - (p+1),by omega,p+1,by omega,rfl,hfin _ hB7⟩
  by_cases k83:c=83
  ·subst k83
   have hf:aX i 83=bU 2 i.slots.length++tO i.slots:=by simp[aX]
   rw[hf,<- List.append_assoc]at hfin
   have t1:=dM (G:=G) hR2.hB hR2.pos 2 (by omega) i.slots.length (by omega) (by omega) (by omega) .full
   rw[Int.toNat_natCast]at t1
   have hpos2:0 < (X++bU 2 i.slots.length).length:=by rw[List.length_append];have:=hR2.pos;omega
   have hlen2:(X++bU 2 i.slots.length).length <=xs.length+3+12*i.bulk:=by rw[List.length_append,bC];omega
   have t2:=fun(S0 s4:AS) (h4:dZ S0 s4 b (X++bU 2 i.slots.length))=>mO (G:=G) h4 hpos2 2 (by omega) i.slots (fun n hn=> ⟨(hr.slots.2 n hn).1,by have:=(hr.slots.2 n hn).2;omega⟩) (by have:=hr.slots.1;omega) (by omega)
   clear hf hlen
   repeat'(first|refine xs ?_ ?_ <;>intros|(refine wn ?_;intro bx hbx;try simp only[fb]at hbx)|(refine aV hty hc (by decide) ?_)|((refine aJ.mono t1 ?_;rintro r s4 ⟨rfl,hB4⟩;clear t1;have b4:=hB4.le.box bx _ AS.set_get;rw[hfe]at b4;replace t2:=t2 _ _ hB4))|((refine aJ.mono t2 ?_;rintro r s7 ⟨rfl,hB7⟩;clear t2))|refine aQ ?_|(refine aB ?_;intro bx hbx;(try simp only[fb]at hbx))|refine aD ?_|((with_reducible refine And.intro ?_ ?_);omega)|refine aA (d':=⟨⟩) ?_|refine aR (by kernel_rfl) ?_|refine aP ?_ (by repeat' first|exact lr _|assumption|refine ls ?_ ?_|refine lt ?_ ?_|simp only[*];done|simp only[fb, *,not_false_eq_true,and_self];done|exact lf ‹_› (by simp only[*]))|refine aC ?_ (by repeat' first|exact lr _|assumption|refine ls ?_ ?_|refine lt ?_ ?_|simp only[*];done|simp only[fb, *,not_false_eq_true,and_self];done|exact lf ‹_› (by simp only[*]))|simp -dsimp only[↓bp,bq,br,seval,pO, *]|refine wz ?_|fail)
   exact⟨fs.length - (p+1),by omega,p+1,by omega,rfl,hfin _ hB7⟩
  have hf:aX i c=[]:=by unfold aX;rw[if_neg k65,if_neg k66,if_neg k67,if_neg k78,if_neg k84,if_neg k83,if_neg k76]
  rw[hf,List.append_nil]at hfin
  have nn:∀ m:Nat,m < 256 -> ¬ c=UInt8.ofNat m -> ((c.toNat:Int)=(m:Int))=False:=fun m hm hne=>eq_false fun h=>hne (UInt8.toNat_inj.1 (by rw[UInt8.toNat_ofNat'];omega))
  have e1:((c.toNat:Int)=65)=False:=nn 65 (by omega) k65
  have e2:((c.toNat:Int)=66)=False:=nn 66 (by omega) k66
  have e3:((c.toNat:Int)=67)=False:=nn 67 (by omega) k67
  have e4:((c.toNat:Int)=78)=False:=nn 78 (by omega) k78
  have e5:((c.toNat:Int)=84)=False:=nn 84 (by omega) k84
  have e6:((c.toNat:Int)=83)=False:=nn 83 (by omega) k83
  have e7:((c.toNat:Int)=76)=False:=nn 76 (by omega) k76
  clear nn k65 k66 k67 k78 k84 k83 k76 hlen
  have hB7:=hR2.hB
  repeat'(first|refine xs ?_ ?_ <;>intros|(refine wn ?_;intro bx hbx;try simp only[fb]at hbx)|(refine aV hty hc hca ?_)|refine aQ ?_|(refine aB ?_;intro bx hbx;(try simp only[fb]at hbx))|refine aD ?_|((with_reducible refine And.intro ?_ ?_);omega)|refine aA (d':=⟨⟩) ?_|refine aR (by kernel_rfl) ?_|refine aP ?_ (by repeat' first|exact lr _|assumption|refine ls ?_ ?_|refine lt ?_ ?_|simp only[*];done|simp only[fb, *,not_false_eq_true,and_self];done|exact lf ‹_› (by simp only[*]))|refine aC ?_ (by repeat' first|exact lr _|assumption|refine ls ?_ ?_|refine lt ?_ ?_|simp only[*];done|simp only[fb, *,not_false_eq_true,and_self];done|exact lf ‹_› (by simp only[*]))|simp -dsimp only[↓bp,bq,br,seval,pO, *]|refine wz ?_|fail)
  exact⟨fs.length - (p+1),by omega,p+1,by omega,rfl,hfin _ hB7⟩
 ·have:p=fs.length:=by omega
  subst this
  rw[List.take_length]at hR
  have hB9:=hR.hB.less (show σ0.le _ from((AS.le.refl σ0).setBox (hle.fresh hbx).1 _).setTy (by
   have:=hB1.le
   cases e:σ0.ty it with
   |none=>rfl
   |some x=>have:=(((AS.le.refl σ0).setBox (hle.fresh hbx).1 (flat i.enc)).trans hB1.le).ty _ _ e;rw[hit.2.2]at this;cases this) _)
  rw[List.append_assoc]at hB9
  clear hB1 hB2 f1 hR hfl hasc hfe
  repeat'(first|refine xs ?_ ?_ <;>intros|(refine wn ?_;intro bx hbx;try simp only[fb]at hbx)|(refine pA hty (Nat.le_refl _) ?_)|refine aQ ?_|(refine aB ?_;intro bx hbx;(try simp only[fb]at hbx))|refine aD ?_|((with_reducible refine And.intro ?_ ?_);omega)|refine aA (d':=⟨⟩) ?_|refine aR (by kernel_rfl) ?_|refine aP ?_ (by repeat' first|exact lr _|assumption|refine ls ?_ ?_|refine lt ?_ ?_|simp only[*];done|simp only[fb, *,not_false_eq_true,and_self];done|exact lf ‹_› (by simp only[*]))|refine aC ?_ (by repeat' first|exact lr _|assumption|refine ls ?_ ?_|refine lt ?_ ?_|simp only[*];done|simp only[fb, *,not_false_eq_true,and_self];done|exact lf ‹_› (by simp only[*]))|simp -dsimp only[↓bp,bq,br,seval,pO, *]|refine wz ?_|fail)
  exact aE _ (AS.le.refl _) ⟨rfl,hB9⟩
end
set_option maxRecDepth 20000
section
def lW:=And.intro (And.intro (And.intro (And.intro @nK @nL) (And.intro @lY @kW)) (And.intro (And.intro @C2q @kI) (And.intro @kE (And.intro @uH @oT)))) (And.intro (And.intro (And.intro @nP @A6b) (And.intro @A6a @D7d)) (And.intro (And.intro @dH @cK) (And.intro @dR (And.intro @eF @iQ))))
variable {G:Nat ->AV}
theorem C2f:A2p G 58 uF (aG 2) (fun _=>True):=by
 refine⟨fun rb S st _ h=> ?_,fun _ _=>trivial,fun _ _ _=>trivial⟩
 have t1:=aZ (G:=G) 2 (by omega) h
 clear h
 generalize aG 2 st=a at*
 unfold uF
 refine aJ.of_awp mixed Tryd.func58 rfl (by kernel_rfl) (by kernel_rfl) (by simp[Tryd.ntmps58]) Tryd.results58 ?_
 repeat'(first|refine xs ?_ ?_ <;>intros|(refine wn ?_;intro bx hbx;try simp only[fb]at hbx)|((refine aJ.mono t1 ?_;rintro r s ⟨rfl,rfl⟩;clear t1))|refine aQ ?_|(refine aB ?_;intro bx hbx;(try simp only[fb]at hbx))|refine aD ?_|((with_reducible refine And.intro ?_ ?_);omega)|refine aA (d':=⟨⟩) ?_|refine aR (by kernel_rfl) ?_|refine aP ?_ (by repeat' first|exact lr _|assumption|refine ls ?_ ?_|refine lt ?_ ?_|simp only[*];done|simp only[fb, *,not_false_eq_true,and_self];done|exact lf ‹_› (by simp only[*]))|refine aC ?_ (by repeat' first|exact lr _|assumption|refine ls ?_ ?_|refine lt ?_ ?_|simp only[*];done|simp only[fb, *,not_false_eq_true,and_self];done|exact lf ‹_› (by simp only[*]))|simp -dsimp only[↓bp,bq,br,seval,lW, *]|refine wz ?_|fail)
theorem B2o:A2p G 32 dA.enc uD (fun _=>True):=
 ⟨fun rb S st _ h=>B7o h,fun _ _=>trivial,fun _ _ _=>trivial⟩
def cJ(i:aO)(f:UInt8)(st:dD):aO × dD:=
 if f=65 then({i with a:=(aG 2 st).1},(aG 2 st).2)else if f=66 then({i with b:=(aG 2 st).1},(aG 2 st).2)else if f=67 then({i with c:=(aG 2 st).1},(aG 2 st).2)
 else if f=78 then({i with n:=(aG 2 st).1},(aG 2 st).2)else if f=84 then({i with text:=(fJ st).1},(fJ st).2)
 else if f=83 then({i with slots:=(aS (aG 2) st).1.map Int.ofNat},(aS (aG 2) st).2)else if f=76 then({i with l:=(aG 2 st).1},(aG 2 st).2)else(i,st)
def fQ:List UInt8 ->aO ->dD ->aO × dD
 |[],i,st=> (i,st)
 |f::fs,i,st=>fQ fs (cJ i f st).1 (cJ i f st).2
def lO(st:dD):aO × dD:=
 if 30 <=(aG 1 st).1 \/ pF (UInt8.ofNat (aG 1 st).1)=[]then(sD (UInt8.ofNat (aG 1 st).1),((aG 1 st).2.1,true))else fQ (pF (UInt8.ofNat (aG 1 st).1)) (sD (UInt8.ofNat (aG 1 st).1)) (aG 1 st).2
def wD(i:aO)(sl:AV):List AV:=[.int .u8 i.opI, .int .i64 i.a, .int .i64 i.b, .int .i64 i.c, .int .i64 i.n, .int .i64 i.l, .str i.text,sl]
def SlI(i:aO)(sl:AV):Prop:=Le sl (aW kH i.slots) /\ isv sl=true /\ flat sl=[sl]
theorem gH.le'{rb:Nat}{σ S:AS}{z:List AV}(h:gH rb σ S)(hz:S.box rb=some z):(σ.setBox rb z).le S:=
 ⟨fun i cs hi=>by
   simp only[AS.setBox]at hi
   split at hi
   ·rename_i e;rw[e,hz];exact hi
   ·rename_i e;exact h.box i cs e hi,h.tip,h.ty⟩
theorem gH.setTy{rb:Nat}{σ S:AS}(h:gH rb σ S){b:Nat}(hb:σ.ty b=none)(z:rQ × Nat):gH rb σ (S.setTy b z):=
 ⟨h.box,h.tip,fun i n hi=>by
   have:i ≠ b:=fun e=>by subst e;rw[hb]at hi;cases hi
   show(if i=b then some z else S.ty i)=some n
   rw[if_neg this];exact h.ty i n hi⟩
structure RL(σ S:AS)(rb bx b0 it:Nat)(fs:List UInt8)(p:Nat)(i:aO)(sl:AV)(st:dD):Prop where
 le:gH rb σ S
 hr:S.box rb=some (bR st)
 hx:S.box bx=some (wD i sl)
 h0:S.box b0=some (wD (sD 0) .nil)
 ty:S.ty it=some (.ob (.iter fs p),0)
 sl:SlI i sl
theorem RL.next{σ S:AS}{rb bx b0 it:Nat}{fs:List UInt8}{p:Nat}{i:aO}{sl:AV}{st:dD}(h:RL σ S rb bx b0 it fs p i sl st)(hit:σ.ty it=none):RL σ (S.setTy it (.ob (.iter fs (p+1)),0)) rb bx b0 it fs (p+1) i sl st:=
 ⟨h.le.setTy hit _,h.hr,h.hx,h.h0,by simp[AS.setTy],h.sl⟩
theorem RL.read{σ S:AS}{rb bx b0 it:Nat}{fs:List UInt8}{p:Nat}{i:aO}{sl:AV}{st:dD}(h:RL σ S rb bx b0 it fs p i sl st)(h1:rb ≠ bx)(h2:rb ≠ b0)(h3:bx ≠ b0)(hbx:σ.box bx=none)(st':dD){i':aO}{sl':AV}(hs:SlI i' sl'):RL σ ((S.setBox rb (bR st')).setBox bx (wD i' sl')) rb bx b0 it fs p i' sl' st':=
 ⟨(h.le.setRb _).setBox hbx _,by simp only[AS.setBox,if_neg h1];simp,by simp[AS.setBox],by simp only[AS.setBox,if_neg (Ne.symm h3),if_neg (Ne.symm h2)];exact h.h0,h.ty,hs⟩
theorem gB(st:dD):(aG 1 st).1 < 256:=by
 have h:=pH (bV 1 st).1
 have hl:(bV 1 st).1.length <=1:=by unfold bV;split <;>simp <;>omega
 have:256 ^ (bV 1 st).1.length <=256 ^ 1:=Nat.pow_le_pow_right (by omega) hl
 unfold aG;simp only;omega
set_option maxHeartbeats 4000000 in
theorem B9u(hg:lF G){σ:AS}{rb:Nat}{st:dD}(h:σ.box rb=some (bR st)):aJ Tryd.prog G 34 [.ptr rb 0] σ fun r s=>r=(lO st).1.enc /\ s=σ.setBox rb (bR (lO st).2):=by
 have hgs:=hg.fields
 have hne:∀ b',σ.fresh b' -> (rb=b')=False:=fun b' h'=>eq_false fun e=>by subst e;rw[h'.1]at h;cases h
 have hne2:∀ b',σ.fresh b' -> (b'=rb)=False:=fun b' h'=>eq_false fun e=>by subst e;rw[h'.1]at h;cases h
 refine aJ.tell (Q:=fun r s=>∃ i sl,r= .agg (wD i sl) /\ SlI i sl /\ i=(lO st).1 /\ s=σ.setBox rb (bR (lO st).2)) ?_ ?_
 case refine_2=>
  rintro r s ⟨i,sl,rfl,hs,rfl,rfl⟩
  exact⟨_,Le.agg (.cons (Le.refl _) (.cons (Le.refl _) (.cons (Le.refl _) (.cons (Le.refl _) (.cons (Le.refl _) (.cons (Le.refl _) (.cons (Le.refl _) (.cons hs.1 .nil)))))))) (fun d hd=>by simp at hd;rcases hd with rfl|rfl|rfl|rfl|rfl|rfl|rfl|rfl <;>rfl),rfl,rfl⟩
 unfold lO
 have hk:=gB st
 have t1:=fun(S:AS) (h:S.box rb=some (bR st))=>aZ (G:=G) 1 (by omega) h
 generalize aG 1 st=a at*
 obtain⟨k,b1,bad1⟩:=a
 simp only at*
 have hop:(UInt8.ofNat k).toNat=k:=by rw[UInt8.toNat_ofNat'];omega
 have hconv:IntKind.u8.wrap (k:Int)=k:=by rw[IntKind.wrap_u8];omega
 have hwk:IntKind.i64.wrap (k:Int)=k:=aH (by omega) (by omega)
 clear hg
 have hsl:SlI (sD (UInt8.ofNat k)) .nil:=⟨Le.nil,rfl,rfl⟩
 have hC:wD (sD (UInt8.ofNat k)) .nil=[.int .u8 k, .int .i64 0, .int .i64 0, .int .i64 0, .int .i64 0, .int .i64 0, .str [], .nil]:=by simp[wD,sD,aO.opI,hop]
 by_cases h30:30 <=k
 ·rw[if_pos (.inl h30)]
  have c1:((30:Int) <=(k:Int))=True:=eq_true (by omega)
  have c2:((k:Int) < 30)=False:=eq_false (by omega)
  refine aJ.of_awp mixed Tryd.func34 rfl (by kernel_rfl) (by kernel_rfl) (by simp[Tryd.ntmps34]) Tryd.results34 ?_
  repeat'(first|refine xs ?_ ?_ <;>intros|(refine wn ?_;intro bx hbx;try simp only[fb]at hbx)|((refine aJ.mono (t1 _ (by simp[AS.setBox, *])) ?_;rintro r s ⟨rfl,rfl⟩;clear t1))|refine aQ ?_|(refine aB ?_;intro bx hbx;(try simp only[fb]at hbx))|refine aD ?_|((with_reducible refine And.intro ?_ ?_);omega)|refine aA (d':=⟨⟩) ?_|refine aR (by kernel_rfl) ?_|refine aP ?_ (by repeat' first|exact lr _|assumption|refine ls ?_ ?_|refine lt ?_ ?_|simp only[*];done|simp only[fb, *,not_false_eq_true,and_self];done|exact lf ‹_› (by simp only[*]))|refine aC ?_ (by repeat' first|exact lr _|assumption|refine ls ?_ ?_|refine lt ?_ ?_|simp only[*];done|simp only[fb, *,not_false_eq_true,and_self];done|exact lf ‹_› (by simp only[*]))|simp -dsimp only[↓bp,bq,br,seval,lW,hconv,hwk,bR, *]|refine wz ?_|fail)
  exact aE (σ.setBox rb (bR (b1,true))) (gH.le' (by repeat' first|exact gH.refl _|refine gH.setRb ?_ _|refine gH.setBox ?_ (by simp_all [AS.fresh]) _) (by simp[AS.setBox,bR, *])) ⟨_, .nil,by rw[hC];rfl,hsl,rfl,rfl⟩
 ·obtain⟨rest,hrow⟩:=C1h (op:=UInt8.ofNat k) (by omega)
  rw[hop]at hrow
  have c1:((30:Int) <=(k:Int))=False:=eq_false (by omega)
  have c2:((k:Int) < 30)=True:=eq_true (by omega)
  have c0:(0 <=(k:Int))=True:=eq_true (by omega)
  by_cases hp:pF (UInt8.ofNat k)=[]
  ·rw[if_pos (.inr hp)]
   rw[hp]at hrow
   refine aJ.of_awp mixed Tryd.func34 rfl (by kernel_rfl) (by kernel_rfl) (by simp[Tryd.ntmps34]) Tryd.results34 ?_
   repeat'(first|refine xs ?_ ?_ <;>intros|(refine wn ?_;intro bx hbx;try simp only[fb]at hbx)|((refine aJ.mono (t1 _ (by simp[AS.setBox, *])) ?_;rintro r s ⟨rfl,rfl⟩;clear t1))|refine aQ ?_|(refine aB ?_;intro bx hbx;(try simp only[fb]at hbx))|refine aD ?_|((with_reducible refine And.intro ?_ ?_);omega)|refine aA (d':=⟨⟩) ?_|refine aR (by kernel_rfl) ?_|refine aP ?_ (by repeat' first|exact lr _|assumption|refine ls ?_ ?_|refine lt ?_ ?_|simp only[*];done|simp only[fb, *,not_false_eq_true,and_self];done|exact lf ‹_› (by simp only[*]))|refine aC ?_ (by repeat' first|exact lr _|assumption|refine ls ?_ ?_|refine lt ?_ ?_|simp only[*];done|simp only[fb, *,not_false_eq_true,and_self];done|exact lf ‹_› (by simp only[*]))|simp -dsimp only[↓bp,bq,br,seval,lW,hconv,hwk,bR,hrow, *]|refine wz ?_|fail)
   exact aE (σ.setBox rb (bR (b1,true))) (gH.le' (by repeat' first|exact gH.refl _|refine gH.setRb ?_ _|refine gH.setBox ?_ (by simp_all [AS.fresh]) _) (by simp[AS.setBox,bR, *])) ⟨_, .nil,by rw[hC];rfl,hsl,rfl,rfl⟩
  ·rw [if_neg (fun e=>by rcases e with e|e;exact h30 e;exact hp e)]
   have asc:=(A5d (UInt8.ofNat k)).2
   generalize pF (UInt8.ofNat k)=fs at*
   refine aJ.of_awp mixed Tryd.func34 rfl (by kernel_rfl) (by kernel_rfl) (by simp[Tryd.ntmps34]) Tryd.results34 ?_
   repeat'(first|refine xs ?_ ?_ <;>intros|(refine wn ?_;intro bx hbx;try simp only[fb]at hbx)|((refine aJ.mono (t1 _ (by simp[AS.setBox, *])) ?_;rintro r s ⟨rfl,rfl⟩;clear t1))|((refine pC kW.2.1 (fun it hit=> ?_)))|refine aQ ?_|(refine aB ?_;intro bx hbx;(try simp only[fb]at hbx))|refine aD ?_|((with_reducible refine And.intro ?_ ?_);omega)|refine aA (d':=⟨⟩) ?_|refine aR (by kernel_rfl) ?_|refine aP ?_ (by repeat' first|exact lr _|assumption|refine ls ?_ ?_|refine lt ?_ ?_|simp only[*];done|simp only[fb, *,not_false_eq_true,and_self];done|exact lf ‹_› (by simp only[*]))|refine aC ?_ (by repeat' first|exact lr _|assumption|refine ls ?_ ?_|refine lt ?_ ?_|simp only[*];done|simp only[fb, *,not_false_eq_true,and_self];done|exact lf ‹_› (by simp only[*]))|simp -dsimp only[↓bp,bq,br,seval,lW,hconv,hwk,hrow, *]|refine wz ?_|fail)
   rename_i b0 hb0
   obtain⟨⟨hbx0,hbxn,hbxn'⟩,hbr,hbr'⟩:=hbx
   have hbr0:=hne _ hb0
   have hity:σ.ty it=none:=by
    have:=hit.2.2
    exact this
   have hL:RL σ ((((σ.setBox b0 [.int .u8 0, .int .i64 0, .int .i64 0, .int .i64 0, .int .i64 0, .int .i64 0, .str [], .nil]).setBox rb (bR (b1,bad1))).setBox bx [.int .u8 k, .int .i64 0, .int .i64 0, .int .i64 0, .int .i64 0, .int .i64 0, .str [], .nil]).setTy it (.ob (.iter fs 0),0)) rb bx b0 it fs 0 (sD (UInt8.ofNat k)) .nil (b1,bad1):=by
    refine⟨(((((gH.refl σ).setBox hb0.1 _).setRb _).setBox hbx0.1 _).setTy hity _),?_,?_,?_,by simp[AS.setTy],hsl⟩
    ·simp[AS.setTy,AS.setBox,hbr']
    ·rw[hC];simp[AS.setTy,AS.setBox]
    ·simp only[AS.setTy,AS.setBox,if_neg hbxn',if_neg (fun e:b0=rb=>by rw[<- e]at hbr0;simp at hbr0)];simp[wD,sD,aO.opI]
   refine aY (fun n e S=>∃ (p:Nat) (i:aO) (sl:AV) (st':dD),p <=fs.length /\ n=fs.length - p /\ fQ fs (sD (UInt8.ofNat k)) (b1,bad1)=fQ (fs.drop p) i st' /\ RL σ S rb bx b0 it fs p i sl st') fs.length ⟨0,_,_,_,by omega,by omega,rfl,hL⟩ ?_
   rintro n e S ⟨p,i,sl,st',hp',rfl,hrun,hR⟩
   clear hL hit hC hsl hrow
   have hty:=hR.ty
   have hX:=hR.hx
   have hZ:=hR.h0
   have hB:=hR.hr
   have hS:=hR.sl
   unfold wD at hX
   by_cases hlt:p < fs.length
   ·obtain⟨c,hc⟩:∃ c,fs[p]? =some c:=⟨_,List.getElem?_eq_getElem hlt⟩
    have hca:c.toNat < 128:=of_decide_eq_true (List.all_eq_true.1 asc c (List.mem_of_getElem? hc))
    have hR2:=hR.next hity
    have hB2:=hR2.hr
    have hX2:=hR2.hx
    unfold wD at hX2
    have hdr:fs.drop p=c::fs.drop (p+1):=qQ _ _ _ hc
    rw[hdr,fQ]at hrun
    obtain⟨hs1,hs2,hs3⟩:=hS
    have hrd:=fun st2 i2 sl2 (g:SlI i2 sl2)=>hR2.read (i':=i2) (sl':=sl2) hbr' (fun e=>by rw[e]at hbr0;simp at hbr0) hbxn hbx0.1 st2 g
    by_cases k65:c=65
    ·subst k65
     have t1:=aZ (G:=G) 2 (by omega) hB2
     have hf:cJ i 65 st'=({i with a:=(aG 2 st').1},(aG 2 st').2):=by simp[cJ]
     rw[hf]at hrun
     have hfin:=hrd (aG 2 st').2 _ sl (show SlI {i with a:=(aG 2 st').1} sl from⟨hs1,hs2,hs3⟩)
     generalize aG 2 st'=o at*
     clear hf hrd
     repeat'(first|refine xs ?_ ?_ <;>intros|(refine wn ?_;intro bx hbx;try simp only[fb]at hbx)|(refine aV hty hc (by decide) ?_)|((refine aJ.mono t1 ?_;rintro r s7 ⟨rfl,rfl⟩;clear t1))|refine aQ ?_|(refine aB ?_;intro bx hbx;(try simp only[fb]at hbx))|refine aD ?_|((with_reducible refine And.intro ?_ ?_);omega)|refine aA (d':=⟨⟩) ?_|refine aR (by kernel_rfl) ?_|refine aP ?_ (by repeat' first|exact lr _|assumption|refine ls ?_ ?_|refine lt ?_ ?_|simp only[*];done|simp only[fb, *,not_false_eq_true,and_self];done|exact lf ‹_› (by simp only[*]))|refine aC ?_ (by repeat' first|exact lr _|assumption|refine ls ?_ ?_|refine lt ?_ ?_|simp only[*];done|simp only[fb, *,not_false_eq_true,and_self];done|exact lf ‹_› (by simp only[*]))|simp -dsimp only[↓bp,bq,br,seval,lW, *]|refine wz ?_|fail)
     exact⟨fs.length - (p+1),by omega,p+1,_,sl,_,by omega,rfl,rfl,hfin⟩
    by_cases k66:c=66
    ·subst k66
     have t1:=aZ (G:=G) 2 (by omega) hB2
     have hf:cJ i 66 st'=({i with b:=(aG 2 st').1},(aG 2 st').2):=by simp[cJ]
     rw[hf]at hrun
     have hfin:=hrd (aG 2 st').2 _ sl (show SlI {i with b:=(aG 2 st').1} sl from⟨hs1,hs2,hs3⟩)
     generalize aG 2 st'=o at*
     clear hf hrd
     repeat'(first|refine xs ?_ ?_ <;>intros|(refine wn ?_;intro bx hbx;try simp only[fb]at hbx)|(refine aV hty hc (by decide) ?_)|((refine aJ.mono t1 ?_;rintro r s7 ⟨rfl,rfl⟩;clear t1))|refine aQ ?_|(refine aB ?_;intro bx hbx;(try simp only[fb]at hbx))|refine aD ?_|((with_reducible refine And.intro ?_ ?_);omega)|refine aA (d':=⟨⟩) ?_|refine aR (by kernel_rfl) ?_|refine aP ?_ (by repeat' first|exact lr _|assumption|refine ls ?_ ?_|refine lt ?_ ?_|simp only[*];done|simp only[fb, *,not_false_eq_true,and_self];done|exact lf ‹_› (by simp only[*]))|refine aC ?_ (by repeat' first|exact lr _|assumption|refine ls ?_ ?_|refine lt ?_ ?_|simp only[*];done|simp only[fb, *,not_false_eq_true,and_self];done|exact lf ‹_› (by simp only[*]))|simp -dsimp only[↓bp,bq,br,seval,lW, *]|refine wz ?_|fail)
     exact⟨fs.length - (p+1),by omega,p+1,_,sl,_,by omega,rfl,rfl,hfin⟩
    by_cases k67:c=67
    ·subst k67
     have t1:=aZ (G:=G) 2 (by omega) hB2
     have hf:cJ i 67 st'=({i with c:=(aG 2 st').1},(aG 2 st').2):=by simp[cJ]
     rw[hf]at hrun
     have hfin:=hrd (aG 2 st').2 _ sl (show SlI {i with c:=(aG 2 st').1} sl from⟨hs1,hs2,hs3⟩)
     generalize aG 2 st'=o at*
     clear hf hrd
     repeat'(first|refine xs ?_ ?_ <;>intros|(refine wn ?_;intro bx hbx;try simp only[fb]at hbx)|(refine aV hty hc (by decide) ?_)|((refine aJ.mono t1 ?_;rintro r s7 ⟨rfl,rfl⟩;clear t1))|refine aQ ?_|(refine aB ?_;intro bx hbx;(try simp only[fb]at hbx))|refine aD ?_|((with_reducible refine And.intro ?_ ?_);omega)|refine aA (d':=⟨⟩) ?_|refine aR (by kernel_rfl) ?_|refine aP ?_ (by repeat' first|exact lr _|assumption|refine ls ?_ ?_|refine lt ?_ ?_|simp only[*];done|simp only[fb, *,not_false_eq_true,and_self];done|exact lf ‹_› (by simp only[*]))|refine aC ?_ (by repeat' first|exact lr _|assumption|refine ls ?_ ?_|refine lt ?_ ?_|simp only[*];done|simp only[fb, *,not_false_eq_true,and_self];done|exact lf ‹_› (by simp only[*]))|simp -dsimp only[↓bp,bq,br,seval,lW, *]|refine wz ?_|fail)
     exact⟨fs.length - (p+1),by omega,p+1,_,sl,_,by omega,rfl,rfl,hfin⟩
    by_cases k78:c=78
    ·subst k78
     have t1:=aZ (G:=G) 2 (by omega) hB2
     have hf:cJ i 78 st'=({i with n:=(aG 2 st').1},(aG 2 st').2):=by simp[cJ]
     rw[hf]at hrun
     have hfin:=hrd (aG 2 st').2 _ sl (show SlI {i with n:=(aG 2 st').1} sl from⟨hs1,hs2,hs3⟩)
     generalize aG 2 st'=o at*
     clear hf hrd
     repeat'(first|refine xs ?_ ?_ <;>intros|(refine wn ?_;intro bx hbx;try simp only[fb]at hbx)|(refine aV hty hc (by decide) ?_)|((refine aJ.mono t1 ?_;rintro r s7 ⟨rfl,rfl⟩;clear t1))|refine aQ ?_|(refine aB ?_;intro bx hbx;(try simp only[fb]at hbx))|refine aD ?_|((with_reducible refine And.intro ?_ ?_);omega)|refine aA (d':=⟨⟩) ?_|refine aR (by kernel_rfl) ?_|refine aP ?_ (by repeat' first|exact lr _|assumption|refine ls ?_ ?_|refine lt ?_ ?_|simp only[*];done|simp only[fb, *,not_false_eq_true,and_self];done|exact lf ‹_› (by simp only[*]))|refine aC ?_ (by repeat' first|exact lr _|assumption|refine ls ?_ ?_|refine lt ?_ ?_|simp only[*];done|simp only[fb, *,not_false_eq_true,and_self];done|exact lf ‹_› (by simp only[*]))|simp -dsimp only[↓bp,bq,br,seval,lW, *]|refine wz ?_|fail)
     exact⟨fs.length - (p+1),by omega,p+1,_,sl,_,by omega,rfl,rfl,hfin⟩
    by_cases k76:c=76
    ·subst k76
     have t1:=aZ (G:=G) 2 (by omega) hB2
     have hf:cJ i 76 st'=({i with l:=(aG 2 st').1},(aG 2 st').2):=by simp[cJ]
     rw[hf]at hrun
     have hfin:=hrd (aG 2 st').2 _ sl (show SlI {i with l:=(aG 2 st').1} sl from⟨hs1,hs2,hs3⟩)
     generalize aG 2 st'=o at*
     clear hf hrd
     repeat'(first|refine xs ?_ ?_ <;>intros|(refine wn ?_;intro bx hbx;try simp only[fb]at hbx)|(refine aV hty hc (by decide) ?_)|((refine aJ.mono t1 ?_;rintro r s7 ⟨rfl,rfl⟩;clear t1))|refine aQ ?_|(refine aB ?_;intro bx hbx;(try simp only[fb]at hbx))|refine aD ?_|((with_reducible refine And.intro ?_ ?_);omega)|refine aA (d':=⟨⟩) ?_|refine aR (by kernel_rfl) ?_|refine aP ?_ (by repeat' first|exact lr _|assumption|refine ls ?_ ?_|refine lt ?_ ?_|simp only[*];done|simp only[fb, *,not_false_eq_true,and_self];done|exact lf ‹_› (by simp only[*]))|refine aC ?_ (by repeat' first|exact lr _|assumption|refine ls ?_ ?_|refine lt ?_ ?_|simp only[*];done|simp only[fb, *,not_false_eq_true,and_self];done|exact lf ‹_› (by simp only[*]))|simp -dsimp only[↓bp,bq,br,seval,lW, *]|refine wz ?_|fail)
     exact⟨fs.length - (p+1),by omega,p+1,_,sl,_,by omega,rfl,rfl,hfin⟩
    by_cases k84:c=84
    ·subst k84
     have t1:=A1v (G:=G) hB2
     have hf:cJ i 84 st'=({i with text:=(fJ st').1},(fJ st').2):=by simp[cJ]
     rw[hf]at hrun
     have hfin:=hrd (fJ st').2 _ sl (show SlI {i with text:=(fJ st').1} sl from⟨hs1,hs2,hs3⟩)
     generalize fJ st'=o at*
     clear hf hrd
     repeat'(first|refine xs ?_ ?_ <;>intros|(refine wn ?_;intro bx hbx;try simp only[fb]at hbx)|(refine aV hty hc (by decide) ?_)|((refine aJ.mono t1 ?_;rintro r s7 ⟨rfl,rfl⟩;clear t1))|refine aQ ?_|(refine aB ?_;intro bx hbx;(try simp only[fb]at hbx))|refine aD ?_|((with_reducible refine And.intro ?_ ?_);omega)|refine aA (d':=⟨⟩) ?_|refine aR (by kernel_rfl) ?_|refine aP ?_ (by repeat' first|exact lr _|assumption|refine ls ?_ ?_|refine lt ?_ ?_|simp only[*];done|simp only[fb, *,not_false_eq_true,and_self];done|exact lf ‹_› (by simp only[*]))|refine aC ?_ (by repeat' first|exact lr _|assumption|refine ls ?_ ?_|refine lt ?_ ?_|simp only[*];done|simp only[fb, *,not_false_eq_true,and_self];done|exact lf ‹_› (by simp only[*]))|simp -dsimp only[↓bp,bq,br,seval,lW, *]|refine wz ?_|fail)
     exact⟨fs.length - (p+1),by omega,p+1,_,sl,_,by omega,rfl,rfl,hfin⟩
    by_cases k83:c=83
    ·subst k83
     have t1:=C7x (G:=G) C2f trivial hB2
     have hf:cJ i 83 st'=({i with slots:=(aS (aG 2) st').1.map Int.ofNat},(aS (aG 2) st').2):=by simp[cJ]
     rw[hf]at hrun
     have hfin:=hrd (aS (aG 2) st').2 _ (.sl .none ((aS (aG 2) st').1.map uF) []) (show SlI {i with slots:=(aS (aG 2) st').1.map Int.ofNat} _ from⟨by
      have:(.sl .none ((aS (aG 2) st').1.map uF) []:AV)=aW kH ((aS (aG 2) st').1.map Int.ofNat):=by unfold aW;rw[List.map_map];rfl
      rw[this];exact Le.refl _,rfl,rfl⟩)
     generalize aS (aG 2) st'=o at*
     clear hf hrd
     repeat'(first|refine xs ?_ ?_ <;>intros|(refine wn ?_;intro bx hbx;try simp only[fb]at hbx)|(refine aV hty hc (by decide) ?_)|((refine aJ.mono t1 ?_;rintro r s7 ⟨rfl,rfl⟩;clear t1))|refine aQ ?_|(refine aB ?_;intro bx hbx;(try simp only[fb]at hbx))|refine aD ?_|((with_reducible refine And.intro ?_ ?_);omega)|refine aA (d':=⟨⟩) ?_|refine aR (by kernel_rfl) ?_|refine aP ?_ (by repeat' first|exact lr _|assumption|refine ls ?_ ?_|refine lt ?_ ?_|simp only[*];done|simp only[fb, *,not_false_eq_true,and_self];done|exact lf ‹_› (by simp only[*]))|refine aC ?_ (by repeat' first|exact lr _|assumption|refine ls ?_ ?_|refine lt ?_ ?_|simp only[*];done|simp only[fb, *,not_false_eq_true,and_self];done|exact lf ‹_› (by simp only[*]))|simp -dsimp only[↓bp,bq,br,seval,lW, *]|refine wz ?_|fail)
     exact⟨fs.length - (p+1),by omega,p+1,_,_,_,by omega,rfl,rfl,hfin⟩
    have hf:cJ i c st'=(i,st'):=by unfold cJ;rw[if_neg k65,if_neg k66,if_neg k67,if_neg k78,if_neg k84,if_neg k83,if_neg k76]
    rw[hf]at hrun
    have nn:∀ m:Nat,m < 256 -> ¬ c=UInt8.ofNat m -> ((c.toNat:Int)=(m:Int))=False:=fun m hm hne=>eq_false fun h=>hne (UInt8.toNat_inj.1 (by rw[UInt8.toNat_ofNat'];omega))
    have e1:((c.toNat:Int)=65)=False:=nn 65 (by omega) k65
    have e2:((c.toNat:Int)=66)=False:=nn 66 (by omega) k66
    have e3:((c.toNat:Int)=67)=False:=nn 67 (by omega) k67
    have e4:((c.toNat:Int)=78)=False:=nn 78 (by omega) k78
    have e5:((c.toNat:Int)=84)=False:=nn 84 (by omega) k84
    have e6:((c.toNat:Int)=83)=False:=nn 83 (by omega) k83
    have e7:((c.toNat:Int)=76)=False:=nn 76 (by omega) k76
    clear nn k65 k66 k67 k78 k84 k83 k76 hrd hf
    repeat'(first|refine xs ?_ ?_ <;>intros|(refine wn ?_;intro bx hbx;try simp only[fb]at hbx)|(refine aV hty hc hca ?_)|refine aQ ?_|(refine aB ?_;intro bx hbx;(try simp only[fb]at hbx))|refine aD ?_|((with_reducible refine And.intro ?_ ?_);omega)|refine aA (d':=⟨⟩) ?_|refine aR (by kernel_rfl) ?_|refine aP ?_ (by repeat' first|exact lr _|assumption|refine ls ?_ ?_|refine lt ?_ ?_|simp only[*];done|simp only[fb, *,not_false_eq_true,and_self];done|exact lf ‹_› (by simp only[*]))|refine aC ?_ (by repeat' first|exact lr _|assumption|refine ls ?_ ?_|refine lt ?_ ?_|simp only[*];done|simp only[fb, *,not_false_eq_true,and_self];done|exact lf ‹_› (by simp only[*]))|simp -dsimp only[↓bp,bq,br,seval,lW, *]|refine wz ?_|fail)
    exact⟨fs.length - (p+1),by omega,p+1,_,sl,_,by omega,rfl,rfl,hR2⟩
   ·have:p=fs.length:=by omega
    subst this
    rw[List.drop_length,fQ]at hrun
    rw[hrun]
    simp only
    have hfin:=(hR.le.setBox hb0.1 (wD i sl)).le' (z:=bR st') (by simp only[AS.setBox];rw[if_neg (fun e:rb=b0=>by rw[e]at hbr0;simp at hbr0)];exact hB)
    unfold wD at hZ
    clear hR
    have hs2:=hS.2.1
    have hs3:=hS.2.2
    repeat'(first|refine xs ?_ ?_ <;>intros|(refine wn ?_;intro bx hbx;try simp only[fb]at hbx)|(refine pA hty (Nat.le_refl _) ?_)|refine aQ ?_|(refine aB ?_;intro bx hbx;(try simp only[fb]at hbx))|refine aD ?_|((with_reducible refine And.intro ?_ ?_);omega)|refine aA (d':=⟨⟩) ?_|refine aR (by kernel_rfl) ?_|refine aP ?_ (by repeat' first|exact lr _|assumption|refine ls ?_ ?_|refine lt ?_ ?_|simp only[*];done|simp only[fb, *,not_false_eq_true,and_self];done|exact lf ‹_› (by simp only[*]))|refine aC ?_ (by repeat' first|exact lr _|assumption|refine ls ?_ ?_|refine lt ?_ ?_|simp only[*];done|simp only[fb, *,not_false_eq_true,and_self];done|exact lf ‹_› (by simp only[*]))|simp -dsimp only[↓bp,bq,br,seval,lW, *]|refine wz ?_|fail)
    exact aE (σ.setBox rb (bR st')) hfin ⟨i,sl,rfl,hS,rfl,rfl⟩
end
end Go.Proofs.YthoenjlenkpnnaaDoor
