/- The reference's copies, and what it puts together, parts, and makes of a text. -/
import Derived.Test.YtdhbdhopnpmboaaGreatDoorZ12
import Derived.Test.YtdhbdhopnpmboaaGreatDoorZ14
import Derived.Test.YtdhbdhopnpmboaaGreatDoorZ15
import Derived.Test.YtdhbdhopnpmboaaGreatDoorZ11
import Derived.Test.YtdhbdhopnpmboaaGreatDoorZ13
import Derived.Test.YtdhbdhopnpmboaaGreatDoorZ07
set_option linter.unusedVariables false
set_option linter.unusedSimpArgs false
set_option maxRecDepth 20000
set_option linter.defProp false
namespace Go.Proofs.YtdhbdhopnpmboaaGreatDoor
open Go Go.Av
section
def iW:=And.intro (And.intro (And.intro (And.intro @jD (And.intro @iZ @jJ)) (And.intro (And.intro @eG @qI) (And.intro @tf2 @lU))) (And.intro (And.intro (And.intro @jE @dL) (And.intro @eN @dV)) (And.intro (And.intro @eD @qJ) (And.intro @aA.flat_enc @aA.isv_enc)))) (And.intro (And.intro (And.intro (And.intro @aA.fold_enc @aS) (And.intro @aN @aU)) (And.intro (And.intro @bW @bG) (And.intro @aQ @aM))) (And.intro (And.intro (And.intro @aZ @cH) (And.intro @bQ @bB)) (And.intro (And.intro @gP @iJ) (And.intro @gO @gQ))))
variable (G:Nat ->AV)
theorem fE(t:aA){vl vk vt:AV}(h1:Le vl (bD t.limbs))(h2:Le vk (aH t.items))(h3:Le vt (aH t.tail)):Le (.agg [.int .u8 t.knd, .bool t.neg,vl, .str t.text, .int .i64 t.num,vk,vt]) t.enc:=by
 rw[<- aA.fold_enc t]
 refine Le.agg ?_ (fun d hd=>ones t d (by rw[aA.flat_enc];exact hd))
 exact .cons (Le.refl _) (.cons (Le.refl _) (.cons h1 (.cons (Le.refl _) (.cons (Le.refl _) (.cons h2 (.cons h3 .nil))))))
theorem tI(l:List aA)(hl:l.length <=1000000000)(hf:∀ x,x ∈ l ->aB Tryz.prog G 63 [x.enc] x.enc):aB Tryz.prog G 64 [aH l] (aH l):=by
 refine aB.of_le fun σ=> ?_
 refine aJ.of_awp mixed Tryz.func64 rfl (by kernel_rfl) (by kernel_rfl) (by simp[Tryz.ntmps64]) Tryz.results64 ?_
 simp -dsimp only[↓bp,bq,br,seval,iW]
 refine aI (fun n e σ'=>∃ i:Nat,i <=(l).length /\ n=(l).length - i /\ e 4= .int .i64 i /\ ∃ v,e 3=v /\ kL 7 σ σ' v ((l.take i).map aA.enc)) (l).length
   ⟨0,by omega,by omega,by simp -dsimp only[↓bp,bq,br,seval,iW];first|done|rfl,⟨.nil,by first|(simp -dsimp only[↓bp,bq,br,seval,iW];done)|(simp -dsimp only[↓bp,bq,br,seval,iW];try rfl), .nil (AS.le.refl σ)⟩⟩ ?_
 rintro n v σ' ⟨i,hi,rfl,h4,⟨v3,h3,hB⟩⟩
 simp -dsimp only[↓bp,bq,br,seval,iW]at h4 h3
 simp -dsimp only[↓bp,bq,br,seval,iW,h4,h3]
 refine cG (fun hlt=> ?_) (fun hge=> ?_)
 ·obtain⟨k,hk⟩:∃ k,l[i]? =some k:=⟨_,List.getElem?_eq_getElem (by omega)⟩
  have hp:=hf k (List.mem_of_getElem? hk)
  have hil:i < l.length:=(List.getElem?_eq_some_iff.1 hk).1
  have hlen:(l.take i).length=i:=by rw[List.length_take];omega
  clear hi hlt hf
  repeat'(first|refine xs ?_ ?_ <;>intros|(refine wn ?_;intro bx hbx;try simp only[fb]at hbx)|refine wp hp ?_|(refine eK tW (aA.isv_enc k) (by rw[k.flat_enc];rfl) (by omega) ?_)|(refine iH (ys:=[k.enc]) (hB.newBox (by first|assumption|(simp only[*];done)) _) tW (bJ tfE) (fun a ha=>by simp at ha;subst ha;rw[k.flat_enc];rfl) (by simp;omega) (fun v3 σ3 hB4 hx4=> ?_))|(refine iH (ys:=[k.enc]) hB tW (bJ tfE) (fun a ha=>by simp at ha;subst ha;rw[k.flat_enc];rfl) (by simp;omega) (fun v3 σ3 hB4 hx4=> ?_))|refine wj ?_|simp -dsimp only[↓bp,bq,br,seval,iW, *]|refine wz ?_|fail)
  all_goals exact⟨l.length - (i+1),by omega,i+1,by omega,rfl,by rw[aC (by omega) (by omega)];rfl,by rw[aW _ _ _ hk,List.map_append];exact hB4⟩
 ·have:i=l.length:=by omega
  subst this
  rw[List.take_length]at hB
  clear hi hge hf
  repeat'(first|refine xs ?_ ?_ <;>intros|(refine wn ?_;intro bx hbx;try simp only[fb]at hbx)|refine wj ?_|simp -dsimp only[↓bp,bq,br,seval,iW, *]|refine wz ?_|fail)
  exact aL hB.told hB.le
theorem qE(t:aA):t.bulk <=1000000000 ->aB Tryz.prog G 63 [t.enc] t.enc:=by
 refine aA.ind (P:=fun t=>t.bulk <=1000000000 ->aB Tryz.prog G 63 [t.enc] t.enc) (fun t ih1 ih2 hb=> ?_) t
 have h1:=tI G t.items (by have:=cA t;omega) (fun x hx=>ih1 x hx (by have:=dJ hx;omega))
 have h2:=tI G t.tail (by have:=dD t;omega) (fun x hx=>ih2 x hx (by have:=dK hx;omega))
 have hll:=cQ t
 clear ih1 ih2
 refine aB.of_le fun σ=> ?_
 refine aJ.of_awp mixed Tryz.func63 rfl (by kernel_rfl) (by kernel_rfl) (by simp[Tryz.ntmps63]) Tryz.results63 ?_
 repeat'(first|refine xs ?_ ?_ <;>intros|(refine wn ?_;intro bx hbx;try simp only[fb]at hbx)|refine wp h1 ?_|refine wp h2 ?_|((refine yG (ys:=t.limbs.map bC) (AS.le.refl _) (fun a ha=>by cases ha) tfL (bJ wJ) (fun a ha=>by obtain⟨y,_,rfl⟩:=List.mem_map.1 ha;rfl) (by simp;omega) (fun v3 σ3 hle3 hbx3 hl3 ho3=> ?_);obtain⟨q1,q2⟩:=lO ho3))|refine wj ?_|simp -dsimp only[↓bp,bq,br,seval,iW, *]|refine wz ?_|fail)
 rename_i b0 hb0
 have y0:σ.box bx=none:=hbx.1.1
 have l3:=(((AS.le.refl σ).setBox hb0.1 _).setBox y0 _).trans hle3
 exact aL (fE t (by simpa [bD] using hl3) (Le.refl _) (Le.refl _)) ((l3.setBox hb0.1 _).setBox y0 _)
theorem rZ(l:List aA)(hb:aV l <=1000000000):aB Tryz.prog G 64 [aH l] (aH l):=tI G l (by have:=dY l;omega) fun x hx=>qE G x (by have:=eQ hx;omega)
set_option maxHeartbeats 2000000 in
theorem C0n(h t:aA)(hh:h.bulk <=300000000)(ht:t.bulk <=300000000):aB Tryz.prog G 24 [h.enc,t.enc] (cons h t).enc:=by
 have rh:=gD G h (by omega)
 have rt:=gD G t (by omega)
 have c1:=qE G h (by omega)
 have c2:=qE G t (by omega)
 have hbt:=t.bulk_eq
 refine aB.of_le fun σ=> ?_
 cases eh:right h with
 | false=>
  rw[rO (by simp[eh])]
  rw[eh]at rh
  refine aJ.of_awp mixed Tryz.func24 rfl (by kernel_rfl) (by kernel_rfl) (by simp[Tryz.ntmps24]) Tryz.results24 ?_
  repeat'(first|refine xs ?_ ?_ <;>intros|(refine wn ?_;intro bx hbx;try simp only[fb]at hbx)|refine wp rh ?_|refine wp rt ?_|refine wj ?_|simp -dsimp only[↓bp,bq,br,seval,iW, *]|refine wz ?_|fail)
  exact aL (gT 0 false [] 0) (by repeat' first|exact lr _|assumption|refine ls ?_ ?_|refine lt ?_ ?_|simp only[*];done|simp only[fb, *,not_false_eq_true,and_self];done|exact lf ‹_› (by simp only[*]))
 | true=>cases et:right t with
  | false=>
   rw[rO (by simp[et])]
   rw[eh]at rh
   rw[et]at rt
   refine aJ.of_awp mixed Tryz.func24 rfl (by kernel_rfl) (by kernel_rfl) (by simp[Tryz.ntmps24]) Tryz.results24 ?_
   repeat'(first|refine xs ?_ ?_ <;>intros|(refine wn ?_;intro bx hbx;try simp only[fb]at hbx)|refine wp rh ?_|refine wp rt ?_|refine wj ?_|simp -dsimp only[↓bp,bq,br,seval,iW, *]|refine wz ?_|fail)
   exact aL (gT 0 false [] 0) (by repeat' first|exact lr _|assumption|refine ls ?_ ?_|refine lt ?_ ?_|simp only[*];done|simp only[fb, *,not_false_eq_true,and_self];done|exact lf ‹_› (by simp only[*]))
  | true=>
   rw[eh]at rh
   rw[et]at rt
   by_cases h7:t.knd=7
   ·have hc0:fH h t=bA (h::t.items) t.tail:=by unfold fH;rw[if_pos h7]
    have c3:=rZ G t.items (by omega)
    have c4:=rZ G t.tail (by omega)
    have r1:=gD G (fH h t) (by have:=pM h t;omega)
    have r2:∀ v,Le v (aH (h::t.items)) ->aB Tryz.prog G 15 [.agg [.int .u8 7, .bool false, .nil, .str [], .int .i64 0,v,aH t.tail]] (.bool (right (fH h t))):=fun v hv=>r1.lessArgs (.cons (by rw[hc0];exact fE (bA _ _) Le.nil hv (Le.refl _)) .nil)
    have k7:=eq_true h7
    clear h7 r1
    have hli:=cA t
    cases er:right (fH h t)with
    | false=>
     have e:cons h t=cN:=by unfold cons;rw[if_neg (by simp[er])]
     rw[e]
     rw[er]at r2
     refine aJ.of_awp mixed Tryz.func24 rfl (by kernel_rfl) (by kernel_rfl) (by simp[Tryz.ntmps24]) Tryz.results24 ?_
     repeat'(first|refine xs ?_ ?_ <;>intros|(refine wn ?_;intro bx hbx;try simp only[fb]at hbx)|refine wp rh ?_|refine wp rt ?_|refine wp c1 ?_|refine wp c3 ?_|refine wp c4 ?_|(refine eK tW (aA.isv_enc h) (by rw[aA.flat_enc];rfl) (by omega) ?_)|((refine yG (ys:=t.items.map aA.enc) (AS.le.refl _) (fun a ha=>by simp at ha;subst ha;rw[aA.flat_enc];rfl) tW (bJ tfE) (fun a ha=>by obtain⟨y,_,rfl⟩:=List.mem_map.1 ha;rw[aA.flat_enc];rfl) (by simp;omega) (fun v3 σ3 hle3 hbx3 hl3 ho3=> ?_);obtain⟨q1,q2⟩:=lO ho3;have r3:=r2 v3 hl3))|refine wp r3 ?_|refine wj ?_|simp -dsimp only[↓bp,bq,br,seval,iW, *]|refine wz ?_|fail)
     rename_i b0 hb0 b1 hb1 b2 hb2
     have y0:σ.box b0=none:=hb0.1
     have y1:σ.box b1=none:=hb1.1.1
     have y2:σ.box b2=none:=hb2.1.1.1
     have y3:σ.box bx=none:=hbx.1.1.1.1
     have l3:=(((((AS.le.refl σ).setBox y0 _).setBox y1 _).setBox y2 _).setBox y3 _).trans hle3
     exact aL (gT 0 false [] 0) ((l3.setBox y3 _).setBox y2 _)
    | true=>
     have e:cons h t=bA (h::t.items) t.tail:=by unfold cons;rw[if_pos ⟨eh,et,er⟩,hc0]
     rw[e]
     rw[er]at r2
     refine aJ.of_awp mixed Tryz.func24 rfl (by kernel_rfl) (by kernel_rfl) (by simp[Tryz.ntmps24]) Tryz.results24 ?_
     repeat'(first|refine xs ?_ ?_ <;>intros|(refine wn ?_;intro bx hbx;try simp only[fb]at hbx)|refine wp rh ?_|refine wp rt ?_|refine wp c1 ?_|refine wp c3 ?_|refine wp c4 ?_|(refine eK tW (aA.isv_enc h) (by rw[aA.flat_enc];rfl) (by omega) ?_)|((refine yG (ys:=t.items.map aA.enc) (AS.le.refl _) (fun a ha=>by simp at ha;subst ha;rw[aA.flat_enc];rfl) tW (bJ tfE) (fun a ha=>by obtain⟨y,_,rfl⟩:=List.mem_map.1 ha;rw[aA.flat_enc];rfl) (by simp;omega) (fun v3 σ3 hle3 hbx3 hl3 ho3=> ?_);obtain⟨q1,q2⟩:=lO ho3;have r3:=r2 v3 hl3))|refine wp r3 ?_|refine wj ?_|simp -dsimp only[↓bp,bq,br,seval,iW, *]|refine wz ?_|fail)
     rename_i b0 hb0 b1 hb1 b2 hb2
     have y0:σ.box b0=none:=hb0.1
     have y1:σ.box b1=none:=hb1.1.1
     have y2:σ.box b2=none:=hb2.1.1.1
     have y3:σ.box bx=none:=hbx.1.1.1.1
     have l3:=(((((AS.le.refl σ).setBox y0 _).setBox y1 _).setBox y2 _).setBox y3 _).trans hle3
     exact aL (fE (bA _ _) Le.nil hl3 (Le.refl _)) ((l3.setBox y3 _).setBox y2 _)
   ·have hc0:fH h t=bA [h] [t]:=by unfold fH;rw[if_neg h7]
    have r1:=gD G (fH h t) (by have:=pM h t;omega)
    have r2:aB Tryz.prog G 15 [.agg [.int .u8 7, .bool false, .nil, .str [], .int .i64 0, .sl .full [h.enc] [], .sl .full [t.enc] []]] (.bool (right (fH h t))):=r1.lessArgs (.cons (by rw[hc0];exact fE (bA _ _) Le.nil Le.gh Le.gh) .nil)
    have k7:=eq_false h7
    clear h7 r1
    cases er:right (fH h t)with
    | false=>
     have e:cons h t=cN:=by unfold cons;rw[if_neg (by simp[er])]
     rw[e]
     rw[er]at r2
     refine aJ.of_awp mixed Tryz.func24 rfl (by kernel_rfl) (by kernel_rfl) (by simp[Tryz.ntmps24]) Tryz.results24 ?_
     repeat'(first|refine xs ?_ ?_ <;>intros|(refine wn ?_;intro bx hbx;try simp only[fb]at hbx)|refine wp rh ?_|refine wp rt ?_|refine wp c1 ?_|refine wp c2 ?_|(refine eK tW (aA.isv_enc h) (by rw[aA.flat_enc];rfl) (by omega) ?_)|(refine eK tW (aA.isv_enc t) (by rw[aA.flat_enc];rfl) (by omega) ?_)|refine wp r2 ?_|refine wj ?_|simp -dsimp only[↓bp,bq,br,seval,iW, *]|refine wz ?_|fail)
     exact aL (gT 0 false [] 0) (by repeat' first|exact lr _|assumption|refine ls ?_ ?_|refine lt ?_ ?_|simp only[*];done|simp only[fb, *,not_false_eq_true,and_self];done|exact lf ‹_› (by simp only[*]))
    | true=>
     have e:cons h t=bA [h] [t]:=by unfold cons;rw[if_pos ⟨eh,et,er⟩,hc0]
     rw[e]
     rw[er]at r2
     refine aJ.of_awp mixed Tryz.func24 rfl (by kernel_rfl) (by kernel_rfl) (by simp[Tryz.ntmps24]) Tryz.results24 ?_
     repeat'(first|refine xs ?_ ?_ <;>intros|(refine wn ?_;intro bx hbx;try simp only[fb]at hbx)|refine wp rh ?_|refine wp rt ?_|refine wp c1 ?_|refine wp c2 ?_|(refine eK tW (aA.isv_enc h) (by rw[aA.flat_enc];rfl) (by omega) ?_)|(refine eK tW (aA.isv_enc t) (by rw[aA.flat_enc];rfl) (by omega) ?_)|refine wp r2 ?_|refine wj ?_|simp -dsimp only[↓bp,bq,br,seval,iW, *]|refine wz ?_|fail)
     exact aL (fE (bA _ _) Le.nil Le.gh Le.gh) (by repeat' first|exact lr _|assumption|refine ls ?_ ?_|refine lt ?_ ?_|simp only[*];done|simp only[fb, *,not_false_eq_true,and_self];done|exact lf ‹_› (by simp only[*]))
end
set_option maxRecDepth 20000
section
def jM:=And.intro (And.intro (And.intro (And.intro @jD (And.intro @iZ @jJ)) (And.intro @eG (And.intro @jE @sE))) (And.intro (And.intro @dL (And.intro @eN @dV)) (And.intro @eD (And.intro @qJ @aA.flat_enc)))) (And.intro (And.intro (And.intro @aA.isv_enc (And.intro @aA.fold_enc @aS)) (And.intro @aN (And.intro @aU @bW))) (And.intro (And.intro @bG (And.intro @aQ @aM)) (And.intro (And.intro @aZ @cH) (And.intro @bQ @bB))))
variable (G:Nat ->AV)
def mR(n:Nat):aA:= .mk 1 false [UInt32.ofNat n] [] 0 [] []
theorem         fB (n : Nat) (hn : n < 256):aB Tryz.prog G 31 [.int .u32 n] (mR n).enc:=by
 refine aB.of_le fun σ=> ?_
 have e1:(UInt32.ofNat n).toNat=n:=by simp;omega
 refine aJ.of_awp mixed Tryz.func31 rfl (by kernel_rfl) (by kernel_rfl) (by simp[Tryz.ntmps31]) Tryz.results31 ?_
 repeat'(first|refine xs ?_ ?_ <;>intros|(refine wn ?_;intro bx hbx;try simp only[fb]at hbx)|refine wj ?_|simp -dsimp only[↓bp,bq,br,seval,jM, *]|refine wz ?_|fail)
 exact        aL      (fE     (mR n) (by have:bD (mR n).limbs= .sl .none [.int .u32 n] []:=by simp only[mR,aA.limbs,bD,List.map_cons,List.map_nil,bC,e1]
                                         rw[this];exact Le.gh) Le.nil Le.nil) (by repeat' first|exact lr _|assumption|refine ls ?_ ?_|refine lt ?_ ?_|simp only[*];done|simp only[fb, *,not_false_eq_true,and_self];done|exact lf ‹_› (by simp only[*]))
theorem gC(l:List aA)(v:AV)(hv:Le v (aH l))(h1:Av.one v=true):aB Tryz.prog G 33 [v] (bA l []).enc:=by
 obtain⟨q1,q2⟩:=lO h1
 refine aB.of_le fun σ=> ?_
 refine aJ.of_awp mixed Tryz.func33 rfl (by kernel_rfl) (by kernel_rfl) (by simp[Tryz.ntmps33]) Tryz.results33 ?_
 repeat'(first|refine xs ?_ ?_ <;>intros|(refine wn ?_;intro bx hbx;try simp only[fb]at hbx)|refine wj ?_|simp -dsimp only[↓bp,bq,br,seval,jM, *]|refine wz ?_|fail)
 exact aL (fE (bA l []) Le.nil hv Le.nil) (by repeat' first|exact lr _|assumption|refine ls ?_ ?_|refine lt ?_ ?_|simp only[*];done|simp only[fb, *,not_false_eq_true,and_self];done|exact lf ‹_› (by simp only[*]))
theorem D4z:Le (.sl .full [.agg [.int .u8 0, .bool false, .nil, .str [], .int .i64 0, .nil, .nil]] []) (aH [cN]):=by
 have e:LeE (.agg [.int .u8 0, .bool false, .nil, .str [], .int .i64 0, .nil, .nil]) cN.enc:=by
  rw[<- aA.fold_enc cN]
  exact LeE.agg (.cons (Le.refl _) (.cons (Le.refl _) (.cons Le.nil (.cons (Le.refl _) (.cons (Le.refl _) (.cons Le.nil (.cons Le.nil .nil))))))) (fun d hd=>ones cN d (by rw[aA.flat_enc];exact hd))
 exact Le.trans Le.gh (Le.sl (.cons e .nil))
theorem E2c(t:aA)(kc:aB Tryz.prog G 66 [t.enc] t.enc):aB Tryz.prog G 27 [t.enc, .int .i64 0] (aA.enc (.mk (0) (t.neg) (t.limbs) (t.text) (t.num) (t.items) (t.tail))):=by
 have w1:=fB G 1 (by omega)
 have l0:=gC G [] .nil Le.nil rfl
 refine aB.of_le fun σ=> ?_
 refine aJ.of_awp mixed Tryz.func27 rfl (by kernel_rfl) (by kernel_rfl) (by simp[Tryz.ntmps27]) Tryz.results27 ?_
 repeat'(first|refine xs ?_ ?_ <;>intros|(refine wn ?_;intro bx hbx;try simp only[fb]at hbx)|refine wp kc ?_|refine wj ?_|simp -dsimp only[↓bp,bq,br,seval,jM, *]|refine wz ?_|fail)
 exact aL (fE (.mk (0) (t.neg) (t.limbs) (t.text) (t.num) (t.items) (t.tail)) (Le.refl _) (Le.refl _) (Le.refl _)) (by repeat' first|exact lr _|assumption|refine ls ?_ ?_|refine lt ?_ ?_|simp only[*];done|simp only[fb, *,not_false_eq_true,and_self];done|exact lf ‹_› (by simp only[*]))
theorem E2d(t:aA)(kc:aB Tryz.prog G 66 [t.enc] t.enc):aB Tryz.prog G 27 [t.enc, .int .i64 1] (aA.enc (.mk (8) (t.neg) (t.limbs) (t.text) (t.num) (t.items) (t.tail))):=by
 have w1:=fB G 1 (by omega)
 have l0:=gC G [] .nil Le.nil rfl
 refine aB.of_le fun σ=> ?_
 refine aJ.of_awp mixed Tryz.func27 rfl (by kernel_rfl) (by kernel_rfl) (by simp[Tryz.ntmps27]) Tryz.results27 ?_
 repeat'(first|refine xs ?_ ?_ <;>intros|(refine wn ?_;intro bx hbx;try simp only[fb]at hbx)|refine wp kc ?_|refine wj ?_|simp -dsimp only[↓bp,bq,br,seval,jM, *]|refine wz ?_|fail)
 exact aL (fE (.mk (8) (t.neg) (t.limbs) (t.text) (t.num) (t.items) (t.tail)) (Le.refl _) (Le.refl _) (Le.refl _)) (by repeat' first|exact lr _|assumption|refine ls ?_ ?_|refine lt ?_ ?_|simp only[*];done|simp only[fb, *,not_false_eq_true,and_self];done|exact lf ‹_› (by simp only[*]))
theorem E2e(t:aA)(kc:aB Tryz.prog G 66 [t.enc] t.enc):aB Tryz.prog G 27 [t.enc, .int .i64 2] (aA.enc (.mk (t.kind) (t.neg) (t.limbs) (t.text) (-1) (t.items) (t.tail))):=by
 have w1:=fB G 1 (by omega)
 have l0:=gC G [] .nil Le.nil rfl
 refine aB.of_le fun σ=> ?_
 refine aJ.of_awp mixed Tryz.func27 rfl (by kernel_rfl) (by kernel_rfl) (by simp[Tryz.ntmps27]) Tryz.results27 ?_
 repeat'(first|refine xs ?_ ?_ <;>intros|(refine wn ?_;intro bx hbx;try simp only[fb]at hbx)|refine wp kc ?_|refine wj ?_|simp -dsimp only[↓bp,bq,br,seval,jM, *]|refine wz ?_|fail)
 exact aL (fE (.mk (t.kind) (t.neg) (t.limbs) (t.text) (-1) (t.items) (t.tail)) (Le.refl _) (Le.refl _) (Le.refl _)) (by repeat' first|exact lr _|assumption|refine ls ?_ ?_|refine lt ?_ ?_|simp only[*];done|simp only[fb, *,not_false_eq_true,and_self];done|exact lf ‹_› (by simp only[*]))
theorem E2f(t:aA)(kc:aB Tryz.prog G 66 [t.enc] t.enc):aB Tryz.prog G 27 [t.enc, .int .i64 3] (aA.enc (.mk (t.kind) (t.neg) (t.limbs) (t.text) (1099511627777) (t.items) (t.tail))):=by
 have w1:=fB G 1 (by omega)
 have l0:=gC G [] .nil Le.nil rfl
 refine aB.of_le fun σ=> ?_
 refine aJ.of_awp mixed Tryz.func27 rfl (by kernel_rfl) (by kernel_rfl) (by simp[Tryz.ntmps27]) Tryz.results27 ?_
 repeat'(first|refine xs ?_ ?_ <;>intros|(refine wn ?_;intro bx hbx;try simp only[fb]at hbx)|refine wp kc ?_|refine wj ?_|simp -dsimp only[↓bp,bq,br,seval,jM, *]|refine wz ?_|fail)
 exact aL (fE (.mk (t.kind) (t.neg) (t.limbs) (t.text) (1099511627777) (t.items) (t.tail)) (Le.refl _) (Le.refl _) (Le.refl _)) (by repeat' first|exact lr _|assumption|refine ls ?_ ?_|refine lt ?_ ?_|simp only[*];done|simp only[fb, *,not_false_eq_true,and_self];done|exact lf ‹_› (by simp only[*]))
theorem E2g(t:aA)(kc:aB Tryz.prog G 66 [t.enc] t.enc):aB Tryz.prog G 27 [t.enc, .int .i64 4] (aA.enc (.mk (t.kind) (t.neg) (t.limbs) (t.text) (16385) (t.items) (t.tail))):=by
 have w1:=fB G 1 (by omega)
 have l0:=gC G [] .nil Le.nil rfl
 refine aB.of_le fun σ=> ?_
 refine aJ.of_awp mixed Tryz.func27 rfl (by kernel_rfl) (by kernel_rfl) (by simp[Tryz.ntmps27]) Tryz.results27 ?_
 repeat'(first|refine xs ?_ ?_ <;>intros|(refine wn ?_;intro bx hbx;try simp only[fb]at hbx)|refine wp kc ?_|refine wj ?_|simp -dsimp only[↓bp,bq,br,seval,jM, *]|refine wz ?_|fail)
 exact aL (fE (.mk (t.kind) (t.neg) (t.limbs) (t.text) (16385) (t.items) (t.tail)) (Le.refl _) (Le.refl _) (Le.refl _)) (by repeat' first|exact lr _|assumption|refine ls ?_ ?_|refine lt ?_ ?_|simp only[*];done|simp only[fb, *,not_false_eq_true,and_self];done|exact lf ‹_› (by simp only[*]))
theorem E2h(t:aA)(kc:aB Tryz.prog G 66 [t.enc] t.enc):aB Tryz.prog G 27 [t.enc, .int .i64 5] (aA.enc (.mk (t.kind) (t.neg) (t.limbs) ([120]) (t.num) (t.items) (t.tail))):=by
 have w1:=fB G 1 (by omega)
 have l0:=gC G [] .nil Le.nil rfl
 refine aB.of_le fun σ=> ?_
 refine aJ.of_awp mixed Tryz.func27 rfl (by kernel_rfl) (by kernel_rfl) (by simp[Tryz.ntmps27]) Tryz.results27 ?_
 repeat'(first|refine xs ?_ ?_ <;>intros|(refine wn ?_;intro bx hbx;try simp only[fb]at hbx)|refine wp kc ?_|refine wj ?_|simp -dsimp only[↓bp,bq,br,seval,jM, *]|refine wz ?_|fail)
 exact aL (fE (.mk (t.kind) (t.neg) (t.limbs) ([120]) (t.num) (t.items) (t.tail)) (Le.refl _) (Le.refl _) (Le.refl _)) (by repeat' first|exact lr _|assumption|refine ls ?_ ?_|refine lt ?_ ?_|simp only[*];done|simp only[fb, *,not_false_eq_true,and_self];done|exact lf ‹_› (by simp only[*]))
theorem E2i(t:aA)(kc:aB Tryz.prog G 66 [t.enc] t.enc):aB Tryz.prog G 27 [t.enc, .int .i64 6] (aA.enc (.mk (t.kind) (true) (t.limbs) (t.text) (t.num) (t.items) (t.tail))):=by
 have w1:=fB G 1 (by omega)
 have l0:=gC G [] .nil Le.nil rfl
 refine aB.of_le fun σ=> ?_
 refine aJ.of_awp mixed Tryz.func27 rfl (by kernel_rfl) (by kernel_rfl) (by simp[Tryz.ntmps27]) Tryz.results27 ?_
 repeat'(first|refine xs ?_ ?_ <;>intros|(refine wn ?_;intro bx hbx;try simp only[fb]at hbx)|refine wp kc ?_|refine wj ?_|simp -dsimp only[↓bp,bq,br,seval,jM, *]|refine wz ?_|fail)
 exact aL (fE (.mk (t.kind) (true) (t.limbs) (t.text) (t.num) (t.items) (t.tail)) (Le.refl _) (Le.refl _) (Le.refl _)) (by repeat' first|exact lr _|assumption|refine ls ?_ ?_|refine lt ?_ ?_|simp only[*];done|simp only[fb, *,not_false_eq_true,and_self];done|exact lf ‹_› (by simp only[*]))
theorem D5t(t:aA)(kc:aB Tryz.prog G 66 [t.enc] t.enc):aB Tryz.prog G 27 [t.enc, .int .i64 10] (aA.enc (.mk (t.kind) (t.neg) (t.limbs) (t.text) (t.num) (t.items) ([mR 1]))):=by
 have w1:=fB G 1 (by omega)
 have l0:=gC G [] .nil Le.nil rfl
 refine aB.of_le fun σ=> ?_
 refine aJ.of_awp mixed Tryz.func27 rfl (by kernel_rfl) (by kernel_rfl) (by simp[Tryz.ntmps27]) Tryz.results27 ?_
 repeat'(first|refine xs ?_ ?_ <;>intros|(refine wn ?_;intro bx hbx;try simp only[fb]at hbx)|refine wp kc ?_|refine wp w1 ?_|refine wj ?_|simp -dsimp only[↓bp,bq,br,seval,jM, *]|refine wz ?_|fail)
 exact aL (fE (.mk (t.kind) (t.neg) (t.limbs) (t.text) (t.num) (t.items) ([mR 1])) (Le.refl _) (Le.refl _) Le.gh) (by repeat' first|exact lr _|assumption|refine ls ?_ ?_|refine lt ?_ ?_|simp only[*];done|simp only[fb, *,not_false_eq_true,and_self];done|exact lf ‹_› (by simp only[*]))
theorem D5u(t:aA)(kc:aB Tryz.prog G 66 [t.enc] t.enc):aB Tryz.prog G 27 [t.enc, .int .i64 11] (aA.enc (.mk (t.kind) (t.neg) (t.limbs) (t.text) (t.num) (t.items) ([bA [] []]))):=by
 have w1:=fB G 1 (by omega)
 have l0:=gC G [] .nil Le.nil rfl
 refine aB.of_le fun σ=> ?_
 refine aJ.of_awp mixed Tryz.func27 rfl (by kernel_rfl) (by kernel_rfl) (by simp[Tryz.ntmps27]) Tryz.results27 ?_
 repeat'(first|refine xs ?_ ?_ <;>intros|(refine wn ?_;intro bx hbx;try simp only[fb]at hbx)|refine wp kc ?_|refine wp l0 ?_|refine wj ?_|simp -dsimp only[↓bp,bq,br,seval,jM, *]|refine wz ?_|fail)
 exact aL (fE (.mk (t.kind) (t.neg) (t.limbs) (t.text) (t.num) (t.items) ([bA [] []])) (Le.refl _) (Le.refl _) Le.gh) (by repeat' first|exact lr _|assumption|refine ls ?_ ?_|refine lt ?_ ?_|simp only[*];done|simp only[fb, *,not_false_eq_true,and_self];done|exact lf ‹_› (by simp only[*]))
theorem D5v(t:aA)(kc:aB Tryz.prog G 66 [t.enc] t.enc):aB Tryz.prog G 27 [t.enc, .int .i64 12] (aA.enc (.mk (t.kind) (t.neg) (t.limbs) (t.text) (t.num) (t.items) ([mR 1,mR 1]))):=by
 have w1:=fB G 1 (by omega)
 have l0:=gC G [] .nil Le.nil rfl
 refine aB.of_le fun σ=> ?_
 refine aJ.of_awp mixed Tryz.func27 rfl (by kernel_rfl) (by kernel_rfl) (by simp[Tryz.ntmps27]) Tryz.results27 ?_
 repeat'(first|refine xs ?_ ?_ <;>intros|(refine wn ?_;intro bx hbx;try simp only[fb]at hbx)|refine wp kc ?_|refine wp w1 ?_|refine wj ?_|simp -dsimp only[↓bp,bq,br,seval,jM, *]|refine wz ?_|fail)
 exact aL (fE (.mk (t.kind) (t.neg) (t.limbs) (t.text) (t.num) (t.items) ([mR 1,mR 1])) (Le.refl _) (Le.refl _) Le.gh) (by repeat' first|exact lr _|assumption|refine ls ?_ ?_|refine lt ?_ ?_|simp only[*];done|simp only[fb, *,not_false_eq_true,and_self];done|exact lf ‹_› (by simp only[*]))
theorem D5w(t:aA)(kc:aB Tryz.prog G 66 [t.enc] t.enc):aB Tryz.prog G 27 [t.enc, .int .i64 13] (aA.enc (.mk (t.kind) (t.neg) (t.limbs) (t.text) (t.num) (t.items) ([cN]))):=by
 have w1:=fB G 1 (by omega)
 have l0:=gC G [] .nil Le.nil rfl
 refine aB.of_le fun σ=> ?_
 refine aJ.of_awp mixed Tryz.func27 rfl (by kernel_rfl) (by kernel_rfl) (by simp[Tryz.ntmps27]) Tryz.results27 ?_
 repeat'(first|refine xs ?_ ?_ <;>intros|(refine wn ?_;intro bx hbx;try simp only[fb]at hbx)|refine wp kc ?_|refine wj ?_|simp -dsimp only[↓bp,bq,br,seval,jM, *]|refine wz ?_|fail)
 exact aL (fE (.mk (t.kind) (t.neg) (t.limbs) (t.text) (t.num) (t.items) ([cN])) (Le.refl _) (Le.refl _) D4z) (by repeat' first|exact lr _|assumption|refine ls ?_ ?_|refine lt ?_ ?_|simp only[*];done|simp only[fb, *,not_false_eq_true,and_self];done|exact lf ‹_› (by simp only[*]))
theorem D5z(t:aA)(kc:aB Tryz.prog G 66 [t.enc] t.enc):aB Tryz.prog G 27 [t.enc, .int .i64 16] (aA.enc (.mk (t.kind) (t.neg) (t.limbs) (t.text) (1) (t.items) (t.tail))):=by
 have w1:=fB G 1 (by omega)
 have l0:=gC G [] .nil Le.nil rfl
 refine aB.of_le fun σ=> ?_
 refine aJ.of_awp mixed Tryz.func27 rfl (by kernel_rfl) (by kernel_rfl) (by simp[Tryz.ntmps27]) Tryz.results27 ?_
 repeat'(first|refine xs ?_ ?_ <;>intros|(refine wn ?_;intro bx hbx;try simp only[fb]at hbx)|refine wp kc ?_|refine wj ?_|simp -dsimp only[↓bp,bq,br,seval,jM, *]|refine wz ?_|fail)
 exact aL (fE (.mk (t.kind) (t.neg) (t.limbs) (t.text) (1) (t.items) (t.tail)) (Le.refl _) (Le.refl _) (Le.refl _)) (by repeat' first|exact lr _|assumption|refine ls ?_ ?_|refine lt ?_ ?_|simp only[*];done|simp only[fb, *,not_false_eq_true,and_self];done|exact lf ‹_› (by simp only[*]))
end
set_option maxRecDepth 20000
section
def lP:=And.intro (And.intro (And.intro (And.intro @jD (And.intro @iZ @jJ)) (And.intro @eG (And.intro @jE @sE))) (And.intro (And.intro @dL (And.intro @eN @dV)) (And.intro @eD (And.intro @qJ @aA.flat_enc)))) (And.intro (And.intro (And.intro @aA.isv_enc (And.intro @aA.fold_enc @aS)) (And.intro @aN (And.intro @aU @bW))) (And.intro (And.intro @bG (And.intro @aQ @aM)) (And.intro (And.intro @aZ @cH) (And.intro @bQ @bB))))
variable (G:Nat ->AV)
theorem F1i:dU Tryz.prog 45=some (5,1,1):=sE.2.2.2.2.2.2
theorem E9t:(el Tryz.prog 45).bind (zc Tryz.prog)=some [.int .u8 0]:=by kernel_rfl
theorem E1f:sk Tryz.prog 5= .int .u8:=by kernel_rfl
def E9b(n:Nat):List AV:=(List.replicate n [AV.int .u8 0]).flatten
theorem A5x:∀ n,E9b n=aX (List.replicate n 0)
 |0=>rfl
 | n+1=>by
  have h:=A5x n
  unfold E9b aX at*
  rw[List.replicate_succ,List.flatten_cons,h,List.replicate_succ,List.map_cons]
  rfl
theorem vX(l:List UInt8){n:Nat}(h:l.length=n):cvm .str (some 5) (sk Tryz.prog) (some (aX l)) n 1=some (.str l):=by
 rw[B4i E1f (by rw[<- h];simp[aX]),bU];rfl
structure IsZ(l:List UInt8)(n:Nat):Prop where
 e:l=List.replicate n 0
theorem tC{σ:AS}(n:Nat)(hn:n <=100000){l:List UInt8}(hl:IsZ l n){K:AV ->AS ->Prop}{d:Dum σ}{d':Dum K}(hK:∀ b,σ.fresh b ->K (.bs b n 1 5) (σ.setBox b (aX l))):B5c Tryz.prog σ 45 (.int .i64 n) (.int .i64 n) K d d':=
 rV n F1i E9t (by omega) fun b hb=>by have:=hK b hb;rw[hl.e,<- A5x]at this;exact this
theorem D5x(t:aA)(kc:aB Tryz.prog G 66 [t.enc] t.enc):aB Tryz.prog G 27 [t.enc, .int .i64 14] (aA.enc (.mk (t.kind) (t.neg) (t.limbs) (List.replicate 40 0) (t.num) (t.items) (t.tail))):=by
 refine aB.of_le fun σ=> ?_
 have hR:(List.replicate 40 (0:UInt8)).length=40:=by simp
 have hz:IsZ (List.replicate 40 0) 40:=⟨rfl⟩
 generalize List.replicate 40 (0:UInt8)=R at*
 have hc:=vX R hR
 clear hR
 refine aJ.of_awp mixed Tryz.func27 rfl (by kernel_rfl) (by kernel_rfl) (by simp[Tryz.ntmps27]) Tryz.results27 ?_
 repeat'(first|refine xs ?_ ?_ <;>intros|(refine wn ?_;intro bx hbx;try simp only[fb]at hbx)|refine wp kc ?_|((refine tC 40 (by omega) hz (fun b hb=> ?_);simp only[fb]at hb))|refine wj ?_|simp -dsimp only[↓bp,bq,br,seval,lP,hc, *]|refine wz ?_|fail)
 rename_i b2 hb2
 have y2:σ.box b2=none:=hb2.1
 have y4:σ.box bx=none:=hbx.1.1
 have yb:σ.box b=none:=hb.1.1.1.1
 exact aL (fE (.mk (t.kind) (t.neg) (t.limbs) R (t.num) (t.items) (t.tail)) (Le.refl _) (Le.refl _) (Le.refl _)) (((((((AS.le.refl σ).setBox y2 _).setBox y4 _).setBox y2 _).setBox yb _).setBox y2 _).setBox y4 _)
theorem D5y(t:aA)(kc:aB Tryz.prog G 66 [t.enc] t.enc):aB Tryz.prog G 27 [t.enc, .int .i64 15] (aA.enc (.mk (t.kind) (t.neg) (t.limbs) (List.replicate 41 0) (t.num) (t.items) (t.tail))):=by
 refine aB.of_le fun σ=> ?_
 have hR:(List.replicate 41 (0:UInt8)).length=41:=by simp
 have hz:IsZ (List.replicate 41 0) 41:=⟨rfl⟩
 generalize List.replicate 41 (0:UInt8)=R at*
 have hc:=vX R hR
 clear hR
 refine aJ.of_awp mixed Tryz.func27 rfl (by kernel_rfl) (by kernel_rfl) (by simp[Tryz.ntmps27]) Tryz.results27 ?_
 repeat'(first|refine xs ?_ ?_ <;>intros|(refine wn ?_;intro bx hbx;try simp only[fb]at hbx)|refine wp kc ?_|((refine tC 41 (by omega) hz (fun b hb=> ?_);simp only[fb]at hb))|refine wj ?_|simp -dsimp only[↓bp,bq,br,seval,lP,hc, *]|refine wz ?_|fail)
 rename_i b2 hb2
 have y2:σ.box b2=none:=hb2.1
 have y4:σ.box bx=none:=hbx.1.1
 have yb:σ.box b=none:=hb.1.1.1.1
 exact aL (fE (.mk (t.kind) (t.neg) (t.limbs) R (t.num) (t.items) (t.tail)) (Le.refl _) (Le.refl _) (Le.refl _)) (((((((AS.le.refl σ).setBox y2 _).setBox y4 _).setBox y2 _).setBox yb _).setBox y2 _).setBox y4 _)
def B0k(σ s:AS)(S:List Nat):Prop:=∀ b,b ∈ S ->σ.box b=none /\ σ.tip b=none /\ ∃ z,s.box b=some z
theorem C5u{σ s:AS}{S:List Nat}(hN:B0k σ s S):∀ b,b ∈ S -> (s.minus σ).box b=s.box b:=fun b hb=>by
 obtain⟨h1,h2,z,hz⟩:=hN b hb
 rw[hz]
 exact AS.minus_box hz h1 h2
theorem A5r{σ s:AS}{t:aA}{v:AV}{S:List Nat}(h:cW s false t v S)(hN:B0k σ s S):eI G (s.minus σ) v t.enc:=dT (aK t v S h (C5u hN))
theorem C6d{σ s:AS}{l:List UInt32}{v:AV}{S:List Nat}(h:mZ s false l v S)(hl:σ.le s)(hN:B0k σ s S):fP 1 47 σ s v (l.map bC):=by
 rcases h with⟨_,rfl,rfl,rfl⟩|⟨b,rest,rfl,rfl,hb,rfl⟩
 ·exact .nil hl
 ·have h0:=hN b (by simp)
  have:=fP.row (n:=1) (E:=47) b (l.map bC) hl h0.1 h0.2.1 (by rw[rT];rw[hb];simp[D3c]) (fun a ha=> ⟨yM a ha,by obtain⟨x,_,rfl⟩:=List.mem_map.1 ha;rfl⟩)
  rw[List.length_map]at this
  exact this
theorem B5p{σ:AS}{m:Bool} :∀ (l:List aA) (cs:List AV) (S:List Nat),cF σ m l cs S ->∃ vs:List AV,cs=vs.flatMap flat /\ vs.length=l.length /\ ∀ a,a ∈ vs -> (flat a).length=7 /\ isv a=true
 |[],cs,S,h=>by simp only[cF]at h;exact⟨[],by rw[h.1];rfl,rfl,by simp⟩
 | t::r,cs,S,h=>by
  simp only[cF]at h
  obtain⟨v,c',S1,S2,rfl,rfl,h1,h2⟩:=h
  obtain⟨vs,rfl,hl,hv⟩:=B5p r c' S2 h2
  have hs:=kW h1
  exact⟨v::vs,by simp,by simp[hl],fun a ha=>by
   rcases List.mem_cons.1 ha with rfl|ha
   ·exact⟨hs.1,hs.2.1⟩
   ·exact hv a ha⟩
theorem A9p{σ s:AS}{l:List aA}{v:AV}{S:List Nat}(h:iB s false l v S)(hl:σ.le s)(hN:B0k σ s S)(hd:S.Nodup):∃ vs S',fP 7 26 σ s v vs /\ vs.length=l.length /\ cF s false l (vs.flatMap flat) S' /\ (∀ b,b ∈ S' ->b ∈ S /\ cS v b):=by
 rcases h with⟨_,rfl,rfl,rfl⟩|⟨b,cs,rest,S',rfl,rfl,hb,rfl,hC⟩
 ·exact⟨[],[], .nil hl,rfl,by simp[cF],by simp⟩
 ·obtain⟨vs,rfl,hv,hs⟩:=B5p l cs S' hC
  have h0:=hN b (by simp)
  have:=fP.row (n:=7) (E:=26) b vs hl h0.1 h0.2.1 (by rw[hb];simp[B6g]) hs
  rw[hv]at this
  exact⟨vs,S',this,hv,hC,fun c hc=> ⟨List.mem_cons_of_mem _ hc,fun e=> (List.nodup_cons.1 hd).1 (e ▸ hc)⟩⟩
theorem C0c(l:List UInt32):jU (bD l)=true:=by
 simp only[bD,jU,mI,Bool.and_true]
 exact(iV _).2 fun a ha=>by obtain⟨x,_,rfl⟩:=List.mem_map.1 ha;rfl
theorem tF(t:aA):jU t.enc=true:=by
 refine aA.ind (P:=fun t=>jU t.enc=true) (fun t h1 h2=> ?_) t
 have k:∀ l:List aA,(∀ x,x ∈ l ->jU x.enc=true) ->jU (aH l)=true:=fun l h=>by
  simp only[aH,jU,mI,Bool.and_true]
  exact(iV _).2 fun a ha=>by obtain⟨x,hx,rfl⟩:=List.mem_map.1 ha;exact h x hx
 rw[<- aA.fold_enc t]
 simp only[jU,mI,C0c,k _ h1,k _ h2,Bool.and_true]
theorem uZ{s:AS}{m:Bool}{l:List UInt32}{v:AV}{S:List Nat}(h:mZ s m l v S){c:Nat}(hc:c ∉ S):cS v c:=by
 rcases h with⟨_,_,rfl,_⟩|⟨b,rest,rfl,rfl,_⟩
 ·trivial
 ·exact fun e=>hc (by simp[e])
theorem B5q{s:AS}{m:Bool}{l:List UInt32}{v:AV}{S:List Nat}(h:mZ s m l v S){c:Nat}(hc:c ∈ S): ¬ cS v c:=by
 rcases h with⟨_,_,_,rfl⟩|⟨b,rest,rfl,rfl,_⟩
 ·cases hc
 ·simp at hc;subst hc;exact fun h=>h rfl
theorem lG{s:AS}{m:Bool}{l:List aA}{v:AV}{S:List Nat}(h:iB s m l v S){c:Nat}(hc:c ∉ S):cS v c:=by
 rcases h with⟨_,_,rfl,_⟩|⟨b,cs,rest,S',rfl,rfl,_⟩
 ·trivial
 ·exact fun e=>hc (by simp[e])
theorem B6n{σ s sf:AS}{l:List aA}{x:aA}{v w:AV}{vs:List AV}{S:List Nat}(hB:fP 7 26 σ s v (vs++[w]))(hv:vs.length=l.length)(hC:cF (sf.minus σ) false l (vs.flatMap flat) S)(hw:eW G (sf.minus σ) (flat w) (flat x.enc))(hb:∀ b,¬ cS v b ->sf.box b=s.box b):eI G (sf.minus σ) v (aH (l++[x])):=by
 generalize hg:vs++[w]=ws at hB
 cases hB with
 |nil h=>exact absurd hg (by simp)
 | row b _ h h0 h1 hbx hx=>
  subst hg
  have hbm:(sf.minus σ).box b=some (vs.flatMap flat++flat w):=by
   refine AS.minus_box ?_ h0 h1
   rw[hb b (fun h=>h rfl),hbx,List.flatMap_append,List.flatMap_cons,List.flatMap_nil,List.append_nil]
  have hL:=(uY (G:=G) l _ S (fun t _=>xK t) hC).append hw
  have hlen:=hL.length
  have hR:=eI.row (G:=G) (σ:=sf.minus σ) (b:=b) (s:=7) (E:=26) (cs:=vs.flatMap flat++flat w) (ds:=(l.map aA.enc).flatMap flat++flat x.enc) hbm (by rw[<- hlen,List.take_length];exact hL) (by omega) (xs:=(l++[x]).map aA.enc) (sp:=[]) (by rw[List.append_nil,List.map_append,List.flatMap_append];simp) (by omega) (fun e h=>by
   rw[List.append_nil]at h
   obtain⟨y,_,rfl⟩:=List.mem_map.1 h
   exact⟨by rw[y.flat_enc];rfl,y.isv_enc,ones y⟩)
  have e:((l++[x]).map aA.enc).length=(vs++[w]).length:=by simp[hv]
  rw[e]at hR
  exact hR
theorem C1m{σ:AS} :eW G σ (flat (.agg [.int .u8 0, .bool false, .nil, .str [], .int .i64 0, .nil, .nil])) (flat cN.enc):=by
 rw[aA.flat_enc]
 exact .cons (eI.id _) (.cons (eI.id _) (.cons (eI.le (eI.id _) Le.nil) (.cons (eI.id _) (.cons (eI.id _) (.cons (eI.le (eI.id _) Le.nil) (.cons (eI.le (eI.id _) Le.nil) .nil))))))
theorem B3s{σ s2 s5:AS}{t x:aA}{xl xk xt v w:AV}{Sl Sk St S2:List Nat}{vs:List AV}{b4 bx:Nat}(hB:B0k σ s2 (Sl++(Sk++St)))(hnd:(Sl++(Sk++St)).Nodup)(hne:∀ b,b ∈ Sl++(Sk++St) ->b ≠ bx /\ b ≠ b4)(g1:mZ s2 false t.limbs xl Sl)(g2:iB s2 false t.items xk Sk)(g3:iB s2 false t.tail xt St)(hv:vs.length=t.items.length)(hC:cF s2 false t.items (vs.flatMap flat) S2)(hS2:∀ b,b ∈ S2 ->b ∈ Sk /\ cS xk b)(hA:B7p 7 26 σ s2 xk (vs++[w]) v s5)(r2:cS v bx)(r4:cS v b4)(hw:∀ s,eW G s (flat w) (flat x.enc))(C D:List AV):eI G (((s5.setBox bx C).setBox b4 D).minus σ) (.agg [.int .u8 t.knd, .bool t.neg,xl, .str t.text, .int .i64 t.num,v,xt]) (aA.enc (.mk t.kind t.neg t.limbs t.text t.num (t.items++[x]) t.tail)):=by
 have hk:∀ b,b ∈ Sl++(Sk++St) ->cS xk b -> (((s5.setBox bx C).setBox b4 D).minus σ).box b=s2.box b:=fun b hb hn=>by
  obtain⟨h0,h1,z,hz⟩:=hB b hb
  rw[hz]
  refine AS.minus_box ?_ h0 h1
  simp only[AS.setBox,if_neg (hne b hb).1,if_neg (hne b hb).2]
  exact(hA.keep b z hz hn).1
 have hd1:∀ b,b ∈ Sl++St ->b ∉ Sk:=fun b hb hb'=>by
  obtain⟨_,h2,h3⟩:=List.nodup_append.1 hnd
  rcases List.mem_append.1 hb with hb|hb
  ·exact h3 b hb b (List.mem_append_left _ hb') rfl
  ·exact(List.nodup_append.1 h2).2.2 b hb' b hb rfl
 have hL:=pX (σ':=((s5.setBox bx C).setBox b4 D).minus σ) _ _ _ (fun t _=>aK t) hC fun b hb=>hk b (by simp[(hS2 b hb).1]) (hS2 b hb).2
 have hR:=B6n G (sf:=(s5.setBox bx C).setBox b4 D) hA.buf hv hL (hw _) fun b hb=>by
  have h1:b ≠ bx:=fun e=>hb (e ▸ r2)
  have h2:b ≠ b4:=fun e=>hb (e ▸ r4)
  simp only[AS.setBox,if_neg h1,if_neg h2]
 rw[<- aA.fold_enc]
 exact eI.agg (.cons (eI.id _) (.cons (eI.id _) (.cons (g1.keep fun b hb=>hk b (by simp[hb]) (lG g2 (hd1 b (by simp[hb])))).lend (.cons (eI.id _) (.cons (eI.id _) (.cons hR (.cons (A0s _ (fun t _=>xK t) _ _ (g3.keep fun b hb=>hk b (by simp[hb]) (lG g2 (hd1 b (by simp[hb]))))) .nil))))))) (fun c hc=>by simp at hc;rcases hc with rfl|rfl|rfl|rfl|rfl|rfl|rfl <;>rfl)
set_option maxHeartbeats 2000000 in
theorem E2j(t:aA)(kc:∀ σ,aJ Tryz.prog G 66 [t.enc] σ fun r σ'=>∃ S,cW σ' false t r S /\ bK σ σ' S)(hl:t.limbs.length <=1000):aB Tryz.prog G 27 [t.enc, .int .i64 7] (aA.enc (.mk (t.kind) (t.neg) (t.limbs++[0]) (t.text) (t.num) (t.items) (t.tail))):=by
 intro σ
 refine aJ.settle (tF _) ?_
 refine aJ.of_awp mixed Tryz.func27 rfl (by kernel_rfl) (by kernel_rfl) (by simp[Tryz.ntmps27]) Tryz.results27 ?_
 repeat'(first|(refine wn ?_;intro bx hbx;try simp only[fb]at hbx)|refine wi ?_|simp -dsimp only[↓bp,bq,br,seval,lP, *]|refine wz ?_|fail)
 rename Nat=>b4
 have hb2:σ.fresh bx:=by assumption
 obtain⟨hb4,n1,n2⟩:σ.fresh b4 /\ ¬ b4=bx /\ ¬ bx=b4:=by assumption
 have m1:(b4=bx)=False:=eq_false n1
 have m2:(bx=b4)=False:=eq_false n2
 obtain⟨S0,hS0⟩:∃ S0:AS,S0=(σ.setBox bx [.int .u8 t.knd, .bool t.neg,bD t.limbs, .str t.text, .int .i64 t.num,aH t.items,aH t.tail]).setBox b4 [.int .u8 0, .bool false, .nil, .str [], .int .i64 0, .nil, .nil]:=⟨_,rfl⟩
 have l0:σ.le S0:=by rw[hS0];exact((AS.le.refl σ).setBox hb2.1 _).setBox hb4.1 _
 have f2:S0.box bx=some [.int .u8 t.knd, .bool t.neg,bD t.limbs, .str t.text, .int .i64 t.num,aH t.items,aH t.tail]:=by rw[hS0];simp only[AS.setBox,if_neg n2,if_true]
 have f4:S0.box b4=some [.int .u8 0, .bool false, .nil, .str [], .int .i64 0, .nil, .nil]:=by rw[hS0];exact AS.set_get
 have y2:=hb2.1
 have y4:=hb4.1
 rw[<- hS0]
 clear hS0 hb2 hb4 n1 n2
 refine aJ.mono (kc S0) ?_
 rintro r s1 ⟨S,hO,hN⟩
 obtain⟨xl,xk,xt,Sl,Sk,St,hv,rfl,g1,g2,g3⟩:=(bX _ _ _ _ _).1 hO
 subst hv
 obtain⟨a1,a2,a3⟩:=g1.one
 obtain⟨a4,a5,a6⟩:=g2.one
 obtain⟨a7,a8,a9⟩:=g3.one
 have q2:=hN.le.box _ _ f2
 have q4:=hN.le.box _ _ f4
 have hne:∀ b,b ∈ Sl++(Sk++St) ->b ≠ bx /\ b ≠ b4:=fun b hb=>by
  have:=(hN.fr b hb).1
  exact⟨fun e=> (by rw[e,f2]at this;cases this),fun e=> (by rw[e,f4]at this;cases this)⟩
 have l1:=l0.trans hN.le
 obtain⟨s2,hs2⟩:∃ s2:AS,s2=s1.setBox bx [.int .u8 t.knd, .bool t.neg,xl, .str t.text, .int .i64 t.num,xk,xt]:=⟨_,rfl⟩
 have l2:σ.le s2:=by rw[hs2];exact l1.setBox y2 _
 have hk2:∀ b,b ∈ Sl++(Sk++St) ->s2.box b=s1.box b:=fun b hb=>by rw[hs2];simp only[AS.setBox,if_neg (hne b hb).1]
 have p2:s2.box bx=some [.int .u8 t.knd, .bool t.neg,xl, .str t.text, .int .i64 t.num,xk,xt]:=by rw[hs2];exact AS.set_get
 have p4:s2.box b4=some [.int .u8 0, .bool false, .nil, .str [], .int .i64 0, .nil, .nil]:=by rw[hs2];simp only[AS.setBox,m1,if_false];exact q4
 have hB:B0k σ s2 (Sl++(Sk++St)):=fun b hb=> ⟨l0.noBox (hN.fr b hb).1,iL l0 (hN.fr b hb).2,by rw[hk2 b hb];exact hN.on b hb⟩
 replace g1:=g1.keep (σ':=s2) fun b hb=>hk2 b (by simp[hb])
 replace g2:=g2.keep (σ':=s2) fun b hb=>hk2 b (by simp[hb])
 replace g3:=g3.keep (σ':=s2) fun b hb=>hk2 b (by simp[hb])
 have hnd:=hN.nd
 clear hO f2 f4 q4 hk2 l1 l0
 repeat'(first|(refine wn ?_;intro bx hbx;try simp only[fb]at hbx)|refine wi ?_|simp -dsimp only[↓bp,bq,br,seval,lP, *]|refine wz ?_|fail)
 rw[<- hs2]
 clear hs2 q2
 have hd1:∀ b,b ∈ Sk++St ->b ∉ Sl:=fun b hb hb'=> (List.nodup_append.1 hnd).2.2 b hb' b hb rfl
 have nx:bx ∉ Sl:=fun hb=> (hne bx (List.mem_append_left _ hb)).1 rfl
 have n4:b4 ∉ Sl:=fun hb=> (hne b4 (List.mem_append_left _ hb)).2 rfl
 repeat'(first|(refine wn ?_;intro bx hbx;try simp only[fb]at hbx)|((refine gB (ys:=[.int .u32 0]) (C6d g1 l2 (fun b hb'=>hB b (List.mem_append_left _ hb'))) tfL (bJ wJ) (fun a ha=>by simp at ha;subst ha;exact⟨rfl,rfl⟩) (by simp;omega) (fun v5 σ5 hA=> ?_);obtain⟨j2,r2⟩:=hA.keep bx _ p2 (uZ g1 nx);obtain⟨j4,r4⟩:=hA.keep b4 _ p4 (uZ g1 n4);obtain⟨w1,w2,w3⟩:=vR hA.buf))|refine wi ?_|simp -dsimp only[↓bp,bq,br,seval,lP, *]|refine wz ?_|fail)
 obtain⟨S1,hL,hN1⟩:=A1i (l:=t.limbs++[0]) (by simpa [bC] using hA.buf)
 have hk5:∀ b,b ∈ Sk++St ->σ5.box b=s2.box b:=fun b hb=>by
  obtain⟨_,_,z,hz⟩:=hB b (List.mem_append_right _ hb)
  rw[hz,(hA.keep b z hz (uZ g1 (hd1 b hb))).1]
 have hkf:∀ C D b,b ∈ S1++(Sk++St) -> ((σ5.setBox bx C).setBox b4 D).box b=σ5.box b:=fun C D b hb=>by
  have h1:b ≠ bx /\ b ≠ b4:=by
   rcases List.mem_append.1 hb with hb|hb
   ·exact⟨fun e=>B5q hL hb (e ▸ r2),fun e=>B5q hL hb (e ▸ r4)⟩
   ·exact hne b (List.mem_append_right _ hb)
  simp only[AS.setBox,if_neg h1.1,if_neg h1.2]
 refine aE _ (AS.le.refl _) ⟨(hN1.le.setBox y2 _).setBox y4 _,A5r G (S:=S1++(Sk++St)) ?_ fun b hb=> ?_⟩
 ·rw[bX]
  exact⟨_,_,_,S1,Sk,St,rfl,rfl,hL.keep fun b hb=>hkf _ _ b (by simp[hb]),g2.keep fun b hb=>by rw[hkf _ _ b (by simp[hb]),hk5 b (by simp[hb])],g3.keep fun b hb=>by rw[hkf _ _ b (by simp[hb]),hk5 b (by simp[hb])]⟩
 ·rcases List.mem_append.1 hb with hb'|hb'
  ·exact⟨(hN1.fr b hb').1,(hN1.fr b hb').2,by rw[hkf _ _ b hb];exact hN1.on b hb'⟩
  ·have:=hB b (List.mem_append_right _ hb')
   exact⟨this.1,this.2.1,by rw[hkf _ _ b hb,hk5 b hb'];exact this.2.2⟩
set_option maxHeartbeats 2000000 in
theorem E2k(t:aA)(kc:∀ σ,aJ Tryz.prog G 66 [t.enc] σ fun r σ'=>∃ S,cW σ' false t r S /\ bK σ σ' S)(hl:t.items.length <=1000):aB Tryz.prog G 27 [t.enc, .int .i64 8] (aA.enc (.mk (t.kind) (t.neg) (t.limbs) (t.text) (t.num) (t.items++[(mR 1)]) (t.tail))):=by
 have w1:=fB G 1 (by omega)
 intro σ
 refine aJ.settle (tF _) ?_
 refine aJ.of_awp mixed Tryz.func27 rfl (by kernel_rfl) (by kernel_rfl) (by simp[Tryz.ntmps27]) Tryz.results27 ?_
 repeat'(first|(refine wn ?_;intro bx hbx;try simp only[fb]at hbx)|refine wi ?_|simp -dsimp only[↓bp,bq,br,seval,lP, *]|refine wz ?_|fail)
 rename Nat=>b4
 have hb2:σ.fresh bx:=by assumption
 obtain⟨hb4,n1,n2⟩:σ.fresh b4 /\ ¬ b4=bx /\ ¬ bx=b4:=by assumption
 have m1:(b4=bx)=False:=eq_false n1
 have m2:(bx=b4)=False:=eq_false n2
 obtain⟨S0,hS0⟩:∃ S0:AS,S0=(σ.setBox bx [.int .u8 t.knd, .bool t.neg,bD t.limbs, .str t.text, .int .i64 t.num,aH t.items,aH t.tail]).setBox b4 [.int .u8 0, .bool false, .nil, .str [], .int .i64 0, .nil, .nil]:=⟨_,rfl⟩
 have l0:σ.le S0:=by rw[hS0];exact((AS.le.refl σ).setBox hb2.1 _).setBox hb4.1 _
 have f2:S0.box bx=some [.int .u8 t.knd, .bool t.neg,bD t.limbs, .str t.text, .int .i64 t.num,aH t.items,aH t.tail]:=by rw[hS0];simp only[AS.setBox,if_neg n2,if_true]
 have f4:S0.box b4=some [.int .u8 0, .bool false, .nil, .str [], .int .i64 0, .nil, .nil]:=by rw[hS0];exact AS.set_get
 have y2:=hb2.1
 have y4:=hb4.1
 rw[<- hS0]
 clear hS0 hb2 hb4 n1 n2
 refine aJ.mono (kc S0) ?_
 rintro r s1 ⟨S,hO,hN⟩
 obtain⟨xl,xk,xt,Sl,Sk,St,hv,rfl,g1,g2,g3⟩:=(bX _ _ _ _ _).1 hO
 subst hv
 obtain⟨a1,a2,a3⟩:=g1.one
 obtain⟨a4,a5,a6⟩:=g2.one
 obtain⟨a7,a8,a9⟩:=g3.one
 have q2:=hN.le.box _ _ f2
 have q4:=hN.le.box _ _ f4
 have hne:∀ b,b ∈ Sl++(Sk++St) ->b ≠ bx /\ b ≠ b4:=fun b hb=>by
  have:=(hN.fr b hb).1
  exact⟨fun e=> (by rw[e,f2]at this;cases this),fun e=> (by rw[e,f4]at this;cases this)⟩
 have l1:=l0.trans hN.le
 obtain⟨s2,hs2⟩:∃ s2:AS,s2=s1.setBox bx [.int .u8 t.knd, .bool t.neg,xl, .str t.text, .int .i64 t.num,xk,xt]:=⟨_,rfl⟩
 have l2:σ.le s2:=by rw[hs2];exact l1.setBox y2 _
 have hk2:∀ b,b ∈ Sl++(Sk++St) ->s2.box b=s1.box b:=fun b hb=>by rw[hs2];simp only[AS.setBox,if_neg (hne b hb).1]
 have p2:s2.box bx=some [.int .u8 t.knd, .bool t.neg,xl, .str t.text, .int .i64 t.num,xk,xt]:=by rw[hs2];exact AS.set_get
 have p4:s2.box b4=some [.int .u8 0, .bool false, .nil, .str [], .int .i64 0, .nil, .nil]:=by rw[hs2];simp only[AS.setBox,m1,if_false];exact q4
 have hB:B0k σ s2 (Sl++(Sk++St)):=fun b hb=> ⟨l0.noBox (hN.fr b hb).1,iL l0 (hN.fr b hb).2,by rw[hk2 b hb];exact hN.on b hb⟩
 replace g1:=g1.keep (σ':=s2) fun b hb=>hk2 b (by simp[hb])
 replace g2:=g2.keep (σ':=s2) fun b hb=>hk2 b (by simp[hb])
 replace g3:=g3.keep (σ':=s2) fun b hb=>hk2 b (by simp[hb])
 have hnd:=hN.nd
 clear hO f2 f4 q4 hk2 l1 l0
 repeat'(first|(refine wn ?_;intro bx hbx;try simp only[fb]at hbx)|refine wi ?_|simp -dsimp only[↓bp,bq,br,seval,lP, *]|refine wz ?_|fail)
 rw[<- hs2]
 clear hs2 q2
 have nx:bx ∉ Sk:=fun hb=> (hne bx (List.mem_append_right _ (List.mem_append_left _ hb))).1 rfl
 have n4:b4 ∉ Sk:=fun hb=> (hne b4 (List.mem_append_right _ (List.mem_append_left _ hb))).2 rfl
 obtain⟨vs,S2,hW,hvl,hC,hS2⟩:=A9p g2 l2 (fun b hb'=>hB b (List.mem_append_right _ (List.mem_append_left _ hb'))) (List.nodup_append.1 (List.nodup_append.1 hnd).2.1).1
 repeat'(first|(refine wn ?_;intro bx hbx;try simp only[fb]at hbx)|refine wp w1 ?_|((refine gB (ys:=[(mR 1).enc]) hW tW (bJ tfE) (fun a ha=>by simp at ha;subst ha;exact⟨by rw[aA.flat_enc];rfl,by first|rfl|exact aA.isv_enc _⟩) (by simp;omega) (fun v5 σ5 hA=> ?_);obtain⟨j2,r2⟩:=hA.keep bx _ p2 (lG g2 nx);obtain⟨j4,r4⟩:=hA.keep b4 _ p4 (lG g2 n4);obtain⟨w1,w2,w3⟩:=vR hA.buf))|refine wj ?_|simp -dsimp only[↓bp,bq,br,seval,lP, *]|refine wz ?_|fail)
 exact aE _ (AS.le.refl _) ⟨(hA.buf.le.setBox y2 _).setBox y4 _,B3s G hB hnd hne g1 g2 g3 hvl hC hS2 hA r2 r4 (fun _=>eW.ids _) _ _⟩
set_option maxHeartbeats 2000000 in
theorem E2l(t:aA)(kc:∀ σ,aJ Tryz.prog G 66 [t.enc] σ fun r σ'=>∃ S,cW σ' false t r S /\ bK σ σ' S)(hl:t.items.length <=1000):aB Tryz.prog G 27 [t.enc, .int .i64 9] (aA.enc (.mk (t.kind) (t.neg) (t.limbs) (t.text) (t.num) (t.items++[cN]) (t.tail))):=by
 have w1:=fB G 1 (by omega)
 intro σ
 refine aJ.settle (tF _) ?_
 refine aJ.of_awp mixed Tryz.func27 rfl (by kernel_rfl) (by kernel_rfl) (by simp[Tryz.ntmps27]) Tryz.results27 ?_
 repeat'(first|(refine wn ?_;intro bx hbx;try simp only[fb]at hbx)|refine wi ?_|simp -dsimp only[↓bp,bq,br,seval,lP, *]|refine wz ?_|fail)
 rename Nat=>b4
 have hb2:σ.fresh bx:=by assumption
 obtain⟨hb4,n1,n2⟩:σ.fresh b4 /\ ¬ b4=bx /\ ¬ bx=b4:=by assumption
 have m1:(b4=bx)=False:=eq_false n1
 have m2:(bx=b4)=False:=eq_false n2
 obtain⟨S0,hS0⟩:∃ S0:AS,S0=(σ.setBox bx [.int .u8 t.knd, .bool t.neg,bD t.limbs, .str t.text, .int .i64 t.num,aH t.items,aH t.tail]).setBox b4 [.int .u8 0, .bool false, .nil, .str [], .int .i64 0, .nil, .nil]:=⟨_,rfl⟩
 have l0:σ.le S0:=by rw[hS0];exact((AS.le.refl σ).setBox hb2.1 _).setBox hb4.1 _
 have f2:S0.box bx=some [.int .u8 t.knd, .bool t.neg,bD t.limbs, .str t.text, .int .i64 t.num,aH t.items,aH t.tail]:=by rw[hS0];simp only[AS.setBox,if_neg n2,if_true]
 have f4:S0.box b4=some [.int .u8 0, .bool false, .nil, .str [], .int .i64 0, .nil, .nil]:=by rw[hS0];exact AS.set_get
 have y2:=hb2.1
 have y4:=hb4.1
 rw[<- hS0]
 clear hS0 hb2 hb4 n1 n2
 refine aJ.mono (kc S0) ?_
 rintro r s1 ⟨S,hO,hN⟩
 obtain⟨xl,xk,xt,Sl,Sk,St,hv,rfl,g1,g2,g3⟩:=(bX _ _ _ _ _).1 hO
 subst hv
 obtain⟨a1,a2,a3⟩:=g1.one
 obtain⟨a4,a5,a6⟩:=g2.one
 obtain⟨a7,a8,a9⟩:=g3.one
 have q2:=hN.le.box _ _ f2
 have q4:=hN.le.box _ _ f4
 have hne:∀ b,b ∈ Sl++(Sk++St) ->b ≠ bx /\ b ≠ b4:=fun b hb=>by
  have:=(hN.fr b hb).1
  exact⟨fun e=> (by rw[e,f2]at this;cases this),fun e=> (by rw[e,f4]at this;cases this)⟩
 have l1:=l0.trans hN.le
 obtain⟨s2,hs2⟩:∃ s2:AS,s2=s1.setBox bx [.int .u8 t.knd, .bool t.neg,xl, .str t.text, .int .i64 t.num,xk,xt]:=⟨_,rfl⟩
 have l2:σ.le s2:=by rw[hs2];exact l1.setBox y2 _
 have hk2:∀ b,b ∈ Sl++(Sk++St) ->s2.box b=s1.box b:=fun b hb=>by rw[hs2];simp only[AS.setBox,if_neg (hne b hb).1]
 have p2:s2.box bx=some [.int .u8 t.knd, .bool t.neg,xl, .str t.text, .int .i64 t.num,xk,xt]:=by rw[hs2];exact AS.set_get
 have p4:s2.box b4=some [.int .u8 0, .bool false, .nil, .str [], .int .i64 0, .nil, .nil]:=by rw[hs2];simp only[AS.setBox,m1,if_false];exact q4
 have hB:B0k σ s2 (Sl++(Sk++St)):=fun b hb=> ⟨l0.noBox (hN.fr b hb).1,iL l0 (hN.fr b hb).2,by rw[hk2 b hb];exact hN.on b hb⟩
 replace g1:=g1.keep (σ':=s2) fun b hb=>hk2 b (by simp[hb])
 replace g2:=g2.keep (σ':=s2) fun b hb=>hk2 b (by simp[hb])
 replace g3:=g3.keep (σ':=s2) fun b hb=>hk2 b (by simp[hb])
 have hnd:=hN.nd
 clear hO f2 f4 q4 hk2 l1 l0
 repeat'(first|(refine wn ?_;intro bx hbx;try simp only[fb]at hbx)|refine wi ?_|simp -dsimp only[↓bp,bq,br,seval,lP, *]|refine wz ?_|fail)
 rw[<- hs2]
 clear hs2 q2
 have nx:bx ∉ Sk:=fun hb=> (hne bx (List.mem_append_right _ (List.mem_append_left _ hb))).1 rfl
 have n4:b4 ∉ Sk:=fun hb=> (hne b4 (List.mem_append_right _ (List.mem_append_left _ hb))).2 rfl
 obtain⟨vs,S2,hW,hvl,hC,hS2⟩:=A9p g2 l2 (fun b hb'=>hB b (List.mem_append_right _ (List.mem_append_left _ hb'))) (List.nodup_append.1 (List.nodup_append.1 hnd).2.1).1
 repeat'(first|(refine wn ?_;intro bx hbx;try simp only[fb]at hbx)|((refine gB (ys:=[(.agg [.int .u8 0, .bool false, .nil, .str [], .int .i64 0, .nil, .nil])]) hW tW (bJ tfE) (fun a ha=>by simp at ha;subst ha;exact⟨rfl,by first|rfl|exact aA.isv_enc _⟩) (by simp;omega) (fun v5 σ5 hA=> ?_);obtain⟨j2,r2⟩:=hA.keep bx _ p2 (lG g2 nx);obtain⟨j4,r4⟩:=hA.keep b4 _ p4 (lG g2 n4);obtain⟨w1,w2,w3⟩:=vR hA.buf))|refine wj ?_|simp -dsimp only[↓bp,bq,br,seval,lP, *]|refine wz ?_|fail)
 exact aE _ (AS.le.refl _) ⟨(hA.buf.le.setBox y2 _).setBox y4 _,B3s G hB hnd hne g1 g2 g3 hvl hC hS2 hA r2 r4 (fun _=>C1m G) _ _⟩
end
end Go.Proofs.YtdhbdhopnpmboaaGreatDoor
