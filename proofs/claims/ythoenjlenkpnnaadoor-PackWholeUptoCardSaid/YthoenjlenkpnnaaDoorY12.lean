/- pack's reader: rows. -/
import Derived.Test.YthoenjlenkpnnaaDoorY11
import Derived.Test.YthoenjlenkpnnaaDoorY07
import Derived.Test.YthoenjlenkpnnaaDoorY09
import Derived.Lib.AppendIntMem
import Derived.Test.YthoenjlenkpnnaaDoorY06
import Derived.Test.YthoenjlenkpnnaaDoorY08
set_option linter.unusedVariables false
set_option linter.unusedSimpArgs false
set_option maxRecDepth 20000
set_option linter.defProp false
namespace Go.Proofs.YthoenjlenkpnnaaDoor
open Go Go.Av
section
def eU:=And.intro (And.intro (And.intro @nK (And.intro @nL @lY)) (And.intro (And.intro @kW @kI) (And.intro @kE @A6b))) (And.intro (And.intro @A6a (And.intro @uI @sV)) (And.intro (And.intro @oT @nP) (And.intro @jD @iF)))
variable {G:Nat ->AV}
theorem A2a {P:Program} {f:FuncId} {args:List AV} {σ:AS} {rb w:Nat} {E:TypeId} {z xs:List AV} (hw:∀ a,a ∈ xs -> (flat a).length=w /\ isv a=true)
  (h:aJ P G f args σ fun r s=>fU w E (σ.delBox rb) s r xs /\ eM r rb /\ s.box rb=some z):aJ P G f args σ fun r s=>r= .sl .none xs [] /\ s=σ.setBox rb z:=by
 have fin:∀ S:AS,(σ.delBox rb).le S ->S.box rb=some z -> (σ.setBox rb z).le S:=fun S hl hr=>by
  refine⟨fun i cs hi=> ?_,hl.tip,hl.ty⟩
  simp only[AS.setBox]at hi
  split at hi
  ·rename_i e;rw[e,hr];exact hi
  ·rename_i e
   refine hl.box i cs ?_
   show(if i=rb then none else σ.box i)=some cs
   rw[if_neg e];exact hi
 refine⟨h.1,fun K w' vals hr hv=> (h.2 K w' vals hr hv).mono fun e w2 ⟨v,r,s,K',he,⟨hW,hn,hz⟩,h1,h2,h3⟩=> ?_⟩
 cases hW with
 |nil hl=>exact⟨v,_,_,K',he,⟨rfl,rfl⟩,(Le.nil:Le .nil (.sl .none [] [])) _ _ h1,h2.weaken (fin s hl hz),h3⟩
 | row b xs hl h0 ht hb hx=>
  obtain⟨cap,F,g1,g2,g3⟩:=(Has.bs (b:=b) (n:=xs.length) (s:=w) (E:=E)) K' v h1
  obtain⟨K2,k1,k2,k3⟩:=mI h2 hb ⟨rfl,rfl,hx⟩ g1 g2 g3
  have hfz:(s.froze b xs.length w).box rb=some z:=by
   show(if rb=b then none else s.box rb)=some z
   rw[if_neg hn];exact hz
  exact⟨v,_,_,K2,he,⟨rfl,rfl⟩,Le.gh _ _ (k3 _ _ _ (.here E) h1),k2.weaken (fin _ (AS.froze_le hl h0 ht) hfz),h3.trans k1⟩
def uF(n:Nat):AV:= .int .i64 n
theorem rdI:fV Tryd.prog 44=some (3,1,8):=kE.2.2.2.2.2.2
theorem rdE:fV Tryd.prog 22=some (48,5,48):=sV.2.2.2.2.2.2
theorem rdS:fV Tryd.prog 23=some (46,8,88):=nP.2.2.2.2.2.2
theorem rdT:fV Tryd.prog 24=some (53,7,104):=iF.2.2.2.2.2.2
def A2p(G:Nat ->AV)(K:FuncId){α:Type}(enc:α ->AV)(one:dD ->α × dD)(P:dD ->Prop):Prop:=
 (∀ rb S st,P st ->S.box rb=some (bR st) ->aJ Tryd.prog G K [.ptr rb 0] S fun r s=>r=enc (one st).1 /\ s=S.setBox rb (bR (one st).2)) /\ (∀ st,P st ->P (one st).2) /\ ∀ s st,P st ->P (aG s st).2
theorem uN(st:dD):(aG 2 st).1 < 65536:=by
 have h:=pH (bV 2 st).1
 have hl:(bV 2 st).1.length <=2:=by unfold bV;split <;>simp <;>omega
 have:256 ^ (bV 2 st).1.length <=256 ^ 2:=Nat.pow_le_pow_right (by omega) hl
 unfold aG;simp only;omega
set_option maxHeartbeats 1000000 in
theorem C7z{one:dD ->aF × dD}{P:dD ->Prop}{K:FuncId}(H:A2p G K aF.enc one P){σ:AS}{rb:Nat}{st:dD}(hst:P st)(h:σ.box rb=some (bR st)):
  aJ Tryd.prog G 35 [.ptr rb 0,mfn K rb 0] σ fun r s=>r= .sl .none ((aS one st).1.map aF.enc) [] /\ s=σ.setBox rb (bR (aS one st).2):=by
 obtain⟨H1,H2,H3⟩:=H
 have hok:∀ x:aF,(flat (aF.enc x)).length=7 /\ isv (aF.enc x)=true:=fun x=> ⟨by rw[aF.flat_enc];rfl,x.isv_enc⟩
 refine A2a (w:=7) (E:=53) (fun a ha=>by obtain⟨x,_,rfl⟩:=List.mem_map.1 ha;exact hok x) ?_
 have t1:=aZ (G:=G) 2 (by omega) h
 have hlt:=uN st
 have hst1:=H3 2 st hst
 unfold aS
 generalize aG 2 st=a at*
 obtain⟨n,st1⟩:=a
 simp only at*
 have hS0:(σ.delBox rb).le (σ.setBox rb (bR st1)):=⟨fun i cs hi=>by
  have hi':(if i=rb then none else σ.box i)=some cs:=hi
  split at hi'
  ·cases hi'
  ·rename_i e;simp only[AS.setBox,if_neg e];exact hi',fun _ _ h=>h,fun _ _ h=>h⟩
 have hd:(σ.delBox rb).box rb=none:=by simp[AS.delBox]
 clear h hst
 refine aJ.of_awp mixed Tryd.func35 rfl (by kernel_rfl) (by kernel_rfl) (by simp[Tryd.ntmps35]) Tryd.results35 ?_
 repeat'(first|refine xs ?_ ?_ <;>intros|(refine wn ?_;intro bx hbx;try simp only[fb]at hbx)|((refine aJ.mono t1 ?_;rintro r s ⟨rfl,rfl⟩;clear t1))|refine aQ ?_|(refine aB ?_;intro bx hbx;(try simp only[fb]at hbx))|refine aD ?_|((with_reducible refine And.intro ?_ ?_);omega)|refine aA (d':=⟨⟩) ?_|refine aR (by kernel_rfl) ?_|refine aP ?_ (by repeat' first|exact lr _|assumption|refine ls ?_ ?_|refine lt ?_ ?_|simp only[*];done|simp only[fb, *,not_false_eq_true,and_self];done|exact lf ‹_› (by simp only[*]))|refine aC ?_ (by repeat' first|exact lr _|assumption|refine ls ?_ ?_|refine lt ?_ ?_|simp only[*];done|simp only[fb, *,not_false_eq_true,and_self];done|exact lf ‹_› (by simp only[*]))|simp -dsimp only[↓bp,bq,br,seval,eU, *]|refine wz ?_|fail)
 refine aY (fun m e σ'=>∃ l st' v,e 6= .int .i64 m /\ e 5=v /\ l.length+m <=n /\ cT one n st1=(l++(cT one m st').1,(cT one m st').2) /\ P st' /\ σ'.box rb=some (bR st') /\ fU 7 53 (σ.delBox rb) σ' v (l.map aF.enc) /\ eM v rb) n ⟨[],st1, .nil,by simp -dsimp only[↓bp,bq,br,seval,eU],by simp -dsimp only[↓bp,bq,br,seval,eU],by simp,by simp,hst1,fF, .nil hS0,trivial⟩ ?_
 rintro m e σ' ⟨l,st',v,h6,h5,hlm,hrow,hP,hrb,hW,hnr⟩
 simp -dsimp only[↓bp,bq,br,seval,eU]at h6 h5
 by_cases hc:0 < m /\ st'.2=false
 ·obtain⟨hm,hb⟩:=hc
  obtain⟨m,rfl⟩:∃ k,m=k+1:=⟨m - 1,by omega⟩
  have c1:((0:Int) < ((m+1:Nat):Int))=True:=eq_true (by omega)
  have hx1:=H1 rb σ' st' hP hrb
  have hP2:=H2 st' hP
  have hrow2:cT one n st1=(l++[(one st').1]++(cT one m (one st').2).1,(cT one m (one st').2).2):=by
   rw[hrow];simp only[cT,hb];simp
  have hbx:σ'.box rb=some [eD st'.1, .bool false]:=by rw[hrb,bR,hb]
  have hwr:IntKind.i64.wrap (((m+1:Nat):Int) - 1)=(m:Int):=by rw[aH (by omega) (by omega)];omega
  clear hrow hP hrb H1 H2 H3 hb
  generalize one st'=o at*
  obtain⟨x,st2⟩:=o
  simp only at*
  have hW2:=hW.setOther hd hnr (bR st2)
  repeat'(first|refine xs ?_ ?_ <;>intros|(refine wn ?_;intro bx hbx;try simp only[fb]at hbx)|((refine aJ.mono hx1 ?_;rintro r s ⟨rfl,rfl⟩;clear hx1))|((refine pQ (σ0:=σ.delBox rb) (ys:=[aF.enc x]) hW2 rdT (kO iF.2.2.2.1) (fun a ha=>by simp at ha;subst ha;exact hok x) (by simp only[List.length_map,List.length_cons,List.length_nil];omega) (fun v2 σ2 hA=> ?_)))|refine aQ ?_|(refine aB ?_;intro bx hbx;(try simp only[fb]at hbx))|refine aD ?_|((with_reducible refine And.intro ?_ ?_);omega)|refine aA (d':=⟨⟩) ?_|refine aR (by kernel_rfl) ?_|refine aP ?_ (by repeat' first|exact lr _|assumption|refine ls ?_ ?_|refine lt ?_ ?_|simp only[*];done|simp only[fb, *,not_false_eq_true,and_self];done|exact lf ‹_› (by simp only[*]))|refine aC ?_ (by repeat' first|exact lr _|assumption|refine ls ?_ ?_|refine lt ?_ ?_|simp only[*];done|simp only[fb, *,not_false_eq_true,and_self];done|exact lf ‹_› (by simp only[*]))|simp -dsimp only[↓bp,bq,br,seval,eU, *]|refine wz ?_|fail)
  exact⟨m,by omega,l++[x],st2,v2,rfl,rfl,by simp;omega,rfl,hP2,(hA.keep rb _ fF hnr).1,by simpa using hA.buf,(hA.keep rb _ fF hnr).2⟩
 ·have hend:cT one m st'=([],st'):=by
   cases m with
   |zero=>rfl
   | succ m=>
    have:st'.2=true:=by cases hb:st'.2 with|true=>rfl|false=>exact absurd ⟨by omega,hb⟩ hc
    simp[cT,this]
  rw[hend]at hrow
  simp only[List.append_nil]at hrow
  rw[hrow]
  by_cases hm:0 < m
  ·have c1:((0:Int) < (m:Int))=True:=eq_true (by omega)
   have hb:st'.2=true:=by cases hb:st'.2 with|true=>rfl|false=>exact absurd ⟨hm,hb⟩ hc
   have hbx:σ'.box rb=some [eD st'.1, .bool true]:=by rw[hrb,bR,hb]
   clear hc hend hrow H1 H2 H3
   have fin:fU 7 53 (σ.delBox rb) σ' v (l.map aF.enc) /\ eM v rb /\ σ'.box rb=some (bR st'):=⟨hW,hnr,hrb⟩
   clear hrb
   repeat'(first|refine xs ?_ ?_ <;>intros|(refine wn ?_;intro bx hbx;try simp only[fb]at hbx)|refine aQ ?_|(refine aB ?_;intro bx hbx;(try simp only[fb]at hbx))|refine aD ?_|((with_reducible refine And.intro ?_ ?_);omega)|refine aA (d':=⟨⟩) ?_|refine aR (by kernel_rfl) ?_|refine aP ?_ (by repeat' first|exact lr _|assumption|refine ls ?_ ?_|refine lt ?_ ?_|simp only[*];done|simp only[fb, *,not_false_eq_true,and_self];done|exact lf ‹_› (by simp only[*]))|refine aC ?_ (by repeat' first|exact lr _|assumption|refine ls ?_ ?_|refine lt ?_ ?_|simp only[*];done|simp only[fb, *,not_false_eq_true,and_self];done|exact lf ‹_› (by simp only[*]))|simp -dsimp only[↓bp,bq,br,seval,eU, *]|refine wz ?_|fail)
   exact aE _ (AS.le.refl _) fin
  ·have c1:((0:Int) < (m:Int))=False:=eq_false (by omega)
   have fin:fU 7 53 (σ.delBox rb) σ' v (l.map aF.enc) /\ eM v rb /\ σ'.box rb=some (bR st'):=⟨hW,hnr,hrb⟩
   clear hc hend hrow H1 H2 H3
   repeat'(first|refine xs ?_ ?_ <;>intros|(refine wn ?_;intro bx hbx;try simp only[fb]at hbx)|refine aQ ?_|(refine aB ?_;intro bx hbx;(try simp only[fb]at hbx))|refine aD ?_|((with_reducible refine And.intro ?_ ?_);omega)|refine aA (d':=⟨⟩) ?_|refine aR (by kernel_rfl) ?_|refine aP ?_ (by repeat' first|exact lr _|assumption|refine ls ?_ ?_|refine lt ?_ ?_|simp only[*];done|simp only[fb, *,not_false_eq_true,and_self];done|exact lf ‹_› (by simp only[*]))|refine aC ?_ (by repeat' first|exact lr _|assumption|refine ls ?_ ?_|refine lt ?_ ?_|simp only[*];done|simp only[fb, *,not_false_eq_true,and_self];done|exact lf ‹_› (by simp only[*]))|simp -dsimp only[↓bp,bq,br,seval,eU, *]|refine wz ?_|fail)
   exact aE _ (AS.le.refl _) fin
set_option maxHeartbeats 1000000 in
theorem C7x{one:dD ->Nat × dD}{P:dD ->Prop}{K:FuncId}(H:A2p G K uF one P){σ:AS}{rb:Nat}{st:dD}(hst:P st)(h:σ.box rb=some (bR st)):
  aJ Tryd.prog G 57 [.ptr rb 0,mfn K rb 0] σ fun r s=>r= .sl .none ((aS one st).1.map uF) [] /\ s=σ.setBox rb (bR (aS one st).2):=by
 obtain⟨H1,H2,H3⟩:=H
 have hok:∀ x:Nat,(flat (uF x)).length=1 /\ isv (uF x)=true:=fun x=> ⟨rfl,rfl⟩
 refine A2a (w:=1) (E:=3) (fun a ha=>by obtain⟨x,_,rfl⟩:=List.mem_map.1 ha;exact hok x) ?_
 have t1:=aZ (G:=G) 2 (by omega) h
 have hlt:=uN st
 have hst1:=H3 2 st hst
 unfold aS
 generalize aG 2 st=a at*
 obtain⟨n,st1⟩:=a
 simp only at*
 have hS0:(σ.delBox rb).le (σ.setBox rb (bR st1)):=⟨fun i cs hi=>by
  have hi':(if i=rb then none else σ.box i)=some cs:=hi
  split at hi'
  ·cases hi'
  ·rename_i e;simp only[AS.setBox,if_neg e];exact hi',fun _ _ h=>h,fun _ _ h=>h⟩
 have hd:(σ.delBox rb).box rb=none:=by simp[AS.delBox]
 clear h hst
 refine aJ.of_awp mixed Tryd.func57 rfl (by kernel_rfl) (by kernel_rfl) (by simp[Tryd.ntmps57]) Tryd.results57 ?_
 repeat'(first|refine xs ?_ ?_ <;>intros|(refine wn ?_;intro bx hbx;try simp only[fb]at hbx)|((refine aJ.mono t1 ?_;rintro r s ⟨rfl,rfl⟩;clear t1))|refine aQ ?_|(refine aB ?_;intro bx hbx;(try simp only[fb]at hbx))|refine aD ?_|((with_reducible refine And.intro ?_ ?_);omega)|refine aA (d':=⟨⟩) ?_|refine aR (by kernel_rfl) ?_|refine aP ?_ (by repeat' first|exact lr _|assumption|refine ls ?_ ?_|refine lt ?_ ?_|simp only[*];done|simp only[fb, *,not_false_eq_true,and_self];done|exact lf ‹_› (by simp only[*]))|refine aC ?_ (by repeat' first|exact lr _|assumption|refine ls ?_ ?_|refine lt ?_ ?_|simp only[*];done|simp only[fb, *,not_false_eq_true,and_self];done|exact lf ‹_› (by simp only[*]))|simp -dsimp only[↓bp,bq,br,seval,eU, *]|refine wz ?_|fail)
 refine aY (fun m e σ'=>∃ l st' v,e 6= .int .i64 m /\ e 5=v /\ l.length+m <=n /\ cT one n st1=(l++(cT one m st').1,(cT one m st').2) /\ P st' /\ σ'.box rb=some (bR st') /\ fU 1 3 (σ.delBox rb) σ' v (l.map uF) /\ eM v rb) n ⟨[],st1, .nil,by simp -dsimp only[↓bp,bq,br,seval,eU],by simp -dsimp only[↓bp,bq,br,seval,eU],by simp,by simp,hst1,fF, .nil hS0,trivial⟩ ?_
 rintro m e σ' ⟨l,st',v,h6,h5,hlm,hrow,hP,hrb,hW,hnr⟩
 simp -dsimp only[↓bp,bq,br,seval,eU]at h6 h5
 by_cases hc:0 < m /\ st'.2=false
 ·obtain⟨hm,hb⟩:=hc
  obtain⟨m,rfl⟩:∃ k,m=k+1:=⟨m - 1,by omega⟩
  have c1:((0:Int) < ((m+1:Nat):Int))=True:=eq_true (by omega)
  have hx1:=H1 rb σ' st' hP hrb
  have hP2:=H2 st' hP
  have hrow2:cT one n st1=(l++[(one st').1]++(cT one m (one st').2).1,(cT one m (one st').2).2):=by
   rw[hrow];simp only[cT,hb];simp
  have hbx:σ'.box rb=some [eD st'.1, .bool false]:=by rw[hrb,bR,hb]
  have hwr:IntKind.i64.wrap (((m+1:Nat):Int) - 1)=(m:Int):=by rw[aH (by omega) (by omega)];omega
  clear hrow hP hrb H1 H2 H3 hb
  generalize one st'=o at*
  obtain⟨x,st2⟩:=o
  simp only at*
  have hW2:=hW.setOther hd hnr (bR st2)
  repeat'(first|refine xs ?_ ?_ <;>intros|(refine wn ?_;intro bx hbx;try simp only[fb]at hbx)|((refine aJ.mono hx1 ?_;rintro r s ⟨rfl,rfl⟩;clear hx1))|((refine pQ (σ0:=σ.delBox rb) (ys:=[uF x]) hW2 rdI (kO kE.2.2.2.1) (fun a ha=>by simp at ha;subst ha;exact hok x) (by simp only[List.length_map,List.length_cons,List.length_nil];omega) (fun v2 σ2 hA=> ?_)))|refine aQ ?_|(refine aB ?_;intro bx hbx;(try simp only[fb]at hbx))|refine aD ?_|((with_reducible refine And.intro ?_ ?_);omega)|refine aA (d':=⟨⟩) ?_|refine aR (by kernel_rfl) ?_|refine aP ?_ (by repeat' first|exact lr _|assumption|refine ls ?_ ?_|refine lt ?_ ?_|simp only[*];done|simp only[fb, *,not_false_eq_true,and_self];done|exact lf ‹_› (by simp only[*]))|refine aC ?_ (by repeat' first|exact lr _|assumption|refine ls ?_ ?_|refine lt ?_ ?_|simp only[*];done|simp only[fb, *,not_false_eq_true,and_self];done|exact lf ‹_› (by simp only[*]))|simp -dsimp only[↓bp,bq,br,seval,eU, *]|refine wz ?_|fail)
  exact⟨m,by omega,l++[x],st2,v2,rfl,rfl,by simp;omega,rfl,hP2,(hA.keep rb _ fF hnr).1,by simpa using hA.buf,(hA.keep rb _ fF hnr).2⟩
 ·have hend:cT one m st'=([],st'):=by
   cases m with
   |zero=>rfl
   | succ m=>
    have:st'.2=true:=by cases hb:st'.2 with|true=>rfl|false=>exact absurd ⟨by omega,hb⟩ hc
    simp[cT,this]
  rw[hend]at hrow
  simp only[List.append_nil]at hrow
  rw[hrow]
  by_cases hm:0 < m
  ·have c1:((0:Int) < (m:Int))=True:=eq_true (by omega)
   have hb:st'.2=true:=by cases hb:st'.2 with|true=>rfl|false=>exact absurd ⟨hm,hb⟩ hc
   have hbx:σ'.box rb=some [eD st'.1, .bool true]:=by rw[hrb,bR,hb]
   clear hc hend hrow H1 H2 H3
   have fin:fU 1 3 (σ.delBox rb) σ' v (l.map uF) /\ eM v rb /\ σ'.box rb=some (bR st'):=⟨hW,hnr,hrb⟩
   clear hrb
   repeat'(first|refine xs ?_ ?_ <;>intros|(refine wn ?_;intro bx hbx;try simp only[fb]at hbx)|refine aQ ?_|(refine aB ?_;intro bx hbx;(try simp only[fb]at hbx))|refine aD ?_|((with_reducible refine And.intro ?_ ?_);omega)|refine aA (d':=⟨⟩) ?_|refine aR (by kernel_rfl) ?_|refine aP ?_ (by repeat' first|exact lr _|assumption|refine ls ?_ ?_|refine lt ?_ ?_|simp only[*];done|simp only[fb, *,not_false_eq_true,and_self];done|exact lf ‹_› (by simp only[*]))|refine aC ?_ (by repeat' first|exact lr _|assumption|refine ls ?_ ?_|refine lt ?_ ?_|simp only[*];done|simp only[fb, *,not_false_eq_true,and_self];done|exact lf ‹_› (by simp only[*]))|simp -dsimp only[↓bp,bq,br,seval,eU, *]|refine wz ?_|fail)
   exact aE _ (AS.le.refl _) fin
  ·have c1:((0:Int) < (m:Int))=False:=eq_false (by omega)
   have fin:fU 1 3 (σ.delBox rb) σ' v (l.map uF) /\ eM v rb /\ σ'.box rb=some (bR st'):=⟨hW,hnr,hrb⟩
   clear hc hend hrow H1 H2 H3
   repeat'(first|refine xs ?_ ?_ <;>intros|(refine wn ?_;intro bx hbx;try simp only[fb]at hbx)|refine aQ ?_|(refine aB ?_;intro bx hbx;(try simp only[fb]at hbx))|refine aD ?_|((with_reducible refine And.intro ?_ ?_);omega)|refine aA (d':=⟨⟩) ?_|refine aR (by kernel_rfl) ?_|refine aP ?_ (by repeat' first|exact lr _|assumption|refine ls ?_ ?_|refine lt ?_ ?_|simp only[*];done|simp only[fb, *,not_false_eq_true,and_self];done|exact lf ‹_› (by simp only[*]))|refine aC ?_ (by repeat' first|exact lr _|assumption|refine ls ?_ ?_|refine lt ?_ ?_|simp only[*];done|simp only[fb, *,not_false_eq_true,and_self];done|exact lf ‹_› (by simp only[*]))|simp -dsimp only[↓bp,bq,br,seval,eU, *]|refine wz ?_|fail)
   exact aE _ (AS.le.refl _) fin
set_option maxHeartbeats 1000000 in
theorem C7w{one:dD ->dA × dD}{P:dD ->Prop}{K:FuncId}(H:A2p G K dA.enc one P){σ:AS}{rb:Nat}{st:dD}(hst:P st)(h:σ.box rb=some (bR st)):
  aJ Tryd.prog G 31 [.ptr rb 0,mfn K rb 0] σ fun r s=>r= .sl .none ((aS one st).1.map dA.enc) [] /\ s=σ.setBox rb (bR (aS one st).2):=by
 obtain⟨H1,H2,H3⟩:=H
 have hok:∀ x:dA,(flat (dA.enc x)).length=5 /\ isv (dA.enc x)=true:=fun x=> ⟨x.len_flat,x.isv_enc⟩
 refine A2a (w:=5) (E:=48) (fun a ha=>by obtain⟨x,_,rfl⟩:=List.mem_map.1 ha;exact hok x) ?_
 have t1:=aZ (G:=G) 2 (by omega) h
 have hlt:=uN st
 have hst1:=H3 2 st hst
 unfold aS
 generalize aG 2 st=a at*
 obtain⟨n,st1⟩:=a
 simp only at*
 have hS0:(σ.delBox rb).le (σ.setBox rb (bR st1)):=⟨fun i cs hi=>by
  have hi':(if i=rb then none else σ.box i)=some cs:=hi
  split at hi'
  ·cases hi'
  ·rename_i e;simp only[AS.setBox,if_neg e];exact hi',fun _ _ h=>h,fun _ _ h=>h⟩
 have hd:(σ.delBox rb).box rb=none:=by simp[AS.delBox]
 clear h hst
 refine aJ.of_awp mixed Tryd.func31 rfl (by kernel_rfl) (by kernel_rfl) (by simp[Tryd.ntmps31]) Tryd.results31 ?_
 repeat'(first|refine xs ?_ ?_ <;>intros|(refine wn ?_;intro bx hbx;try simp only[fb]at hbx)|((refine aJ.mono t1 ?_;rintro r s ⟨rfl,rfl⟩;clear t1))|refine aQ ?_|(refine aB ?_;intro bx hbx;(try simp only[fb]at hbx))|refine aD ?_|((with_reducible refine And.intro ?_ ?_);omega)|refine aA (d':=⟨⟩) ?_|refine aR (by kernel_rfl) ?_|refine aP ?_ (by repeat' first|exact lr _|assumption|refine ls ?_ ?_|refine lt ?_ ?_|simp only[*];done|simp only[fb, *,not_false_eq_true,and_self];done|exact lf ‹_› (by simp only[*]))|refine aC ?_ (by repeat' first|exact lr _|assumption|refine ls ?_ ?_|refine lt ?_ ?_|simp only[*];done|simp only[fb, *,not_false_eq_true,and_self];done|exact lf ‹_› (by simp only[*]))|simp -dsimp only[↓bp,bq,br,seval,eU, *]|refine wz ?_|fail)
 refine aY (fun m e σ'=>∃ l st' v,e 6= .int .i64 m /\ e 5=v /\ l.length+m <=n /\ cT one n st1=(l++(cT one m st').1,(cT one m st').2) /\ P st' /\ σ'.box rb=some (bR st') /\ fU 5 48 (σ.delBox rb) σ' v (l.map dA.enc) /\ eM v rb) n ⟨[],st1, .nil,by simp -dsimp only[↓bp,bq,br,seval,eU],by simp -dsimp only[↓bp,bq,br,seval,eU],by simp,by simp,hst1,fF, .nil hS0,trivial⟩ ?_
 rintro m e σ' ⟨l,st',v,h6,h5,hlm,hrow,hP,hrb,hW,hnr⟩
 simp -dsimp only[↓bp,bq,br,seval,eU]at h6 h5
 by_cases hc:0 < m /\ st'.2=false
 ·obtain⟨hm,hb⟩:=hc
  obtain⟨m,rfl⟩:∃ k,m=k+1:=⟨m - 1,by omega⟩
  have c1:((0:Int) < ((m+1:Nat):Int))=True:=eq_true (by omega)
  have hx1:=H1 rb σ' st' hP hrb
  have hP2:=H2 st' hP
  have hrow2:cT one n st1=(l++[(one st').1]++(cT one m (one st').2).1,(cT one m (one st').2).2):=by
   rw[hrow];simp only[cT,hb];simp
  have hbx:σ'.box rb=some [eD st'.1, .bool false]:=by rw[hrb,bR,hb]
  have hwr:IntKind.i64.wrap (((m+1:Nat):Int) - 1)=(m:Int):=by rw[aH (by omega) (by omega)];omega
  clear hrow hP hrb H1 H2 H3 hb
  generalize one st'=o at*
  obtain⟨x,st2⟩:=o
  simp only at*
  have hW2:=hW.setOther hd hnr (bR st2)
  repeat'(first|refine xs ?_ ?_ <;>intros|(refine wn ?_;intro bx hbx;try simp only[fb]at hbx)|((refine aJ.mono hx1 ?_;rintro r s ⟨rfl,rfl⟩;clear hx1))|((refine pQ (σ0:=σ.delBox rb) (ys:=[dA.enc x]) hW2 rdE (kO sV.2.2.2.1) (fun a ha=>by simp at ha;subst ha;exact hok x) (by simp only[List.length_map,List.length_cons,List.length_nil];omega) (fun v2 σ2 hA=> ?_)))|refine aQ ?_|(refine aB ?_;intro bx hbx;(try simp only[fb]at hbx))|refine aD ?_|((with_reducible refine And.intro ?_ ?_);omega)|refine aA (d':=⟨⟩) ?_|refine aR (by kernel_rfl) ?_|refine aP ?_ (by repeat' first|exact lr _|assumption|refine ls ?_ ?_|refine lt ?_ ?_|simp only[*];done|simp only[fb, *,not_false_eq_true,and_self];done|exact lf ‹_› (by simp only[*]))|refine aC ?_ (by repeat' first|exact lr _|assumption|refine ls ?_ ?_|refine lt ?_ ?_|simp only[*];done|simp only[fb, *,not_false_eq_true,and_self];done|exact lf ‹_› (by simp only[*]))|simp -dsimp only[↓bp,bq,br,seval,eU, *]|refine wz ?_|fail)
  exact⟨m,by omega,l++[x],st2,v2,rfl,rfl,by simp;omega,rfl,hP2,(hA.keep rb _ fF hnr).1,by simpa using hA.buf,(hA.keep rb _ fF hnr).2⟩
 ·have hend:cT one m st'=([],st'):=by
   cases m with
   |zero=>rfl
   | succ m=>
    have:st'.2=true:=by cases hb:st'.2 with|true=>rfl|false=>exact absurd ⟨by omega,hb⟩ hc
    simp[cT,this]
  rw[hend]at hrow
  simp only[List.append_nil]at hrow
  rw[hrow]
  by_cases hm:0 < m
  ·have c1:((0:Int) < (m:Int))=True:=eq_true (by omega)
   have hb:st'.2=true:=by cases hb:st'.2 with|true=>rfl|false=>exact absurd ⟨hm,hb⟩ hc
   have hbx:σ'.box rb=some [eD st'.1, .bool true]:=by rw[hrb,bR,hb]
   clear hc hend hrow H1 H2 H3
   have fin:fU 5 48 (σ.delBox rb) σ' v (l.map dA.enc) /\ eM v rb /\ σ'.box rb=some (bR st'):=⟨hW,hnr,hrb⟩
   clear hrb
   repeat'(first|refine xs ?_ ?_ <;>intros|(refine wn ?_;intro bx hbx;try simp only[fb]at hbx)|refine aQ ?_|(refine aB ?_;intro bx hbx;(try simp only[fb]at hbx))|refine aD ?_|((with_reducible refine And.intro ?_ ?_);omega)|refine aA (d':=⟨⟩) ?_|refine aR (by kernel_rfl) ?_|refine aP ?_ (by repeat' first|exact lr _|assumption|refine ls ?_ ?_|refine lt ?_ ?_|simp only[*];done|simp only[fb, *,not_false_eq_true,and_self];done|exact lf ‹_› (by simp only[*]))|refine aC ?_ (by repeat' first|exact lr _|assumption|refine ls ?_ ?_|refine lt ?_ ?_|simp only[*];done|simp only[fb, *,not_false_eq_true,and_self];done|exact lf ‹_› (by simp only[*]))|simp -dsimp only[↓bp,bq,br,seval,eU, *]|refine wz ?_|fail)
   exact aE _ (AS.le.refl _) fin
  ·have c1:((0:Int) < (m:Int))=False:=eq_false (by omega)
   have fin:fU 5 48 (σ.delBox rb) σ' v (l.map dA.enc) /\ eM v rb /\ σ'.box rb=some (bR st'):=⟨hW,hnr,hrb⟩
   clear hc hend hrow H1 H2 H3
   repeat'(first|refine xs ?_ ?_ <;>intros|(refine wn ?_;intro bx hbx;try simp only[fb]at hbx)|refine aQ ?_|(refine aB ?_;intro bx hbx;(try simp only[fb]at hbx))|refine aD ?_|((with_reducible refine And.intro ?_ ?_);omega)|refine aA (d':=⟨⟩) ?_|refine aR (by kernel_rfl) ?_|refine aP ?_ (by repeat' first|exact lr _|assumption|refine ls ?_ ?_|refine lt ?_ ?_|simp only[*];done|simp only[fb, *,not_false_eq_true,and_self];done|exact lf ‹_› (by simp only[*]))|refine aC ?_ (by repeat' first|exact lr _|assumption|refine ls ?_ ?_|refine lt ?_ ?_|simp only[*];done|simp only[fb, *,not_false_eq_true,and_self];done|exact lf ‹_› (by simp only[*]))|simp -dsimp only[↓bp,bq,br,seval,eU, *]|refine wz ?_|fail)
   exact aE _ (AS.le.refl _) fin
set_option maxHeartbeats 1000000 in
theorem C7y{one:dD ->aO × dD}{P:dD ->Prop}{K:FuncId}(H:A2p G K aO.enc one P){σ:AS}{rb:Nat}{st:dD}(hst:P st)(h:σ.box rb=some (bR st)):
  aJ Tryd.prog G 33 [.ptr rb 0,mfn K rb 0] σ fun r s=>r= .sl .none ((aS one st).1.map aO.enc) [] /\ s=σ.setBox rb (bR (aS one st).2):=by
 obtain⟨H1,H2,H3⟩:=H
 have hok:∀ x:aO,(flat (aO.enc x)).length=8 /\ isv (aO.enc x)=true:=fun x=> ⟨x.len_flat,x.isv_enc⟩
 refine A2a (w:=8) (E:=46) (fun a ha=>by obtain⟨x,_,rfl⟩:=List.mem_map.1 ha;exact hok x) ?_
 have t1:=aZ (G:=G) 2 (by omega) h
 have hlt:=uN st
 have hst1:=H3 2 st hst
 unfold aS
 generalize aG 2 st=a at*
 obtain⟨n,st1⟩:=a
 simp only at*
 have hS0:(σ.delBox rb).le (σ.setBox rb (bR st1)):=⟨fun i cs hi=>by
  have hi':(if i=rb then none else σ.box i)=some cs:=hi
  split at hi'
  ·cases hi'
  ·rename_i e;simp only[AS.setBox,if_neg e];exact hi',fun _ _ h=>h,fun _ _ h=>h⟩
 have hd:(σ.delBox rb).box rb=none:=by simp[AS.delBox]
 clear h hst
 refine aJ.of_awp mixed Tryd.func33 rfl (by kernel_rfl) (by kernel_rfl) (by simp[Tryd.ntmps33]) Tryd.results33 ?_
 repeat'(first|refine xs ?_ ?_ <;>intros|(refine wn ?_;intro bx hbx;try simp only[fb]at hbx)|((refine aJ.mono t1 ?_;rintro r s ⟨rfl,rfl⟩;clear t1))|refine aQ ?_|(refine aB ?_;intro bx hbx;(try simp only[fb]at hbx))|refine aD ?_|((with_reducible refine And.intro ?_ ?_);omega)|refine aA (d':=⟨⟩) ?_|refine aR (by kernel_rfl) ?_|refine aP ?_ (by repeat' first|exact lr _|assumption|refine ls ?_ ?_|refine lt ?_ ?_|simp only[*];done|simp only[fb, *,not_false_eq_true,and_self];done|exact lf ‹_› (by simp only[*]))|refine aC ?_ (by repeat' first|exact lr _|assumption|refine ls ?_ ?_|refine lt ?_ ?_|simp only[*];done|simp only[fb, *,not_false_eq_true,and_self];done|exact lf ‹_› (by simp only[*]))|simp -dsimp only[↓bp,bq,br,seval,eU, *]|refine wz ?_|fail)
 refine aY (fun m e σ'=>∃ l st' v,e 6= .int .i64 m /\ e 5=v /\ l.length+m <=n /\ cT one n st1=(l++(cT one m st').1,(cT one m st').2) /\ P st' /\ σ'.box rb=some (bR st') /\ fU 8 46 (σ.delBox rb) σ' v (l.map aO.enc) /\ eM v rb) n ⟨[],st1, .nil,by simp -dsimp only[↓bp,bq,br,seval,eU],by simp -dsimp only[↓bp,bq,br,seval,eU],by simp,by simp,hst1,fF, .nil hS0,trivial⟩ ?_
 rintro m e σ' ⟨l,st',v,h6,h5,hlm,hrow,hP,hrb,hW,hnr⟩
 simp -dsimp only[↓bp,bq,br,seval,eU]at h6 h5
 by_cases hc:0 < m /\ st'.2=false
 ·obtain⟨hm,hb⟩:=hc
  obtain⟨m,rfl⟩:∃ k,m=k+1:=⟨m - 1,by omega⟩
  have c1:((0:Int) < ((m+1:Nat):Int))=True:=eq_true (by omega)
  have hx1:=H1 rb σ' st' hP hrb
  have hP2:=H2 st' hP
  have hrow2:cT one n st1=(l++[(one st').1]++(cT one m (one st').2).1,(cT one m (one st').2).2):=by
   rw[hrow];simp only[cT,hb];simp
  have hbx:σ'.box rb=some [eD st'.1, .bool false]:=by rw[hrb,bR,hb]
  have hwr:IntKind.i64.wrap (((m+1:Nat):Int) - 1)=(m:Int):=by rw[aH (by omega) (by omega)];omega
  clear hrow hP hrb H1 H2 H3 hb
  generalize one st'=o at*
  obtain⟨x,st2⟩:=o
  simp only at*
  have hW2:=hW.setOther hd hnr (bR st2)
  repeat'(first|refine xs ?_ ?_ <;>intros|(refine wn ?_;intro bx hbx;try simp only[fb]at hbx)|((refine aJ.mono hx1 ?_;rintro r s ⟨rfl,rfl⟩;clear hx1))|((refine pQ (σ0:=σ.delBox rb) (ys:=[aO.enc x]) hW2 rdS (kO nP.2.2.2.1) (fun a ha=>by simp at ha;subst ha;exact hok x) (by simp only[List.length_map,List.length_cons,List.length_nil];omega) (fun v2 σ2 hA=> ?_)))|refine aQ ?_|(refine aB ?_;intro bx hbx;(try simp only[fb]at hbx))|refine aD ?_|((with_reducible refine And.intro ?_ ?_);omega)|refine aA (d':=⟨⟩) ?_|refine aR (by kernel_rfl) ?_|refine aP ?_ (by repeat' first|exact lr _|assumption|refine ls ?_ ?_|refine lt ?_ ?_|simp only[*];done|simp only[fb, *,not_false_eq_true,and_self];done|exact lf ‹_› (by simp only[*]))|refine aC ?_ (by repeat' first|exact lr _|assumption|refine ls ?_ ?_|refine lt ?_ ?_|simp only[*];done|simp only[fb, *,not_false_eq_true,and_self];done|exact lf ‹_› (by simp only[*]))|simp -dsimp only[↓bp,bq,br,seval,eU, *]|refine wz ?_|fail)
  exact⟨m,by omega,l++[x],st2,v2,rfl,rfl,by simp;omega,rfl,hP2,(hA.keep rb _ fF hnr).1,by simpa using hA.buf,(hA.keep rb _ fF hnr).2⟩
 ·have hend:cT one m st'=([],st'):=by
   cases m with
   |zero=>rfl
   | succ m=>
    have:st'.2=true:=by cases hb:st'.2 with|true=>rfl|false=>exact absurd ⟨by omega,hb⟩ hc
    simp[cT,this]
  rw[hend]at hrow
  simp only[List.append_nil]at hrow
  rw[hrow]
  by_cases hm:0 < m
  ·have c1:((0:Int) < (m:Int))=True:=eq_true (by omega)
   have hb:st'.2=true:=by cases hb:st'.2 with|true=>rfl|false=>exact absurd ⟨hm,hb⟩ hc
   have hbx:σ'.box rb=some [eD st'.1, .bool true]:=by rw[hrb,bR,hb]
   clear hc hend hrow H1 H2 H3
   have fin:fU 8 46 (σ.delBox rb) σ' v (l.map aO.enc) /\ eM v rb /\ σ'.box rb=some (bR st'):=⟨hW,hnr,hrb⟩
   clear hrb
   repeat'(first|refine xs ?_ ?_ <;>intros|(refine wn ?_;intro bx hbx;try simp only[fb]at hbx)|refine aQ ?_|(refine aB ?_;intro bx hbx;(try simp only[fb]at hbx))|refine aD ?_|((with_reducible refine And.intro ?_ ?_);omega)|refine aA (d':=⟨⟩) ?_|refine aR (by kernel_rfl) ?_|refine aP ?_ (by repeat' first|exact lr _|assumption|refine ls ?_ ?_|refine lt ?_ ?_|simp only[*];done|simp only[fb, *,not_false_eq_true,and_self];done|exact lf ‹_› (by simp only[*]))|refine aC ?_ (by repeat' first|exact lr _|assumption|refine ls ?_ ?_|refine lt ?_ ?_|simp only[*];done|simp only[fb, *,not_false_eq_true,and_self];done|exact lf ‹_› (by simp only[*]))|simp -dsimp only[↓bp,bq,br,seval,eU, *]|refine wz ?_|fail)
   exact aE _ (AS.le.refl _) fin
  ·have c1:((0:Int) < (m:Int))=False:=eq_false (by omega)
   have fin:fU 8 46 (σ.delBox rb) σ' v (l.map aO.enc) /\ eM v rb /\ σ'.box rb=some (bR st'):=⟨hW,hnr,hrb⟩
   clear hc hend hrow H1 H2 H3
   repeat'(first|refine xs ?_ ?_ <;>intros|(refine wn ?_;intro bx hbx;try simp only[fb]at hbx)|refine aQ ?_|(refine aB ?_;intro bx hbx;(try simp only[fb]at hbx))|refine aD ?_|((with_reducible refine And.intro ?_ ?_);omega)|refine aA (d':=⟨⟩) ?_|refine aR (by kernel_rfl) ?_|refine aP ?_ (by repeat' first|exact lr _|assumption|refine ls ?_ ?_|refine lt ?_ ?_|simp only[*];done|simp only[fb, *,not_false_eq_true,and_self];done|exact lf ‹_› (by simp only[*]))|refine aC ?_ (by repeat' first|exact lr _|assumption|refine ls ?_ ?_|refine lt ?_ ?_|simp only[*];done|simp only[fb, *,not_false_eq_true,and_self];done|exact lf ‹_› (by simp only[*]))|simp -dsimp only[↓bp,bq,br,seval,eU, *]|refine wz ?_|fail)
   exact aE _ (AS.le.refl _) fin
end
set_option maxRecDepth 20000
section
variable {G:Nat ->AV}
def cC(T:dD ->aF × dD)(k:Nat)(st:dD):aF × dD:=
 if k=1 then(.mk 1 (bY st).1 ((cT (aG 4) (aG 1 (bY st).2).1 (aG 1 (bY st).2).2).1.map UInt32.ofNat) [] 0 [] [],(cT (aG 4) (aG 1 (bY st).2).1 (aG 1 (bY st).2).2).2)
 else if k=2 then(.mk 2 false [] (fJ st).1 0 [] [],(fJ st).2)
 else if k=3 \/ k=5 then(.mk (UInt8.ofNat k) false [] [] (aG 6 st).1 [] [],(aG 6 st).2)
 else if k=4 then(.mk 4 false [] [] (aG 2 st).1 (aS T (aG 2 st).2).1 [],(aS T (aG 2 st).2).2)
 else if k=6 then(.mk 6 false [] [] 0 (aS T st).1 [],(aS T st).2)
 else if k=7 then(if(bY (aS T st).2).1=true then(.mk 7 false [] [] 0 (aS T st).1 [(T (bY (aS T st).2).2).1],(T (bY (aS T st).2).2).2)else(.mk 7 false [] [] 0 (aS T st).1 [],(bY (aS T st).2).2))
 else(.mk (UInt8.ofNat k) false [] [] 0 [] [],(st.1,true))
def bB:Nat ->dD ->aF × dD
 |0,st=> (.mk 0 false [] [] 0 [] [],(st.1,true))
 |f+1,st=>cC (bB f) (aG 1 st).1 (aG 1 st).2
theorem sR(n:Nat)(st:dD):(bV n st).2.1.length <=st.1.length:=by unfold bV;split <;>simp
theorem dO(n:Nat)(st:dD):(aG n st).2.1.length <=st.1.length:=sR n st
theorem B3t(st:dD)(h:(aG 1 st).1 ≠ 0):(aG 1 st).2.1.length < st.1.length:=by
 unfold aG bV at*
 split
 ·rename_i hc;rw[if_pos hc]at h;exact absurd rfl h
 ·simp;rename_i hc;simp only[not_or]at hc;omega
theorem sJ(st:dD):(fJ st).2.1.length <=st.1.length:=Nat.le_trans (sR _ _) (dO _ _)
theorem nB(st:dD):(bY st).2.1.length <=st.1.length:=dO 1 st
theorem wQ{α:Type}{one:dD ->α × dD}(h:∀ st,(one st).2.1.length <=st.1.length):∀ (n:Nat) (st:dD),(cT one n st).2.1.length <=st.1.length
 |0,st=>Nat.le_refl _
 | n+1,st=>by
  simp only[cT]
  split
  ·exact Nat.le_refl _
  ·exact Nat.le_trans (wQ h n _) (h st)
theorem iC{α:Type}{one:dD ->α × dD}(h:∀ st,(one st).2.1.length <=st.1.length)(st:dD):(aS one st).2.1.length <=st.1.length:=Nat.le_trans (wQ h _ _) (dO _ _)
theorem B3j{T:dD ->aF × dD}(h:∀ st,(T st).2.1.length <=st.1.length)(k:Nat)(st:dD):(cC T k st).2.1.length <=st.1.length:=by
 unfold cC
 repeat' split
 ·exact Nat.le_trans (wQ (dO 4) _ _) (Nat.le_trans (dO _ _) (nB _))
 ·exact sJ _
 ·exact dO _ _
 ·exact Nat.le_trans (iC h _) (dO _ _)
 ·exact iC h _
 ·exact Nat.le_trans (h _) (Nat.le_trans (nB _) (iC h _))
 ·exact Nat.le_trans (nB _) (iC h _)
 ·exact Nat.le_refl _
theorem sU:∀ (f:Nat) (st:dD),(bB f st).2.1.length <=st.1.length
 |0,st=>Nat.le_refl _
 |f+1,st=>Nat.le_trans (B3j (sU f) _ _) (dO _ _)
theorem D7g {P:Program} {f:FuncId} {args:List AV} {σ:AS} {rb w:Nat} {E:TypeId} {z xs:List AV} {C:AV ->AV} {T:AV} (hh:∀ b m,Has b m w (C (.bs b m w E))) (hz:∀ b m ys,Frz b m w (.sl (.own b) ys []) (C (.bs b m w E)) (C (.sl (.own b) ys []))) (hlt:∀ v,Le v (.sl .none xs []) ->Le (C v) T)
  (h:aJ P G f args σ fun r s=>∃ v,r=C v /\ fU w E (σ.delBox rb) s v xs /\ eM v rb /\ s.box rb=some z):aJ P G f args σ fun r s=>r=T /\ s=σ.setBox rb z:=by
 have fin:∀ S:AS,(σ.delBox rb).le S ->S.box rb=some z -> (σ.setBox rb z).le S:=fun S hl hr=>by
  refine⟨fun i cs hi=> ?_,hl.tip,hl.ty⟩
  simp only[AS.setBox]at hi
  split at hi
  ·rename_i e;rw[e,hr];exact hi
  ·rename_i e
   refine hl.box i cs ?_
   show(if i=rb then none else σ.box i)=some cs
   rw[if_neg e];exact hi
 refine⟨h.1,fun K w' vals hr hv=> (h.2 K w' vals hr hv).mono fun e w2 ⟨v,r,s,K',he,⟨x,hx,hW,hn,hzz⟩,h1,h2,h3⟩=> ?_⟩
 subst hx
 cases hW with
 |nil hl=>exact⟨v,_,_,K',he,⟨rfl,rfl⟩,hlt _ Le.nil _ _ h1,h2.weaken (fin s hl hzz),h3⟩
 | row b xs hl h0 ht hb hx=>
  obtain⟨cap,F,g1,g2,g3⟩:=hh b xs.length K' v h1
  obtain⟨K2,k1,k2,k3⟩:=mI h2 hb ⟨rfl,rfl,hx⟩ g1 g2 g3
  have hfz:(s.froze b xs.length w).box rb=some z:=by
   show(if rb=b then none else s.box rb)=some z
   rw[if_neg hn];exact hzz
  exact⟨v,_,_,K2,he,⟨rfl,rfl⟩,hlt _ Le.gh _ _ (k3 _ _ _ (hz b xs.length xs) h1),k2.weaken (fin _ (AS.froze_le hl h0 ht) hfz),h3.trans k1⟩
theorem tW{P:Program}{f:FuncId}{args:List AV}{σ s0:AS}{t:aF}(h:aJ P G f args σ fun r s=> (∃ li it ta,r= .agg [.int .u8 t.knd, .bool t.neg,li, .str t.text, .int .i64 t.num,it,ta] /\ Le li (jF t.limbs) /\ Le it (dK t.items) /\ Le ta (dK t.tail)) /\ s=s0):aJ P G f args σ fun r s=>r=t.enc /\ s=s0:=by
 refine aJ.tell h ?_
 rintro r s ⟨⟨li,it,ta,rfl,h1,h2,h3⟩,rfl⟩
 rw[<- aF.fold_enc]
 exact⟨_,Le.agg (.cons (Le.refl _) (.cons (Le.refl _) (.cons h1 (.cons (Le.refl _) (.cons (Le.refl _) (.cons h2 (.cons h3 .nil))))))) (fun d hd=>by simp at hd;rcases hd with rfl|rfl|rfl|rfl|rfl|rfl|rfl <;>rfl),rfl,rfl⟩
theorem kT{k:Nat}(hk:k < 256):IntKind.u8.wrap (k:Int)=k:=by rw[IntKind.wrap_u8];omega
end
section
open Go Go.Av Go.RowKit
variable {G:Nat ->AV}
end
set_option maxRecDepth 20000
section
variable (G:Nat ->AV)
def C9s(ws:List (List UInt8)):AV:= .sl .none (ws.map AV.str) []
instance {ws:List (List UInt8)} :NotBs (C9s ws):=⟨fun _ _ _ _ h=>by unfold C9s at h;cases h⟩
end
set_option maxRecDepth 20000
section
variable {G:Nat ->AV}
end
set_option maxRecDepth 20000
section
variable {G:Nat ->AV}
end
set_option maxRecDepth 20000
section
variable (G:Nat ->AV)
def D8n(l:List Int):AV:= .sl .none (l.map fun n=> .int .i64 n) []
end
set_option maxRecDepth 20000
section
variable (G:Nat ->AV)
end
set_option maxRecDepth 20000
section
def bH:=And.intro (And.intro (And.intro (And.intro @nK @nL) (And.intro @lY (And.intro @nA @kW))) (And.intro (And.intro @lC (And.intro @oU @iF)) (And.intro @jD (And.intro @aF.flat_enc @aF.isv_enc)))) (And.intro (And.intro (And.intro @aF.fold_enc (And.intro @cA @bL)) (And.intro @dE (And.intro @fR @gJ))) (And.intro (And.intro @dL (And.intro @cN @fA)) (And.intro @gN (And.intro @fZ @eO))))
variable (G:Nat ->AV)
set_option maxHeartbeats 4000000 in
theorem B4c(t:aF)(hb:t.bulk <=1000000000)(e7:t.knd=7)(hit:∀ x,x ∈ t.items ->aN Tryd.prog G 46 [x.enc] (.int .i64 (size x)))(htt:∀ x,x ∈ t.tail ->aN Tryd.prog G 46 [x.enc] (.int .i64 (size x))):
  aN Tryd.prog G 46 [t.enc] (.int .i64 (size t)):=by
 have hli:=eY t
 have hlt:=gA t
 have hll:=eZ t
 have hp4:=fX G t
 have hse:=gO t
 have hle:=fun x (_:x ∈ t.items)=>jP x
 have hw1:IntKind.i64.wrap (1+(t.limbs.length:Int))=1+t.limbs.length:=aH (by omega) (by omega)
 have hkn:=t.knd_nn
 intro σ
 refine aJ.of_awp mixed Tryd.func46 rfl (by kernel_rfl) (by kernel_rfl) (by simp[Tryd.ntmps46]) Tryd.results46 ?_
 simp -dsimp only[↓bp,bq,br,seval,bH]
 refine eT fun b1 h1=> ?_
 simp -dsimp only[↓bp,bq,br,seval,bH]
 refine bO fun b3 h3=> ?_
 simp only[cY]at h3
 obtain⟨h3,h31,h13⟩:=h3
 simp -dsimp only[↓bp,bq,br,seval,bH]
 refine bO fun b5 h5=> ?_
 simp only[cY]at h5
 obtain⟨⟨h5,h51,h15⟩,h53,h35⟩:=h5
 have k1:=eq_false (show ¬ t.knd=1 by omega)
 have k2:=eq_false (show ¬ t.knd=2 by omega)
 have k3:=eq_false (show ¬ t.knd=3 by omega)
 have k4:=eq_false (show ¬ t.knd=4 by omega)
 have k5:=eq_false (show ¬ t.knd=5 by omega)
 have k6:=eq_false (show ¬ t.knd=6 by omega)
 have k7:=eq_true e7
 obtain⟨f0,hf0⟩:∃ f0,f0=(bare t false false true true && decide ((t.tail.length:Int) <=if(t.items.length:Int) < 1 then(t.items.length:Int)else 1)):=⟨_,rfl⟩
 have hhd:head t=(1,1,f0 && t.tail.all fun x=>decide (x.knd ≠ 7)):=by unfold head;rw[if_neg (by omega),if_neg (by omega),if_neg (by omega),if_neg (by omega),if_pos e7,hf0]
 clear e7
 cases hbr:bare t false false true true
 ·rw [hbr]at hp4 hf0
  simp only[Bool.false_and]at hf0
  repeat'(first|refine xs ?_ ?_ <;>intros|(refine wn ?_;intro bx hbx;try simp only[fb]at hbx)|refine wp hp4 ?_|refine aQ ?_|(refine aB ?_;intro bx hbx;(try simp only[fb]at hbx))|refine aD ?_|((with_reducible refine And.intro ?_ ?_);omega)|refine aA (d':=⟨⟩) ?_|refine aR (by kernel_rfl) ?_|refine aP ?_ (by repeat' first|exact lr _|assumption|refine ls ?_ ?_|refine lt ?_ ?_|simp only[*];done|simp only[fb, *,not_false_eq_true,and_self];done|exact lf ‹_› (by simp only[*]))|refine aC ?_ (by repeat' first|exact lr _|assumption|refine ls ?_ ?_|refine lt ?_ ?_|simp only[*];done|simp only[fb, *,not_false_eq_true,and_self];done|exact lf ‹_› (by simp only[*]))|simp -dsimp only[↓bp,bq,br,seval,bH,h53,h35,h51,h15,h31,h13, *]|refine wz ?_|fail)
  refine aY (fun n e σ'=>∃ i:Nat,i <=t.tail.length /\ n=t.tail.length - i /\ e 80= .int .i64 i /\ σ.le σ' /\ σ'.box b1=some [.int .u8 t.knd, .bool t.neg,jF t.limbs, .str t.text, .int .i64 t.num,dK t.items,dK t.tail] /\
    σ'.box b3=some [.int .i64 1] /\ σ'.box b5=some [.bool (f0 && (t.tail.take i).all fun x=>decide (x.knd ≠ 7))]) t.tail.length ⟨0,by omega,by omega,by simp -dsimp only[↓bp,bq,br,seval,bH];try rfl,by repeat'(first|exact AS.le.refl _|assumption|(refine bQ (by assumption) ?_)),by simp -dsimp only[↓bp,bq,br,seval,bH,h53,h35,h51,h15,h31,h13],by simp -dsimp only[↓bp,bq,br,seval,bH,h53,h35,h51,h15,h31,h13],by simp[AS.setBox,h53,h35,h51,h15,h31,h13,hf0]⟩ ?_
  rintro n v σ' ⟨i,hi,rfl,h80,hle',hB1,hB3,hB5⟩
  simp -dsimp only[↓bp,bq,br,seval,bH]at h80
  simp -dsimp only[↓bp,bq,br,seval,bH,h80]
  refine dQ (fun hlt2=> ?_) (fun hge2=> ?_)
  ·obtain⟨x,hx⟩:∃ x,t.tail[i]? =some x:=⟨_,List.getElem?_eq_getElem (by omega)⟩
   have hsn:(f0 && (t.tail.take (i+1)).all (fun x=>decide (x.knd ≠ 7)))=((f0 && (t.tail.take i).all fun x=>decide (x.knd ≠ 7)) && decide (x.knd ≠ 7)):=by rw[aK _ _ _ hx,List.all_append];simp[Bool.and_assoc]
   obtain⟨g,hg⟩:∃ g,g=(f0 && (t.tail.take i).all fun x=>decide (x.knd ≠ 7)):=⟨_,rfl⟩
   rw[<- hg]at hB5 hsn
   simp -dsimp only[↓bp,bq,br,seval,bH,h80,hx]
   refine bO fun b7 h7=> ?_
   have n1: ¬ b1=b7:=fun e=>by rw[<- e]at h7;rw[h7.1]at hB1;cases hB1
   have n3: ¬ b3=b7:=fun e=>by rw[<- e]at h7;rw[h7.1]at hB3;cases hB3
   have n5: ¬ b5=b7:=fun e=>by rw[<- e]at h7;rw[h7.1]at hB5;cases hB5
   have m5: ¬ b7=b5:=fun e=>n5 e.symm
   cases g with
   | false=>
    simp -dsimp only[↓bp,bq,br,seval,bH,h80,hx,hB1,hB3,hB5,n1,n3,n5,m5,h53,h35,h51,h15,h31,h13]
    refine⟨t.tail.length - (i+1),by omega,i+1,by omega,rfl,by rw[aH (by omega) (by omega)];rfl,by repeat'(first|assumption|(refine bQ (by first|assumption|exact hle'.fresh h7) ?_)),?_⟩
    rw[hsn]
    first|rfl|simp
   | true=>
    simp -dsimp only[↓bp,bq,br,seval,bH,h80,hx,hB1,hB3,hB5,n1,n3,n5,m5,h53,h35,h51,h15,h31,h13]
    refine⟨t.tail.length - (i+1),by omega,i+1,by omega,rfl,by rw[aH (by omega) (by omega)];rfl,by repeat'(first|assumption|(refine bQ (by first|assumption|exact hle'.fresh h7) ?_)),?_⟩
    rw[hsn]
    first|rfl|simp
  ·have:i=t.tail.length:=by omega
   subst this
   rw[List.take_length]at hB5
   simp -dsimp only[↓bp,bq,br,seval,bH,h80,hB1,hB3,hB5,h53,h35,h51,h15,h31,h13]
   refine aJ.mono (bI G t.items 1 (by omega) (by omega) (by omega) hit _ b5 b3 h53 1 (f0 && t.tail.all fun x=>decide (x.knd ≠ 7)) (by simp -dsimp only[↓bp,bq,br,seval,bH,h53,h35,h51,h15,h31,h13,hB1,hB3,hB5]) (by simp -dsimp only[↓bp,bq,br,seval,bH,h53,h35,h51,h15,h31,h13,hB1,hB3,hB5]) (by omega) (fun _=>by omega) (by omega)) ?_
   rintro r σ' rfl
   have ha:=eJ t.items hle 1 (by omega) (by omega) (1,(f0 && t.tail.all fun x=>decide (x.knd ≠ 7))) (by simp only;omega) (fun _=>by simp only;omega) (by simp only;omega)
   simp -dsimp only[↓bp,bq,br,seval,bH,h53,h35,h51,h15,h31,h13,hB1,hB3,hB5]
   refine aJ.mono (bI G t.tail 0 (by omega) (by omega) (by omega) htt _ b5 b3 h53 (aU t.items 1 (1,(f0 && t.tail.all fun x=>decide (x.knd ≠ 7)))).1 (aU t.items 1 (1,(f0 && t.tail.all fun x=>decide (x.knd ≠ 7)))).2 (by simp -dsimp only[↓bp,bq,br,seval,bH,h53,h35,h51,h15,h31,h13,hB1,hB3,hB5]) (by simp -dsimp only[↓bp,bq,br,seval,bH,h53,h35,h51,h15,h31,h13,hB1,hB3,hB5]) ha.1 ha.2.1 ha.2.2) ?_
   rintro r σ' rfl
   simp -dsimp only[↓bp,bq,br,seval,bH,h53,h35,h51,h15,h31,h13,hB1,hB3,hB5]
   cases hfin:(aU t.tail 0 ((aU t.items 1 (1,(f0 && t.tail.all fun x=>decide (x.knd ≠ 7)))).1,(aU t.items 1 (1,(f0 && t.tail.all fun x=>decide (x.knd ≠ 7)))).2)).2
   ·simp -dsimp only[↓bp,bq,br,seval,bH,h53,h35,h51,h15,h31,h13,hB1,hB3,hB5]
    refine aL ?_ (by repeat'(first|exact AS.le.refl _|assumption|(refine bQ (by assumption) ?_)))
    rw[hse,hhd]
    simp only[k1,hfin,if_false,Bool.true_and,Bool.false_and,Bool.false_eq_true,if_true]
   ·simp -dsimp only[↓bp,bq,br,seval,bH,h53,h35,h51,h15,h31,h13,hB1,hB3,hB5]
    refine aL ?_ (by repeat'(first|exact AS.le.refl _|assumption|(refine bQ (by assumption) ?_)))
    rw[hse,hhd]
    simp only[k1,hfin,if_false,Bool.true_and,Bool.false_and,Bool.false_eq_true,if_true]
 ·rw [hbr]at hp4 hf0
  simp only[Bool.true_and]at hf0
  repeat'(first|refine xs ?_ ?_ <;>intros|(refine wn ?_;intro bx hbx;try simp only[fb]at hbx)|refine wp hp4 ?_|refine aQ ?_|(refine aB ?_;intro bx hbx;(try simp only[fb]at hbx))|refine aD ?_|((with_reducible refine And.intro ?_ ?_);omega)|refine aA (d':=⟨⟩) ?_|refine aR (by kernel_rfl) ?_|refine aP ?_ (by repeat' first|exact lr _|assumption|refine ls ?_ ?_|refine lt ?_ ?_|simp only[*];done|simp only[fb, *,not_false_eq_true,and_self];done|exact lf ‹_› (by simp only[*]))|refine aC ?_ (by repeat' first|exact lr _|assumption|refine ls ?_ ?_|refine lt ?_ ?_|simp only[*];done|simp only[fb, *,not_false_eq_true,and_self];done|exact lf ‹_› (by simp only[*]))|simp -dsimp only[↓bp,bq,br,seval,bH,h53,h35,h51,h15,h31,h13, *]|refine wz ?_|fail)
  refine aY (fun n e σ'=>∃ i:Nat,i <=t.tail.length /\ n=t.tail.length - i /\ e 80= .int .i64 i /\ σ.le σ' /\ σ'.box b1=some [.int .u8 t.knd, .bool t.neg,jF t.limbs, .str t.text, .int .i64 t.num,dK t.items,dK t.tail] /\
    σ'.box b3=some [.int .i64 1] /\ σ'.box b5=some [.bool (f0 && (t.tail.take i).all fun x=>decide (x.knd ≠ 7))]) t.tail.length ⟨0,by omega,by omega,by simp -dsimp only[↓bp,bq,br,seval,bH];try rfl,by repeat'(first|exact AS.le.refl _|assumption|(refine bQ (by assumption) ?_)),by simp -dsimp only[↓bp,bq,br,seval,bH,h53,h35,h51,h15,h31,h13],by simp -dsimp only[↓bp,bq,br,seval,bH,h53,h35,h51,h15,h31,h13],by simp[AS.setBox,h53,h35,h51,h15,h31,h13,hf0]⟩ ?_
  rintro n v σ' ⟨i,hi,rfl,h80,hle',hB1,hB3,hB5⟩
  simp -dsimp only[↓bp,bq,br,seval,bH]at h80
  simp -dsimp only[↓bp,bq,br,seval,bH,h80]
  refine dQ (fun hlt2=> ?_) (fun hge2=> ?_)
  ·obtain⟨x,hx⟩:∃ x,t.tail[i]? =some x:=⟨_,List.getElem?_eq_getElem (by omega)⟩
   have hsn:(f0 && (t.tail.take (i+1)).all (fun x=>decide (x.knd ≠ 7)))=((f0 && (t.tail.take i).all fun x=>decide (x.knd ≠ 7)) && decide (x.knd ≠ 7)):=by rw[aK _ _ _ hx,List.all_append];simp[Bool.and_assoc]
   obtain⟨g,hg⟩:∃ g,g=(f0 && (t.tail.take i).all fun x=>decide (x.knd ≠ 7)):=⟨_,rfl⟩
   rw[<- hg]at hB5 hsn
   simp -dsimp only[↓bp,bq,br,seval,bH,h80,hx]
   refine bO fun b7 h7=> ?_
   have n1: ¬ b1=b7:=fun e=>by rw[<- e]at h7;rw[h7.1]at hB1;cases hB1
   have n3: ¬ b3=b7:=fun e=>by rw[<- e]at h7;rw[h7.1]at hB3;cases hB3
   have n5: ¬ b5=b7:=fun e=>by rw[<- e]at h7;rw[h7.1]at hB5;cases hB5
   have m5: ¬ b7=b5:=fun e=>n5 e.symm
   cases g with
   | false=>
    simp -dsimp only[↓bp,bq,br,seval,bH,h80,hx,hB1,hB3,hB5,n1,n3,n5,m5,h53,h35,h51,h15,h31,h13]
    refine⟨t.tail.length - (i+1),by omega,i+1,by omega,rfl,by rw[aH (by omega) (by omega)];rfl,by repeat'(first|assumption|(refine bQ (by first|assumption|exact hle'.fresh h7) ?_)),?_⟩
    rw[hsn]
    first|rfl|simp
   | true=>
    simp -dsimp only[↓bp,bq,br,seval,bH,h80,hx,hB1,hB3,hB5,n1,n3,n5,m5,h53,h35,h51,h15,h31,h13]
    refine⟨t.tail.length - (i+1),by omega,i+1,by omega,rfl,by rw[aH (by omega) (by omega)];rfl,by repeat'(first|assumption|(refine bQ (by first|assumption|exact hle'.fresh h7) ?_)),?_⟩
    rw[hsn]
    first|rfl|simp
  ·have:i=t.tail.length:=by omega
   subst this
   rw[List.take_length]at hB5
   simp -dsimp only[↓bp,bq,br,seval,bH,h80,hB1,hB3,hB5,h53,h35,h51,h15,h31,h13]
   refine aJ.mono (bI G t.items 1 (by omega) (by omega) (by omega) hit _ b5 b3 h53 1 (f0 && t.tail.all fun x=>decide (x.knd ≠ 7)) (by simp -dsimp only[↓bp,bq,br,seval,bH,h53,h35,h51,h15,h31,h13,hB1,hB3,hB5]) (by simp -dsimp only[↓bp,bq,br,seval,bH,h53,h35,h51,h15,h31,h13,hB1,hB3,hB5]) (by omega) (fun _=>by omega) (by omega)) ?_
   rintro r σ' rfl
   have ha:=eJ t.items hle 1 (by omega) (by omega) (1,(f0 && t.tail.all fun x=>decide (x.knd ≠ 7))) (by simp only;omega) (fun _=>by simp only;omega) (by simp only;omega)
   simp -dsimp only[↓bp,bq,br,seval,bH,h53,h35,h51,h15,h31,h13,hB1,hB3,hB5]
   refine aJ.mono (bI G t.tail 0 (by omega) (by omega) (by omega) htt _ b5 b3 h53 (aU t.items 1 (1,(f0 && t.tail.all fun x=>decide (x.knd ≠ 7)))).1 (aU t.items 1 (1,(f0 && t.tail.all fun x=>decide (x.knd ≠ 7)))).2 (by simp -dsimp only[↓bp,bq,br,seval,bH,h53,h35,h51,h15,h31,h13,hB1,hB3,hB5]) (by simp -dsimp only[↓bp,bq,br,seval,bH,h53,h35,h51,h15,h31,h13,hB1,hB3,hB5]) ha.1 ha.2.1 ha.2.2) ?_
   rintro r σ' rfl
   simp -dsimp only[↓bp,bq,br,seval,bH,h53,h35,h51,h15,h31,h13,hB1,hB3,hB5]
   cases hfin:(aU t.tail 0 ((aU t.items 1 (1,(f0 && t.tail.all fun x=>decide (x.knd ≠ 7)))).1,(aU t.items 1 (1,(f0 && t.tail.all fun x=>decide (x.knd ≠ 7)))).2)).2
   ·simp -dsimp only[↓bp,bq,br,seval,bH,h53,h35,h51,h15,h31,h13,hB1,hB3,hB5]
    refine aL ?_ (by repeat'(first|exact AS.le.refl _|assumption|(refine bQ (by assumption) ?_)))
    rw[hse,hhd]
    simp only[k1,hfin,if_false,Bool.true_and,Bool.false_and,Bool.false_eq_true,if_true]
   ·simp -dsimp only[↓bp,bq,br,seval,bH,h53,h35,h51,h15,h31,h13,hB1,hB3,hB5]
    refine aL ?_ (by repeat'(first|exact AS.le.refl _|assumption|(refine bQ (by assumption) ?_)))
    rw[hse,hhd]
    simp only[k1,hfin,if_false,Bool.true_and,Bool.false_and,Bool.false_eq_true,if_true]
end
set_option maxRecDepth 20000
section
def cH:=And.intro (And.intro (And.intro (And.intro @nK @nL) (And.intro @lY (And.intro @nA @kW))) (And.intro (And.intro @lC (And.intro @oU @iF)) (And.intro @jD (And.intro @aF.flat_enc @aF.isv_enc)))) (And.intro (And.intro (And.intro @aF.fold_enc (And.intro @cA @bL)) (And.intro @dE (And.intro @fR @gJ))) (And.intro (And.intro @dL (And.intro @cN @fA)) (And.intro @gN (And.intro @fZ @eO))))
variable (G:Nat ->AV)
set_option maxHeartbeats 4000000 in
theorem C8d(t:aF)(hb:t.bulk <=1000000000)(hk:t.knd=1)(hit:∀ x,x ∈ t.items ->aN Tryd.prog G 46 [x.enc] (.int .i64 (size x)))(htt:∀ x,x ∈ t.tail ->aN Tryd.prog G 46 [x.enc] (.int .i64 (size x))):
  aN Tryd.prog G 46 [t.enc] (.int .i64 (size t)):=by
 have hli:=eY t
 have hlt:=gA t
 have hll:=eZ t
 have hwr:=nE G t hb
 have hp0:=gR G t
 have hp1:=gS G t
 have hp2:=gT G t
 have hp3:=gU G t
 have hp4:=fX G t
 have hse:=gO t
 have hle:=fun x (_:x ∈ t.items)=>jP x
 have hw1:IntKind.i64.wrap (1+(t.limbs.length:Int))=1+t.limbs.length:=aH (by omega) (by omega)
 have hkn:=t.knd_nn
 intro σ
 refine aJ.of_awp mixed Tryd.func46 rfl (by kernel_rfl) (by kernel_rfl) (by simp[Tryd.ntmps46]) Tryd.results46 ?_
 simp -dsimp only[↓bp,bq,br,seval,cH]
 refine eT fun b1 h1=> ?_
 simp -dsimp only[↓bp,bq,br,seval,cH]
 refine bO fun b3 h3=> ?_
 simp only[cY]at h3
 obtain⟨h3,h31,h13⟩:=h3
 simp -dsimp only[↓bp,bq,br,seval,cH]
 refine bO fun b5 h5=> ?_
 simp only[cY]at h5
 obtain⟨⟨h5,h51,h15⟩,h53,h35⟩:=h5
 have e1:t.knd=1:=hk
 have e2: ¬ t.knd=2:=by omega
 have e3: ¬ t.knd=3:=by omega
 have e4: ¬ t.knd=4:=by omega
 have e5: ¬ t.knd=5:=by omega
 have e6: ¬ t.knd=6:=by omega
 have e7: ¬ t.knd=7:=by omega
 have k1:=eq_true e1
 clear hk e1
 repeat'(first|refine xs ?_ ?_ <;>intros|(refine wn ?_;intro bx hbx;try simp only[fb]at hbx)|refine wp hwr ?_|refine aQ ?_|(refine aB ?_;intro bx hbx;(try simp only[fb]at hbx))|refine aD ?_|((with_reducible refine And.intro ?_ ?_);omega)|refine aA (d':=⟨⟩) ?_|refine aR (by kernel_rfl) ?_|refine aP ?_ (by repeat' first|exact lr _|assumption|refine ls ?_ ?_|refine lt ?_ ?_|simp only[*];done|simp only[fb, *,not_false_eq_true,and_self];done|exact lf ‹_› (by simp only[*]))|refine aC ?_ (by repeat' first|exact lr _|assumption|refine ls ?_ ?_|refine lt ?_ ?_|simp only[*];done|simp only[fb, *,not_false_eq_true,and_self];done|exact lf ‹_› (by simp only[*]))|simp -dsimp only[↓bp,bq,br,seval,cH,h53,h35,h51,h15,h31,h13,k1, *]|refine wz ?_|fail)
 all_goals simp_all
set_option maxHeartbeats 4000000 in
theorem C8e(t:aF)(hb:t.bulk <=1000000000)(hk:t.knd=2)(hit:∀ x,x ∈ t.items ->aN Tryd.prog G 46 [x.enc] (.int .i64 (size x)))(htt:∀ x,x ∈ t.tail ->aN Tryd.prog G 46 [x.enc] (.int .i64 (size x))):
  aN Tryd.prog G 46 [t.enc] (.int .i64 (size t)):=by
 have hli:=eY t
 have hlt:=gA t
 have hll:=eZ t
 have hwr:=nE G t hb
 have hp0:=gR G t
 have hp1:=gS G t
 have hp2:=gT G t
 have hp3:=gU G t
 have hp4:=fX G t
 have hse:=gO t
 have hle:=fun x (_:x ∈ t.items)=>jP x
 have hw1:IntKind.i64.wrap (1+(t.limbs.length:Int))=1+t.limbs.length:=aH (by omega) (by omega)
 have hkn:=t.knd_nn
 intro σ
 refine aJ.of_awp mixed Tryd.func46 rfl (by kernel_rfl) (by kernel_rfl) (by simp[Tryd.ntmps46]) Tryd.results46 ?_
 simp -dsimp only[↓bp,bq,br,seval,cH]
 refine eT fun b1 h1=> ?_
 simp -dsimp only[↓bp,bq,br,seval,cH]
 refine bO fun b3 h3=> ?_
 simp only[cY]at h3
 obtain⟨h3,h31,h13⟩:=h3
 simp -dsimp only[↓bp,bq,br,seval,cH]
 refine bO fun b5 h5=> ?_
 simp only[cY]at h5
 obtain⟨⟨h5,h51,h15⟩,h53,h35⟩:=h5
 have e1: ¬ t.knd=1:=by omega
 have e2:t.knd=2:=hk
 have e3: ¬ t.knd=3:=by omega
 have e4: ¬ t.knd=4:=by omega
 have e5: ¬ t.knd=5:=by omega
 have e6: ¬ t.knd=6:=by omega
 have e7: ¬ t.knd=7:=by omega
 have k1:=eq_false e1
 have k2:=eq_true e2
 have hhd:head t=(1,0,bare t true false false false && decide ((t.text.length:Int) <=40)):=by unfold head;rw[if_pos e2]
 clear hk e1 e2
 simp -dsimp only[↓bp,bq,br,seval,cH,h53,h35,h51,h15,h31,h13,k1,k2]
 refine aN.use hp0 ?_
 simp -dsimp only[↓bp,bq,br,seval,cH,h53,h35,h51,h15,h31,h13,k1,k2]
 cases hbr:bare t true false false false
 ·rw[hbr]at hhd
  simp -dsimp only[↓bp,bq,br,seval,cH,h53,h35,h51,h15,h31,h13,k1,k2]
  refine aJ.mono (bI G t.items 0 (by omega) (by omega) (by omega) hit _ b5 b3 h53 1 false (by simp -dsimp only[↓bp,bq,br,seval,cH,h53,h35,h51,h15,h31,h13]) (by simp -dsimp only[↓bp,bq,br,seval,cH,h53,h35,h51,h15,h31,h13]) (by omega) (fun _=>by omega) (by omega)) ?_
  rintro r σ' rfl
  have ha:=eJ t.items hle 0 (by omega) (by omega) (1,false) (by simp only;omega) (fun _=>by simp only;omega) (by simp only;omega)
  simp -dsimp only[↓bp,bq,br,seval,cH,h53,h35,h51,h15,h31,h13]
  refine aJ.mono (bI G t.tail 0 (by omega) (by omega) (by omega) htt _ b5 b3 h53 (aU t.items 0 (1,false)).1 (aU t.items 0 (1,false)).2 (by simp -dsimp only[↓bp,bq,br,seval,cH,h53,h35,h51,h15,h31,h13]) (by simp -dsimp only[↓bp,bq,br,seval,cH,h53,h35,h51,h15,h31,h13]) ha.1 ha.2.1 ha.2.2) ?_
  rintro r σ' rfl
  simp -dsimp only[↓bp,bq,br,seval,cH,h53,h35,h51,h15,h31,h13]
  cases hfin:(aU t.tail 0 ((aU t.items 0 (1,false)).1,(aU t.items 0 (1,false)).2)).2
  ·simp -dsimp only[↓bp,bq,br,seval,cH,h53,h35,h51,h15,h31,h13]
   refine aL ?_ (by repeat'(first|exact AS.le.refl _|assumption|(refine bQ (by assumption) ?_)))
   rw[hse,hhd]
   simp only[k1,hfin,if_false,Bool.true_and,Bool.false_and,Bool.false_eq_true,if_true]
  ·simp -dsimp only[↓bp,bq,br,seval,cH,h53,h35,h51,h15,h31,h13]
   refine aL ?_ (by repeat'(first|exact AS.le.refl _|assumption|(refine bQ (by assumption) ?_)))
   rw[hse,hhd]
   simp only[k1,hfin,if_false,Bool.true_and,Bool.false_and,Bool.false_eq_true,if_true]
 ·rw[hbr]at hhd
  simp -dsimp only[↓bp,bq,br,seval,cH,h53,h35,h51,h15,h31,h13,k1,k2]
  refine aJ.mono (bI G t.items 0 (by omega) (by omega) (by omega) hit _ b5 b3 h53 1 (decide ((t.text.length:Int) <=40)) (by simp -dsimp only[↓bp,bq,br,seval,cH,h53,h35,h51,h15,h31,h13]) (by simp -dsimp only[↓bp,bq,br,seval,cH,h53,h35,h51,h15,h31,h13]) (by omega) (fun _=>by omega) (by omega)) ?_
  rintro r σ' rfl
  have ha:=eJ t.items hle 0 (by omega) (by omega) (1,(decide ((t.text.length:Int) <=40))) (by simp only;omega) (fun _=>by simp only;omega) (by simp only;omega)
  simp -dsimp only[↓bp,bq,br,seval,cH,h53,h35,h51,h15,h31,h13]
  refine aJ.mono (bI G t.tail 0 (by omega) (by omega) (by omega) htt _ b5 b3 h53 (aU t.items 0 (1,(decide ((t.text.length:Int) <=40)))).1 (aU t.items 0 (1,(decide ((t.text.length:Int) <=40)))).2 (by simp -dsimp only[↓bp,bq,br,seval,cH,h53,h35,h51,h15,h31,h13]) (by simp -dsimp only[↓bp,bq,br,seval,cH,h53,h35,h51,h15,h31,h13]) ha.1 ha.2.1 ha.2.2) ?_
  rintro r σ' rfl
  simp -dsimp only[↓bp,bq,br,seval,cH,h53,h35,h51,h15,h31,h13]
  cases hfin:(aU t.tail 0 ((aU t.items 0 (1,(decide ((t.text.length:Int) <=40)))).1,(aU t.items 0 (1,(decide ((t.text.length:Int) <=40)))).2)).2
  ·simp -dsimp only[↓bp,bq,br,seval,cH,h53,h35,h51,h15,h31,h13]
   refine aL ?_ (by repeat'(first|exact AS.le.refl _|assumption|(refine bQ (by assumption) ?_)))
   rw[hse,hhd]
   simp only[k1,hfin,if_false,Bool.true_and,Bool.false_and,Bool.false_eq_true,if_true]
  ·simp -dsimp only[↓bp,bq,br,seval,cH,h53,h35,h51,h15,h31,h13]
   refine aL ?_ (by repeat'(first|exact AS.le.refl _|assumption|(refine bQ (by assumption) ?_)))
   rw[hse,hhd]
   simp only[k1,hfin,if_false,Bool.true_and,Bool.false_and,Bool.false_eq_true,if_true]
end
set_option maxRecDepth 20000
section
def bW:=And.intro (And.intro (And.intro (And.intro @nK @nL) (And.intro @lY (And.intro @nA @kW))) (And.intro (And.intro @lC (And.intro @oU @iF)) (And.intro @jD (And.intro @aF.flat_enc @aF.isv_enc)))) (And.intro (And.intro (And.intro @aF.fold_enc (And.intro @cA @bL)) (And.intro @dE (And.intro @fR @gJ))) (And.intro (And.intro @dL (And.intro @cN @fA)) (And.intro @gN (And.intro @fZ @eO))))
variable (G:Nat ->AV)
set_option maxHeartbeats 4000000 in
theorem C8f(t:aF)(hb:t.bulk <=1000000000)(hk:t.knd=3)(hit:∀ x,x ∈ t.items ->aN Tryd.prog G 46 [x.enc] (.int .i64 (size x)))(htt:∀ x,x ∈ t.tail ->aN Tryd.prog G 46 [x.enc] (.int .i64 (size x))):
  aN Tryd.prog G 46 [t.enc] (.int .i64 (size t)):=by
 have hli:=eY t
 have hlt:=gA t
 have hll:=eZ t
 have hwr:=nE G t hb
 have hp0:=gR G t
 have hp1:=gS G t
 have hp2:=gT G t
 have hp3:=gU G t
 have hp4:=fX G t
 have hse:=gO t
 have hle:=fun x (_:x ∈ t.items)=>jP x
 have hw1:IntKind.i64.wrap (1+(t.limbs.length:Int))=1+t.limbs.length:=aH (by omega) (by omega)
 have hkn:=t.knd_nn
 intro σ
 refine aJ.of_awp mixed Tryd.func46 rfl (by kernel_rfl) (by kernel_rfl) (by simp[Tryd.ntmps46]) Tryd.results46 ?_
 simp -dsimp only[↓bp,bq,br,seval,bW]
 refine eT fun b1 h1=> ?_
 simp -dsimp only[↓bp,bq,br,seval,bW]
 refine bO fun b3 h3=> ?_
 simp only[cY]at h3
 obtain⟨h3,h31,h13⟩:=h3
 simp -dsimp only[↓bp,bq,br,seval,bW]
 refine bO fun b5 h5=> ?_
 simp only[cY]at h5
 obtain⟨⟨h5,h51,h15⟩,h53,h35⟩:=h5
 have e1: ¬ t.knd=1:=by omega
 have e2: ¬ t.knd=2:=by omega
 have e3:t.knd=3:=hk
 have e4: ¬ t.knd=4:=by omega
 have e5: ¬ t.knd=5:=by omega
 have e6: ¬ t.knd=6:=by omega
 have e7: ¬ t.knd=7:=by omega
 have k1:=eq_false e1
 have k2:=eq_false e2
 have k3:=eq_true e3
 have hhd:head t=(1,0,bare t false true false false && decide (0 <=t.num) && decide (t.num <=1099511627776)):=by unfold head;rw[if_neg e2,if_pos (.inl e3)]
 clear hk e1 e2 e3
 cases hbr:bare t false true false false
 ·rw[hbr]at hhd hp1
  simp only[Bool.false_and]at hhd
  repeat'(first|refine xs ?_ ?_ <;>intros|(refine wn ?_;intro bx hbx;try simp only[fb]at hbx)|refine wp hp1 ?_|refine aQ ?_|(refine aB ?_;intro bx hbx;(try simp only[fb]at hbx))|refine aD ?_|((with_reducible refine And.intro ?_ ?_);omega)|refine aA (d':=⟨⟩) ?_|refine aR (by kernel_rfl) ?_|refine aP ?_ (by repeat' first|exact lr _|assumption|refine ls ?_ ?_|refine lt ?_ ?_|simp only[*];done|simp only[fb, *,not_false_eq_true,and_self];done|exact lf ‹_› (by simp only[*]))|refine aC ?_ (by repeat' first|exact lr _|assumption|refine ls ?_ ?_|refine lt ?_ ?_|simp only[*];done|simp only[fb, *,not_false_eq_true,and_self];done|exact lf ‹_› (by simp only[*]))|simp -dsimp only[↓bp,bq,br,seval,bW,h53,h35,h51,h15,h31,h13, *]|refine wz ?_|fail)
  refine aJ.mono (bI G t.items 0 (by omega) (by omega) (by omega) hit _ b5 b3 h53 1 false (by simp -dsimp only[↓bp,bq,br,seval,bW,h53,h35,h51,h15,h31,h13]) (by simp -dsimp only[↓bp,bq,br,seval,bW,h53,h35,h51,h15,h31,h13]) (by omega) (fun _=>by omega) (by omega)) ?_
  rintro r σ' rfl
  have ha:=eJ t.items hle 0 (by omega) (by omega) (1,false) (by simp only;omega) (fun _=>by simp only;omega) (by simp only;omega)
  simp -dsimp only[↓bp,bq,br,seval,bW,h53,h35,h51,h15,h31,h13]
  refine aJ.mono (bI G t.tail 0 (by omega) (by omega) (by omega) htt _ b5 b3 h53 (aU t.items 0 (1,false)).1 (aU t.items 0 (1,false)).2 (by simp -dsimp only[↓bp,bq,br,seval,bW,h53,h35,h51,h15,h31,h13]) (by simp -dsimp only[↓bp,bq,br,seval,bW,h53,h35,h51,h15,h31,h13]) ha.1 ha.2.1 ha.2.2) ?_
  rintro r σ' rfl
  simp -dsimp only[↓bp,bq,br,seval,bW,h53,h35,h51,h15,h31,h13]
  cases hfin:(aU t.tail 0 ((aU t.items 0 (1,false)).1,(aU t.items 0 (1,false)).2)).2
  ·simp -dsimp only[↓bp,bq,br,seval,bW,h53,h35,h51,h15,h31,h13]
   refine aL ?_ (by repeat'(first|exact AS.le.refl _|assumption|(refine bQ (by assumption) ?_)))
   rw[hse,hhd]
   simp only[k1,hfin,if_false,Bool.true_and,Bool.false_and,Bool.false_eq_true,if_true]
  ·simp -dsimp only[↓bp,bq,br,seval,bW,h53,h35,h51,h15,h31,h13]
   refine aL ?_ (by repeat'(first|exact AS.le.refl _|assumption|(refine bQ (by assumption) ?_)))
   rw[hse,hhd]
   simp only[k1,hfin,if_false,Bool.true_and,Bool.false_and,Bool.false_eq_true,if_true]
 ·rw [hbr]at hhd hp1
  by_cases en:0 <=t.num
  ·have kn:=eq_true en
   clear en
   simp only[kn,decide_true,Bool.and_true,Bool.true_and]at hhd
   repeat'(first|refine xs ?_ ?_ <;>intros|(refine wn ?_;intro bx hbx;try simp only[fb]at hbx)|refine wp hp1 ?_|refine aQ ?_|(refine aB ?_;intro bx hbx;(try simp only[fb]at hbx))|refine aD ?_|((with_reducible refine And.intro ?_ ?_);omega)|refine aA (d':=⟨⟩) ?_|refine aR (by kernel_rfl) ?_|refine aP ?_ (by repeat' first|exact lr _|assumption|refine ls ?_ ?_|refine lt ?_ ?_|simp only[*];done|simp only[fb, *,not_false_eq_true,and_self];done|exact lf ‹_› (by simp only[*]))|refine aC ?_ (by repeat' first|exact lr _|assumption|refine ls ?_ ?_|refine lt ?_ ?_|simp only[*];done|simp only[fb, *,not_false_eq_true,and_self];done|exact lf ‹_› (by simp only[*]))|simp -dsimp only[↓bp,bq,br,seval,bW,h53,h35,h51,h15,h31,h13,kn, *]|refine wz ?_|fail)
   refine aJ.mono (bI G t.items 0 (by omega) (by omega) (by omega) hit _ b5 b3 h53 1 (decide (t.num <=1099511627776)) (by simp -dsimp only[↓bp,bq,br,seval,bW,h53,h35,h51,h15,h31,h13]) (by simp -dsimp only[↓bp,bq,br,seval,bW,h53,h35,h51,h15,h31,h13]) (by omega) (fun _=>by omega) (by omega)) ?_
   rintro r σ' rfl
   have ha:=eJ t.items hle 0 (by omega) (by omega) (1,(decide (t.num <=1099511627776))) (by simp only;omega) (fun _=>by simp only;omega) (by simp only;omega)
   simp -dsimp only[↓bp,bq,br,seval,bW,h53,h35,h51,h15,h31,h13]
   refine aJ.mono (bI G t.tail 0 (by omega) (by omega) (by omega) htt _ b5 b3 h53 (aU t.items 0 (1,(decide (t.num <=1099511627776)))).1 (aU t.items 0 (1,(decide (t.num <=1099511627776)))).2 (by simp -dsimp only[↓bp,bq,br,seval,bW,h53,h35,h51,h15,h31,h13]) (by simp -dsimp only[↓bp,bq,br,seval,bW,h53,h35,h51,h15,h31,h13]) ha.1 ha.2.1 ha.2.2) ?_
   rintro r σ' rfl
   simp -dsimp only[↓bp,bq,br,seval,bW,h53,h35,h51,h15,h31,h13]
   cases hfin:(aU t.tail 0 ((aU t.items 0 (1,(decide (t.num <=1099511627776)))).1,(aU t.items 0 (1,(decide (t.num <=1099511627776)))).2)).2
   ·simp -dsimp only[↓bp,bq,br,seval,bW,h53,h35,h51,h15,h31,h13]
    refine aL ?_ (by repeat'(first|exact AS.le.refl _|assumption|(refine bQ (by assumption) ?_)))
    rw[hse,hhd]
    simp only[k1,hfin,if_false,Bool.true_and,Bool.false_and,Bool.false_eq_true,if_true]
   ·simp -dsimp only[↓bp,bq,br,seval,bW,h53,h35,h51,h15,h31,h13]
    refine aL ?_ (by repeat'(first|exact AS.le.refl _|assumption|(refine bQ (by assumption) ?_)))
    rw[hse,hhd]
    simp only[k1,hfin,if_false,Bool.true_and,Bool.false_and,Bool.false_eq_true,if_true]
  ·have kn:=eq_false en
   clear en
   simp only[kn,decide_false,Bool.and_false,Bool.false_and]at hhd
   repeat'(first|refine xs ?_ ?_ <;>intros|(refine wn ?_;intro bx hbx;try simp only[fb]at hbx)|refine wp hp1 ?_|refine aQ ?_|(refine aB ?_;intro bx hbx;(try simp only[fb]at hbx))|refine aD ?_|((with_reducible refine And.intro ?_ ?_);omega)|refine aA (d':=⟨⟩) ?_|refine aR (by kernel_rfl) ?_|refine aP ?_ (by repeat' first|exact lr _|assumption|refine ls ?_ ?_|refine lt ?_ ?_|simp only[*];done|simp only[fb, *,not_false_eq_true,and_self];done|exact lf ‹_› (by simp only[*]))|refine aC ?_ (by repeat' first|exact lr _|assumption|refine ls ?_ ?_|refine lt ?_ ?_|simp only[*];done|simp only[fb, *,not_false_eq_true,and_self];done|exact lf ‹_› (by simp only[*]))|simp -dsimp only[↓bp,bq,br,seval,bW,h53,h35,h51,h15,h31,h13,kn, *]|refine wz ?_|fail)
   refine aJ.mono (bI G t.items 0 (by omega) (by omega) (by omega) hit _ b5 b3 h53 1 false (by simp -dsimp only[↓bp,bq,br,seval,bW,h53,h35,h51,h15,h31,h13]) (by simp -dsimp only[↓bp,bq,br,seval,bW,h53,h35,h51,h15,h31,h13]) (by omega) (fun _=>by omega) (by omega)) ?_
   rintro r σ' rfl
   have ha:=eJ t.items hle 0 (by omega) (by omega) (1,false) (by simp only;omega) (fun _=>by simp only;omega) (by simp only;omega)
   simp -dsimp only[↓bp,bq,br,seval,bW,h53,h35,h51,h15,h31,h13]
   refine aJ.mono (bI G t.tail 0 (by omega) (by omega) (by omega) htt _ b5 b3 h53 (aU t.items 0 (1,false)).1 (aU t.items 0 (1,false)).2 (by simp -dsimp only[↓bp,bq,br,seval,bW,h53,h35,h51,h15,h31,h13]) (by simp -dsimp only[↓bp,bq,br,seval,bW,h53,h35,h51,h15,h31,h13]) ha.1 ha.2.1 ha.2.2) ?_
   rintro r σ' rfl
   simp -dsimp only[↓bp,bq,br,seval,bW,h53,h35,h51,h15,h31,h13]
   cases hfin:(aU t.tail 0 ((aU t.items 0 (1,false)).1,(aU t.items 0 (1,false)).2)).2
   ·simp -dsimp only[↓bp,bq,br,seval,bW,h53,h35,h51,h15,h31,h13]
    refine aL ?_ (by repeat'(first|exact AS.le.refl _|assumption|(refine bQ (by assumption) ?_)))
    rw[hse,hhd]
    simp only[k1,hfin,if_false,Bool.true_and,Bool.false_and,Bool.false_eq_true,if_true]
   ·simp -dsimp only[↓bp,bq,br,seval,bW,h53,h35,h51,h15,h31,h13]
    refine aL ?_ (by repeat'(first|exact AS.le.refl _|assumption|(refine bQ (by assumption) ?_)))
    rw[hse,hhd]
    simp only[k1,hfin,if_false,Bool.true_and,Bool.false_and,Bool.false_eq_true,if_true]
end
set_option maxRecDepth 20000
section
def bX:=And.intro (And.intro (And.intro (And.intro @nK @nL) (And.intro @lY (And.intro @nA @kW))) (And.intro (And.intro @lC (And.intro @oU @iF)) (And.intro @jD (And.intro @aF.flat_enc @aF.isv_enc)))) (And.intro (And.intro (And.intro @aF.fold_enc (And.intro @cA @bL)) (And.intro @dE (And.intro @fR @gJ))) (And.intro (And.intro @dL (And.intro @cN @fA)) (And.intro @gN (And.intro @fZ @eO))))
variable (G:Nat ->AV)
set_option maxHeartbeats 4000000 in
theorem C8h(t:aF)(hb:t.bulk <=1000000000)(hk:t.knd=5)(hit:∀ x,x ∈ t.items ->aN Tryd.prog G 46 [x.enc] (.int .i64 (size x)))(htt:∀ x,x ∈ t.tail ->aN Tryd.prog G 46 [x.enc] (.int .i64 (size x))):
  aN Tryd.prog G 46 [t.enc] (.int .i64 (size t)):=by
 have hli:=eY t
 have hlt:=gA t
 have hll:=eZ t
 have hwr:=nE G t hb
 have hp0:=gR G t
 have hp1:=gS G t
 have hp2:=gT G t
 have hp3:=gU G t
 have hp4:=fX G t
 have hse:=gO t
 have hle:=fun x (_:x ∈ t.items)=>jP x
 have hw1:IntKind.i64.wrap (1+(t.limbs.length:Int))=1+t.limbs.length:=aH (by omega) (by omega)
 have hkn:=t.knd_nn
 intro σ
 refine aJ.of_awp mixed Tryd.func46 rfl (by kernel_rfl) (by kernel_rfl) (by simp[Tryd.ntmps46]) Tryd.results46 ?_
 simp -dsimp only[↓bp,bq,br,seval,bX]
 refine eT fun b1 h1=> ?_
 simp -dsimp only[↓bp,bq,br,seval,bX]
 refine bO fun b3 h3=> ?_
 simp only[cY]at h3
 obtain⟨h3,h31,h13⟩:=h3
 simp -dsimp only[↓bp,bq,br,seval,bX]
 refine bO fun b5 h5=> ?_
 simp only[cY]at h5
 obtain⟨⟨h5,h51,h15⟩,h53,h35⟩:=h5
 have e1: ¬ t.knd=1:=by omega
 have e2: ¬ t.knd=2:=by omega
 have e3: ¬ t.knd=3:=by omega
 have e4: ¬ t.knd=4:=by omega
 have e5:t.knd=5:=hk
 have e6: ¬ t.knd=6:=by omega
 have e7: ¬ t.knd=7:=by omega
 have k1:=eq_false e1
 have k2:=eq_false e2
 have k3:=eq_false e3
 have k5:=eq_true e5
 have hhd:head t=(1,0,bare t false true false false && decide (0 <=t.num) && decide (t.num <=1099511627776)):=by unfold head;rw[if_neg e2,if_pos (.inr e5)]
 clear hk e1 e2 e3 e5
 cases hbr:bare t false true false false
 ·rw[hbr]at hhd hp1
  simp only[Bool.false_and]at hhd
  repeat'(first|refine xs ?_ ?_ <;>intros|(refine wn ?_;intro bx hbx;try simp only[fb]at hbx)|refine wp hp1 ?_|refine aQ ?_|(refine aB ?_;intro bx hbx;(try simp only[fb]at hbx))|refine aD ?_|((with_reducible refine And.intro ?_ ?_);omega)|refine aA (d':=⟨⟩) ?_|refine aR (by kernel_rfl) ?_|refine aP ?_ (by repeat' first|exact lr _|assumption|refine ls ?_ ?_|refine lt ?_ ?_|simp only[*];done|simp only[fb, *,not_false_eq_true,and_self];done|exact lf ‹_› (by simp only[*]))|refine aC ?_ (by repeat' first|exact lr _|assumption|refine ls ?_ ?_|refine lt ?_ ?_|simp only[*];done|simp only[fb, *,not_false_eq_true,and_self];done|exact lf ‹_› (by simp only[*]))|simp -dsimp only[↓bp,bq,br,seval,bX,h53,h35,h51,h15,h31,h13, *]|refine wz ?_|fail)
  refine aJ.mono (bI G t.items 0 (by omega) (by omega) (by omega) hit _ b5 b3 h53 1 false (by simp -dsimp only[↓bp,bq,br,seval,bX,h53,h35,h51,h15,h31,h13]) (by simp -dsimp only[↓bp,bq,br,seval,bX,h53,h35,h51,h15,h31,h13]) (by omega) (fun _=>by omega) (by omega)) ?_
  rintro r σ' rfl
  have ha:=eJ t.items hle 0 (by omega) (by omega) (1,false) (by simp only;omega) (fun _=>by simp only;omega) (by simp only;omega)
  simp -dsimp only[↓bp,bq,br,seval,bX,h53,h35,h51,h15,h31,h13]
  refine aJ.mono (bI G t.tail 0 (by omega) (by omega) (by omega) htt _ b5 b3 h53 (aU t.items 0 (1,false)).1 (aU t.items 0 (1,false)).2 (by simp -dsimp only[↓bp,bq,br,seval,bX,h53,h35,h51,h15,h31,h13]) (by simp -dsimp only[↓bp,bq,br,seval,bX,h53,h35,h51,h15,h31,h13]) ha.1 ha.2.1 ha.2.2) ?_
  rintro r σ' rfl
  simp -dsimp only[↓bp,bq,br,seval,bX,h53,h35,h51,h15,h31,h13]
  cases hfin:(aU t.tail 0 ((aU t.items 0 (1,false)).1,(aU t.items 0 (1,false)).2)).2
  ·simp -dsimp only[↓bp,bq,br,seval,bX,h53,h35,h51,h15,h31,h13]
   refine aL ?_ (by repeat'(first|exact AS.le.refl _|assumption|(refine bQ (by assumption) ?_)))
   rw[hse,hhd]
   simp only[k1,hfin,if_false,Bool.true_and,Bool.false_and,Bool.false_eq_true,if_true]
  ·simp -dsimp only[↓bp,bq,br,seval,bX,h53,h35,h51,h15,h31,h13]
   refine aL ?_ (by repeat'(first|exact AS.le.refl _|assumption|(refine bQ (by assumption) ?_)))
   rw[hse,hhd]
   simp only[k1,hfin,if_false,Bool.true_and,Bool.false_and,Bool.false_eq_true,if_true]
 ·rw [hbr]at hhd hp1
  by_cases en:0 <=t.num
  ·have kn:=eq_true en
   clear en
   simp only[kn,decide_true,Bool.and_true,Bool.true_and]at hhd
   repeat'(first|refine xs ?_ ?_ <;>intros|(refine wn ?_;intro bx hbx;try simp only[fb]at hbx)|refine wp hp1 ?_|refine aQ ?_|(refine aB ?_;intro bx hbx;(try simp only[fb]at hbx))|refine aD ?_|((with_reducible refine And.intro ?_ ?_);omega)|refine aA (d':=⟨⟩) ?_|refine aR (by kernel_rfl) ?_|refine aP ?_ (by repeat' first|exact lr _|assumption|refine ls ?_ ?_|refine lt ?_ ?_|simp only[*];done|simp only[fb, *,not_false_eq_true,and_self];done|exact lf ‹_› (by simp only[*]))|refine aC ?_ (by repeat' first|exact lr _|assumption|refine ls ?_ ?_|refine lt ?_ ?_|simp only[*];done|simp only[fb, *,not_false_eq_true,and_self];done|exact lf ‹_› (by simp only[*]))|simp -dsimp only[↓bp,bq,br,seval,bX,h53,h35,h51,h15,h31,h13,kn, *]|refine wz ?_|fail)
   refine aJ.mono (bI G t.items 0 (by omega) (by omega) (by omega) hit _ b5 b3 h53 1 (decide (t.num <=1099511627776)) (by simp -dsimp only[↓bp,bq,br,seval,bX,h53,h35,h51,h15,h31,h13]) (by simp -dsimp only[↓bp,bq,br,seval,bX,h53,h35,h51,h15,h31,h13]) (by omega) (fun _=>by omega) (by omega)) ?_
   rintro r σ' rfl
   have ha:=eJ t.items hle 0 (by omega) (by omega) (1,(decide (t.num <=1099511627776))) (by simp only;omega) (fun _=>by simp only;omega) (by simp only;omega)
   simp -dsimp only[↓bp,bq,br,seval,bX,h53,h35,h51,h15,h31,h13]
   refine aJ.mono (bI G t.tail 0 (by omega) (by omega) (by omega) htt _ b5 b3 h53 (aU t.items 0 (1,(decide (t.num <=1099511627776)))).1 (aU t.items 0 (1,(decide (t.num <=1099511627776)))).2 (by simp -dsimp only[↓bp,bq,br,seval,bX,h53,h35,h51,h15,h31,h13]) (by simp -dsimp only[↓bp,bq,br,seval,bX,h53,h35,h51,h15,h31,h13]) ha.1 ha.2.1 ha.2.2) ?_
   rintro r σ' rfl
   simp -dsimp only[↓bp,bq,br,seval,bX,h53,h35,h51,h15,h31,h13]
   cases hfin:(aU t.tail 0 ((aU t.items 0 (1,(decide (t.num <=1099511627776)))).1,(aU t.items 0 (1,(decide (t.num <=1099511627776)))).2)).2
   ·simp -dsimp only[↓bp,bq,br,seval,bX,h53,h35,h51,h15,h31,h13]
    refine aL ?_ (by repeat'(first|exact AS.le.refl _|assumption|(refine bQ (by assumption) ?_)))
    rw[hse,hhd]
    simp only[k1,hfin,if_false,Bool.true_and,Bool.false_and,Bool.false_eq_true,if_true]
   ·simp -dsimp only[↓bp,bq,br,seval,bX,h53,h35,h51,h15,h31,h13]
    refine aL ?_ (by repeat'(first|exact AS.le.refl _|assumption|(refine bQ (by assumption) ?_)))
    rw[hse,hhd]
    simp only[k1,hfin,if_false,Bool.true_and,Bool.false_and,Bool.false_eq_true,if_true]
  ·have kn:=eq_false en
   clear en
   simp only[kn,decide_false,Bool.and_false,Bool.false_and]at hhd
   repeat'(first|refine xs ?_ ?_ <;>intros|(refine wn ?_;intro bx hbx;try simp only[fb]at hbx)|refine wp hp1 ?_|refine aQ ?_|(refine aB ?_;intro bx hbx;(try simp only[fb]at hbx))|refine aD ?_|((with_reducible refine And.intro ?_ ?_);omega)|refine aA (d':=⟨⟩) ?_|refine aR (by kernel_rfl) ?_|refine aP ?_ (by repeat' first|exact lr _|assumption|refine ls ?_ ?_|refine lt ?_ ?_|simp only[*];done|simp only[fb, *,not_false_eq_true,and_self];done|exact lf ‹_› (by simp only[*]))|refine aC ?_ (by repeat' first|exact lr _|assumption|refine ls ?_ ?_|refine lt ?_ ?_|simp only[*];done|simp only[fb, *,not_false_eq_true,and_self];done|exact lf ‹_› (by simp only[*]))|simp -dsimp only[↓bp,bq,br,seval,bX,h53,h35,h51,h15,h31,h13,kn, *]|refine wz ?_|fail)
   refine aJ.mono (bI G t.items 0 (by omega) (by omega) (by omega) hit _ b5 b3 h53 1 false (by simp -dsimp only[↓bp,bq,br,seval,bX,h53,h35,h51,h15,h31,h13]) (by simp -dsimp only[↓bp,bq,br,seval,bX,h53,h35,h51,h15,h31,h13]) (by omega) (fun _=>by omega) (by omega)) ?_
   rintro r σ' rfl
   have ha:=eJ t.items hle 0 (by omega) (by omega) (1,false) (by simp only;omega) (fun _=>by simp only;omega) (by simp only;omega)
   simp -dsimp only[↓bp,bq,br,seval,bX,h53,h35,h51,h15,h31,h13]
   refine aJ.mono (bI G t.tail 0 (by omega) (by omega) (by omega) htt _ b5 b3 h53 (aU t.items 0 (1,false)).1 (aU t.items 0 (1,false)).2 (by simp -dsimp only[↓bp,bq,br,seval,bX,h53,h35,h51,h15,h31,h13]) (by simp -dsimp only[↓bp,bq,br,seval,bX,h53,h35,h51,h15,h31,h13]) ha.1 ha.2.1 ha.2.2) ?_
   rintro r σ' rfl
   simp -dsimp only[↓bp,bq,br,seval,bX,h53,h35,h51,h15,h31,h13]
   cases hfin:(aU t.tail 0 ((aU t.items 0 (1,false)).1,(aU t.items 0 (1,false)).2)).2
   ·simp -dsimp only[↓bp,bq,br,seval,bX,h53,h35,h51,h15,h31,h13]
    refine aL ?_ (by repeat'(first|exact AS.le.refl _|assumption|(refine bQ (by assumption) ?_)))
    rw[hse,hhd]
    simp only[k1,hfin,if_false,Bool.true_and,Bool.false_and,Bool.false_eq_true,if_true]
   ·simp -dsimp only[↓bp,bq,br,seval,bX,h53,h35,h51,h15,h31,h13]
    refine aL ?_ (by repeat'(first|exact AS.le.refl _|assumption|(refine bQ (by assumption) ?_)))
    rw[hse,hhd]
    simp only[k1,hfin,if_false,Bool.true_and,Bool.false_and,Bool.false_eq_true,if_true]
end
set_option maxRecDepth 20000
section
def bK:=And.intro (And.intro (And.intro (And.intro @nK @nL) (And.intro @lY (And.intro @nA @kW))) (And.intro (And.intro @lC (And.intro @oU @iF)) (And.intro @jD (And.intro @aF.flat_enc @aF.isv_enc)))) (And.intro (And.intro (And.intro @aF.fold_enc (And.intro @cA @bL)) (And.intro @dE (And.intro @fR @gJ))) (And.intro (And.intro @dL (And.intro @cN @fA)) (And.intro @gN (And.intro @fZ @eO))))
variable (G:Nat ->AV)
set_option maxHeartbeats 4000000 in
theorem C8g(t:aF)(hb:t.bulk <=1000000000)(hk:t.knd=4)(hit:∀ x,x ∈ t.items ->aN Tryd.prog G 46 [x.enc] (.int .i64 (size x)))(htt:∀ x,x ∈ t.tail ->aN Tryd.prog G 46 [x.enc] (.int .i64 (size x))):
  aN Tryd.prog G 46 [t.enc] (.int .i64 (size t)):=by
 have hli:=eY t
 have hlt:=gA t
 have hll:=eZ t
 have hwr:=nE G t hb
 have hp0:=gR G t
 have hp1:=gS G t
 have hp2:=gT G t
 have hp3:=gU G t
 have hp4:=fX G t
 have hse:=gO t
 have hle:=fun x (_:x ∈ t.items)=>jP x
 have hw1:IntKind.i64.wrap (1+(t.limbs.length:Int))=1+t.limbs.length:=aH (by omega) (by omega)
 have hkn:=t.knd_nn
 intro σ
 refine aJ.of_awp mixed Tryd.func46 rfl (by kernel_rfl) (by kernel_rfl) (by simp[Tryd.ntmps46]) Tryd.results46 ?_
 simp -dsimp only[↓bp,bq,br,seval,bK]
 refine eT fun b1 h1=> ?_
 simp -dsimp only[↓bp,bq,br,seval,bK]
 refine bO fun b3 h3=> ?_
 simp only[cY]at h3
 obtain⟨h3,h31,h13⟩:=h3
 simp -dsimp only[↓bp,bq,br,seval,bK]
 refine bO fun b5 h5=> ?_
 simp only[cY]at h5
 obtain⟨⟨h5,h51,h15⟩,h53,h35⟩:=h5
 have e1: ¬ t.knd=1:=by omega
 have e2: ¬ t.knd=2:=by omega
 have e3: ¬ t.knd=3:=by omega
 have e4:t.knd=4:=hk
 have e5: ¬ t.knd=5:=by omega
 have e6: ¬ t.knd=6:=by omega
 have e7: ¬ t.knd=7:=by omega
 have k1:=eq_false e1
 have k2:=eq_false e2
 have k3:=eq_false e3
 have k5:=eq_false e5
 have k4:=eq_true e4
 have hhd:head t=(2,0,bare t false true true false && decide (0 <=t.num) && decide (t.num <=16384)):=by unfold head;rw[if_neg e2,if_neg (by simp[e3,e5]),if_pos e4]
 clear hk e1 e2 e3 e5 e4
 cases hbr:bare t false true true false
 ·rw[hbr]at hhd hp2
  simp only[Bool.false_and]at hhd
  repeat'(first|refine xs ?_ ?_ <;>intros|(refine wn ?_;intro bx hbx;try simp only[fb]at hbx)|(refine oG 14 b3 b5 (z:=[.int .i64 1]) (z':=[.bool false]) (by kernel_rfl) (by simp -dsimp only[↓bp,bq,br,seval,bK,h53,h35,h51,h15,h31,h13]) (by simp -dsimp only[↓bp,bq,br,seval,bK,h53,h35,h51,h15,h31,h13]) ?_)|refine wp hp2 ?_|refine aQ ?_|(refine aB ?_;intro bx hbx;(try simp only[fb]at hbx))|refine aD ?_|((with_reducible refine And.intro ?_ ?_);omega)|refine aA (d':=⟨⟩) ?_|refine aR (by kernel_rfl) ?_|refine aP ?_ (by repeat' first|exact lr _|assumption|refine ls ?_ ?_|refine lt ?_ ?_|simp only[*];done|simp only[fb, *,not_false_eq_true,and_self];done|exact lf ‹_› (by simp only[*]))|refine aC ?_ (by repeat' first|exact lr _|assumption|refine ls ?_ ?_|refine lt ?_ ?_|simp only[*];done|simp only[fb, *,not_false_eq_true,and_self];done|exact lf ‹_› (by simp only[*]))|simp -dsimp only[↓bp,bq,br,seval,bK,h53,h35,h51,h15,h31,h13, *]|refine wz ?_|fail)
  refine aJ.mono (bI G t.items 0 (by omega) (by omega) (by omega) hit _ b5 b3 h53 2 false (by simp -dsimp only[↓bp,bq,br,seval,bK,h53,h35,h51,h15,h31,h13]) (by simp -dsimp only[↓bp,bq,br,seval,bK,h53,h35,h51,h15,h31,h13]) (by omega) (fun _=>by omega) (by omega)) ?_
  rintro r σ' rfl
  have ha:=eJ t.items hle 0 (by omega) (by omega) (2,false) (by simp only;omega) (fun _=>by simp only;omega) (by simp only;omega)
  simp -dsimp only[↓bp,bq,br,seval,bK,h53,h35,h51,h15,h31,h13]
  refine aJ.mono (bI G t.tail 0 (by omega) (by omega) (by omega) htt _ b5 b3 h53 (aU t.items 0 (2,false)).1 (aU t.items 0 (2,false)).2 (by simp -dsimp only[↓bp,bq,br,seval,bK,h53,h35,h51,h15,h31,h13]) (by simp -dsimp only[↓bp,bq,br,seval,bK,h53,h35,h51,h15,h31,h13]) ha.1 ha.2.1 ha.2.2) ?_
  rintro r σ' rfl
  simp -dsimp only[↓bp,bq,br,seval,bK,h53,h35,h51,h15,h31,h13]
  cases hfin:(aU t.tail 0 ((aU t.items 0 (2,false)).1,(aU t.items 0 (2,false)).2)).2
  ·simp -dsimp only[↓bp,bq,br,seval,bK,h53,h35,h51,h15,h31,h13]
   refine aL ?_ (by repeat'(first|exact AS.le.refl _|assumption|(refine bQ (by assumption) ?_)))
   rw[hse,hhd]
   simp only[k1,hfin,if_false,Bool.true_and,Bool.false_and,Bool.false_eq_true,if_true]
  ·simp -dsimp only[↓bp,bq,br,seval,bK,h53,h35,h51,h15,h31,h13]
   refine aL ?_ (by repeat'(first|exact AS.le.refl _|assumption|(refine bQ (by assumption) ?_)))
   rw[hse,hhd]
   simp only[k1,hfin,if_false,Bool.true_and,Bool.false_and,Bool.false_eq_true,if_true]
 ·rw [hbr]at hhd hp2
  by_cases en:0 <=t.num
  ·have kn:=eq_true en
   clear en
   simp only[kn,decide_true,Bool.and_true,Bool.true_and]at hhd
   repeat'(first|refine xs ?_ ?_ <;>intros|(refine wn ?_;intro bx hbx;try simp only[fb]at hbx)|(refine oG 14 b3 b5 (z:=[.int .i64 1]) (z':=[.bool false]) (by kernel_rfl) (by simp -dsimp only[↓bp,bq,br,seval,bK,h53,h35,h51,h15,h31,h13]) (by simp -dsimp only[↓bp,bq,br,seval,bK,h53,h35,h51,h15,h31,h13]) ?_)|refine wp hp2 ?_|refine aQ ?_|(refine aB ?_;intro bx hbx;(try simp only[fb]at hbx))|refine aD ?_|((with_reducible refine And.intro ?_ ?_);omega)|refine aA (d':=⟨⟩) ?_|refine aR (by kernel_rfl) ?_|refine aP ?_ (by repeat' first|exact lr _|assumption|refine ls ?_ ?_|refine lt ?_ ?_|simp only[*];done|simp only[fb, *,not_false_eq_true,and_self];done|exact lf ‹_› (by simp only[*]))|refine aC ?_ (by repeat' first|exact lr _|assumption|refine ls ?_ ?_|refine lt ?_ ?_|simp only[*];done|simp only[fb, *,not_false_eq_true,and_self];done|exact lf ‹_› (by simp only[*]))|simp -dsimp only[↓bp,bq,br,seval,bK,h53,h35,h51,h15,h31,h13,kn, *]|refine wz ?_|fail)
   refine aJ.mono (bI G t.items 0 (by omega) (by omega) (by omega) hit _ b5 b3 h53 2 (decide (t.num <=16384)) (by simp -dsimp only[↓bp,bq,br,seval,bK,h53,h35,h51,h15,h31,h13]) (by simp -dsimp only[↓bp,bq,br,seval,bK,h53,h35,h51,h15,h31,h13]) (by omega) (fun _=>by omega) (by omega)) ?_
   rintro r σ' rfl
   have ha:=eJ t.items hle 0 (by omega) (by omega) (2,(decide (t.num <=16384))) (by simp only;omega) (fun _=>by simp only;omega) (by simp only;omega)
   simp -dsimp only[↓bp,bq,br,seval,bK,h53,h35,h51,h15,h31,h13]
   refine aJ.mono (bI G t.tail 0 (by omega) (by omega) (by omega) htt _ b5 b3 h53 (aU t.items 0 (2,(decide (t.num <=16384)))).1 (aU t.items 0 (2,(decide (t.num <=16384)))).2 (by simp -dsimp only[↓bp,bq,br,seval,bK,h53,h35,h51,h15,h31,h13]) (by simp -dsimp only[↓bp,bq,br,seval,bK,h53,h35,h51,h15,h31,h13]) ha.1 ha.2.1 ha.2.2) ?_
   rintro r σ' rfl
   simp -dsimp only[↓bp,bq,br,seval,bK,h53,h35,h51,h15,h31,h13]
   cases hfin:(aU t.tail 0 ((aU t.items 0 (2,(decide (t.num <=16384)))).1,(aU t.items 0 (2,(decide (t.num <=16384)))).2)).2
   ·simp -dsimp only[↓bp,bq,br,seval,bK,h53,h35,h51,h15,h31,h13]
    refine aL ?_ (by repeat'(first|exact AS.le.refl _|assumption|(refine bQ (by assumption) ?_)))
    rw[hse,hhd]
    simp only[k1,hfin,if_false,Bool.true_and,Bool.false_and,Bool.false_eq_true,if_true]
   ·simp -dsimp only[↓bp,bq,br,seval,bK,h53,h35,h51,h15,h31,h13]
    refine aL ?_ (by repeat'(first|exact AS.le.refl _|assumption|(refine bQ (by assumption) ?_)))
    rw[hse,hhd]
    simp only[k1,hfin,if_false,Bool.true_and,Bool.false_and,Bool.false_eq_true,if_true]
  ·have kn:=eq_false en
   clear en
   simp only[kn,decide_false,Bool.and_false,Bool.false_and]at hhd
   repeat'(first|refine xs ?_ ?_ <;>intros|(refine wn ?_;intro bx hbx;try simp only[fb]at hbx)|(refine oG 14 b3 b5 (z:=[.int .i64 1]) (z':=[.bool false]) (by kernel_rfl) (by simp -dsimp only[↓bp,bq,br,seval,bK,h53,h35,h51,h15,h31,h13]) (by simp -dsimp only[↓bp,bq,br,seval,bK,h53,h35,h51,h15,h31,h13]) ?_)|refine wp hp2 ?_|refine aQ ?_|(refine aB ?_;intro bx hbx;(try simp only[fb]at hbx))|refine aD ?_|((with_reducible refine And.intro ?_ ?_);omega)|refine aA (d':=⟨⟩) ?_|refine aR (by kernel_rfl) ?_|refine aP ?_ (by repeat' first|exact lr _|assumption|refine ls ?_ ?_|refine lt ?_ ?_|simp only[*];done|simp only[fb, *,not_false_eq_true,and_self];done|exact lf ‹_› (by simp only[*]))|refine aC ?_ (by repeat' first|exact lr _|assumption|refine ls ?_ ?_|refine lt ?_ ?_|simp only[*];done|simp only[fb, *,not_false_eq_true,and_self];done|exact lf ‹_› (by simp only[*]))|simp -dsimp only[↓bp,bq,br,seval,bK,h53,h35,h51,h15,h31,h13,kn, *]|refine wz ?_|fail)
   refine aJ.mono (bI G t.items 0 (by omega) (by omega) (by omega) hit _ b5 b3 h53 2 false (by simp -dsimp only[↓bp,bq,br,seval,bK,h53,h35,h51,h15,h31,h13]) (by simp -dsimp only[↓bp,bq,br,seval,bK,h53,h35,h51,h15,h31,h13]) (by omega) (fun _=>by omega) (by omega)) ?_
   rintro r σ' rfl
   have ha:=eJ t.items hle 0 (by omega) (by omega) (2,false) (by simp only;omega) (fun _=>by simp only;omega) (by simp only;omega)
   simp -dsimp only[↓bp,bq,br,seval,bK,h53,h35,h51,h15,h31,h13]
   refine aJ.mono (bI G t.tail 0 (by omega) (by omega) (by omega) htt _ b5 b3 h53 (aU t.items 0 (2,false)).1 (aU t.items 0 (2,false)).2 (by simp -dsimp only[↓bp,bq,br,seval,bK,h53,h35,h51,h15,h31,h13]) (by simp -dsimp only[↓bp,bq,br,seval,bK,h53,h35,h51,h15,h31,h13]) ha.1 ha.2.1 ha.2.2) ?_
   rintro r σ' rfl
   simp -dsimp only[↓bp,bq,br,seval,bK,h53,h35,h51,h15,h31,h13]
   cases hfin:(aU t.tail 0 ((aU t.items 0 (2,false)).1,(aU t.items 0 (2,false)).2)).2
   ·simp -dsimp only[↓bp,bq,br,seval,bK,h53,h35,h51,h15,h31,h13]
    refine aL ?_ (by repeat'(first|exact AS.le.refl _|assumption|(refine bQ (by assumption) ?_)))
    rw[hse,hhd]
    simp only[k1,hfin,if_false,Bool.true_and,Bool.false_and,Bool.false_eq_true,if_true]
   ·simp -dsimp only[↓bp,bq,br,seval,bK,h53,h35,h51,h15,h31,h13]
    refine aL ?_ (by repeat'(first|exact AS.le.refl _|assumption|(refine bQ (by assumption) ?_)))
    rw[hse,hhd]
    simp only[k1,hfin,if_false,Bool.true_and,Bool.false_and,Bool.false_eq_true,if_true]
end
end Go.Proofs.YthoenjlenkpnnaaDoor
