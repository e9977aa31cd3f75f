/- Code: which instructions are right, and which codes: the program's way. -/
import Derived.Test.YthoenjlenkpnnaaDoorY15
import Derived.Test.YthoenjlenkpnnaaDoorY13
import Derived.Test.YthoenjlenkpnnaaDoorY08
set_option linter.unusedVariables false
set_option linter.unusedSimpArgs false
set_option maxRecDepth 20000
set_option linter.defProp false
namespace Go.Proofs.YthoenjlenkpnnaaDoor
open Go Go.Av
section
def fG:=And.intro (And.intro (And.intro (And.intro (And.intro @nK @nL) (And.intro @lY @kW)) (And.intro (And.intro @uH @oT) (And.intro @nP @kE))) (And.intro (And.intro (And.intro @C2p @C2q) (And.intro @uI @sV)) (And.intro (And.intro @yJ @iF) (And.intro @D3k (And.intro @C9t @jD))))) (And.intro (And.intro (And.intro (And.intro @dH @cK) (And.intro @dR @eF)) (And.intro (And.intro @cA @bL) (And.intro @dE (And.intro @aO.flat_enc @aO.isv_enc)))) (And.intro (And.intro (And.intro @aO.fold_enc @dA.flat_enc) (And.intro @dA.isv_enc @dA.fold_enc)) (And.intro (And.intro @cU.flat_enc @cU.isv_enc) (And.intro @cU.fold_enc (And.intro @hU @fW)))))
variable {G:Nat ->AV}
theorem B3m{S σ:AS}{b:Nat}(h:S.le σ)(hb:S.box b=none):S.le (σ.delBox b):=
 ⟨fun i cs hi=>by
   by_cases e:i=b
   ·subst e;rw[hb]at hi;cases hi
   ·simp only[AS.delBox,if_neg e];exact h.box _ _ hi,h.tip,h.ty⟩
theorem gI{p:UInt8 ->Bool}{fs:List UInt8}{k:Nat}{c:UInt8}(hc:fs[k]? =some c)(h:(fs.take k).all p=true)(h1:p c=true):(fs.take (k+1)).all p=true:=by
 rw[aK _ _ _ hc,List.all_append,h];simp[h1]
theorem fI{p:UInt8 ->Bool}{fs:List UInt8}{k:Nat}{c:UInt8}(hc:fs[k]? =some c)(h1:p c=false):fs.all p=false:=by
 cases h:fs.all p with
 |false=>rfl
 |true=>rw[List.all_eq_true]at h;rw[h c (List.mem_of_getElem? hc)]at h1;cases h1
structure Rnd(i:aO)(S σ:AS)(b8 it:Nat)(fs:List UInt8)(p:Nat):Prop where
 le:S.le σ
 bare:σ.box b8=some (cL i (fs.take p))
 iter:σ.ty it=some (.ob (.iter fs p),0)
theorem A7j(i:aO)(l:List UInt8):∃ (A B C N L:Int) (T:List UInt8) (W:AV),cL i l=[.int .u8 i.opI, .int .i64 A, .int .i64 B, .int .i64 C, .int .i64 N, .int .i64 L, .str T,W]:=⟨_,_,_,_,_,_,_,rfl⟩
set_option maxHeartbeats 16000000 in
theorem xY(hg:kJ G)(c:cU)(e:dA)(b z:Int)(i:aO)(hc:c.bulk <=1000000000)(hi:i.bulk <=1000000000):aN Tryd.prog G 29 [.agg (uA c e b z),i.enc] (.bool (cS c e b z i)):=by
 have ho:=C7j hg i.op
 have hfa:=jX (p:=fun op=>vK (cV op).fields) A1b i.op
 have htx:=A5w hg i (by omega)
 have hfn:=B8m (G:=G) c e b z i (by omega)
 have hsl:i.slots.length <=1000000000:=by unfold aO.bulk at hi;omega
 unfold D2y at ho
 unfold cS
 generalize cV i.op=s at*
 obtain⟨w,fs,nx⟩:=s
 simp only at ho hfa ⊢
 have hfl:fs.length <=4:=by unfold vK at hfa;rw[Bool.and_eq_true,decide_eq_true_eq]at hfa;exact hfa.1
 clear hg hi hc
 unfold uA at*
 intro σ
 refine aJ.back (Q:=fun r=>r= .bool (!(w==[]) && (fs.all (cR c e b z i) && oB i fs))) ?_
 by_cases hw:w=[]
 ·have hw':(w=[])=True:=eq_true hw
  have hv:(!(w==[]) && (fs.all (cR c e b z i) && oB i fs))=false:=by rw[hw];rfl
  rw[hv]
  clear hw hv
  refine aJ.of_awp mixed Tryd.func29 rfl (by kernel_rfl) (by kernel_rfl) (by simp[Tryd.ntmps29]) Tryd.results29 ?_
  repeat'(first|refine xs ?_ ?_ <;>intros|(refine wn ?_;intro bx hbx;try simp only[fb]at hbx)|refine wp ho ?_|refine aQ ?_|(refine aB ?_;intro bx hbx;(try simp only[fb]at hbx))|refine aD ?_|((with_reducible refine And.intro ?_ ?_);omega)|refine aA (d':=⟨⟩) ?_|refine aR (by kernel_rfl) ?_|refine aP ?_ (by repeat' first|exact lr _|assumption|refine ls ?_ ?_|refine lt ?_ ?_|simp only[*];done|simp only[fb, *,not_false_eq_true,and_self];done|exact lf ‹_› (by simp only[*]))|refine aC ?_ (by repeat' first|exact lr _|assumption|refine ls ?_ ?_|refine lt ?_ ?_|simp only[*];done|simp only[fb, *,not_false_eq_true,and_self];done|exact lf ‹_› (by simp only[*]))|simp -dsimp only[↓bp,bq,br,seval,fG, *]|refine wz ?_|fail)
  all_goals exact aE _ (AS.le.refl _) ⟨rfl,by repeat' first|exact lr _|assumption|refine ls ?_ ?_|refine lt ?_ ?_|simp only[*];done|simp only[fb, *,not_false_eq_true,and_self];done|exact lf ‹_› (by simp only[*])⟩
 have hw':(w=[])=False:=eq_false hw
 have hv:(!(w==[]) && (fs.all (cR c e b z i) && oB i fs))=(fs.all (cR c e b z i) && oB i fs):=by
  have:(w==[])=false:=by simpa using hw
  rw[this];rfl
 rw[hv]
 clear hw hv
 refine aJ.of_awp mixed Tryd.func29 rfl (by kernel_rfl) (by kernel_rfl) (by simp[Tryd.ntmps29]) Tryd.results29 ?_
 repeat'(first|refine xs ?_ ?_ <;>intros|(refine wn ?_;intro bx hbx;try simp only[fb]at hbx)|refine wp ho ?_|((refine pC kW.2.1 (fun it hit=> ?_)))|refine aQ ?_|(refine aB ?_;intro bx hbx;(try simp only[fb]at hbx))|refine aD ?_|((with_reducible refine And.intro ?_ ?_);omega)|refine aA (d':=⟨⟩) ?_|refine aR (by kernel_rfl) ?_|refine aP ?_ (by repeat' first|exact lr _|assumption|refine ls ?_ ?_|refine lt ?_ ?_|simp only[*];done|simp only[fb, *,not_false_eq_true,and_self];done|exact lf ‹_› (by simp only[*]))|refine aC ?_ (by repeat' first|exact lr _|assumption|refine ls ?_ ?_|refine lt ?_ ?_|simp only[*];done|simp only[fb, *,not_false_eq_true,and_self];done|exact lf ‹_› (by simp only[*]))|simp -dsimp only[↓bp,bq,br,seval,fG, *]|refine wz ?_|fail)
 rename_i b2 h2 b3 h3 b5 h5 b6 h6
 obtain⟨S,hS⟩:∃ S,S=(((σ.setBox b2 [aW dA.enc c.entries,aW aO.enc c.instrs,dK c.consts, .str e.name, .int .i64 e.arity, .int .i64 e.extra, .int .i64 e.slots, .int .i64 e.pos, .int .i64 b, .int .i64 z]).setBox b3 [.int .u8 i.opI, .int .i64 i.a, .int .i64 i.b, .int .i64 i.c, .int .i64 i.n, .int .i64 i.l, .str i.text,aW kH i.slots]).setBox b5 [.str w, .str fs, .bool nx]).setBox b6 [.fn 49 [.ptr b2 0]]:=⟨_,rfl⟩
 have hS2:S.box b2=some (uA c e b z):=by rw[hS];simp[AS.setBox,h3,h5,h6,uA]
 have hS3:S.box b3=some (flat i.enc):=by rw[hS,aO.flat_enc];simp[AS.setBox,h5,h6]
 have hS6:S.box b6=some [.fn 49 [.ptr b2 0]]:=by rw[hS];simp[AS.setBox]
 have hSbx:S.box bx=none:=by rw[hS];simp[AS.setBox,hbx,hbx.1.1.1.1.1]
 have hle0:σ.le S:=by
  rw[hS]
  exact((((AS.le.refl σ).setBox h2.1 _).setBox h3.1.1 _).setBox h5.1.1.1 _).setBox h6.1.1.1.1 _
 rw[<- hS]at hit ⊢
 have hSit:S.ty it=none:=hit.2.2
 clear hS h2 h3 h5 h6 hbx hit
 refine aY (fun n e' σ'=>∃ p:Nat,p <=fs.length /\ n=fs.length - p /\ Rnd i S σ' bx it fs p /\ (fs.take p).all (cR c e b z i)=true) fs.length
  ⟨0,by omega,by omega,⟨((AS.le.refl S).setBox hSbx _).setTy hSit _,by rw[List.take_zero,B1x];simp[AS.setBox,AS.setTy],by simp[AS.setTy]⟩,rfl⟩ ?_
 rintro n v σ2 ⟨p,hp,rfl,hR,hall⟩
 have hb2:=hR.le.box _ _ hS2
 have hb3:=hR.le.box _ _ hS3
 have hb6:=hR.le.box _ _ hS6
 have n2:(b2=bx)=False:=eq_false fun h=>by rw[h,hSbx]at hS2;cases hS2
 have n3:(b3=bx)=False:=eq_false fun h=>by rw[h,hSbx]at hS3;cases hS3
 have n6:(b6=bx)=False:=eq_false fun h=>by rw[h,hSbx]at hS6;cases hS6
 unfold uA at hb2
 rw[aO.flat_enc]at hb3
 by_cases hlt:p < fs.length
 rotate_left
 ·have:p=fs.length:=by omega
  subst this
  rw[List.take_length]at hall
  have hb8:=hR.bare
  rw[List.take_length]at hb8
  rw[hall,Bool.true_and]
  unfold cL at hb8
  have e1:∀ (m:Bool) (x:Int),(m||decide (x=0))=decide ((if m=true then x else 0)=x):=fun m x=>by cases m <;>simp[eq_comm]
  have e2:∀ (m:Bool) (x:List UInt8),(m||decide (x=[]))=decide ((if m=true then x else[])=x):=fun m x=>by cases m <;>simp[eq_comm]
  unfold oB
  rw[e1,e1,e1,e1,e1,e2]
  simp only[Bool.or_eq_true,List.contains_iff_mem,or_assoc]
  clear e1 e2 hall ho hfa hfl htx hfn hlt
  generalize(if 97 ∈ fs then i.a else 0)=A at*
  generalize(if 98 ∈ fs then i.b else 0)=B at*
  generalize(if 99 ∈ fs then i.c else 0)=C at*
  generalize(if 107 ∈ fs \/ 102 ∈ fs \/ 110 ∈ fs then i.n else 0)=N at*
  generalize(if 108 ∈ fs then i.l else 0)=L at*
  generalize(if 116 ∈ fs then i.text else[])=T at*
  by_cases m:115 ∈ fs
  ·rw[if_pos m]at hb8
   have hm:fs.contains 115=true:=by simpa using m
   rw[hm,Bool.true_or,Bool.and_true]
   clear m hm
   repeat'(first|refine xs ?_ ?_ <;>intros|(refine wn ?_;intro bx hbx;try simp only[fb]at hbx)|(refine pA hR.iter (Nat.le_refl _) ?_)|refine aQ ?_|(refine aB ?_;intro bx hbx;(try simp only[fb]at hbx))|refine aD ?_|((with_reducible refine And.intro ?_ ?_);omega)|refine aA (d':=⟨⟩) ?_|refine aR (by kernel_rfl) ?_|refine aP ?_ (by repeat' first|exact lr _|assumption|refine ls ?_ ?_|refine lt ?_ ?_|simp only[*];done|simp only[fb, *,not_false_eq_true,and_self];done|exact lf ‹_› (by simp only[*]))|refine aC ?_ (by repeat' first|exact lr _|assumption|refine ls ?_ ?_|refine lt ?_ ?_|simp only[*];done|simp only[fb, *,not_false_eq_true,and_self];done|exact lf ‹_› (by simp only[*]))|simp -dsimp only[↓bp,bq,br,seval,fG, *]|refine wz ?_|fail)
   all_goals refine aE _ (AS.le.refl _) ⟨?_,hle0.trans hR.le⟩
   all_goals(first|(simp only[decide_true,decide_false,pI, *,Bool.and_true,Bool.true_and,Bool.and_false,Bool.false_and,Bool.or_true,Bool.true_or,Bool.or_false,Bool.false_or,Bool.not_true,Bool.not_false,if_true,if_false,Bool.and_self,Bool.or_self];done)|(simp[decide_true,decide_false,pI, *];done)|(simp_all [decide_true,decide_false,pI];done))
  ·rw[if_neg m]at hb8
   have hm:fs.contains 115=false:=by simpa using m
   have h0:decide (i.slots.length=0)=decide ((0:Int)=(i.slots.length:Int)):=by
    rw[Bool.eq_iff_iff];simp only[decide_eq_true_eq];omega
   rw[hm,Bool.false_or,h0]
   clear m hm h0
   repeat'(first|refine xs ?_ ?_ <;>intros|(refine wn ?_;intro bx hbx;try simp only[fb]at hbx)|(refine pA hR.iter (Nat.le_refl _) ?_)|refine aQ ?_|(refine aB ?_;intro bx hbx;(try simp only[fb]at hbx))|refine aD ?_|((with_reducible refine And.intro ?_ ?_);omega)|refine aA (d':=⟨⟩) ?_|refine aR (by kernel_rfl) ?_|refine aP ?_ (by repeat' first|exact lr _|assumption|refine ls ?_ ?_|refine lt ?_ ?_|simp only[*];done|simp only[fb, *,not_false_eq_true,and_self];done|exact lf ‹_› (by simp only[*]))|refine aC ?_ (by repeat' first|exact lr _|assumption|refine ls ?_ ?_|refine lt ?_ ?_|simp only[*];done|simp only[fb, *,not_false_eq_true,and_self];done|exact lf ‹_› (by simp only[*]))|simp -dsimp only[↓bp,bq,br,seval,fG, *]|refine wz ?_|fail)
   all_goals refine aE _ (AS.le.refl _) ⟨?_,hle0.trans hR.le⟩
   all_goals(first|(simp only[decide_true,decide_false,pI, *,Bool.and_true,Bool.true_and,Bool.and_false,Bool.false_and,Bool.or_true,Bool.true_or,Bool.or_false,Bool.false_or,Bool.not_true,Bool.not_false,if_true,if_false,Bool.and_self,Bool.or_self];done)|(simp[decide_true,decide_false,pI, *];done)|(simp_all [decide_true,decide_false,pI];done))
 ·obtain ⟨f,hfp⟩:∃ f,fs[p]? =some f:=⟨_,List.getElem?_eq_getElem hlt⟩
  have hca:=B1i hfa hfp
  have hleT:S.le (σ2.setTy it (.ob (.iter fs (p+1)),0)):=hR.le.setTy hSit _
  obtain⟨A,B,C,N,L,T,W,hf⟩:=A7j i (fs.take p)
  have hb8:=hR.bare
  rw[hf]at hb8
  clear hfa
  by_cases k97:f=97
  ·subst k97
   have g97:(((97:UInt8).toNat:Int)=97)=True:=eq_true (by decide)
   have g98:(((97:UInt8).toNat:Int)=98)=False:=eq_false (by decide)
   have g99:(((97:UInt8).toNat:Int)=99)=False:=eq_false (by decide)
   have g107:(((97:UInt8).toNat:Int)=107)=False:=eq_false (by decide)
   have g102:(((97:UInt8).toNat:Int)=102)=False:=eq_false (by decide)
   have g110:(((97:UInt8).toNat:Int)=110)=False:=eq_false (by decide)
   have g116:(((97:UInt8).toNat:Int)=116)=False:=eq_false (by decide)
   have g115:(((97:UInt8).toNat:Int)=115)=False:=eq_false (by decide)
   have g108:(((97:UInt8).toNat:Int)=108)=False:=eq_false (by decide)
   have hnx:=B6e i (fs.take p) A B C N L T W hf
   rw[<- aK _ _ _ hfp]at hnx
   have hs:=uP (G:=G) hS2 i.a
   have hfin:cR c e b z i 97=cZ e i.a:=rfl
   generalize cZ e i.a=r at*
   clear hf ho hfl hlt
   repeat'(first|refine xs ?_ ?_ <;>intros|(refine wn ?_;intro bx hbx;try simp only[fb]at hbx)|(refine aV hR.iter hfp hca ?_)|(refine oZ (hs.mono hleT) ?_)|refine aQ ?_|(refine aB ?_;intro bx hbx;(try simp only[fb]at hbx))|refine aD ?_|((with_reducible refine And.intro ?_ ?_);omega)|refine aA (d':=⟨⟩) ?_|refine aR (by kernel_rfl) ?_|refine aP ?_ (by repeat' first|exact lr _|assumption|refine ls ?_ ?_|refine lt ?_ ?_|simp only[*];done|simp only[fb, *,not_false_eq_true,and_self];done|exact lf ‹_› (by simp only[*]))|refine aC ?_ (by repeat' first|exact lr _|assumption|refine ls ?_ ?_|refine lt ?_ ?_|simp only[*];done|simp only[fb, *,not_false_eq_true,and_self];done|exact lf ‹_› (by simp only[*]))|simp -dsimp only[↓bp,bq,br,seval,fG, *]|refine wz ?_|fail)
   all_goals first
    |exact aE _ (AS.le.refl _) ⟨by rw[fI hfp (hfin.trans (by assumption))];rfl,hle0.trans (hleT.setBox hSbx _)⟩
    | (have hlt:=(List.getElem?_eq_some_iff.1 hfp).1
       exact⟨fs.length - (p+1),by omega,p+1,by omega,rfl,⟨hleT.setBox hSbx _,by simp only[AS.setBox,if_true];rw[hnx],by simp[AS.setBox,AS.setTy]⟩,gI hfp hall (hfin.trans (by assumption))⟩)
  by_cases k98:f=98
  ·subst k98
   have g97:(((98:UInt8).toNat:Int)=97)=False:=eq_false (by decide)
   have g98:(((98:UInt8).toNat:Int)=98)=True:=eq_true (by decide)
   have g99:(((98:UInt8).toNat:Int)=99)=False:=eq_false (by decide)
   have g107:(((98:UInt8).toNat:Int)=107)=False:=eq_false (by decide)
   have g102:(((98:UInt8).toNat:Int)=102)=False:=eq_false (by decide)
   have g110:(((98:UInt8).toNat:Int)=110)=False:=eq_false (by decide)
   have g116:(((98:UInt8).toNat:Int)=116)=False:=eq_false (by decide)
   have g115:(((98:UInt8).toNat:Int)=115)=False:=eq_false (by decide)
   have g108:(((98:UInt8).toNat:Int)=108)=False:=eq_false (by decide)
   have hnx:=B6f i (fs.take p) A B C N L T W hf
   rw[<- aK _ _ _ hfp]at hnx
   have hs:=uP (G:=G) hS2 i.b
   have hfin:cR c e b z i 98=cZ e i.b:=rfl
   generalize cZ e i.b=r at*
   clear hf ho hfl hlt
   repeat'(first|refine xs ?_ ?_ <;>intros|(refine wn ?_;intro bx hbx;try simp only[fb]at hbx)|(refine aV hR.iter hfp hca ?_)|(refine oZ (hs.mono hleT) ?_)|refine aQ ?_|(refine aB ?_;intro bx hbx;(try simp only[fb]at hbx))|refine aD ?_|((with_reducible refine And.intro ?_ ?_);omega)|refine aA (d':=⟨⟩) ?_|refine aR (by kernel_rfl) ?_|refine aP ?_ (by repeat' first|exact lr _|assumption|refine ls ?_ ?_|refine lt ?_ ?_|simp only[*];done|simp only[fb, *,not_false_eq_true,and_self];done|exact lf ‹_› (by simp only[*]))|refine aC ?_ (by repeat' first|exact lr _|assumption|refine ls ?_ ?_|refine lt ?_ ?_|simp only[*];done|simp only[fb, *,not_false_eq_true,and_self];done|exact lf ‹_› (by simp only[*]))|simp -dsimp only[↓bp,bq,br,seval,fG, *]|refine wz ?_|fail)
   all_goals first
    |exact aE _ (AS.le.refl _) ⟨by rw[fI hfp (hfin.trans (by assumption))];rfl,hle0.trans (hleT.setBox hSbx _)⟩
    | (have hlt:=(List.getElem?_eq_some_iff.1 hfp).1
       exact⟨fs.length - (p+1),by omega,p+1,by omega,rfl,⟨hleT.setBox hSbx _,by simp only[AS.setBox,if_true];rw[hnx],by simp[AS.setBox,AS.setTy]⟩,gI hfp hall (hfin.trans (by assumption))⟩)
  by_cases k99:f=99
  ·subst k99
   have g97:(((99:UInt8).toNat:Int)=97)=False:=eq_false (by decide)
   have g98:(((99:UInt8).toNat:Int)=98)=False:=eq_false (by decide)
   have g99:(((99:UInt8).toNat:Int)=99)=True:=eq_true (by decide)
   have g107:(((99:UInt8).toNat:Int)=107)=False:=eq_false (by decide)
   have g102:(((99:UInt8).toNat:Int)=102)=False:=eq_false (by decide)
   have g110:(((99:UInt8).toNat:Int)=110)=False:=eq_false (by decide)
   have g116:(((99:UInt8).toNat:Int)=116)=False:=eq_false (by decide)
   have g115:(((99:UInt8).toNat:Int)=115)=False:=eq_false (by decide)
   have g108:(((99:UInt8).toNat:Int)=108)=False:=eq_false (by decide)
   have hnx:=B6g i (fs.take p) A B C N L T W hf
   rw[<- aK _ _ _ hfp]at hnx
   have hs:=uP (G:=G) hS2 i.c
   have hfin:cR c e b z i 99=cZ e i.c:=rfl
   generalize cZ e i.c=r at*
   clear hf ho hfl hlt
   repeat'(first|refine xs ?_ ?_ <;>intros|(refine wn ?_;intro bx hbx;try simp only[fb]at hbx)|(refine aV hR.iter hfp hca ?_)|(refine oZ (hs.mono hleT) ?_)|refine aQ ?_|(refine aB ?_;intro bx hbx;(try simp only[fb]at hbx))|refine aD ?_|((with_reducible refine And.intro ?_ ?_);omega)|refine aA (d':=⟨⟩) ?_|refine aR (by kernel_rfl) ?_|refine aP ?_ (by repeat' first|exact lr _|assumption|refine ls ?_ ?_|refine lt ?_ ?_|simp only[*];done|simp only[fb, *,not_false_eq_true,and_self];done|exact lf ‹_› (by simp only[*]))|refine aC ?_ (by repeat' first|exact lr _|assumption|refine ls ?_ ?_|refine lt ?_ ?_|simp only[*];done|simp only[fb, *,not_false_eq_true,and_self];done|exact lf ‹_› (by simp only[*]))|simp -dsimp only[↓bp,bq,br,seval,fG, *]|refine wz ?_|fail)
   all_goals first
    |exact aE _ (AS.le.refl _) ⟨by rw[fI hfp (hfin.trans (by assumption))];rfl,hle0.trans (hleT.setBox hSbx _)⟩
    | (have hlt:=(List.getElem?_eq_some_iff.1 hfp).1
       exact⟨fs.length - (p+1),by omega,p+1,by omega,rfl,⟨hleT.setBox hSbx _,by simp only[AS.setBox,if_true];rw[hnx],by simp[AS.setBox,AS.setTy]⟩,gI hfp hall (hfin.trans (by assumption))⟩)
  by_cases k107:f=107
  ·subst k107
   have g97:(((107:UInt8).toNat:Int)=97)=False:=eq_false (by decide)
   have g98:(((107:UInt8).toNat:Int)=98)=False:=eq_false (by decide)
   have g99:(((107:UInt8).toNat:Int)=99)=False:=eq_false (by decide)
   have g107:(((107:UInt8).toNat:Int)=107)=True:=eq_true (by decide)
   have g102:(((107:UInt8).toNat:Int)=102)=False:=eq_false (by decide)
   have g110:(((107:UInt8).toNat:Int)=110)=False:=eq_false (by decide)
   have g116:(((107:UInt8).toNat:Int)=116)=False:=eq_false (by decide)
   have g115:(((107:UInt8).toNat:Int)=115)=False:=eq_false (by decide)
   have g108:(((107:UInt8).toNat:Int)=108)=False:=eq_false (by decide)
   have hnx:=B1s i (fs.take p) A B C N L T W hf
   rw[<- aK _ _ _ hfp]at hnx
   have hfin0:cR c e b z i 107=(decide (0 <=i.n) && decide (i.n < c.consts.length)):=rfl
   by_cases q1:0 <=i.n
   ·by_cases q2:i.n < c.consts.length
    ·have hfin:cR c e b z i 107=true:=by rw[hfin0];simp[q1,q2]
     have q1':=eq_true q1
     have q2':=eq_true q2
     clear q1 q2 hfin0
     clear hf ho hfl hlt
     repeat'(first|refine xs ?_ ?_ <;>intros|(refine wn ?_;intro bx hbx;try simp only[fb]at hbx)|(refine fC 16 bx (by decide+kernel) hb8 ?_)|(refine aV hR.iter hfp hca ?_)|refine aQ ?_|(refine aB ?_;intro bx hbx;(try simp only[fb]at hbx))|refine aD ?_|((with_reducible refine And.intro ?_ ?_);omega)|refine aA (d':=⟨⟩) ?_|refine aR (by kernel_rfl) ?_|refine aP ?_ (by repeat' first|exact lr _|assumption|refine ls ?_ ?_|refine lt ?_ ?_|simp only[*];done|simp only[fb, *,not_false_eq_true,and_self];done|exact lf ‹_› (by simp only[*]))|refine aC ?_ (by repeat' first|exact lr _|assumption|refine ls ?_ ?_|refine lt ?_ ?_|simp only[*];done|simp only[fb, *,not_false_eq_true,and_self];done|exact lf ‹_› (by simp only[*]))|simp -dsimp only[↓bp,bq,br,seval,fG, *]|refine wz ?_|fail)
     all_goals(have hlt:=(List.getElem?_eq_some_iff.1 hfp).1)
     all_goals exact⟨fs.length - (p+1),by omega,p+1,by omega,rfl,⟨hleT.setBox hSbx _,by simp only[AS.setBox,if_true];rw[hnx],by simp[AS.setBox,AS.setTy]⟩,gI hfp hall hfin⟩
    ·have hfin:cR c e b z i 107=false:=by rw[hfin0];simp[q1,q2]
     have q1':=eq_true q1
     have q2':=eq_false q2
     clear q1 q2 hfin0
     clear hf ho hfl hlt
     repeat'(first|refine xs ?_ ?_ <;>intros|(refine wn ?_;intro bx hbx;try simp only[fb]at hbx)|(refine fC 16 bx (by decide+kernel) hb8 ?_)|(refine aV hR.iter hfp hca ?_)|refine aQ ?_|(refine aB ?_;intro bx hbx;(try simp only[fb]at hbx))|refine aD ?_|((with_reducible refine And.intro ?_ ?_);omega)|refine aA (d':=⟨⟩) ?_|refine aR (by kernel_rfl) ?_|refine aP ?_ (by repeat' first|exact lr _|assumption|refine ls ?_ ?_|refine lt ?_ ?_|simp only[*];done|simp only[fb, *,not_false_eq_true,and_self];done|exact lf ‹_› (by simp only[*]))|refine aC ?_ (by repeat' first|exact lr _|assumption|refine ls ?_ ?_|refine lt ?_ ?_|simp only[*];done|simp only[fb, *,not_false_eq_true,and_self];done|exact lf ‹_› (by simp only[*]))|simp -dsimp only[↓bp,bq,br,seval,fG, *]|refine wz ?_|fail)
     all_goals exact aE _ (AS.le.refl _) ⟨by rw[fI hfp hfin];rfl,hle0.trans (hleT.setBox hSbx _)⟩
   ·have hfin:cR c e b z i 107=false:=by rw[hfin0];simp[q1]
    have q1':=eq_false q1
    clear q1 hfin0
    clear hf ho hfl hlt
    repeat'(first|refine xs ?_ ?_ <;>intros|(refine wn ?_;intro bx hbx;try simp only[fb]at hbx)|(refine fC 16 bx (by decide+kernel) hb8 ?_)|(refine aV hR.iter hfp hca ?_)|refine aQ ?_|(refine aB ?_;intro bx hbx;(try simp only[fb]at hbx))|refine aD ?_|((with_reducible refine And.intro ?_ ?_);omega)|refine aA (d':=⟨⟩) ?_|refine aR (by kernel_rfl) ?_|refine aP ?_ (by repeat' first|exact lr _|assumption|refine ls ?_ ?_|refine lt ?_ ?_|simp only[*];done|simp only[fb, *,not_false_eq_true,and_self];done|exact lf ‹_› (by simp only[*]))|refine aC ?_ (by repeat' first|exact lr _|assumption|refine ls ?_ ?_|refine lt ?_ ?_|simp only[*];done|simp only[fb, *,not_false_eq_true,and_self];done|exact lf ‹_› (by simp only[*]))|simp -dsimp only[↓bp,bq,br,seval,fG, *]|refine wz ?_|fail)
    all_goals exact aE _ (AS.le.refl _) ⟨by rw[fI hfp hfin];rfl,hle0.trans (hleT.setBox hSbx _)⟩
  by_cases k102:f=102
  ·subst k102
   have g97:(((102:UInt8).toNat:Int)=97)=False:=eq_false (by decide)
   have g98:(((102:UInt8).toNat:Int)=98)=False:=eq_false (by decide)
   have g99:(((102:UInt8).toNat:Int)=99)=False:=eq_false (by decide)
   have g107:(((102:UInt8).toNat:Int)=107)=False:=eq_false (by decide)
   have g102:(((102:UInt8).toNat:Int)=102)=True:=eq_true (by decide)
   have g110:(((102:UInt8).toNat:Int)=110)=False:=eq_false (by decide)
   have g116:(((102:UInt8).toNat:Int)=116)=False:=eq_false (by decide)
   have g115:(((102:UInt8).toNat:Int)=115)=False:=eq_false (by decide)
   have g108:(((102:UInt8).toNat:Int)=108)=False:=eq_false (by decide)
   have hnx:=B1r i (fs.take p) A B C N L T W hf
   rw[<- aK _ _ _ hfp]at hnx
   have hfin:cR c e b z i 102=tN c i:=rfl
   generalize tN c i=r at*
   clear hf ho hfl hlt
   repeat'(first|refine xs ?_ ?_ <;>intros|(refine wn ?_;intro bx hbx;try simp only[fb]at hbx)|(refine aV hR.iter hfp hca ?_)|refine wp hfn ?_|refine aQ ?_|(refine aB ?_;intro bx hbx;(try simp only[fb]at hbx))|refine aD ?_|((with_reducible refine And.intro ?_ ?_);omega)|refine aA (d':=⟨⟩) ?_|refine aR (by kernel_rfl) ?_|refine aP ?_ (by repeat' first|exact lr _|assumption|refine ls ?_ ?_|refine lt ?_ ?_|simp only[*];done|simp only[fb, *,not_false_eq_true,and_self];done|exact lf ‹_› (by simp only[*]))|refine aC ?_ (by repeat' first|exact lr _|assumption|refine ls ?_ ?_|refine lt ?_ ?_|simp only[*];done|simp only[fb, *,not_false_eq_true,and_self];done|exact lf ‹_› (by simp only[*]))|simp -dsimp only[↓bp,bq,br,seval,fG, *]|refine wz ?_|fail)
   all_goals first
    |exact aE _ (AS.le.refl _) ⟨by rw[fI hfp (hfin.trans (by assumption))];rfl,hle0.trans (hleT.setBox hSbx _)⟩
    | (have hlt:=(List.getElem?_eq_some_iff.1 hfp).1
       exact⟨fs.length - (p+1),by omega,p+1,by omega,rfl,⟨hleT.setBox hSbx _,by simp only[AS.setBox,if_true];rw[hnx],by simp[AS.setBox,AS.setTy]⟩,gI hfp hall (hfin.trans (by assumption))⟩)
  by_cases k110:f=110
  ·subst k110
   have g97:(((110:UInt8).toNat:Int)=97)=False:=eq_false (by decide)
   have g98:(((110:UInt8).toNat:Int)=98)=False:=eq_false (by decide)
   have g99:(((110:UInt8).toNat:Int)=99)=False:=eq_false (by decide)
   have g107:(((110:UInt8).toNat:Int)=107)=False:=eq_false (by decide)
   have g102:(((110:UInt8).toNat:Int)=102)=False:=eq_false (by decide)
   have g110:(((110:UInt8).toNat:Int)=110)=True:=eq_true (by decide)
   have g116:(((110:UInt8).toNat:Int)=116)=False:=eq_false (by decide)
   have g115:(((110:UInt8).toNat:Int)=115)=False:=eq_false (by decide)
   have g108:(((110:UInt8).toNat:Int)=108)=False:=eq_false (by decide)
   have hnx:=B1u i (fs.take p) A B C N L T W hf
   rw[<- aK _ _ _ hfp]at hnx
   have hs:=D2g (G:=G) hS3 i.n
   have hfin:cR c e b z i 110=jB i.op i.n:=rfl
   generalize jB i.op i.n=r at*
   clear hf ho hfl hlt
   repeat'(first|refine xs ?_ ?_ <;>intros|(refine wn ?_;intro bx hbx;try simp only[fb]at hbx)|(refine aV hR.iter hfp hca ?_)|(refine oZ (hs.mono hleT) ?_)|refine aQ ?_|(refine aB ?_;intro bx hbx;(try simp only[fb]at hbx))|refine aD ?_|((with_reducible refine And.intro ?_ ?_);omega)|refine aA (d':=⟨⟩) ?_|refine aR (by kernel_rfl) ?_|refine aP ?_ (by repeat' first|exact lr _|assumption|refine ls ?_ ?_|refine lt ?_ ?_|simp only[*];done|simp only[fb, *,not_false_eq_true,and_self];done|exact lf ‹_› (by simp only[*]))|refine aC ?_ (by repeat' first|exact lr _|assumption|refine ls ?_ ?_|refine lt ?_ ?_|simp only[*];done|simp only[fb, *,not_false_eq_true,and_self];done|exact lf ‹_› (by simp only[*]))|simp -dsimp only[↓bp,bq,br,seval,fG, *]|refine wz ?_|fail)
   all_goals first
    |exact aE _ (AS.le.refl _) ⟨by rw[fI hfp (hfin.trans (by assumption))];rfl,hle0.trans (hleT.setBox hSbx _)⟩
    | (have hlt:=(List.getElem?_eq_some_iff.1 hfp).1
       exact⟨fs.length - (p+1),by omega,p+1,by omega,rfl,⟨hleT.setBox hSbx _,by simp only[AS.setBox,if_true];rw[hnx],by simp[AS.setBox,AS.setTy]⟩,gI hfp hall (hfin.trans (by assumption))⟩)
  by_cases k116:f=116
  ·subst k116
   have g97:(((116:UInt8).toNat:Int)=97)=False:=eq_false (by decide)
   have g98:(((116:UInt8).toNat:Int)=98)=False:=eq_false (by decide)
   have g99:(((116:UInt8).toNat:Int)=99)=False:=eq_false (by decide)
   have g107:(((116:UInt8).toNat:Int)=107)=False:=eq_false (by decide)
   have g102:(((116:UInt8).toNat:Int)=102)=False:=eq_false (by decide)
   have g110:(((116:UInt8).toNat:Int)=110)=False:=eq_false (by decide)
   have g116:(((116:UInt8).toNat:Int)=116)=True:=eq_true (by decide)
   have g115:(((116:UInt8).toNat:Int)=115)=False:=eq_false (by decide)
   have g108:(((116:UInt8).toNat:Int)=108)=False:=eq_false (by decide)
   have hnx:=B1w i (fs.take p) A B C N L T W hf
   rw[<- aK _ _ _ hfp]at hnx
   have hfin:cR c e b z i 116=mZ i:=rfl
   generalize mZ i=r at*
   clear hf ho hfl hlt
   repeat'(first|refine xs ?_ ?_ <;>intros|(refine wn ?_;intro bx hbx;try simp only[fb]at hbx)|(refine aV hR.iter hfp hca ?_)|refine wp htx ?_|refine aQ ?_|(refine aB ?_;intro bx hbx;(try simp only[fb]at hbx))|refine aD ?_|((with_reducible refine And.intro ?_ ?_);omega)|refine aA (d':=⟨⟩) ?_|refine aR (by kernel_rfl) ?_|refine aP ?_ (by repeat' first|exact lr _|assumption|refine ls ?_ ?_|refine lt ?_ ?_|simp only[*];done|simp only[fb, *,not_false_eq_true,and_self];done|exact lf ‹_› (by simp only[*]))|refine aC ?_ (by repeat' first|exact lr _|assumption|refine ls ?_ ?_|refine lt ?_ ?_|simp only[*];done|simp only[fb, *,not_false_eq_true,and_self];done|exact lf ‹_› (by simp only[*]))|simp -dsimp only[↓bp,bq,br,seval,fG, *]|refine wz ?_|fail)
   all_goals first
    |exact aE _ (AS.le.refl _) ⟨by rw[fI hfp (hfin.trans (by assumption))];rfl,hle0.trans (hleT.setBox hSbx _)⟩
    | (have hlt:=(List.getElem?_eq_some_iff.1 hfp).1
       exact⟨fs.length - (p+1),by omega,p+1,by omega,rfl,⟨hleT.setBox hSbx _,by simp only[AS.setBox,if_true];rw[hnx],by simp[AS.setBox,AS.setTy]⟩,gI hfp hall (hfin.trans (by assumption))⟩)
  by_cases k115:f=115
  ·subst k115
   have g97:(((115:UInt8).toNat:Int)=97)=False:=eq_false (by decide)
   have g98:(((115:UInt8).toNat:Int)=98)=False:=eq_false (by decide)
   have g99:(((115:UInt8).toNat:Int)=99)=False:=eq_false (by decide)
   have g107:(((115:UInt8).toNat:Int)=107)=False:=eq_false (by decide)
   have g102:(((115:UInt8).toNat:Int)=102)=False:=eq_false (by decide)
   have g110:(((115:UInt8).toNat:Int)=110)=False:=eq_false (by decide)
   have g116:(((115:UInt8).toNat:Int)=116)=False:=eq_false (by decide)
   have g115:(((115:UInt8).toNat:Int)=115)=True:=eq_true (by decide)
   have g108:(((115:UInt8).toNat:Int)=108)=False:=eq_false (by decide)
   have hnx:=B1v i (fs.take p) A B C N L T W hf
   rw[<- aK _ _ _ hfp]at hnx
   have hfin0:cR c e b z i 115=(decide (i.slots.length <=4096) && i.slots.all (cZ e)):=rfl
   by_cases q1:i.slots.length <=4096
   ·have q1':((i.slots.length:Int) <=4096)=True:=eq_true (by omega)
    have hcn:=uB G (σ0:=S) (f:=54) (caps:=[.ptr b6 0]) (fun n=> !cZ e n) i.slots (by omega) (fun n hn=>B3q (G:=G) hS2 hS6 n)
    have hfin:cR c e b z i 115= !(i.slots.any fun n=> !cZ e n):=by rw[hfin0,decide_eq_true q1,Bool.true_and,List.not_any_eq_all_not];simp
    generalize i.slots.any (fun n=> !cZ e n)=r at*
    have hleB:S.le ((σ2.setTy it (.ob (.iter fs (p+1)),0)).delBox bx):=B3m hleT hSbx
    clear q1 hfin0
    clear hf ho hfl hlt
    repeat'(first|refine xs ?_ ?_ <;>intros|(refine wn ?_;intro bx hbx;try simp only[fb]at hbx)|(refine fC 15 bx (by decide+kernel) hb8 ?_)|(refine aV hR.iter hfp hca ?_)|(refine bZ.head hcn hleB ?_)|refine aQ ?_|(refine aB ?_;intro bx hbx;(try simp only[fb]at hbx))|refine aD ?_|((with_reducible refine And.intro ?_ ?_);omega)|refine aA (d':=⟨⟩) ?_|refine aR (by kernel_rfl) ?_|refine aP ?_ (by repeat' first|exact lr _|assumption|refine ls ?_ ?_|refine lt ?_ ?_|simp only[*];done|simp only[fb, *,not_false_eq_true,and_self];done|exact lf ‹_› (by simp only[*]))|refine aC ?_ (by repeat' first|exact lr _|assumption|refine ls ?_ ?_|refine lt ?_ ?_|simp only[*];done|simp only[fb, *,not_false_eq_true,and_self];done|exact lf ‹_› (by simp only[*]))|simp -dsimp only[↓bp,bq,br,seval,fG, *]|refine wz ?_|fail)
    all_goals first
     |exact aE _ (AS.le.refl _) ⟨by rw[fI hfp (by rw[hfin];simp[*])];rfl,hle0.trans (hleT.setBox hSbx _)⟩
     | (have hlt:=(List.getElem?_eq_some_iff.1 hfp).1
        exact⟨fs.length - (p+1),by omega,p+1,by omega,rfl,⟨hleT.setBox hSbx _,by simp only[AS.setBox,if_true];rw[hnx],by simp[AS.setBox,AS.setTy]⟩,gI hfp hall (by rw[hfin];simp[*])⟩)
   ·have q1':((i.slots.length:Int) <=4096)=False:=eq_false (by omega)
    have hfin:cR c e b z i 115=false:=by rw[hfin0];simp[q1]
    clear q1 hfin0
    clear hf ho hfl hlt
    repeat'(first|refine xs ?_ ?_ <;>intros|(refine wn ?_;intro bx hbx;try simp only[fb]at hbx)|(refine fC 15 bx (by decide+kernel) hb8 ?_)|(refine aV hR.iter hfp hca ?_)|refine aQ ?_|(refine aB ?_;intro bx hbx;(try simp only[fb]at hbx))|refine aD ?_|((with_reducible refine And.intro ?_ ?_);omega)|refine aA (d':=⟨⟩) ?_|refine aR (by kernel_rfl) ?_|refine aP ?_ (by repeat' first|exact lr _|assumption|refine ls ?_ ?_|refine lt ?_ ?_|simp only[*];done|simp only[fb, *,not_false_eq_true,and_self];done|exact lf ‹_› (by simp only[*]))|refine aC ?_ (by repeat' first|exact lr _|assumption|refine ls ?_ ?_|refine lt ?_ ?_|simp only[*];done|simp only[fb, *,not_false_eq_true,and_self];done|exact lf ‹_› (by simp only[*]))|simp -dsimp only[↓bp,bq,br,seval,fG, *]|refine wz ?_|fail)
    all_goals exact aE _ (AS.le.refl _) ⟨by rw[fI hfp hfin];rfl,hle0.trans (hleT.setBox hSbx _)⟩
  by_cases k108:f=108
  ·subst k108
   have g97:(((108:UInt8).toNat:Int)=97)=False:=eq_false (by decide)
   have g98:(((108:UInt8).toNat:Int)=98)=False:=eq_false (by decide)
   have g99:(((108:UInt8).toNat:Int)=99)=False:=eq_false (by decide)
   have g107:(((108:UInt8).toNat:Int)=107)=False:=eq_false (by decide)
   have g102:(((108:UInt8).toNat:Int)=102)=False:=eq_false (by decide)
   have g110:(((108:UInt8).toNat:Int)=110)=False:=eq_false (by decide)
   have g116:(((108:UInt8).toNat:Int)=116)=False:=eq_false (by decide)
   have g115:(((108:UInt8).toNat:Int)=115)=False:=eq_false (by decide)
   have g108:(((108:UInt8).toNat:Int)=108)=True:=eq_true (by decide)
   have hnx:=B1t i (fs.take p) A B C N L T W hf
   rw[<- aK _ _ _ hfp]at hnx
   have hfin0:cR c e b z i 108=(decide (b <=i.l) && decide (i.l < z)):=rfl
   by_cases q1:b <=i.l
   ·by_cases q2:i.l < z
    ·have hfin:cR c e b z i 108=true:=by rw[hfin0];simp[q1,q2]
     have q1':=eq_true q1
     have q2':=eq_true q2
     clear q1 q2 hfin0
     clear hf ho hfl hlt
     repeat'(first|refine xs ?_ ?_ <;>intros|(refine wn ?_;intro bx hbx;try simp only[fb]at hbx)|(refine fC 16 bx (by decide+kernel) hb8 ?_)|(refine aV hR.iter hfp hca ?_)|refine aQ ?_|(refine aB ?_;intro bx hbx;(try simp only[fb]at hbx))|refine aD ?_|((with_reducible refine And.intro ?_ ?_);omega)|refine aA (d':=⟨⟩) ?_|refine aR (by kernel_rfl) ?_|refine aP ?_ (by repeat' first|exact lr _|assumption|refine ls ?_ ?_|refine lt ?_ ?_|simp only[*];done|simp only[fb, *,not_false_eq_true,and_self];done|exact lf ‹_› (by simp only[*]))|refine aC ?_ (by repeat' first|exact lr _|assumption|refine ls ?_ ?_|refine lt ?_ ?_|simp only[*];done|simp only[fb, *,not_false_eq_true,and_self];done|exact lf ‹_› (by simp only[*]))|simp -dsimp only[↓bp,bq,br,seval,fG, *]|refine wz ?_|fail)
     all_goals(have hlt:=(List.getElem?_eq_some_iff.1 hfp).1)
     all_goals exact⟨fs.length - (p+1),by omega,p+1,by omega,rfl,⟨hleT.setBox hSbx _,by simp only[AS.setBox,if_true];rw[hnx],by simp[AS.setBox,AS.setTy]⟩,gI hfp hall hfin⟩
    ·have hfin:cR c e b z i 108=false:=by rw[hfin0];simp[q1,q2]
     have q1':=eq_true q1
     have q2':=eq_false q2
     clear q1 q2 hfin0
     clear hf ho hfl hlt
     repeat'(first|refine xs ?_ ?_ <;>intros|(refine wn ?_;intro bx hbx;try simp only[fb]at hbx)|(refine fC 16 bx (by decide+kernel) hb8 ?_)|(refine aV hR.iter hfp hca ?_)|refine aQ ?_|(refine aB ?_;intro bx hbx;(try simp only[fb]at hbx))|refine aD ?_|((with_reducible refine And.intro ?_ ?_);omega)|refine aA (d':=⟨⟩) ?_|refine aR (by kernel_rfl) ?_|refine aP ?_ (by repeat' first|exact lr _|assumption|refine ls ?_ ?_|refine lt ?_ ?_|simp only[*];done|simp only[fb, *,not_false_eq_true,and_self];done|exact lf ‹_› (by simp only[*]))|refine aC ?_ (by repeat' first|exact lr _|assumption|refine ls ?_ ?_|refine lt ?_ ?_|simp only[*];done|simp only[fb, *,not_false_eq_true,and_self];done|exact lf ‹_› (by simp only[*]))|simp -dsimp only[↓bp,bq,br,seval,fG, *]|refine wz ?_|fail)
     all_goals exact aE _ (AS.le.refl _) ⟨by rw[fI hfp hfin];rfl,hle0.trans (hleT.setBox hSbx _)⟩
   ·have hfin:cR c e b z i 108=false:=by rw[hfin0];simp[q1]
    have q1':=eq_false q1
    clear q1 hfin0
    clear hf ho hfl hlt
    repeat'(first|refine xs ?_ ?_ <;>intros|(refine wn ?_;intro bx hbx;try simp only[fb]at hbx)|(refine fC 16 bx (by decide+kernel) hb8 ?_)|(refine aV hR.iter hfp hca ?_)|refine aQ ?_|(refine aB ?_;intro bx hbx;(try simp only[fb]at hbx))|refine aD ?_|((with_reducible refine And.intro ?_ ?_);omega)|refine aA (d':=⟨⟩) ?_|refine aR (by kernel_rfl) ?_|refine aP ?_ (by repeat' first|exact lr _|assumption|refine ls ?_ ?_|refine lt ?_ ?_|simp only[*];done|simp only[fb, *,not_false_eq_true,and_self];done|exact lf ‹_› (by simp only[*]))|refine aC ?_ (by repeat' first|exact lr _|assumption|refine ls ?_ ?_|refine lt ?_ ?_|simp only[*];done|simp only[fb, *,not_false_eq_true,and_self];done|exact lf ‹_› (by simp only[*]))|simp -dsimp only[↓bp,bq,br,seval,fG, *]|refine wz ?_|fail)
    all_goals exact aE _ (AS.le.refl _) ⟨by rw[fI hfp hfin];rfl,hle0.trans (hleT.setBox hSbx _)⟩
  have hfin:cR c e b z i f=true:=by unfold cR;simp[k97,k98,k99,k107,k102,k110,k116,k115,k108]
  have hnx:=A3o i (fs.take p) f k97 k98 k99 k107 k102 k110 k116 k115 k108
  rw[<- aK _ _ _ hfp]at hnx
  have g97:((f.toNat:Int)=97)=False:=eq_false fun h=>k97 (UInt8.toNat_inj.1 (by show f.toNat=97;omega))
  have g98:((f.toNat:Int)=98)=False:=eq_false fun h=>k98 (UInt8.toNat_inj.1 (by show f.toNat=98;omega))
  have g99:((f.toNat:Int)=99)=False:=eq_false fun h=>k99 (UInt8.toNat_inj.1 (by show f.toNat=99;omega))
  have g107:((f.toNat:Int)=107)=False:=eq_false fun h=>k107 (UInt8.toNat_inj.1 (by show f.toNat=107;omega))
  have g102:((f.toNat:Int)=102)=False:=eq_false fun h=>k102 (UInt8.toNat_inj.1 (by show f.toNat=102;omega))
  have g110:((f.toNat:Int)=110)=False:=eq_false fun h=>k110 (UInt8.toNat_inj.1 (by show f.toNat=110;omega))
  have g116:((f.toNat:Int)=116)=False:=eq_false fun h=>k116 (UInt8.toNat_inj.1 (by show f.toNat=116;omega))
  have g115:((f.toNat:Int)=115)=False:=eq_false fun h=>k115 (UInt8.toNat_inj.1 (by show f.toNat=115;omega))
  have g108:((f.toNat:Int)=108)=False:=eq_false fun h=>k108 (UInt8.toNat_inj.1 (by show f.toNat=108;omega))
  clear hf ho hfl hlt k97 k98 k99 k107 k102 k110 k116 k115 k108
  repeat'(first|refine xs ?_ ?_ <;>intros|(refine wn ?_;intro bx hbx;try simp only[fb]at hbx)|(refine aV hR.iter hfp hca ?_)|refine aQ ?_|(refine aB ?_;intro bx hbx;(try simp only[fb]at hbx))|refine aD ?_|((with_reducible refine And.intro ?_ ?_);omega)|refine aA (d':=⟨⟩) ?_|refine aR (by kernel_rfl) ?_|refine aP ?_ (by repeat' first|exact lr _|assumption|refine ls ?_ ?_|refine lt ?_ ?_|simp only[*];done|simp only[fb, *,not_false_eq_true,and_self];done|exact lf ‹_› (by simp only[*]))|refine aC ?_ (by repeat' first|exact lr _|assumption|refine ls ?_ ?_|refine lt ?_ ?_|simp only[*];done|simp only[fb, *,not_false_eq_true,and_self];done|exact lf ‹_› (by simp only[*]))|simp -dsimp only[↓bp,bq,br,seval,fG, *]|refine wz ?_|fail)
  all_goals(have hlt:=(List.getElem?_eq_some_iff.1 hfp).1)
  all_goals exact⟨fs.length - (p+1),by omega,p+1,by omega,rfl,⟨hleT,by rw[hnx];exact hR.bare,by simp[AS.setTy]⟩,gI hfp hall hfin⟩
end
set_option maxRecDepth 20000
section
def gG:=And.intro (And.intro (And.intro (And.intro @nK (And.intro @nL @lY)) (And.intro (And.intro @kW @kE) (And.intro @oT @nP))) (And.intro (And.intro @jD (And.intro @iF @uH)) (And.intro (And.intro @oU @lC) (And.intro @nA @dH)))) (And.intro (And.intro (And.intro @cK (And.intro @dR @eF)) (And.intro (And.intro @aF.flat_enc @aF.isv_enc) (And.intro @aF.fold_enc @aO.flat_enc))) (And.intro (And.intro (And.intro @aO.isv_enc @aO.fold_enc) (And.intro @cA @bL)) (And.intro (And.intro @dE @fR) (And.intro @dL @cN))))
variable (G:Nat ->AV)
variable {α:Type}
set_option maxHeartbeats 1000000 in
theorem A1o{f:FuncId}{caps:List AV}{σ0:AS}(p:aO ->Bool)(l:List aO)(hl:l.length <=1099511627776)(hf:∀ x,x ∈ l ->bZ Tryd.prog G f ([aO.enc x]++caps) σ0 (.bool (p x))):
  bZ Tryd.prog G 47 [aW (aO.enc) l, .fn f caps] σ0 (.int .i64 (ixG p l)):=by
 intro σ hσ
 refine aJ.of_awp mixed Tryd.func47 rfl (by kernel_rfl) (by kernel_rfl) (by simp[Tryd.ntmps47]) Tryd.results47 ?_
 simp -dsimp only[↓bp,bq,br,seval,gG]
 refine aY (fun n e σ'=>∃ i:Nat,i <=l.length /\ n=l.length - i /\ e 8= .int .i64 i /\ σ'=σ /\ ∀ x,x ∈ l.take i ->p x=false) l.length
  ⟨0,by omega,by omega,by first|(simp -dsimp only[↓bp,bq,br,seval,gG];done)|(simp -dsimp only[↓bp,bq,br,seval,gG];try rfl),rfl,by simp⟩ ?_
 rintro n v σ' ⟨i,hi,rfl,h8,rfl,hno⟩
 simp -dsimp only[↓bp,bq,br,seval,gG]at h8
 by_cases hlt:(i:Int) < l.length
 ·obtain⟨k,hk⟩:∃ k,l[i]? =some k:=⟨_,List.getElem?_eq_getElem (by omega)⟩
  have hp:=hf k (List.mem_of_getElem? hk)
  have hlt':=eq_true hlt
  have hwi:IntKind.i64.wrap ((i:Int)+1)=((i+1:Nat):Int):=by rw[aH (by omega) (by omega)];rfl
  clear hf hi hlt
  cases hpk:p k with
  | true=>
   rw[hpk]at hp
   have hix:=wF hk hpk hno
   clear hno
   repeat'(first|refine xs ?_ ?_ <;>intros|(refine wn ?_;intro bx hbx;try simp only[fb]at hbx)|refine bZ.use (hp) (by repeat' first|exact lr _|assumption|refine ls ?_ ?_|refine lt ?_ ?_|simp only[*];done|simp only[fb, *,not_false_eq_true,and_self];done|exact lf ‹_› (by simp only[*])) ?_|refine aQ ?_|(refine aB ?_;intro bx hbx;(try simp only[fb]at hbx))|refine aD ?_|((with_reducible refine And.intro ?_ ?_);omega)|refine aA (d':=⟨⟩) ?_|refine aR (by kernel_rfl) ?_|refine aP ?_ (by repeat' first|exact lr _|assumption|refine ls ?_ ?_|refine lt ?_ ?_|simp only[*];done|simp only[fb, *,not_false_eq_true,and_self];done|exact lf ‹_› (by simp only[*]))|refine aC ?_ (by repeat' first|exact lr _|assumption|refine ls ?_ ?_|refine lt ?_ ?_|simp only[*];done|simp only[fb, *,not_false_eq_true,and_self];done|exact lf ‹_› (by simp only[*]))|simp -dsimp only[↓bp,bq,br,seval,gG, *]|refine wz ?_|fail)
   all_goals rw[hix]
  | false=>
   rw[hpk]at hp
   repeat'(first|refine xs ?_ ?_ <;>intros|(refine wn ?_;intro bx hbx;try simp only[fb]at hbx)|refine bZ.use (hp) (by repeat' first|exact lr _|assumption|refine ls ?_ ?_|refine lt ?_ ?_|simp only[*];done|simp only[fb, *,not_false_eq_true,and_self];done|exact lf ‹_› (by simp only[*])) ?_|refine aQ ?_|(refine aB ?_;intro bx hbx;(try simp only[fb]at hbx))|refine aD ?_|((with_reducible refine And.intro ?_ ?_);omega)|refine aA (d':=⟨⟩) ?_|refine aR (by kernel_rfl) ?_|refine aP ?_ (by repeat' first|exact lr _|assumption|refine ls ?_ ?_|refine lt ?_ ?_|simp only[*];done|simp only[fb, *,not_false_eq_true,and_self];done|exact lf ‹_› (by simp only[*]))|refine aC ?_ (by repeat' first|exact lr _|assumption|refine ls ?_ ?_|refine lt ?_ ?_|simp only[*];done|simp only[fb, *,not_false_eq_true,and_self];done|exact lf ‹_› (by simp only[*]))|simp -dsimp only[↓bp,bq,br,seval,gG, *]|refine wz ?_|fail)
   all_goals(have hlt:=(List.getElem?_eq_some_iff.1 hk).1)
   all_goals refine⟨l.length - (i+1),by omega,i+1,by omega,rfl,rfl,fun x hx=> ?_⟩
   all_goals(rw[aK _ _ _ hk,List.mem_append,List.mem_singleton]at hx;rcases hx with hx|rfl)
   all_goals first|exact hno _ hx|exact hpk
 ·have:i=l.length:=by omega
  subst this
  have hix:=qY (p:=p) (l:=l) fun x hx=>hno x (by rw[List.take_length];exact hx)
  have hlt':=eq_false hlt
  clear hno hf hi hlt
  repeat'(first|refine xs ?_ ?_ <;>intros|(refine wn ?_;intro bx hbx;try simp only[fb]at hbx)|refine aQ ?_|(refine aB ?_;intro bx hbx;(try simp only[fb]at hbx))|refine aD ?_|((with_reducible refine And.intro ?_ ?_);omega)|refine aA (d':=⟨⟩) ?_|refine aR (by kernel_rfl) ?_|refine aP ?_ (by repeat' first|exact lr _|assumption|refine ls ?_ ?_|refine lt ?_ ?_|simp only[*];done|simp only[fb, *,not_false_eq_true,and_self];done|exact lf ‹_› (by simp only[*]))|refine aC ?_ (by repeat' first|exact lr _|assumption|refine ls ?_ ?_|refine lt ?_ ?_|simp only[*];done|simp only[fb, *,not_false_eq_true,and_self];done|exact lf ‹_› (by simp only[*]))|simp -dsimp only[↓bp,bq,br,seval,gG, *]|refine wz ?_|fail)
  all_goals rw[hix]
theorem nG{f:FuncId}{caps:List AV}{σ0:AS}(p:aO ->Bool)(l:List aO)(hl:l.length <=1099511627776)(hf:∀ x,x ∈ l ->bZ Tryd.prog G f ([aO.enc x]++caps) σ0 (.bool (p x))):
  bZ Tryd.prog G 27 [aW (aO.enc) l, .fn f caps] σ0 (.bool (l.any p)):=by
 intro σ hσ
 refine aJ.of_awp mixed Tryd.func27 rfl (by kernel_rfl) (by kernel_rfl) (by simp[Tryd.ntmps27]) Tryd.results27 ?_
 repeat'(first|refine xs ?_ ?_ <;>intros|(refine wn ?_;intro bx hbx;try simp only[fb]at hbx)|refine bZ.use (A1o G p l hl hf) (by repeat' first|exact lr _|assumption|refine ls ?_ ?_|refine lt ?_ ?_|simp only[*];done|simp only[fb, *,not_false_eq_true,and_self];done|exact lf ‹_› (by simp only[*])) ?_|refine aQ ?_|(refine aB ?_;intro bx hbx;(try simp only[fb]at hbx))|refine aD ?_|((with_reducible refine And.intro ?_ ?_);omega)|refine aA (d':=⟨⟩) ?_|refine aR (by kernel_rfl) ?_|refine aP ?_ (by repeat' first|exact lr _|assumption|refine ls ?_ ?_|refine lt ?_ ?_|simp only[*];done|simp only[fb, *,not_false_eq_true,and_self];done|exact lf ‹_› (by simp only[*]))|refine aC ?_ (by repeat' first|exact lr _|assumption|refine ls ?_ ?_|refine lt ?_ ?_|simp only[*];done|simp only[fb, *,not_false_eq_true,and_self];done|exact lf ‹_› (by simp only[*]))|simp -dsimp only[↓bp,bq,br,seval,gG, *]|refine wz ?_|fail)
 all_goals rw[A1t]
set_option maxHeartbeats 1000000 in
theorem A1p{f:FuncId}{caps:List AV}{σ0:AS}(p:aF ->Bool)(l:List aF)(hl:l.length <=1099511627776)(hf:∀ x,x ∈ l ->bZ Tryd.prog G f ([aF.enc x]++caps) σ0 (.bool (p x))):
  bZ Tryd.prog G 45 [aW (aF.enc) l, .fn f caps] σ0 (.int .i64 (ixG p l)):=by
 intro σ hσ
 refine aJ.of_awp mixed Tryd.func45 rfl (by kernel_rfl) (by kernel_rfl) (by simp[Tryd.ntmps45]) Tryd.results45 ?_
 simp -dsimp only[↓bp,bq,br,seval,gG]
 refine aY (fun n e σ'=>∃ i:Nat,i <=l.length /\ n=l.length - i /\ e 8= .int .i64 i /\ σ'=σ /\ ∀ x,x ∈ l.take i ->p x=false) l.length
  ⟨0,by omega,by omega,by first|(simp -dsimp only[↓bp,bq,br,seval,gG];done)|(simp -dsimp only[↓bp,bq,br,seval,gG];try rfl),rfl,by simp⟩ ?_
 rintro n v σ' ⟨i,hi,rfl,h8,rfl,hno⟩
 simp -dsimp only[↓bp,bq,br,seval,gG]at h8
 by_cases hlt:(i:Int) < l.length
 ·obtain⟨k,hk⟩:∃ k,l[i]? =some k:=⟨_,List.getElem?_eq_getElem (by omega)⟩
  have hp:=hf k (List.mem_of_getElem? hk)
  have hlt':=eq_true hlt
  have hwi:IntKind.i64.wrap ((i:Int)+1)=((i+1:Nat):Int):=by rw[aH (by omega) (by omega)];rfl
  clear hf hi hlt
  cases hpk:p k with
  | true=>
   rw[hpk]at hp
   have hix:=wF hk hpk hno
   clear hno
   repeat'(first|refine xs ?_ ?_ <;>intros|(refine wn ?_;intro bx hbx;try simp only[fb]at hbx)|refine bZ.use (hp) (by repeat' first|exact lr _|assumption|refine ls ?_ ?_|refine lt ?_ ?_|simp only[*];done|simp only[fb, *,not_false_eq_true,and_self];done|exact lf ‹_› (by simp only[*])) ?_|refine aQ ?_|(refine aB ?_;intro bx hbx;(try simp only[fb]at hbx))|refine aD ?_|((with_reducible refine And.intro ?_ ?_);omega)|refine aA (d':=⟨⟩) ?_|refine aR (by kernel_rfl) ?_|refine aP ?_ (by repeat' first|exact lr _|assumption|refine ls ?_ ?_|refine lt ?_ ?_|simp only[*];done|simp only[fb, *,not_false_eq_true,and_self];done|exact lf ‹_› (by simp only[*]))|refine aC ?_ (by repeat' first|exact lr _|assumption|refine ls ?_ ?_|refine lt ?_ ?_|simp only[*];done|simp only[fb, *,not_false_eq_true,and_self];done|exact lf ‹_› (by simp only[*]))|simp -dsimp only[↓bp,bq,br,seval,gG, *]|refine wz ?_|fail)
   all_goals rw[hix]
  | false=>
   rw[hpk]at hp
   repeat'(first|refine xs ?_ ?_ <;>intros|(refine wn ?_;intro bx hbx;try simp only[fb]at hbx)|refine bZ.use (hp) (by repeat' first|exact lr _|assumption|refine ls ?_ ?_|refine lt ?_ ?_|simp only[*];done|simp only[fb, *,not_false_eq_true,and_self];done|exact lf ‹_› (by simp only[*])) ?_|refine aQ ?_|(refine aB ?_;intro bx hbx;(try simp only[fb]at hbx))|refine aD ?_|((with_reducible refine And.intro ?_ ?_);omega)|refine aA (d':=⟨⟩) ?_|refine aR (by kernel_rfl) ?_|refine aP ?_ (by repeat' first|exact lr _|assumption|refine ls ?_ ?_|refine lt ?_ ?_|simp only[*];done|simp only[fb, *,not_false_eq_true,and_self];done|exact lf ‹_› (by simp only[*]))|refine aC ?_ (by repeat' first|exact lr _|assumption|refine ls ?_ ?_|refine lt ?_ ?_|simp only[*];done|simp only[fb, *,not_false_eq_true,and_self];done|exact lf ‹_› (by simp only[*]))|simp -dsimp only[↓bp,bq,br,seval,gG, *]|refine wz ?_|fail)
   all_goals(have hlt:=(List.getElem?_eq_some_iff.1 hk).1)
   all_goals refine⟨l.length - (i+1),by omega,i+1,by omega,rfl,rfl,fun x hx=> ?_⟩
   all_goals(rw[aK _ _ _ hk,List.mem_append,List.mem_singleton]at hx;rcases hx with hx|rfl)
   all_goals first|exact hno _ hx|exact hpk
 ·have:i=l.length:=by omega
  subst this
  have hix:=qY (p:=p) (l:=l) fun x hx=>hno x (by rw[List.take_length];exact hx)
  have hlt':=eq_false hlt
  clear hno hf hi hlt
  repeat'(first|refine xs ?_ ?_ <;>intros|(refine wn ?_;intro bx hbx;try simp only[fb]at hbx)|refine aQ ?_|(refine aB ?_;intro bx hbx;(try simp only[fb]at hbx))|refine aD ?_|((with_reducible refine And.intro ?_ ?_);omega)|refine aA (d':=⟨⟩) ?_|refine aR (by kernel_rfl) ?_|refine aP ?_ (by repeat' first|exact lr _|assumption|refine ls ?_ ?_|refine lt ?_ ?_|simp only[*];done|simp only[fb, *,not_false_eq_true,and_self];done|exact lf ‹_› (by simp only[*]))|refine aC ?_ (by repeat' first|exact lr _|assumption|refine ls ?_ ?_|refine lt ?_ ?_|simp only[*];done|simp only[fb, *,not_false_eq_true,and_self];done|exact lf ‹_› (by simp only[*]))|simp -dsimp only[↓bp,bq,br,seval,gG, *]|refine wz ?_|fail)
  all_goals rw[hix]
theorem uC{f:FuncId}{caps:List AV}{σ0:AS}(p:aF ->Bool)(l:List aF)(hl:l.length <=1099511627776)(hf:∀ x,x ∈ l ->bZ Tryd.prog G f ([aF.enc x]++caps) σ0 (.bool (p x))):
  bZ Tryd.prog G 24 [aW (aF.enc) l, .fn f caps] σ0 (.bool (l.any p)):=by
 intro σ hσ
 refine aJ.of_awp mixed Tryd.func24 rfl (by kernel_rfl) (by kernel_rfl) (by simp[Tryd.ntmps24]) Tryd.results24 ?_
 repeat'(first|refine xs ?_ ?_ <;>intros|(refine wn ?_;intro bx hbx;try simp only[fb]at hbx)|refine bZ.use (A1p G p l hl hf) (by repeat' first|exact lr _|assumption|refine ls ?_ ?_|refine lt ?_ ?_|simp only[*];done|simp only[fb, *,not_false_eq_true,and_self];done|exact lf ‹_› (by simp only[*])) ?_|refine aQ ?_|(refine aB ?_;intro bx hbx;(try simp only[fb]at hbx))|refine aD ?_|((with_reducible refine And.intro ?_ ?_);omega)|refine aA (d':=⟨⟩) ?_|refine aR (by kernel_rfl) ?_|refine aP ?_ (by repeat' first|exact lr _|assumption|refine ls ?_ ?_|refine lt ?_ ?_|simp only[*];done|simp only[fb, *,not_false_eq_true,and_self];done|exact lf ‹_› (by simp only[*]))|refine aC ?_ (by repeat' first|exact lr _|assumption|refine ls ?_ ?_|refine lt ?_ ?_|simp only[*];done|simp only[fb, *,not_false_eq_true,and_self];done|exact lf ‹_› (by simp only[*]))|simp -dsimp only[↓bp,bq,br,seval,gG, *]|refine wz ?_|fail)
 all_goals rw[A1t]
end
end Go.Proofs.YthoenjlenkpnnaaDoor
