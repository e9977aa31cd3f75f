/- bytes.Buffer: texts put behind what it holds; what it holds. -/
import Derived.Test.YthoenjlenkpnnaaDoorY10
set_option linter.unusedVariables false
set_option linter.unusedSimpArgs false
set_option maxRecDepth 20000
set_option linter.defProp false
namespace Go.Proofs.YthoenjlenkpnnaaDoor
open Go Go.Av
section
def A2h:=And.intro (And.intro (And.intro @nK @nL) (And.intro @lY (And.intro @kW @kI))) (And.intro (And.intro @D3j @A5y) (And.intro @D7c (And.intro @A6c @A5z)))
variable {G:Nat ->AV}
structure Hb(p:Prop):Prop where
 out:p
theorem sG(ys:List UInt8):ys.map (fun c=>AV.int .u8 c.toNat)=aI ys:=rfl
theorem B0m{σ:AS}{g l n cap:Nat}{F:AV ->Prop}{d:Dum σ}{d':Dum F}(h:l+n <=cap)(hF:(0 < cap - l ->F (.raw (.slice (some ⟨g,l,none⟩) n (cap - l)))) /\ (cap=l ->F (.raw (.slice (some ⟨g,0,none⟩) 0 0)))):
  slW Tryd.prog σ 27 (tE g (l+n) cap) (some (.int .i64 l)) none F d d':=by
 refine pE (ag:=false) (l:=l) (h:=l+n) (s:=1) A2i (by simp[cM]) rfl (by omega) h ?_
 rw[C4d,Nat.add_sub_cancel_left]
 by_cases hc:cap=l
 ·have hn:n=0:=by omega
  rw[if_pos hc]
  subst hc hn
  rw[Nat.sub_self]
  exact hF.2 rfl
 ·rw[if_neg hc]
  exact hF.1 (by omega)
theorem B4y{σ0 σ:AS}{b g cap:Nat}{xs:List UInt8}{rest:List AV}(h:uR σ0 σ b g cap xs rest)(ys:List UInt8)(hr:ys.length <=rest.length)(hl:xs.length+ys.length <=1000000000000):aJ Tryd.prog G 17 [.ptr b 0, .str ys] σ fun r σ'=>r= .tup [.int .i64 ys.length, .raw .nilIface] /\ dZ σ0 σ' b (xs++ys):=by
 have hput:=h.put (ys:=ys) hr
 have hcm:cap <=9223372036854775807:=by have:=h.cm;unfold maxLen at this;omega
 have hlc:xs.length+ys.length <=cap:=by have:=h.len;omega
 have t1:=rL (G:=G) (n:=ys.length) h.box hlc hcm
 have hb:=h.box
 have hg:=h.row
 have hcl:xs.length+ys.length <=(aI xs++rest).length:=by rw[List.length_append,dF];omega
 rw[<- pB (xs:=xs) (ys:=ys) hr]at hput
 have hne:=h.ne
 have hid:=jQ hb
 have hcs:Hb (cap=xs.length -> (aI xs++rest).take 0++aI ys++(aI xs++rest).drop (0+ys.length)=(aI xs++rest).take xs.length++aI ys++(aI xs++rest).drop (xs.length+ys.length)):=⟨fun hc=>by
  have:ys=[]:=List.eq_nil_of_length_eq_zero (by omega)
  subst this
  simp[aI]⟩
 generalize aI xs++rest=cs at*
 clear h hr
 refine aJ.of_awp mixed Tryd.func17 rfl (by kernel_rfl) (by kernel_rfl) (by simp[Tryd.ntmps17]) Tryd.results17 ?_
 repeat'(first|refine xs ?_ ?_ <;>intros|(refine wn ?_;intro bx hbx;try simp only[fb]at hbx)|((refine aJ.mono t1 ?_;rintro r s ⟨rfl,hse⟩;rw[hse];clear hse s t1))|((refine B0m hlc ⟨fun hpos=> ?_,fun hz=> ?_⟩))|((refine vU (cs:=cs) (by rw[qL,if_neg hne];exact hg) tfU kW.2.1 (by first|exact Nat.le_refl _|omega) (by omega) ?_;simp only[sG]))|refine aQ ?_|(refine aB ?_;intro bx hbx;(try simp only[fb]at hbx))|refine aD ?_|((with_reducible refine And.intro ?_ ?_);omega)|refine aA (d':=⟨⟩) ?_|refine aR (by kernel_rfl) ?_|refine aP ?_ (by repeat' first|exact lr _|assumption|refine ls ?_ ?_|refine lt ?_ ?_|simp only[*];done|simp only[fb, *,not_false_eq_true,and_self];done|exact lf ‹_› (by simp only[*]))|refine aC ?_ (by repeat' first|exact lr _|assumption|refine ls ?_ ?_|refine lt ?_ ?_|simp only[*];done|simp only[fb, *,not_false_eq_true,and_self];done|exact lf ‹_› (by simp only[*]))|simp -dsimp only[↓bp,bq,br,seval,A2h,hid, *]|refine wz ?_|fail)
 ·exact aE _ (AS.le.refl _) ⟨rfl, .row g cap _ hput⟩
 ·rw[<- hcs.out hz]at hput
  exact aE _ (AS.le.refl _) ⟨rfl, .row g cap _ hput⟩
theorem B4x{σ0 σ:AS}{b g cap:Nat}{xs:List UInt8}{rest:List AV}(h:uR σ0 σ b g cap xs rest)(ys:List UInt8)(hr:rest.length < ys.length)(h0:0 < xs.length)(hl:xs.length+ys.length <=1000000000000):aJ Tryd.prog G 17 [.ptr b 0, .str ys] σ fun r σ'=>r= .tup [.int .i64 ys.length, .raw .nilIface] /\ dZ σ0 σ' b (xs++ys):=by
 have hlen:=h.len
 have hcm:cap <=9223372036854775807:=by have:=h.cm;unfold maxLen at this;omega
 have t1:=nC (G:=G) (n:=ys.length) h.box (by omega) (by omega) hcm
 have t2:=A4h (G:=G) (n:=ys.length) h.box h.row h.ty (by rw[List.length_append,dF];omega) (by rw[List.length_append,dF];omega) h0 (by omega) (by omega) (by omega) (yR xs rest)
 rw[wW]at t2
 have hb:=h.box
 have hid:=jQ hb
 have hny:0 < ys.length:=by omega
 have fin:∀ g2 cap2,σ.fresh g2 -> ¬ g2=b ->xs.length+ys.length <=cap2 ->cap2 <=maxLen ->dZ σ0 ((((σ.setBox g2 (aI xs++List.replicate (cap2 - xs.length) (.int .u8 0))).setTy g2 (.t 5,cap2)).setBox b (eX (tE g2 (xs.length+ys.length) cap2))).setBox g2 ((aI xs++List.replicate (cap2 - xs.length) (AV.int .u8 0)).take xs.length++aI ys++(aI xs++List.replicate (cap2 - xs.length) (AV.int .u8 0)).drop (xs.length+ys.length))) b (xs++ys):=fun g2 cap2 hf hn hc hm=>by
  have:=h.putNew (ys:=ys) hf hn hc hm
  rw[<- pB (xs:=xs) (ys:=ys) (by simp;omega)]at this
  exact .row g2 cap2 _ this
 have hcl:∀ cap2:Nat,xs.length+ys.length <=cap2 ->xs.length+ys.length <=(aI xs++List.replicate (cap2 - xs.length) (AV.int .u8 0)).length:=fun cap2 hc=>by rw[List.length_append,dF,List.length_replicate];omega
 generalize hF:(fun cap2=>aI xs++List.replicate (cap2 - xs.length) (AV.int .u8 0))=F at*
 have hF2:∀ cap2,aI xs++List.replicate (cap2 - xs.length) (AV.int .u8 0)=F cap2:=fun cap2=>by rw[<- hF]
 simp only[hF2]at t2 fin hcl
 clear h hr hF hF2
 refine aJ.of_awp mixed Tryd.func17 rfl (by kernel_rfl) (by kernel_rfl) (by simp[Tryd.ntmps17]) Tryd.results17 ?_
 repeat'(first|refine xs ?_ ?_ <;>intros|(refine wn ?_;intro bx hbx;try simp only[fb]at hbx)|((refine aJ.mono t1 ?_;rintro r s ⟨rfl,hse⟩;rw[hse];clear hse s t1))|((refine aJ.mono t2 ?_;rintro r s ⟨rfl,g2,cap2,hf2,hn2,hc2,hm2,hse⟩;rw[hse];clear hse s t2;have hcl2:=hcl cap2 hc2;have fin2:=fin g2 cap2 hf2 hn2 hc2 hm2;clear fin hcl))|((refine B0m hc2 ⟨fun hpos=> ?_,fun hz=>absurd hz (by omega)⟩))|((refine vU (cs:=F cap2) (by rw[qL,if_neg hn2];simp[AS.setTy,AS.setBox]) tfU kW.2.1 (by first|exact Nat.le_refl _|omega) (by omega) ?_;simp only[sG]))|refine aQ ?_|(refine aB ?_;intro bx hbx;(try simp only[fb]at hbx))|refine aD ?_|((with_reducible refine And.intro ?_ ?_);omega)|refine aA (d':=⟨⟩) ?_|refine aR (by kernel_rfl) ?_|refine aP ?_ (by repeat' first|exact lr _|assumption|refine ls ?_ ?_|refine lt ?_ ?_|simp only[*];done|simp only[fb, *,not_false_eq_true,and_self];done|exact lf ‹_› (by simp only[*]))|refine aC ?_ (by repeat' first|exact lr _|assumption|refine ls ?_ ?_|refine lt ?_ ?_|simp only[*];done|simp only[fb, *,not_false_eq_true,and_self];done|exact lf ‹_› (by simp only[*]))|simp -dsimp only[↓bp,bq,br,seval,A2h,hid, *]|refine wz ?_|fail)
 exact aE _ (AS.le.refl _) ⟨rfl,fin2⟩
theorem C3g{σ0 σ:AS}{b:Nat}(hle:σ0.le σ)(hout:σ0.box b=none)(hb:σ.box b=some (eX .nil))(ys:List UInt8)(h0:0 < ys.length)(h1:ys.length <=64):aJ Tryd.prog G 17 [.ptr b 0, .str ys] σ fun r σ'=>r= .tup [.int .i64 ys.length, .raw .nilIface] /\ dZ σ0 σ' b ys:=by
 have t1:=tY (G:=G) hb h0
 have t2:=B8v (G:=G) hb h0 h1
 have hid:=jQ hb
 have hlc:0+ys.length <=64:=by omega
 have hzl:=A9u
 have fin:∀ g,σ.fresh g ->g ≠ b ->dZ σ0 ((((σ.setBox g oV).setTy g (.t 5,64)).setBox b (eX (tE g ys.length 64))).setBox g (oV.take 0++aI ys++oV.drop (0+ys.length))) b ys:=fun g hf hn=>by
  have f0:=hle.fresh hf
  have hne2: ¬ b=g:=fun e=>hn e.symm
  refine .row g 64 (oV.drop ys.length) ⟨(((hle.setBox f0.1 _).setTy f0.2.2 _).setBox hout _).setBox f0.1 _,hout,f0.1,f0.2.2,hn,?_,?_,?_,?_,by decide⟩
  ·simp[AS.setBox,AS.setTy,hne2]
  ·simp[AS.setBox,AS.setTy]
  ·rw[List.length_drop,hzl];omega
  ·simp[AS.setBox,AS.setTy]
 generalize oV=Z at*
 have hz0:(64=0)=False:=eq_false (by decide)
 refine aJ.of_awp mixed Tryd.func17 rfl (by kernel_rfl) (by kernel_rfl) (by simp[Tryd.ntmps17]) Tryd.results17 ?_
 repeat'(first|refine xs ?_ ?_ <;>intros|(refine wn ?_;intro bx hbx;try simp only[fb]at hbx)|((refine aJ.mono t1 ?_;rintro r s ⟨rfl,hse⟩;rw[hse];clear hse s t1))|((refine aJ.mono t2 ?_;rintro r s ⟨rfl,g2,hf2,hn2,hse⟩;rw[hse];clear hse s t2;have fin2:=fin g2 hf2 hn2;clear fin))|((refine pE (ag:=false) (l:=0) (h:=ys.length) (s:=1) A2i (by simp[cM]) rfl (by omega) h1 ?_;rw[vN,Nat.sub_zero,Nat.sub_zero]))|((refine vU (cs:=Z) (by rw[qL,if_neg hn2];simp[AS.setTy,AS.setBox]) tfU kW.2.1 (by first|exact Nat.le_refl _|omega) (by omega) ?_;simp only[sG]))|refine aQ ?_|(refine aB ?_;intro bx hbx;(try simp only[fb]at hbx))|refine aD ?_|((with_reducible refine And.intro ?_ ?_);omega)|refine aA (d':=⟨⟩) ?_|refine aR (by kernel_rfl) ?_|refine aP ?_ (by repeat' first|exact lr _|assumption|refine ls ?_ ?_|refine lt ?_ ?_|simp only[*];done|simp only[fb, *,not_false_eq_true,and_self];done|exact lf ‹_› (by simp only[*]))|refine aC ?_ (by repeat' first|exact lr _|assumption|refine ls ?_ ?_|refine lt ?_ ?_|simp only[*];done|simp only[fb, *,not_false_eq_true,and_self];done|exact lf ‹_› (by simp only[*]))|simp -dsimp only[↓bp,bq,br,seval,A2h,hid, *]|refine wz ?_|fail)
 exact aE _ (AS.le.refl _) ⟨rfl,fin2⟩
theorem A0q{σ0 σ:AS}{b:Nat}{xs:List UInt8}(h:dZ σ0 σ b xs)(h0:0 < xs.length):aJ Tryd.prog G 23 [.ptr b 0] σ fun r σ'=>r= .sl .none (aI xs) [] /\ σ0.le σ':=by
 cases h with
 |nil hx _ _ _=>rw[hx]at h0;cases h0
 | row g cap rest h=>
  have hb:=h.box
  have hlen:=h.len
  have key:aJ Tryd.prog G 23 [.ptr b 0] σ fun r s=>∃ g cap rest,r=tE g xs.length cap /\ s.box g=some (aI xs++rest) /\ cap <=maxLen /\ xs.length <=cap /\ (σ0.le s /\ σ0.box g=none):=by
   have fin:∃ g' cap' rest',tE g xs.length cap=tE g' xs.length cap' /\ σ.box g'=some (aI xs++rest') /\ cap' <=maxLen /\ xs.length <=cap' /\ (σ0.le σ /\ σ0.box g'=none):=⟨g,cap,rest,rfl,h.row,h.cm,by omega,h.le,h.outg⟩
   clear h
   refine aJ.of_awp mixed Tryd.func23 rfl (by kernel_rfl) (by kernel_rfl) (by simp[Tryd.ntmps23]) Tryd.results23 ?_
   repeat'(first|refine xs ?_ ?_ <;>intros|(refine wn ?_;intro bx hbx;try simp only[fb]at hbx)|((refine pE (ag:=false) (l:=0) (h:=xs.length) (s:=1) A2i (by simp[cM]) rfl (by omega) (by omega) ?_;rw[vN,Nat.sub_zero,Nat.sub_zero]))|refine aQ ?_|(refine aB ?_;intro bx hbx;(try simp only[fb]at hbx))|refine aD ?_|((with_reducible refine And.intro ?_ ?_);omega)|refine aA (d':=⟨⟩) ?_|refine aR (by kernel_rfl) ?_|refine aP ?_ (by repeat' first|exact lr _|assumption|refine ls ?_ ?_|refine lt ?_ ?_|simp only[*];done|simp only[fb, *,not_false_eq_true,and_self];done|exact lf ‹_› (by simp only[*]))|refine aC ?_ (by repeat' first|exact lr _|assumption|refine ls ?_ ?_|refine lt ?_ ?_|simp only[*];done|simp only[fb, *,not_false_eq_true,and_self];done|exact lf ‹_› (by simp only[*]))|simp -dsimp only[↓bp,bq,br,seval,A2h, *]|refine wz ?_|fail)
   exact aE _ (AS.le.refl _) fin
  refine(aJ.unraw G (Q:=fun s g=>σ0.le s /\ σ0.box g=none) key).mono ?_
  rintro r s ⟨rfl,s0,g',⟨hl,hg'⟩,rfl⟩
  refine⟨rfl,fun i cs hi=> ?_,hl.tip,hl.ty⟩
  have hne:i ≠ g':=fun e=>by subst e;rw[hg']at hi;cases hi
  show(if i=g' then none else s0.box i)=some cs
  rw[if_neg hne];exact hl.box _ _ hi
end
section
theorem A3a{each:Int}(he:0 <=each):∀ (l:List aF) (a:Int × Bool),(aU l each a).2=true -> (l.length:Int)+a.1 <=(aU l each a).1 /\ (l ≠ [] -> (aU l each a).1 <=4096)
 |[],a,h=> ⟨by simp[aU],fun h=>absurd rfl h⟩
 | k::ks,a,h=>by
  have hd:a.2=true:=(hH _ _ h).1
  have e:aU (k::ks) each a=aU ks each (a.1+size k+each,decide (0 < size k) && decide (a.1+size k+each <=4096)):=by rw[aU,if_pos hd]
  rw[e]at h ⊢
  obtain⟨h1,h2⟩:=A3a he ks _ h
  have h3:=(hH _ _ h).1
  simp only[Bool.and_eq_true,decide_eq_true_eq]at h3
  refine⟨by simp only[List.length_cons];simp only at h1;omega,fun _=> ?_⟩
  cases ks with
  |nil=>simp only[aU];exact h3.2
  |cons x xs=>exact h2 (by simp)
theorem         A5m {t :   aF} (h : right t = true) : t.items.length <=4096:=by
 have hr:=mS h
 simp only[right,decide_eq_true_eq]at h
 rw[gO]at h
 by_cases h1:t.knd=1
 ·have:=(A2k (hr.int h1)).2.2.2.1
  rw[this];simp
 ·rw [if_neg h1] at h
  split at h
  ·rename_i hf
   obtain⟨f1,_⟩:=hH _ _ hf
   have hh : 0 <= (head t).2.1 /\ 0 <= (head t).1 := by unfold head;repeat' split
                                                        all_goals simp
   obtain⟨g1,g2⟩:=A3a hh.1 t.items _ f1
   simp only at g1
   by_cases hn:t.items=[]
   ·rw[hn];simp
   ·have:=g2 hn;omega
  ·omega
theorem pY{t:aF}(h:right t=true)(h1: ¬ t.knd=1):(head t).2.2=true:=by
 simp only[right,decide_eq_true_eq]at h
 rw[gO,if_neg h1]at h
 split at h
 ·rename_i hf
  exact(hH _ _ (hH _ _ hf).1).1
 ·omega
theorem A9g{t:aF}(h:right t=true)(h2:t.knd=2):t.text.length <=40:=by
 have:=pY h (by omega)
 unfold head at this
 rw[if_pos h2]at this
 simp only[Bool.and_eq_true,decide_eq_true_eq]at this
 omega
theorem pZ{t:aF}(h:right t=true)(h2:t.knd=3 \/ t.knd=5):0 <=t.num /\ t.num <=1099511627776:=by
 have:=pY h (by omega)
 unfold head at this
 rw[if_neg (by omega),if_pos h2]at this
 simp only[Bool.and_eq_true,decide_eq_true_eq]at this
 omega
theorem wP{t:aF}(h:right t=true)(h2:t.knd=4):0 <=t.num /\ t.num <=16384:=by
 have:=pY h (by omega)
 unfold head at this
 rw[if_neg (by omega),if_neg (by omega),if_pos h2]at this
 simp only[Bool.and_eq_true,decide_eq_true_eq]at this
 omega
theorem sT{l:List aF}{x:aF}(h:x ∈ l):(dS x).length <=(bE l).length:=by
 induction l with
 |nil=>cases h
 | cons y l ih=>
  simp only[bE,List.length_append]
  rcases List.mem_cons.1 h with rfl|h
  ·omega
  ·have:=ih h;omega
theorem B4l(t:aF):right t=true ->∀ (f:Nat) (r:List UInt8),(dS t).length <=f ->gD f (dS t++r)=some (t,r):=by
 refine aF.ind (P:=fun t=>right t=true ->∀ (f:Nat) (r:List UInt8),(dS t).length <=f ->gD f (dS t++r)=some (t,r)) (fun t ih1 ih2 hr f r hf=> ?_) t
 have hs:=mS hr
 have hit:=A5m hr
 obtain⟨k,g,l,s,n,ks,ts⟩:=t
 simp only[aF.items,aF.tail]at ih1 ih2 hit
 rw[iH]at hf ⊢
 have hl1:(bU 1 k.toNat).length=1:=bC _ _
 rw[List.length_append,hl1]at hf
 obtain⟨f,rfl⟩:∃ f',f=f'+1:=⟨f - 1,by omega⟩
 simp only[gD]
 rw[List.append_assoc,eH 1 _ _ (by have:=k.toNat_lt;simpa using this),Option.bind_some]
 have hkid:aF.kind (.mk k g l s n ks ts)=k:=rfl
 have hknd:aF.knd (.mk k g l s n ks ts)=(k.toNat:Int):=rfl
 have kk:∀ m:Nat,m < 256 -> (k=UInt8.ofNat m ↔ k.toNat=m):=fun m hm=> ⟨fun e=>by rw[e,UInt8.toNat_ofNat'];exact Nat.mod_eq_of_lt hm,fun e=>by apply UInt8.toNat_inj.1;rw[UInt8.toNat_ofNat',e];exact(Nat.mod_eq_of_lt hm).symm⟩
 have hitems:∀ x,x ∈ ks -> (dS x).length <=f ->∀ r,gD f (dS x++r)=some (x,r):=fun x hx hl r=>ih1 x hx (hs.items x hx) f r hl
 have htails:∀ x,x ∈ ts -> (dS x).length <=f ->∀ r,gD f (dS x++r)=some (x,r):=fun x hx hl r=>ih2 x hx (hs.tail x hx) f r hl
 have hrow:(bE ks).length <=f ->∀ r,fK (gD f) (bU 2 ks.length++(bE ks++r))=some (ks,r):=fun hl r=>by
  rw[fH]at hl ⊢
  refine lR ks r (by omega) (fun x hx r=>hitems x hx ?_ r)
  have:=sT hx;rw[fH]at this;omega
 have hkd:=hs.kind
 rw[hknd]at hkd
 simp only
 unfold jA
 by_cases k1:k=1
 ·subst k1
  have hw:=A2k (hs.int rfl)
  simp only[aF.text,aF.num,aF.items,aF.tail,aF.limbs]at hw
  obtain⟨_,rfl,rfl,rfl,rfl,hl,_⟩:=hw
  rw[if_pos rfl,if_pos (by decide)]
  rw[List.append_assoc,wZ,Option.bind_some]
  simp only
  rw[List.append_assoc,eH 1 _ _ (by omega),Option.bind_some]
  simp only
  have:=rD (one:=eV 4) (put:=bU 4) (l.map UInt32.toNat) r (fun x hx r=>eH 4 x r (by
   obtain⟨y,_,rfl⟩:=List.mem_map.1 hx
   exact y.toNat_lt))
  rw[List.length_map,List.flatMap_map]at this
  rw[this,Option.map_some,List.map_map,show(UInt32.ofNat ∘ UInt32.toNat)=id from funext fun x=>UInt32.ofNat_toNat,List.map_id]
 rw[if_neg k1]
 have k1': ¬ k.toNat=1:=fun e=>k1 ((kk 1 (by omega)).2 e)
 rw[if_neg k1']
 have hrest:=hs.rest (by rw[hknd];omega)
 simp only[aF.neg,aF.limbs,aF.text,aF.num,aF.items,aF.tail]at hrest
 rw[hknd]at hrest
 obtain⟨rfl,rfl,ht,htl,hnum,hit0⟩:=hrest
 by_cases k2:k=2
 ·subst k2
  rw[if_pos rfl,if_pos (by decide)]
  have e1:=htl (by decide)
  have e2:=hnum (by decide)
  have e3:=hit0 (by decide)
  subst e1;subst e2;subst e3
  have hsl:s.length <=40:=A9g hr rfl
  rw[sI s r (by omega),Option.map_some]
 rw[if_neg k2]
 have k2': ¬ k.toNat=2:=fun e=>k2 ((kk 2 (by omega)).2 e)
 rw[if_neg k2']
 have hs0:=ht (by omega)
 subst hs0
 by_cases k3:k=3 \/ k=5
 ·have k3':k.toNat=3 \/ k.toNat=5:=by rcases k3 with rfl|rfl <;>decide
  rw[if_pos k3,if_pos k3']
  have e1:=htl (by omega)
  have e3:=hit0 (by omega)
  subst e1;subst e3
  have hn:0 <=n /\ n <=1099511627776:=pZ hr (by rw[hknd];omega)
  rw[eH 6 _ _ (by omega),Option.map_some]
  rcases k3 with rfl|rfl <;>simp[Int.toNat_of_nonneg hn.1]
 rw[if_neg k3]
 have k3': ¬ (k.toNat=3 \/ k.toNat=5):=fun e=>k3 (e.elim (fun e=> .inl ((kk 3 (by omega)).2 e)) (fun e=> .inr ((kk 5 (by omega)).2 e)))
 rw[if_neg k3']
 by_cases k4:k=4
 ·subst k4
  rw[if_pos rfl,if_pos (by decide)]
  have e1:=htl (by decide)
  subst e1
  have hn:0 <=n /\ n <=16384:=wP hr rfl
  rw[if_neg (by decide),if_neg (by decide),if_neg (by decide),if_pos (by decide)]at hf
  simp only[List.length_append,bC]at hf
  rw[List.append_assoc,eH 2 _ _ (by omega),Option.bind_some]
  simp only
  rw[List.append_assoc,hrow (by omega) r,Option.map_some]
  simp[Int.toNat_of_nonneg hn.1]
 rw[if_neg k4]
 have k4': ¬ k.toNat=4:=fun e=>k4 ((kk 4 (by omega)).2 e)
 rw[if_neg k4']
 by_cases k6:k=6
 ·subst k6
  rw[if_pos rfl,if_pos (by decide)]
  have e1:=htl (by decide)
  have e2:=hnum (by decide)
  subst e1;subst e2
  rw[if_neg (by decide),if_neg (by decide),if_neg (by decide),if_neg (by decide),if_pos (by decide)]at hf
  simp only[List.length_append,bC]at hf
  rw[List.append_assoc,hrow (by omega) r,Option.map_some]
 rw[if_neg k6]
 have k6': ¬ k.toNat=6:=fun e=>k6 ((kk 6 (by omega)).2 e)
 rw[if_neg k6']
 have k7':k.toNat=7:=by omega
 have k7:k=7:=(kk 7 (by omega)).2 k7'
 subst k7
 rw[if_pos rfl,if_pos (by decide)]
 have e2:=hnum (by decide)
 subst e2
 rw[if_neg (by decide),if_neg (by decide),if_neg (by decide),if_neg (by decide),if_neg (by decide),if_pos (by decide)]at hf
 simp only[List.length_append,bC]at hf
 have htl1:=(hs.list rfl).1
 simp only[aF.tail]at htl1
 rw[List.append_assoc,List.append_assoc,hrow (by omega),Option.bind_some]
 simp only
 rw[List.append_assoc,wZ,Option.bind_some]
 simp only
 have hlen:ts.length=if(!ts.isEmpty)=true then 1 else 0:=by
  cases ts with
  |nil=>rfl
  |cons x ts=>simp at htl1 ⊢;exact htl1
 have:=rD (one:=gD f) (put:=dS) ts r (fun x hx r=>htails x hx (by have:=sT hx;omega) r)
 rw[<- fH]at this
 rw[<- hlen,this,Option.map_some]
structure Rg(i:aO):Prop where
 a:0 <=i.a /\ i.a < 65536
 b:0 <=i.b /\ i.b < 65536
 c:0 <=i.c /\ i.c < 65536
 n:0 <=i.n /\ i.n < 65536
 l:0 <=i.l /\ i.l < 65536
 text:i.text.length < 256
 slots:i.slots.length < 65536 /\ ∀ n,n ∈ i.slots ->0 <=n /\ n < 65536
def fB(i acc:aO)(f:UInt8):aO:=
 if f=65 then {acc with a:=i.a} else if f=66 then {acc with b:=i.b} else if f=67 then {acc with c:=i.c} else if f=78 then {acc with n:=i.n}
 else if f=76 then {acc with l:=i.l} else if f=84 then {acc with text:=i.text} else if f=83 then {acc with slots:=i.slots} else acc
theorem A7y{i:aO}(h:Rg i)(acc:aO)(f:UInt8)(r:List UInt8):eE acc f (aX i f++r)=some (fB i acc f,r):=by
 have num:∀ (n:Int),0 <=n /\ n < 65536 ->∀ r,eV 2 (bU 2 n.toNat++r)=some (n.toNat,r):=fun n hn r=>eH 2 _ _ (by omega)
 by_cases f1:f=65
 ·subst f1
  have e:aX i 65=bU 2 i.a.toNat:=rfl
  unfold eE
  rw[if_pos (by simp),e,num _ h.a];simp[nO,fB,Int.toNat_of_nonneg h.a.1]
 by_cases f2:f=66
 ·subst f2
  have e:aX i 66=bU 2 i.b.toNat:=rfl
  unfold eE
  rw[if_pos (by simp),e,num _ h.b];simp[nO,fB,Int.toNat_of_nonneg h.b.1]
 by_cases f3:f=67
 ·subst f3
  have e:aX i 67=bU 2 i.c.toNat:=rfl
  unfold eE
  rw[if_pos (by simp),e,num _ h.c];simp[nO,fB,Int.toNat_of_nonneg h.c.1]
 by_cases f4:f=78
 ·subst f4
  have e:aX i 78=bU 2 i.n.toNat:=rfl
  unfold eE
  rw[if_pos (by simp),e,num _ h.n];simp[nO,fB,Int.toNat_of_nonneg h.n.1]
 by_cases f5:f=76
 ·subst f5
  have e:aX i 76=bU 2 i.l.toNat:=rfl
  unfold eE
  rw[if_pos (by simp),e,num _ h.l];simp[nO,fB,Int.toNat_of_nonneg h.l.1]
 by_cases f6:f=84
 ·subst f6
  show(oK (gK i.text++r)).map _=_
  rw[sI _ _ h.text];simp[fB]
 by_cases f7:f=83
 ·subst f7
  show(fK (eV 2) ((bU 2 i.slots.length++tO i.slots)++r)).map _=_
  have hb:tO i.slots=(i.slots.map Int.toNat).flatMap (bU 2):=by unfold tO;rw[List.flatMap_map]
  have hm:(i.slots.map Int.toNat).map Int.ofNat=i.slots:=by
   rw[List.map_map]
   have:∀ l:List Int,(∀ n,n ∈ l ->0 <=n) ->l.map (Int.ofNat ∘ Int.toNat)=l:=fun l=>by
    induction l with
    |nil=>intro _;rfl
    |cons x l ih=>intro hl;rw[List.map_cons,ih (fun n hn=>hl n (by simp[hn]))];simp[Int.toNat_of_nonneg (hl x (by simp))]
   exact this _ fun n hn=> (h.slots.2 n hn).1
  have:=lR (one:=eV 2) (put:=bU 2) (i.slots.map Int.toNat) r (by rw[List.length_map];exact h.slots.1) (fun x hx r=>by
   obtain⟨y,hy,rfl⟩:=List.mem_map.1 hx
   have:=h.slots.2 y hy
   exact eH 2 _ _ (by omega))
  rw[List.length_map,<- hb]at this
  rw[List.append_assoc,this,Option.map_some]
  simp only[hm];simp[fB]
 unfold eE aX fB
 simp[f1,f2,f3,f4,f5,f6,f7]
theorem tG{i:aO}(h:Rg i):∀ (fs:List UInt8) (acc:aO) (r:List UInt8),iG fs acc (fs.flatMap (aX i)++r)=some (fs.foldl (fB i) acc,r)
 |[],acc,r=>rfl
 | f::fs,acc,r=>by
  simp only[iG,List.flatMap_cons,List.append_assoc,List.foldl_cons]
  rw[A7y h,Option.bind_some]
  exact tG h fs _ r
theorem B8e(i:aO):∀ (fs:List UInt8) (acc:aO),(fs.foldl (fB i) acc).a=if 65 ∈ fs then i.a else acc.a
 |[],acc=>rfl
 | f ::fs,acc=>by
  rw[List.foldl_cons,B8e i fs]
  by_cases hf:f=65
  ·subst hf
   have:(fB i acc 65).a=i.a:=rfl
   rw[this];simp
  ·have:(fB i acc f).a=acc.a:=by
    unfold fB
    repeat' split
    all_goals first|rfl|(rename_i h;exact absurd h hf)
   rw[this];simp[Ne.symm hf]
theorem B8g(i:aO):∀ (fs:List UInt8) (acc:aO),(fs.foldl (fB i) acc).b=if 66 ∈ fs then i.b else acc.b
 |[],acc=>rfl
 | f ::fs,acc=>by
  rw[List.foldl_cons,B8g i fs]
  by_cases hf:f=66
  ·subst hf
   have:(fB i acc 66).b=i.b:=rfl
   rw[this];simp
  ·have:(fB i acc f).b=acc.b:=by
    unfold fB
    repeat' split
    all_goals first|rfl|(rename_i h;exact absurd h hf)
   rw[this];simp[Ne.symm hf]
theorem B8h(i:aO):∀ (fs:List UInt8) (acc:aO),(fs.foldl (fB i) acc).c=if 67 ∈ fs then i.c else acc.c
 |[],acc=>rfl
 | f ::fs,acc=>by
  rw[List.foldl_cons,B8h i fs]
  by_cases hf:f=67
  ·subst hf
   have:(fB i acc 67).c=i.c:=rfl
   rw[this];simp
  ·have:(fB i acc f).c=acc.c:=by
    unfold fB
    repeat' split
    all_goals first|rfl|(rename_i h;exact absurd h hf)
   rw[this];simp[Ne.symm hf]
theorem B8j(i:aO):∀ (fs:List UInt8) (acc:aO),(fs.foldl (fB i) acc).n=if 78 ∈ fs then i.n else acc.n
 |[],acc=>rfl
 | f ::fs,acc=>by
  rw[List.foldl_cons,B8j i fs]
  by_cases hf:f=78
  ·subst hf
   have:(fB i acc 78).n=i.n:=rfl
   rw[this];simp
  ·have:(fB i acc f).n=acc.n:=by
    unfold fB
    repeat' split
    all_goals first|rfl|(rename_i h;exact absurd h hf)
   rw[this];simp[Ne.symm hf]
theorem B8i(i:aO):∀ (fs:List UInt8) (acc:aO),(fs.foldl (fB i) acc).l=if 76 ∈ fs then i.l else acc.l
 |[],acc=>rfl
 | f ::fs,acc=>by
  rw[List.foldl_cons,B8i i fs]
  by_cases hf:f=76
  ·subst hf
   have:(fB i acc 76).l=i.l:=rfl
   rw[this];simp
  ·have:(fB i acc f).l=acc.l:=by
    unfold fB
    repeat' split
    all_goals first|rfl|(rename_i h;exact absurd h hf)
   rw[this];simp[Ne.symm hf]
theorem yV(i:aO):∀ (fs:List UInt8) (acc:aO),(fs.foldl (fB i) acc).text=if 84 ∈ fs then i.text else acc.text
 |[],acc=>rfl
 | f ::fs,acc=>by
  rw[List.foldl_cons,yV i fs]
  by_cases hf:f=84
  ·subst hf
   have:(fB i acc 84).text=i.text:=rfl
   rw[this];simp
  ·have:(fB i acc f).text=acc.text:=by
    unfold fB
    repeat' split
    all_goals first|rfl|(rename_i h;exact absurd h hf)
   rw[this];simp[Ne.symm hf]
theorem wA(i:aO):∀ (fs:List UInt8) (acc:aO),(fs.foldl (fB i) acc).slots=if 83 ∈ fs then i.slots else acc.slots
 |[],acc=>rfl
 | f ::fs,acc=>by
  rw[List.foldl_cons,wA i fs]
  by_cases hf:f=83
  ·subst hf
   have:(fB i acc 83).slots=i.slots:=rfl
   rw[this];simp
  ·have:(fB i acc f).slots=acc.slots:=by
    unfold fB
    repeat' split
    all_goals first|rfl|(rename_i h;exact absurd h hf)
   rw[this];simp[Ne.symm hf]
theorem B0b(i:aO):∀ (fs:List UInt8) (acc:aO),(fs.foldl (fB i) acc).op=acc.op
 |[],acc=>rfl
 | f::fs,acc=>by
  rw[List.foldl_cons,B0b i fs]
  unfold fB;repeat' split
  all_goals rfl
theorem B8f{i:aO}(h:rB i=true):(rF i.op).foldl (fB i) (sD i.op)=i:=by
 simp only[rB,rH,Bool.and_eq_true,Bool.or_eq_true,decide_eq_true_eq,List.contains_iff_mem]at h
 obtain⟨⟨⟨⟨⟨⟨h1,h2⟩,h3⟩,h4⟩,h5⟩,h6⟩,h7⟩:=h
 have key:∀ x y:aO,x.op=y.op ->x.a=y.a ->x.b=y.b ->x.c=y.c ->x.n=y.n ->x.l=y.l ->x.text=y.text ->x.slots=y.slots ->x=y:=fun x y e1 e2 e3 e4 e5 e6 e7 e8=>by
  cases x;cases y;simp only at e1 e2 e3 e4 e5 e6 e7 e8;subst e1;subst e2;subst e3;subst e4;subst e5;subst e6;subst e7;subst e8;rfl
 refine key _ _ (B0b i _ _) ?_ ?_ ?_ ?_ ?_ ?_ ?_
 ·rw[B8e];split
  ·rfl
  ·rename_i hn;exact(h1.resolve_left hn).symm
 ·rw[B8g];split
  ·rfl
  ·rename_i hn;exact(h2.resolve_left hn).symm
 ·rw[B8h];split
  ·rfl
  ·rename_i hn;exact(h3.resolve_left hn).symm
 ·rw[B8j];split
  ·rfl
  ·rename_i hn;exact(h4.resolve_left hn).symm
 ·rw[B8i];split
  ·rfl
  ·rename_i hn;exact(h5.resolve_left hn).symm
 ·rw[yV];split
  ·rfl
  ·rename_i hn;exact(h6.resolve_left hn).symm
 ·rw[wA];split
  ·rfl
  ·rename_i hn;exact(List.length_eq_zero_iff.1 (h7.resolve_left hn)).symm
theorem B9r{i:aO}(h:Rg i)(hb:rB i=true)(hw:rW i.op ≠ [])(r:List UInt8):uE (lN i++r)=some (i,r):=by
 unfold uE lN
 rw[List.append_assoc,eH 1 _ _ (by have:=i.op.toNat_lt;simpa using this),Option.bind_some]
 simp only
 have e:UInt8.ofNat i.op.toNat=i.op:=by rw[UInt8.ofNat_toNat]
 rw[e,if_neg hw,tG h,B8f hb]
theorem C9m{c:cU}{e:dA}{b z:Int}{i:aO}(h:cS c e b z i=true)(he:e.slots <=1000)(hb:0 <=b)(hz:z <=16384)(h1:c.entries.length <=16384)(h3:c.consts.length <=16384):Rg i /\ rB i=true /\ rW i.op ≠ []:=by
 have h0:=h
 rw[C1r]at h
 simp only[A8z,Bool.and_eq_true,Bool.not_eq_true',decide_eq_false_iff_not,decide_eq_true_eq]at h
 obtain⟨⟨⟨⟨⟨⟨hw,hbare⟩,hsl⟩,hnm⟩,hl⟩,ha⟩,hr⟩:=h
 refine⟨?_,hbare,hw⟩
 have hr0:=fun n hn=>C1o h0 n hn
 rw[C1n]at hr0
 have hbb:=hbare
 simp only[rB,Bool.and_eq_true,Bool.or_eq_true,decide_eq_true_eq]at hbb
 obtain⟨⟨⟨⟨⟨⟨b1,b2⟩,b3⟩,b4⟩,b5⟩,b6⟩,b7⟩:=hbb
 have rng:∀ n:Int,cZ e n=true ->0 <=n /\ n < 65536:=fun n hn=>by
  simp only[cZ,Bool.and_eq_true,decide_eq_true_eq]at hn;omega
 refine⟨?_,?_,?_,?_,?_,?_,?_⟩
 ·rcases b1 with b1|b1
  ·rw[b1]at ha
   simp only[Bool.and_true,Bool.or_eq_false_iff,decide_eq_false_iff_not]at ha
   omega
  ·omega
 ·rcases b2 with b2|b2
  ·exact rng _ (hr0 _ (by unfold pX;rw[if_pos b2];simp))
  ·omega
 ·rcases b3 with b3|b3
  ·exact rng _ (hr0 _ (by unfold pX;rw[if_pos b3];simp))
  ·omega
 ·rcases b4 with b4|b4
  ·have hops:=jX (p:=mQ) sM i.op
   unfold mQ at hops
   simp only[Bool.and_eq_true,decide_eq_true_eq]at hops
   rw[hops.1]at b4
   simp only[Bool.or_eq_true,decide_eq_true_eq]at b4
   unfold wN at hnm
   by_cases k1:i.op=1 \/ i.op=15
   ·rw[if_pos k1]at hnm
    simp only[Bool.and_eq_true,decide_eq_true_eq]at hnm;omega
   rw[if_neg k1]at hnm
   by_cases k2:i.op=5 \/ i.op=6 \/ i.op=7
   ·rw [if_pos k2]at hnm
    unfold tN at hnm
    split at hnm
    ·rename_i h0
     split at hnm
     ·cases hnm
     ·rename_i x hx
      have:=(List.getElem?_eq_some_iff.1 hx).1
      omega
    ·cases hnm
   rw[if_neg k2]at hnm
   by_cases k3:i.op=10 \/ i.op=20
   ·exfalso
    rcases k3 with k3|k3 <;>rw[k3]at b4 <;>revert b4 <;>decide
   rw[if_neg k3]at hnm
   have k4:i.op=13 \/ i.op=17 \/ i.op=21:=by
    simp only[not_or]at k1 k2
    rcases b4 with((((((b|b)|b)|b)|b)|b)|b)|b
    ·exact absurd b k1.1
    ·exact absurd b k1.2
    ·exact absurd b k2.1
    ·exact absurd b k2.2.1
    ·exact absurd b k2.2.2
    ·exact .inl b
    ·exact .inr (.inl b)
    ·exact .inr (.inr b)
   rw[if_pos k4]at hnm
   unfold jB at hnm
   split at hnm
   ·simp only[Bool.and_eq_true,decide_eq_true_eq]at hnm;omega
   ·split at hnm
    ·simp only[Bool.and_eq_true,decide_eq_true_eq]at hnm;omega
    ·simp only[Bool.or_eq_true,decide_eq_true_eq]at hnm;omega
  ·omega
 ·rcases b5 with b5|b5
  ·have:=C6s h0 (by rw[zA];exact b5)
   omega
  ·omega
 ·rcases b6 with b6|b6
  ·have hops:=jX (p:=mQ) sM i.op
   unfold mQ at hops
   simp only[Bool.and_eq_true,decide_eq_true_eq]at hops
   rw[hops.2]at b6
   simp only[Bool.or_eq_true,decide_eq_true_eq]at b6
   unfold wN at hnm
   rw[if_neg (by rcases b6 with h|h <;>rw[h] <;>decide),if_neg (by rcases b6 with h|h <;>rw[h] <;>decide),if_pos b6]at hnm
   have:=A5x hnm
   unfold tA at this
   rw[Bool.and_eq_true,decide_eq_true_eq]at this
   omega
  ·rw[b6];decide
 ·refine⟨by omega,fun n hn=> ?_⟩
  rcases b7 with b7|b7
  ·exact rng _ (hr0 _ (by unfold pX;rw[if_pos b7];simp[hn]))
  ·rw[List.length_eq_zero_iff.1 b7]at hn;cases hn
theorem B7k{e:dA}(h1:e.name.length < 256)(h2:0 <=e.arity /\ e.arity < 256)(h3:0 <=e.extra /\ e.extra < 256)(h4:0 <=e.slots /\ e.slots < 65536)(h5:0 <=e.pos /\ e.pos < 65536)(r:List UInt8):A0y (kG e++r)=some (e,r):=by
 unfold A0y kG
 simp only[List.append_assoc]
 rw[sI _ _ h1,Option.bind_some]
 simp only
 rw[eH 1 _ _ (by omega),Option.bind_some]
 simp only
 rw[eH 1 _ _ (by omega),Option.bind_some]
 simp only
 rw[eH 2 _ _ (by omega),Option.bind_some]
 simp only
 rw[eH 2 _ _ (by omega),Option.map_some]
 simp[Int.toNat_of_nonneg h2.1,Int.toNat_of_nonneg h3.1,Int.toNat_of_nonneg h4.1,Int.toNat_of_nonneg h5.1]
theorem vX(c:cU):∀ (l:List dA) (b:Int),0 <=b ->bA c b l=true -> (∀ e,e ∈ l ->∃ z:Int,b <=e.pos /\ z <=c.instrs.length /\ cB c e.pos z e=true) /\ (l ≠ [] ->∀ (k:Nat) (i:aO),b <=k ->c.instrs[k]? =some i ->∃ (e:dA) (z:Int),e ∈ l /\ 0 <=e.pos /\ z <=c.instrs.length /\ cB c e.pos z e=true /\ cS c e e.pos z i=true)
 |[],b,_,_=> ⟨fun e he=>by(cases he),fun h=>absurd rfl h⟩
 | x ::l,b,hb,h=>by
  simp only[bA,Bool.and_eq_true]at h
  obtain⟨h1,h2,h3⟩:=h
  have h1':=h1
  simp only[cB,Bool.and_eq_true,decide_eq_true_eq]at h1'
  have hxb:x.pos=b:=by omega
  subst hxb
  obtain⟨g1,g2⟩:=vX c l (oH c l) (by omega) h3
  refine⟨fun e he=> ?_,fun _ k i hk hi=> ?_⟩
  ·rcases List.mem_cons.1 he with rfl|he
   ·exact⟨oH c l,by omega,by omega,h1⟩
   ·obtain⟨z,q1,q2,q3⟩:=g1 e he
    exact⟨z,by omega,q2,q3⟩
  ·have hlt:=(List.getElem?_eq_some_iff.1 hi).1
   by_cases hz:(k:Int) < oH c l
   ·refine⟨x,oH c l,by simp,hb,by omega,h1,List.all_eq_true.1 h2 i ?_⟩
    unfold sZ
    refine List.mem_of_getElem? (i:=k - x.pos.toNat) ?_
    rw[List.getElem?_drop,List.getElem?_take_of_lt (by omega),show x.pos.toNat+(k - x.pos.toNat)=k by omega]
    exact hi
   ·have hne:l ≠ []:=fun e=>by subst e;simp only[oH]at hz;omega
    obtain⟨e,z,q1,q2,q3,q4,q5⟩:=g2 hne k i (by omega) hi
    exact⟨e,z,List.mem_cons_of_mem _ q1,q2,q3,q4,q5⟩
theorem vS{c:cU}(h:cQ c=true)(f:Nat)(r:List UInt8)(hf:(iI c).length <=f):A0v f (iI c++r)=some (c,r):=by
 simp only[cQ,Bool.and_eq_true,decide_eq_true_eq,Bool.not_eq_true',Bool.and_eq_false_iff,Bool.not_eq_false',decide_eq_false_iff_not]at h
 obtain⟨⟨⟨⟨h1,h2⟩,h3⟩,h4⟩,h5,h6⟩:=h
 obtain⟨g1,g2⟩:=vX c c.entries 0 (by omega) h6
 unfold iI at hf ⊢
 unfold A0v
 simp only[List.append_assoc]
 have hm:=zI iU (bU 2 c.entries.length++(c.entries.flatMap kG++(bU 2 c.instrs.length++(c.instrs.flatMap lN++(bU 2 c.consts.length++(bE c.consts++r))))))
 rw[show iU.length=4 from rfl]at hm
 rw[hm,Option.bind_some]
 simp only[if_true]
 rw[lR c.entries _ (by omega) (fun e he r=>by
  obtain⟨z,q1,q2,q3⟩:=g1 e he
  simp only[cB,Bool.and_eq_true,decide_eq_true_eq]at q3
  exact B7k (by omega) (by omega) (by omega) (by omega) (by omega) r),Option.bind_some]
 simp only
 rw [lR c.instrs _ (by omega) (fun i hi r=>by
  obtain⟨k,hk⟩:=List.getElem?_of_mem hi
  have hne:c.entries ≠ []:=fun e=>by
   rcases h4 with h4|h4
   ·exact h4 e
   ·rw[h4]at hi;cases hi
  obtain⟨e,z,q1,q2,q3,q4,q5⟩:=g2 hne k i (by omega) hk
  simp only[cB,Bool.and_eq_true,decide_eq_true_eq]at q4
  obtain⟨p1,p2,p3⟩:=C9m q5 (by omega) q2 (by omega) h1 h3
  exact B9r p1 p2 p3 r),Option.bind_some]
 simp only
 rw[fH,lR c.consts r (by omega) (fun t ht r=>B4l t (List.all_eq_true.1 h5 t ht) f r (by
  have:=sT ht
  simp only[List.length_append]at hf
  omega)),Option.map_some]
theorem C7s{c:cU}(h:cQ c=true):nN (iI c)=some c:=by
 have:=vS h ((iI c).length+1) [] (by omega)
 rw[List.append_nil]at this
 unfold nN
 rw[this]
 simp only[h,if_true]
theorem C7r{c:cU}(h:cQ c=true)(k:Nat)(hk:k < (iI c).length):nN ((iI c).take k)=none:=by
 cases hg:nN ((iI c).take k)with
 |none=>rfl
 | some d=>
  exfalso
  obtain⟨q1,q2⟩:=B0d hg
  have e:=List.take_append_drop k (iI c)
  rw[<- q2]at e
  have hl:(iI d).length <=(iI c).length:=by rw[q2,List.length_take];omega
  have p1:=vS q1 (iI c).length ((iI c).drop k) hl
  have p2:=vS h (iI c).length [] (Nat.le_refl _)
  rw[e]at p1
  rw[List.append_nil,p1]at p2
  simp only[Option.some.injEq,Prod.mk.injEq]at p2
  have:=congrArg List.length p2.2
  rw[List.length_drop]at this
  simp at this;omega
end
set_option maxRecDepth 20000
section
def lV:=And.intro (And.intro (And.intro (And.intro @nK @nL) (And.intro @lY @kW)) (And.intro (And.intro @kI @kE) (And.intro @A5y @A6c))) (And.intro (And.intro (And.intro @A5z @C2r) (And.intro @C2s @dH)) (And.intro (And.intro @cK @dR) (And.intro @eF @iQ)))
variable {G:Nat ->AV}
theorem dZ.less{σ1 σ0 σ:AS}{b:Nat}{xs:List UInt8}(hl:σ1.le σ0)(h:dZ σ0 σ b xs):dZ σ1 σ b xs:=by
 have nb:∀ c,σ0.box c=none ->σ1.box c=none:=fun c hc=>by
  cases e:σ1.box c with
  |none=>rfl
  |some z=>rw[hl.box _ _ e]at hc;cases hc
 have nt:∀ c,σ0.ty c=none ->σ1.ty c=none:=fun c hc=>by
  cases e:σ1.ty c with
  |none=>rfl
  |some z=>rw[hl.ty _ _ e]at hc;cases hc
 cases h with
 |nil hx h1 h2 h3=>exact .nil hx (hl.trans h1) (nb _ h2) h3
 |row g cap rest h=>exact .row g cap rest ⟨hl.trans h.le,nb _ h.outb,nb _ h.outg,nt _ h.tyg,h.ne,h.box,h.row,h.len,h.ty,h.cm⟩
theorem wG{σ0 σ:AS}(h:σ0.le σ)(c:Nat)(z:List AV):(σ0.setBox c z).le (σ.setBox c z):=by
 refine⟨fun i cs hi=> ?_,h.tip,h.ty⟩
 simp only[AS.setBox]at hi ⊢
 split
 ·rename_i e;rw[if_pos e]at hi;exact hi
 ·rename_i e;rw[if_neg e]at hi;exact h.box _ _ hi
theorem rA{σ0 σ:AS}(h:σ0.le σ)(c:Nat)(z:rQ × Nat):(σ0.setTy c z).le (σ.setTy c z):=by
 refine⟨h.box,h.tip,fun i cs hi=> ?_⟩
 simp only[AS.setTy]at hi ⊢
 split
 ·rename_i e;rw[if_pos e]at hi;exact hi
 ·rename_i e;rw[if_neg e]at hi;exact h.ty _ _ hi
theorem dZ.setBox{σ0 σ:AS}{b c:Nat}{xs:List UInt8}(h:dZ σ0 σ b xs)(hc:(∃ z,σ0.box c=some z) \/ σ.box c=none)(z:List AV):dZ (σ0.setBox c z) (σ.setBox c z) b xs:=by
 have key:∀ d,σ0.box d=none -> (∃ z,σ.box d=some z) -> ¬ d=c:=fun d h1 ⟨z,h2⟩ e=>by
  subst e
  rcases hc with⟨z',h3⟩|h3
  ·rw[h1]at h3;cases h3
  ·rw[h2]at h3;cases h3
 cases h with
 | nil hx h1 h2 h3=>
  have hb:=key b h2 ⟨_,h3⟩
  exact .nil hx (wG h1 c z) (by simp[AS.setBox,hb,h2]) (by simp[AS.setBox,hb,h3])
 | row g cap rest h=>
  have hb:=key b h.outb ⟨_,h.box⟩
  have hg:=key g h.outg ⟨_,h.row⟩
  exact .row g cap rest ⟨wG h.le c z,by simp[AS.setBox,hb,h.outb],by simp[AS.setBox,hg,h.outg],h.tyg,h.ne,by simp[AS.setBox,hb,h.box],by simp[AS.setBox,hg,h.row],h.len,h.ty,h.cm⟩
theorem dZ.setTy{σ0 σ:AS}{b c:Nat}{xs:List UInt8}(h:dZ σ0 σ b xs)(hc:(∃ z,σ0.ty c=some z) \/ σ.ty c=none)(z:rQ × Nat):dZ (σ0.setTy c z) (σ.setTy c z) b xs:=by
 cases h with
 |nil hx h1 h2 h3=>exact .nil hx (rA h1 c z) h2 h3
 | row g cap rest h=>
  have hg: ¬ g=c:=fun e=>by
   subst e
   rcases hc with⟨z',h3⟩|h3
   ·rw[h.tyg]at h3;cases h3
   ·rw[h.ty]at h3;cases h3
  exact .row g cap rest ⟨rA h.le c z,h.outb,h.outg,by simp[AS.setTy,hg,h.tyg],h.ne,h.box,h.row,h.len,by simp[AS.setTy,hg,h.ty],h.cm⟩
theorem B4t{σ0 σ:AS}{b:Nat}{xs:List UInt8}(h:dZ σ0 σ b xs)(h0:0 < xs.length)(hl:xs.length <=1000000000)(c:UInt8):aJ Tryd.prog G 43 [.ptr b 0,fN c] σ fun r σ'=>r= .raw .nilIface /\ dZ σ0 σ' b (xs++[c]):=by
 cases h with
 |nil hx _ _ _=>rw[hx]at h0;cases h0
 | row g cap rest h=>
  by_cases hr:1 <=rest.length
  ·exact A9m h hr c
  ·exact A9l h (by omega) h0 hl c
theorem C3h{σ0 σ:AS}{b:Nat}{xs:List UInt8}(h:dZ σ0 σ b xs)(h0:0 < xs.length)(ys:List UInt8)(hl:xs.length+ys.length <=1000000000000):aJ Tryd.prog G 17 [.ptr b 0, .str ys] σ fun r σ'=>r= .tup [.int .i64 ys.length, .raw .nilIface] /\ dZ σ0 σ' b (xs++ys):=by
 cases h with
 |nil hx _ _ _=>rw[hx]at h0;cases h0
 | row g cap rest h=>
  by_cases hr:ys.length <=rest.length
  ·exact B4y h ys hr hl
  ·exact B4x h ys (by omega) h0 hl
theorem A9x:∀ (s n k:Nat),k < s -> (bU s n)[k]? =some (UInt8.ofNat (n / 256 ^ (s - 1 - k)))
 |s+1,n,0,_=>by simp[bU]
 | s+1,n,k+1,h=>by
  have:=A9x s n k (by omega)
  simp only[bU,List.getElem?_cons_succ]
  rw[this]
  congr 4;omega
theorem C3w(n i:Nat)(hi:i <=6):IntKind.u8.wrap ((n:Int).fdiv (2 ^ (min ((8*i:Nat):Int).toNat 64)))=((UInt8.ofNat (n / 256 ^ i)).toNat:Int):=by
 have h1:min ((8*i:Nat):Int).toNat 64=8*i:=by rw[Int.toNat_natCast];omega
 have h2:(2:Int) ^ (8*i)=((256 ^ i:Nat):Int):=by
  rw[show(256:Nat)=2 ^ 8 from rfl,<- Nat.pow_mul,Int.natCast_pow];rfl
 rw[h1,UInt8.toNat_ofNat',h2,<- Int.ofNat_fdiv]
 generalize n / 256 ^ i=m
 unfold IntKind.wrap;simp[IntKind.signed,IntKind.bits]
def jI(s:Nat)(l:List Int):List UInt8:=l.flatMap fun n=>bU s n.toNat
theorem sL(s:Nat)(l:List Int):(jI s l).length=s*l.length:=by
 induction l with
 |nil=>rfl
 |cons n l ih=>unfold jI at ih ⊢;rw[List.flatMap_cons,List.length_append,ih,bC,List.length_cons,Nat.mul_succ];omega
set_option maxHeartbeats 1000000 in
theorem mO{σ0 σ:AS}{b:Nat}{xs:List UInt8}(h:dZ σ0 σ b xs)(h0:0 < xs.length)(s:Nat)(hs:s <=6)(l:List Int)(hn:∀ n,n ∈ l ->0 <=n /\ n <=9223372036854775807)(hll:l.length <=100000000)(hl:xs.length+s*l.length <=1000000000):
  aJ Tryd.prog G 18 [.ptr b 0, .int .i64 s,aW kH l] σ fun r σ'=>r= .tup [] /\ dZ σ0 σ' b (xs++jI s l):=by
 refine aJ.of_awp mixed Tryd.func18 rfl (by kernel_rfl) (by kernel_rfl) (by simp[Tryd.ntmps18]) Tryd.results18 ?_
 repeat'(first|refine xs ?_ ?_ <;>intros|(refine wn ?_;intro bx hbx;try simp only[fb]at hbx)|refine aQ ?_|(refine aB ?_;intro bx hbx;(try simp only[fb]at hbx))|refine aD ?_|((with_reducible refine And.intro ?_ ?_);omega)|refine aA (d':=⟨⟩) ?_|refine aR (by kernel_rfl) ?_|refine aP ?_ (by repeat' first|exact lr _|assumption|refine ls ?_ ?_|refine lt ?_ ?_|simp only[*];done|simp only[fb, *,not_false_eq_true,and_self];done|exact lf ‹_› (by simp only[*]))|refine aC ?_ (by repeat' first|exact lr _|assumption|refine ls ?_ ?_|refine lt ?_ ?_|simp only[*];done|simp only[fb, *,not_false_eq_true,and_self];done|exact lf ‹_› (by simp only[*]))|simp -dsimp only[↓bp,bq,br,seval,lV, *]|refine wz ?_|fail)
 refine aY (fun n e σ'=>∃ i:Nat,i <=(l).length /\ n=(l).length - i /\ e 11= .int .i64 i /\ dZ σ0 σ' b (xs++jI s (l.take i))) (l).length
   ⟨0,by omega,by omega,by simp -dsimp only[↓bp,bq,br,seval,lV];first|done|rfl,by simpa [jI] using h⟩ ?_
 rintro n v σ' ⟨i,hi,rfl,h11,hB⟩
 simp -dsimp only[↓bp,bq,br,seval,lV]at h11
 simp -dsimp only[↓bp,bq,br,seval,lV,h11]
 refine dQ (fun hlt=> ?_) (fun hge=> ?_)
 ·obtain⟨n,hx⟩:∃ n,l[i]? =some n:=⟨_,List.getElem?_eq_getElem (by omega)⟩
  obtain⟨hn0,hn1⟩:=hn n (List.mem_of_getElem? hx)
  clear hi h
  repeat'(first|refine xs ?_ ?_ <;>intros|(refine wn ?_;intro bx hbx;try simp only[fb]at hbx)|refine aQ ?_|(refine aB ?_;intro bx hbx;(try simp only[fb]at hbx))|refine aD ?_|((with_reducible refine And.intro ?_ ?_);omega)|refine aA (d':=⟨⟩) ?_|refine aR (by kernel_rfl) ?_|refine aP ?_ (by repeat' first|exact lr _|assumption|refine ls ?_ ?_|refine lt ?_ ?_|simp only[*];done|simp only[fb, *,not_false_eq_true,and_self];done|exact lf ‹_› (by simp only[*]))|refine aC ?_ (by repeat' first|exact lr _|assumption|refine ls ?_ ?_|refine lt ?_ ?_|simp only[*];done|simp only[fb, *,not_false_eq_true,and_self];done|exact lf ‹_› (by simp only[*]))|simp -dsimp only[↓bp,bq,br,seval,lV,kH, *]|refine wz ?_|fail)
  have hnn:((n.toNat:Nat):Int)=n:=Int.toNat_of_nonneg hn0
  have hsw:IntKind.i64.wrap ((s:Int) - 1)=(s:Int) - 1:=aH (by omega) (by omega)
  have hi:i < l.length:=(List.getElem?_eq_some_iff.1 hx).1
  have hB2:(xs++jI s (l.take i)).length=xs.length+s*i:=by rw[List.length_append,sL,List.length_take];congr 2;omega
  have hil:s*i+s <=s*l.length:=by rw[<- Nat.mul_succ];exact Nat.mul_le_mul_left _ hi
  refine aY (fun m e σ'=>∃ k:Nat,k <=s /\ m=s - k /\ e 8= .int .i64 ((s:Int) - 1 - k) /\ dZ σ0 σ' b (xs++jI s (l.take i)++(bU s n.toNat).take k)) s ⟨0,by omega,by omega,by simp -dsimp only[↓bp,bq,br,seval,lV,hsw];try simp,by simpa using hB⟩ ?_
  rintro m e2 σ2 ⟨k,hk,rfl,h8,hB3⟩
  simp -dsimp only[↓bp,bq,br,seval,lV]at h8
  by_cases hlk:k < s
  ·have hlk':((0:Int) <=(s:Int) - 1 - k)=True:=eq_true (by omega)
   have hik:(s:Int) - 1 - k=((s - 1 - k:Nat):Int):=by omega
   have hget:=A9x s n.toNat k hlk
   have hbb:=C3w n.toNat (s - 1 - k) (by omega)
   rw[hnn]at hbb
   have hm8:IntKind.i64.wrap (8*((s:Int) - 1 - k))=((8*(s - 1 - k):Nat):Int):=by rw[aH (by omega) (by omega)];omega
   have hnneg:(((8*(s - 1 - k):Nat):Int) < 0)=False:=eq_false (by omega)
   have hw1:IntKind.i64.wrap ((s:Int) - 1 - k - 1)=(s:Int) - 1 - ((k+1:Nat):Int):=by rw[aH (by omega) (by omega)];omega
   have t1:=B4t (G:=G) hB3 (by rw[List.length_append,List.length_append];omega) (by rw[List.length_append,hB2,List.length_take,bC];omega) (UInt8.ofNat (n.toNat / 256 ^ (s - 1 - k)))
   rw[List.append_assoc (xs++jI s (l.take i)),<- aK _ _ _ hget]at t1
   simp only[fN]at t1
   rw[<- hbb]at t1
   clear hB hB3 hbb hget hik
   repeat'(first|refine xs ?_ ?_ <;>intros|(refine wn ?_;intro bx hbx;try simp only[fb]at hbx)|(refine A7v 8 (by kernel_rfl) rfl rfl ?_)|((refine aJ.mono t1 ?_;rintro r s3 ⟨rfl,hB4⟩;clear t1))|refine aQ ?_|(refine aB ?_;intro bx hbx;(try simp only[fb]at hbx))|refine aD ?_|((with_reducible refine And.intro ?_ ?_);omega)|refine aA (d':=⟨⟩) ?_|refine aR (by kernel_rfl) ?_|refine aP ?_ (by repeat' first|exact lr _|assumption|refine ls ?_ ?_|refine lt ?_ ?_|simp only[*];done|simp only[fb, *,not_false_eq_true,and_self];done|exact lf ‹_› (by simp only[*]))|refine aC ?_ (by repeat' first|exact lr _|assumption|refine ls ?_ ?_|refine lt ?_ ?_|simp only[*];done|simp only[fb, *,not_false_eq_true,and_self];done|exact lf ‹_› (by simp only[*]))|simp -dsimp only[↓bp,bq,br,seval,lV,hm8,kH, *]|refine wz ?_|fail)
   exact⟨s - (k+1),by omega,k+1,by omega,rfl,rfl,hB4⟩
  ·have:k=s:=by omega
   subst this
   have hlk':((0:Int) <=(k:Int) - 1 - k)=False:=eq_false (by omega)
   have htk:(bU k n.toNat).take k=bU k n.toNat:=List.take_of_length_le (by rw[bC];exact Nat.le_refl _)
   rw[htk]at hB3
   have hB4:dZ σ0 σ2 b (xs++jI k (l.take (i+1))):=by
    rw[aK _ _ _ hx]
    unfold jI at hB3 ⊢
    rw[List.flatMap_append,List.flatMap_cons,List.flatMap_nil,List.append_nil,<- List.append_assoc]
    exact hB3
   clear hB hB3 hlk hk htk
   repeat'(first|refine xs ?_ ?_ <;>intros|(refine wn ?_;intro bx hbx;try simp only[fb]at hbx)|refine aQ ?_|(refine aB ?_;intro bx hbx;(try simp only[fb]at hbx))|refine aD ?_|((with_reducible refine And.intro ?_ ?_);omega)|refine aA (d':=⟨⟩) ?_|refine aR (by kernel_rfl) ?_|refine aP ?_ (by repeat' first|exact lr _|assumption|refine ls ?_ ?_|refine lt ?_ ?_|simp only[*];done|simp only[fb, *,not_false_eq_true,and_self];done|exact lf ‹_› (by simp only[*]))|refine aC ?_ (by repeat' first|exact lr _|assumption|refine ls ?_ ?_|refine lt ?_ ?_|simp only[*];done|simp only[fb, *,not_false_eq_true,and_self];done|exact lf ‹_› (by simp only[*]))|simp -dsimp only[↓bp,bq,br,seval,lV, *]|refine wz ?_|fail)
   exact⟨l.length - (i+1),by omega,i+1,by omega,rfl,by rw[aH (by omega) (by omega)];rfl,hB4⟩
 ·have:i=l.length:=by omega
  subst this
  rw[List.take_length]at hB
  clear hi hge h
  repeat'(first|refine xs ?_ ?_ <;>intros|(refine wn ?_;intro bx hbx;try simp only[fb]at hbx)|refine aQ ?_|(refine aB ?_;intro bx hbx;(try simp only[fb]at hbx))|refine aD ?_|((with_reducible refine And.intro ?_ ?_);omega)|refine aA (d':=⟨⟩) ?_|refine aR (by kernel_rfl) ?_|refine aP ?_ (by repeat' first|exact lr _|assumption|refine ls ?_ ?_|refine lt ?_ ?_|simp only[*];done|simp only[fb, *,not_false_eq_true,and_self];done|exact lf ‹_› (by simp only[*]))|refine aC ?_ (by repeat' first|exact lr _|assumption|refine ls ?_ ?_|refine lt ?_ ?_|simp only[*];done|simp only[fb, *,not_false_eq_true,and_self];done|exact lf ‹_› (by simp only[*]))|simp -dsimp only[↓bp,bq,br,seval,lV, *]|refine wz ?_|fail)
  exact aE _ (AS.le.refl _) ⟨rfl,hB⟩
theorem dM{σ0 σ:AS}{b:Nat}{xs:List UInt8}(h:dZ σ0 σ b xs)(h0:0 < xs.length)(s:Nat)(hs:s <=6)(n:Int)(hn:0 <=n)(hn1:n <=9223372036854775807)(hl:xs.length <=900000000)(g:Gh):
  aJ Tryd.prog G 18 [.ptr b 0, .int .i64 s, .sl g [.int .i64 n] []] σ fun r σ'=>r= .tup [] /\ dZ σ0 σ' b (xs++bU s n.toNat):=by
 have:=mO (G:=G) h h0 s hs [n] (fun m hm=>by simp at hm;subst hm;exact⟨hn,hn1⟩) (by simp) (by simp;omega)
 rw[show jI s [n]=bU s n.toNat by simp[jI]]at this
 exact aJ.weaken (.cons (Le.refl _) (.cons (Le.refl _) (.cons Le.gh .nil))) this
theorem wJ{σ0 σ:AS}{b:Nat}{xs:List UInt8}(h:dZ σ0 σ b xs)(h0:0 < xs.length)(s:List UInt8)(hl:xs.length+s.length <=900000000):
  aJ Tryd.prog G 19 [.ptr b 0, .str s] σ fun r σ'=>r= .tup [] /\ dZ σ0 σ' b (xs++gK s):=by
 have t1:=dM (G:=G) h h0 1 (by omega) s.length (by omega) (by omega) (by omega) .full
 have t2:=fun s2 (h2:dZ σ0 s2 b (xs++bU 1 ((s.length:Int)).toNat))=>C3h (G:=G) h2 (by rw[List.length_append];omega) s (by rw[List.length_append,bC];omega)
 clear h
 refine aJ.of_awp mixed Tryd.func19 rfl (by kernel_rfl) (by kernel_rfl) (by simp[Tryd.ntmps19]) Tryd.results19 ?_
 repeat'(first|refine xs ?_ ?_ <;>intros|(refine wn ?_;intro bx hbx;try simp only[fb]at hbx)|((refine aJ.mono t1 ?_;rintro r s3 ⟨rfl,hB1⟩;clear t1;replace t2:=t2 _ hB1))|((refine aJ.mono t2 ?_;rintro r s4 ⟨rfl,hB2⟩;clear t2))|refine aQ ?_|(refine aB ?_;intro bx hbx;(try simp only[fb]at hbx))|refine aD ?_|((with_reducible refine And.intro ?_ ?_);omega)|refine aA (d':=⟨⟩) ?_|refine aR (by kernel_rfl) ?_|refine aP ?_ (by repeat' first|exact lr _|assumption|refine ls ?_ ?_|refine lt ?_ ?_|simp only[*];done|simp only[fb, *,not_false_eq_true,and_self];done|exact lf ‹_› (by simp only[*]))|refine aC ?_ (by repeat' first|exact lr _|assumption|refine ls ?_ ?_|refine lt ?_ ?_|simp only[*];done|simp only[fb, *,not_false_eq_true,and_self];done|exact lf ‹_› (by simp only[*]))|simp -dsimp only[↓bp,bq,br,seval,lV, *]|refine wz ?_|fail)
 rw[Int.toNat_natCast,List.append_assoc]at hB2
 exact aE _ (AS.le.refl _) ⟨rfl,hB2⟩
theorem zN{σ0 σ:AS}{b:Nat}{xs:List UInt8}(h:dZ σ0 σ b xs)(h0:0 < xs.length)(t:Bool)(hl:xs.length <=900000000):
  aJ Tryd.prog G 65 [.ptr b 0, .bool t] σ fun r σ'=>r= .tup [] /\ dZ σ0 σ' b (xs++eN t):=by
 cases t with
 | true=>
  have t1:=dM (G:=G) h h0 1 (by omega) 1 (by omega) (by omega) hl .full
  clear h
  refine aJ.of_awp mixed Tryd.func65 rfl (by kernel_rfl) (by kernel_rfl) (by simp[Tryd.ntmps65]) Tryd.results65 ?_
  repeat'(first|refine xs ?_ ?_ <;>intros|(refine wn ?_;intro bx hbx;try simp only[fb]at hbx)|((refine aJ.mono t1 ?_;rintro r s3 ⟨rfl,hB1⟩;clear t1))|refine aQ ?_|(refine aB ?_;intro bx hbx;(try simp only[fb]at hbx))|refine aD ?_|((with_reducible refine And.intro ?_ ?_);omega)|refine aA (d':=⟨⟩) ?_|refine aR (by kernel_rfl) ?_|refine aP ?_ (by repeat' first|exact lr _|assumption|refine ls ?_ ?_|refine lt ?_ ?_|simp only[*];done|simp only[fb, *,not_false_eq_true,and_self];done|exact lf ‹_› (by simp only[*]))|refine aC ?_ (by repeat' first|exact lr _|assumption|refine ls ?_ ?_|refine lt ?_ ?_|simp only[*];done|simp only[fb, *,not_false_eq_true,and_self];done|exact lf ‹_› (by simp only[*]))|simp -dsimp only[↓bp,bq,br,seval,lV, *]|refine wz ?_|fail)
  exact aE _ (AS.le.refl _) ⟨rfl,hB1⟩
 | false=>
  have t1:=dM (G:=G) h h0 1 (by omega) 0 (by omega) (by omega) hl .full
  clear h
  refine aJ.of_awp mixed Tryd.func65 rfl (by kernel_rfl) (by kernel_rfl) (by simp[Tryd.ntmps65]) Tryd.results65 ?_
  repeat'(first|refine xs ?_ ?_ <;>intros|(refine wn ?_;intro bx hbx;try simp only[fb]at hbx)|((refine aJ.mono t1 ?_;rintro r s3 ⟨rfl,hB1⟩;clear t1))|refine aQ ?_|(refine aB ?_;intro bx hbx;(try simp only[fb]at hbx))|refine aD ?_|((with_reducible refine And.intro ?_ ?_);omega)|refine aA (d':=⟨⟩) ?_|refine aR (by kernel_rfl) ?_|refine aP ?_ (by repeat' first|exact lr _|assumption|refine ls ?_ ?_|refine lt ?_ ?_|simp only[*];done|simp only[fb, *,not_false_eq_true,and_self];done|exact lf ‹_› (by simp only[*]))|refine aC ?_ (by repeat' first|exact lr _|assumption|refine ls ?_ ?_|refine lt ?_ ?_|simp only[*];done|simp only[fb, *,not_false_eq_true,and_self];done|exact lf ‹_› (by simp only[*]))|simp -dsimp only[↓bp,bq,br,seval,lV, *]|refine wz ?_|fail)
  exact aE _ (AS.le.refl _) ⟨rfl,hB1⟩
end
set_option maxRecDepth 20000
section
def iD:=And.intro (And.intro (And.intro @nK (And.intro @nL @lY)) (And.intro @kW (And.intro @kI @kE))) (And.intro (And.intro @A6b (And.intro @A6a @dH)) (And.intro @cK (And.intro @dR @eF)))
variable {G:Nat ->AV}
abbrev dD:=List UInt8 × Bool
def eD(b:List UInt8):AV:= .sl .none (aI b) []
def bR(st:dD):List AV:=[eD st.1, .bool st.2]
def bV(n:Nat)(st:dD):List UInt8 × dD:=if st.2=true \/ st.1.length < n then([],(st.1,true))else(st.1.take n,(st.1.drop n,false))
def aG(s:Nat)(st:dD):Nat × dD:=(jE (bV s st).1,(bV s st).2)
def fJ(st:dD):List UInt8 × dD:=bV (aG 1 st).1 (aG 1 st).2
def bY(st:dD):Bool × dD:=((aG 1 st).1==1,((aG 1 st).2.1,(aG 1 st).2.2||decide (1 < (aG 1 st).1)))
def cT{α:Type}(one:dD ->α × dD):Nat ->dD ->List α × dD
 |0,st=> ([],st)
 |n+1,st=>if st.2=true then([],st)else((one st).1::(cT one n (one st).2).1,(cT one n (one st).2).2)
def aS{α:Type}(one:dD ->α × dD)(st:dD):List α × dD:=cT one (aG 2 st).1 (aG 2 st).2
def tkA(n:Nat)(st:dD):AV:=if st.2=true \/ st.1.length < n then .nil else .sl .none (aI (st.1.take n)) []
theorem pK(b:List UInt8):(aI b).length=b.length:=by simp[aI]
theorem vQ(c:UInt8):(flat (fN c)).length=1:=rfl
theorem C8m(b:List UInt8)(n:Nat)(h:n <=b.length):eL Tryd.prog 27 (.sl .none (aI b) []) none (some (.int .i64 n))=some (.sl .none (aI (b.take n)) []):=by
 have:=rG (P:=Tryd.prog) (enc:=fN) vQ b none (some (.int .i64 n)) A2i
 simpa [cM,h,aW,aI] using this
theorem D3b(b:List UInt8)(n:Nat)(h:n <=b.length):eL Tryd.prog 27 (.sl .none (aI b) []) (some (.int .i64 n)) none=some (.sl .none (aI (b.drop n)) []):=by
 have:=rG (P:=Tryd.prog) (enc:=fN) vQ b (some (.int .i64 n)) none A2i
 simpa [cM,h,aW,aI] using this
set_option maxHeartbeats 1000000 in
theorem rK(n:Nat){σ:AS}{rb:Nat}{st:dD}(h:σ.box rb=some (bR st)):aJ Tryd.prog G 30 [.ptr rb 0, .int .i64 n] σ fun r s=>r=tkA n st /\ s=σ.setBox rb (bR (bV n st).2):=by
 obtain⟨b,bad⟩:=st
 have hr:bR (b,bad)=[.sl .none (aI b) [], .bool bad]:=rfl
 rw[hr]at h
 have hln:=pK b
 cases bad with
 | true=>
  have e1:tkA n (b,true)= .nil:=by simp[tkA]
  have e2:bR (bV n (b,true)).2=[.sl .none (aI b) [], .bool true]:=by simp[bV,bR,eD]
  rw[e1,e2]
  refine aJ.of_awp mixed Tryd.func30 rfl (by kernel_rfl) (by kernel_rfl) (by simp[Tryd.ntmps30]) Tryd.results30 ?_
  repeat'(first|refine xs ?_ ?_ <;>intros|(refine wn ?_;intro bx hbx;try simp only[fb]at hbx)|refine aQ ?_|(refine aB ?_;intro bx hbx;(try simp only[fb]at hbx))|refine aD ?_|((with_reducible refine And.intro ?_ ?_);omega)|refine aA (d':=⟨⟩) ?_|refine aR (by kernel_rfl) ?_|refine aP ?_ (by repeat' first|exact lr _|assumption|refine ls ?_ ?_|refine lt ?_ ?_|simp only[*];done|simp only[fb, *,not_false_eq_true,and_self];done|exact lf ‹_› (by simp only[*]))|refine aC ?_ (by repeat' first|exact lr _|assumption|refine ls ?_ ?_|refine lt ?_ ?_|simp only[*];done|simp only[fb, *,not_false_eq_true,and_self];done|exact lf ‹_› (by simp only[*]))|simp -dsimp only[↓bp,bq,br,seval,iD, *]|refine wz ?_|fail)
  all_goals skip
 | false=>
  by_cases hn:b.length < n
  ·have e1:tkA n (b,false)= .nil:=by simp[tkA,hn]
   have e2:bR (bV n (b,false)).2=[.sl .none (aI b) [], .bool true]:=by simp[bV,bR,eD,hn]
   rw[e1,e2]
   have c1:((b.length:Int) < (n:Int))=True:=eq_true (by omega)
   refine aJ.of_awp mixed Tryd.func30 rfl (by kernel_rfl) (by kernel_rfl) (by simp[Tryd.ntmps30]) Tryd.results30 ?_
   repeat'(first|refine xs ?_ ?_ <;>intros|(refine wn ?_;intro bx hbx;try simp only[fb]at hbx)|refine aQ ?_|(refine aB ?_;intro bx hbx;(try simp only[fb]at hbx))|refine aD ?_|((with_reducible refine And.intro ?_ ?_);omega)|refine aA (d':=⟨⟩) ?_|refine aR (by kernel_rfl) ?_|refine aP ?_ (by repeat' first|exact lr _|assumption|refine ls ?_ ?_|refine lt ?_ ?_|simp only[*];done|simp only[fb, *,not_false_eq_true,and_self];done|exact lf ‹_› (by simp only[*]))|refine aC ?_ (by repeat' first|exact lr _|assumption|refine ls ?_ ?_|refine lt ?_ ?_|simp only[*];done|simp only[fb, *,not_false_eq_true,and_self];done|exact lf ‹_› (by simp only[*]))|simp -dsimp only[↓bp,bq,br,seval,iD,hln, *]|refine wz ?_|fail)
   all_goals skip
  ·have e1:tkA n (b,false)= .sl .none (aI (b.take n)) []:=by simp[tkA,hn]
   have e2:bR (bV n (b,false)).2=[.sl .none (aI (b.drop n)) [], .bool false]:=by simp[bV,bR,eD,hn]
   rw[e1,e2]
   have c1:((b.length:Int) < (n:Int))=False:=eq_false (by omega)
   have s1:=C8m b n (by omega)
   have s2:=D3b b n (by omega)
   refine aJ.of_awp mixed Tryd.func30 rfl (by kernel_rfl) (by kernel_rfl) (by simp[Tryd.ntmps30]) Tryd.results30 ?_
   repeat'(first|refine xs ?_ ?_ <;>intros|(refine wn ?_;intro bx hbx;try simp only[fb]at hbx)|refine aQ ?_|(refine aB ?_;intro bx hbx;(try simp only[fb]at hbx))|refine aD ?_|((with_reducible refine And.intro ?_ ?_);omega)|refine aA (d':=⟨⟩) ?_|refine aR (by kernel_rfl) ?_|refine aP ?_ (by repeat' first|exact lr _|assumption|refine ls ?_ ?_|refine lt ?_ ?_|simp only[*];done|simp only[fb, *,not_false_eq_true,and_self];done|exact lf ‹_› (by simp only[*]))|refine aC ?_ (by repeat' first|exact lr _|assumption|refine ls ?_ ?_|refine lt ?_ ?_|simp only[*];done|simp only[fb, *,not_false_eq_true,and_self];done|exact lf ‹_› (by simp only[*]))|simp -dsimp only[↓bp,bq,br,seval,iD,hln, *]|refine wz ?_|fail)
theorem D2x(X:Nat)(c:UInt8)(h:X < 1099511627776):IntKind.i64.wrap ↑(BitVec.ofInt IntKind.i64.bits (IntKind.i64.wrap (↑X*2 ^ min 8 IntKind.i64.bits))|||BitVec.ofInt IntKind.i64.bits (IntKind.i64.wrap ↑c.toNat)).toNat=((X*256+c.toNat:Nat):Int):=by
 have hc:=c.toNat_lt
 have e1:(min 8 IntKind.i64.bits:Nat)=8:=rfl
 have e2:((X:Int)*2 ^ 8)=((X*256:Nat):Int):=by push_cast;rfl
 have hb:IntKind.i64.bits=64:=rfl
 have w1:IntKind.i64.wrap ((X*256:Nat):Int)=((X*256:Nat):Int):=aH (by omega) (by omega)
 have w2:IntKind.i64.wrap (c.toNat:Int)=(c.toNat:Int):=aH (by omega) (by omega)
 rw[e1,e2,w1,w2,BitVec.ofInt_natCast,BitVec.ofInt_natCast,BitVec.toNat_or,BitVec.toNat_ofNat,BitVec.toNat_ofNat,hb,Nat.mod_eq_of_lt (by omega),Nat.mod_eq_of_lt (by omega)]
 have h3:X*256|||c.toNat=X*256+c.toNat:=by
  have:=Nat.two_pow_add_eq_or_of_lt (i:=8) (b:=c.toNat) (by omega) X
  rw[Nat.mul_comm]at this
  exact this.symm
 rw[h3,aH (by omega) (by omega)]
theorem B4r(l:List UInt8)(c:UInt8):jE (l++[c])=jE l*256+c.toNat:=by simp[jE]
set_option maxHeartbeats 1000000 in
theorem aZ(n:Nat)(hn:n <=6){σ:AS}{rb:Nat}{st:dD}(h:σ.box rb=some (bR st)):aJ Tryd.prog G 55 [.ptr rb 0, .int .i64 n] σ fun r s=>r= .int .i64 (aG n st).1 /\ s=σ.setBox rb (bR (aG n st).2):=by
 have t1:=rK (G:=G) n h
 unfold aG
 by_cases hc:st.2=true \/ st.1.length < n
 ·have e1:tkA n st= .nil:=by simp[tkA,hc]
  have e2:(bV n st).1=[]:=by simp[bV,hc]
  have e3:jE []=0:=rfl
  rw[e1]at t1
  rw[e2,e3]
  generalize(bV n st).2=st' at*
  clear h hc e1 e2
  refine aJ.of_awp mixed Tryd.func55 rfl (by kernel_rfl) (by kernel_rfl) (by simp[Tryd.ntmps55]) Tryd.results55 ?_
  repeat'(first|refine xs ?_ ?_ <;>intros|(refine wn ?_;intro bx hbx;try simp only[fb]at hbx)|((refine aJ.mono t1 ?_;rintro r s ⟨rfl,rfl⟩;clear t1))|refine aQ ?_|(refine aB ?_;intro bx hbx;(try simp only[fb]at hbx))|refine aD ?_|((with_reducible refine And.intro ?_ ?_);omega)|refine aA (d':=⟨⟩) ?_|refine aR (by kernel_rfl) ?_|refine aP ?_ (by repeat' first|exact lr _|assumption|refine ls ?_ ?_|refine lt ?_ ?_|simp only[*];done|simp only[fb, *,not_false_eq_true,and_self];done|exact lf ‹_› (by simp only[*]))|refine aC ?_ (by repeat' first|exact lr _|assumption|refine ls ?_ ?_|refine lt ?_ ?_|simp only[*];done|simp only[fb, *,not_false_eq_true,and_self];done|exact lf ‹_› (by simp only[*]))|simp -dsimp only[↓bp,bq,br,seval,iD, *]|refine wz ?_|fail)
  refine aY (fun m e σ'=>m=0 /\ e 12= .int .i64 0 /\ e 5= .int .i64 0 /\ σ'=σ.setBox rb (bR st')) 0 ⟨rfl,by simp -dsimp only[↓bp,bq,br,seval,iD],by simp -dsimp only[↓bp,bq,br,seval,iD],rfl⟩ ?_
  rintro m e σ' ⟨rfl,h12,h5,rfl⟩
  simp -dsimp only[↓bp,bq,br,seval,iD]at h12 h5
  repeat'(first|refine xs ?_ ?_ <;>intros|(refine wn ?_;intro bx hbx;try simp only[fb]at hbx)|refine aQ ?_|(refine aB ?_;intro bx hbx;(try simp only[fb]at hbx))|refine aD ?_|((with_reducible refine And.intro ?_ ?_);omega)|refine aA (d':=⟨⟩) ?_|refine aR (by kernel_rfl) ?_|refine aP ?_ (by repeat' first|exact lr _|assumption|refine ls ?_ ?_|refine lt ?_ ?_|simp only[*];done|simp only[fb, *,not_false_eq_true,and_self];done|exact lf ‹_› (by simp only[*]))|refine aC ?_ (by repeat' first|exact lr _|assumption|refine ls ?_ ?_|refine lt ?_ ?_|simp only[*];done|simp only[fb, *,not_false_eq_true,and_self];done|exact lf ‹_› (by simp only[*]))|simp -dsimp only[↓bp,bq,br,seval,iD, *]|refine wz ?_|fail)
  all_goals skip
 ·obtain⟨l,hl⟩:∃ l,l=(bV n st).1:=⟨_,rfl⟩
  have hll:l.length=n:=by rw[hl];simp[bV,hc];omega
  have e1:tkA n st=aW fN l:=by rw[hl];simp[tkA,bV,hc,aW,aI]
  rw[e1]at t1
  rw[<- hl]
  generalize(bV n st).2=st' at*
  clear h hc e1 hl
  refine aJ.of_awp mixed Tryd.func55 rfl (by kernel_rfl) (by kernel_rfl) (by simp[Tryd.ntmps55]) Tryd.results55 ?_
  repeat'(first|refine xs ?_ ?_ <;>intros|(refine wn ?_;intro bx hbx;try simp only[fb]at hbx)|((refine aJ.mono t1 ?_;rintro r s ⟨rfl,rfl⟩;clear t1))|refine aQ ?_|(refine aB ?_;intro bx hbx;(try simp only[fb]at hbx))|refine aD ?_|((with_reducible refine And.intro ?_ ?_);omega)|refine aA (d':=⟨⟩) ?_|refine aR (by kernel_rfl) ?_|refine aP ?_ (by repeat' first|exact lr _|assumption|refine ls ?_ ?_|refine lt ?_ ?_|simp only[*];done|simp only[fb, *,not_false_eq_true,and_self];done|exact lf ‹_› (by simp only[*]))|refine aC ?_ (by repeat' first|exact lr _|assumption|refine ls ?_ ?_|refine lt ?_ ?_|simp only[*];done|simp only[fb, *,not_false_eq_true,and_self];done|exact lf ‹_› (by simp only[*]))|simp -dsimp only[↓bp,bq,br,seval,iD, *]|refine wz ?_|fail)
  refine aY (fun n e σ'=>∃ i:Nat,i <=(l).length /\ n=(l).length - i /\ e 12= .int .i64 i /\ e 5= .int .i64 (jE (l.take i)) /\ σ'=σ.setBox rb (bR st')) (l).length
    ⟨0,by omega,by omega,by simp -dsimp only[↓bp,bq,br,seval,iD];first|done|rfl,by simp -dsimp only[↓bp,bq,br,seval,iD];try simp[jE],rfl⟩ ?_
  rintro n v σ' ⟨i,hi,rfl,h12,h5,rfl⟩
  simp -dsimp only[↓bp,bq,br,seval,iD]at h12 h5
  simp -dsimp only[↓bp,bq,br,seval,iD,h12,h5]
  refine dQ (fun hlt=> ?_) (fun hge=> ?_)
  ·obtain⟨c,hx⟩:∃ c,l[i]? =some c:=⟨_,List.getElem?_eq_getElem (by omega)⟩
   have hi:i < l.length:=(List.getElem?_eq_some_iff.1 hx).1
   have hlt2:=pH (l.take i)
   have hpw:256 ^ (l.take i).length <=256 ^ 5:=Nat.pow_le_pow_right (by omega) (by rw[List.length_take];omega)
   have hsn:jE (l.take (i+1))=jE (l.take i)*256+c.toNat:=by rw[aK _ _ _ hx,B4r]
   have hc:=c.toNat_lt
   generalize jE (l.take i)=X at*
   repeat'(first|refine xs ?_ ?_ <;>intros|(refine wn ?_;intro bx hbx;try simp only[fb]at hbx)|refine aQ ?_|(refine aB ?_;intro bx hbx;(try simp only[fb]at hbx))|refine aD ?_|((with_reducible refine And.intro ?_ ?_);omega)|refine aA (d':=⟨⟩) ?_|refine aR (by kernel_rfl) ?_|refine aP ?_ (by repeat' first|exact lr _|assumption|refine ls ?_ ?_|refine lt ?_ ?_|simp only[*];done|simp only[fb, *,not_false_eq_true,and_self];done|exact lf ‹_› (by simp only[*]))|refine aC ?_ (by repeat' first|exact lr _|assumption|refine ls ?_ ?_|refine lt ?_ ?_|simp only[*];done|simp only[fb, *,not_false_eq_true,and_self];done|exact lf ‹_› (by simp only[*]))|simp -dsimp only[↓bp,bq,br,seval,iD,fN, *]|refine wz ?_|fail)
   have hX:X < 1099511627776:=by
    have e:(256:Nat) ^ 5=1099511627776:=by decide
    omega
   exact⟨n - (i+1),by omega,i+1,by omega,rfl,by rw[aH (by omega) (by omega)];rfl,by rw[D2x X c hX,hsn]⟩
  ·have:i=l.length:=by omega
   subst this
   rw[List.take_length]at h5
   repeat'(first|refine xs ?_ ?_ <;>intros|(refine wn ?_;intro bx hbx;try simp only[fb]at hbx)|refine aQ ?_|(refine aB ?_;intro bx hbx;(try simp only[fb]at hbx))|refine aD ?_|((with_reducible refine And.intro ?_ ?_);omega)|refine aA (d':=⟨⟩) ?_|refine aR (by kernel_rfl) ?_|refine aP ?_ (by repeat' first|exact lr _|assumption|refine ls ?_ ?_|refine lt ?_ ?_|simp only[*];done|simp only[fb, *,not_false_eq_true,and_self];done|exact lf ‹_› (by simp only[*]))|refine aC ?_ (by repeat' first|exact lr _|assumption|refine ls ?_ ?_|refine lt ?_ ?_|simp only[*];done|simp only[fb, *,not_false_eq_true,and_self];done|exact lf ‹_› (by simp only[*]))|simp -dsimp only[↓bp,bq,br,seval,iD, *]|refine wz ?_|fail)
   all_goals skip
theorem yQ(l:List UInt8):fO (aI l)=some l:=by
 induction l with
 |nil=>rfl
 | cons c l ih=>
  have:Av.byteOf (fN c)=some c:=by simp[Av.byteOf,fN]
  simp only[aI,List.map_cons,fO]at ih ⊢
  rw[this,ih]
theorem C1l{σ:AS}{rb:Nat}{x y:List AV} :(σ.setBox rb x).setBox rb y=σ.setBox rb y:=B0l
theorem fF{σ:AS}{rb:Nat}{st:dD} :(σ.setBox rb (bR st)).box rb=some (bR st):=AS.set_get
theorem A1v{σ:AS}{rb:Nat}{st:dD}(h:σ.box rb=some (bR st)):aJ Tryd.prog G 56 [.ptr rb 0] σ fun r s=>r= .str (fJ st).1 /\ s=σ.setBox rb (bR (fJ st).2):=by
 have t1:=aZ (G:=G) 1 (by omega) h
 have t2:=rK (G:=G) (aG 1 st).1 (σ:=σ.setBox rb (bR (aG 1 st).2)) fF
 unfold fJ
 generalize aG 1 st=a at*
 obtain⟨n,st1⟩:=a
 simp only at*
 have e1:∀ σ:AS,dP Tryd.prog σ 27 9 (tkA n st1)=some (.str (bV n st1).1):=fun σ=>by
  unfold tkA bV at*
  by_cases hc:st1.2=true \/ st1.1.length < n
  ·rw[if_pos hc,if_pos hc]
   simp -dsimp only[↓bp,bq,br,seval,iD]
   rfl
  ·rw[if_neg hc,if_neg hc]
   simp -dsimp only[↓bp,bq,br,seval,iD]
   rw[yQ];rfl
 rw[C1l]at t2
 clear h
 refine aJ.of_awp mixed Tryd.func56 rfl (by kernel_rfl) (by kernel_rfl) (by simp[Tryd.ntmps56]) Tryd.results56 ?_
 repeat'(first|refine xs ?_ ?_ <;>intros|(refine wn ?_;intro bx hbx;try simp only[fb]at hbx)|((refine aJ.mono t1 ?_;rintro r s ⟨rfl,rfl⟩;clear t1))|((refine aJ.mono t2 ?_;rintro r s ⟨rfl,rfl⟩;clear t2))|refine aQ ?_|(refine aB ?_;intro bx hbx;(try simp only[fb]at hbx))|refine aD ?_|((with_reducible refine And.intro ?_ ?_);omega)|refine aA (d':=⟨⟩) ?_|refine aR (by kernel_rfl) ?_|refine aP ?_ (by repeat' first|exact lr _|assumption|refine ls ?_ ?_|refine lt ?_ ?_|simp only[*];done|simp only[fb, *,not_false_eq_true,and_self];done|exact lf ‹_› (by simp only[*]))|refine aC ?_ (by repeat' first|exact lr _|assumption|refine ls ?_ ?_|refine lt ?_ ?_|simp only[*];done|simp only[fb, *,not_false_eq_true,and_self];done|exact lf ‹_› (by simp only[*]))|simp -dsimp only[↓bp,bq,br,seval,iD, *]|refine wz ?_|fail)
theorem xB{σ:AS}{rb:Nat}{st:dD}(h:σ.box rb=some (bR st)):aJ Tryd.prog G 59 [.ptr rb 0] σ fun r s=>r= .bool (bY st).1 /\ s=σ.setBox rb (bR (bY st).2):=by
 have t1:=aZ (G:=G) 1 (by omega) h
 unfold bY
 generalize aG 1 st=a at*
 obtain⟨n,b,bad⟩:=a
 simp only at*
 clear h
 have e3:(n==1)=decide ((n:Int)=1):=by rw[Bool.eq_iff_iff];simp;omega
 rw[e3]
 cases bad with
 | true=>
  refine aJ.of_awp mixed Tryd.func59 rfl (by kernel_rfl) (by kernel_rfl) (by simp[Tryd.ntmps59]) Tryd.results59 ?_
  repeat'(first|refine xs ?_ ?_ <;>intros|(refine wn ?_;intro bx hbx;try simp only[fb]at hbx)|((refine aJ.mono t1 ?_;rintro r s ⟨rfl,rfl⟩;clear t1))|refine aQ ?_|(refine aB ?_;intro bx hbx;(try simp only[fb]at hbx))|refine aD ?_|((with_reducible refine And.intro ?_ ?_);omega)|refine aA (d':=⟨⟩) ?_|refine aR (by kernel_rfl) ?_|refine aP ?_ (by repeat' first|exact lr _|assumption|refine ls ?_ ?_|refine lt ?_ ?_|simp only[*];done|simp only[fb, *,not_false_eq_true,and_self];done|exact lf ‹_› (by simp only[*]))|refine aC ?_ (by repeat' first|exact lr _|assumption|refine ls ?_ ?_|refine lt ?_ ?_|simp only[*];done|simp only[fb, *,not_false_eq_true,and_self];done|exact lf ‹_› (by simp only[*]))|simp -dsimp only[↓bp,bq,br,seval,iD,bR, *]|refine wz ?_|fail)|false=>
  have e2:bR (b,false||decide (1 < n))=[eD b, .bool (decide ((1:Int) < n))]:=by
   unfold bR
   simp only[Bool.false_or]
   congr 3
   rw[decide_eq_decide];omega
  rw[e2]
  refine aJ.of_awp mixed Tryd.func59 rfl (by kernel_rfl) (by kernel_rfl) (by simp[Tryd.ntmps59]) Tryd.results59 ?_
  repeat'(first|refine xs ?_ ?_ <;>intros|(refine wn ?_;intro bx hbx;try simp only[fb]at hbx)|((refine aJ.mono t1 ?_;rintro r s ⟨rfl,rfl⟩;clear t1))|refine aQ ?_|(refine aB ?_;intro bx hbx;(try simp only[fb]at hbx))|refine aD ?_|((with_reducible refine And.intro ?_ ?_);omega)|refine aA (d':=⟨⟩) ?_|refine aR (by kernel_rfl) ?_|refine aP ?_ (by repeat' first|exact lr _|assumption|refine ls ?_ ?_|refine lt ?_ ?_|simp only[*];done|simp only[fb, *,not_false_eq_true,and_self];done|exact lf ‹_› (by simp only[*]))|refine aC ?_ (by repeat' first|exact lr _|assumption|refine ls ?_ ?_|refine lt ?_ ?_|simp only[*];done|simp only[fb, *,not_false_eq_true,and_self];done|exact lf ‹_› (by simp only[*]))|simp -dsimp only[↓bp,bq,br,seval,iD,bR, *]|refine wz ?_|fail)
end
set_option maxRecDepth 20000
section
def D6y:=And.intro (And.intro (And.intro @nK (And.intro @nL @lY)) (And.intro @kW (And.intro @kI @kE))) (And.intro (And.intro @A6b (And.intro @A6a @uI)) (And.intro (And.intro @dH @cK) (And.intro @dR @eF)))
variable {G:Nat ->AV}
structure gH(rb:Nat)(σ S:AS):Prop where
 box:∀ i cs,i ≠ rb ->σ.box i=some cs ->S.box i=some cs
 tip:∀ i n,σ.tip i=some n ->S.tip i=some n
 ty:∀ i n,σ.ty i=some n ->S.ty i=some n
theorem gH.refl{rb:Nat}(σ:AS):gH rb σ σ:=⟨fun _ _ _ h=>h,fun _ _ h=>h,fun _ _ h=>h⟩
theorem gH.setRb{rb:Nat}{σ S:AS}(h:gH rb σ S)(z:List AV):gH rb σ (S.setBox rb z):=
 ⟨fun i cs hi hs=>by simp only[AS.setBox,if_neg hi];exact h.box i cs hi hs,h.tip,h.ty⟩
theorem gH.setBox{rb:Nat}{σ S:AS}(h:gH rb σ S){b:Nat}(hb:σ.box b=none)(z:List AV):gH rb σ (S.setBox b z):=
 ⟨fun i cs hi hs=>by
   have:i ≠ b:=fun e=>by subst e;rw[hb]at hs;cases hs
   simp only[AS.setBox,if_neg this];exact h.box i cs hi hs,h.tip,h.ty⟩
theorem gH.le{rb:Nat}{σ S:AS}(h:gH rb σ S)(z:List AV):(σ.setBox rb z).le (S.setBox rb z):=
 ⟨fun i cs hi=>by
   simp only[AS.setBox]at hi ⊢
   split at hi
   ·rename_i e;rw[if_pos e];exact hi
   ·rename_i e;rw[if_neg e];exact h.box i cs e hi,h.tip,h.ty⟩
theorem C4s{σ S:AS}{rb b:Nat}{x z:List AV}(h:(σ.setBox rb x).le S)(hn:(rb=b)=False)(hb:σ.box b=none):(σ.setBox rb x).le (S.setBox b z):=
 h.setBox (by simp only[AS.setBox];rw[if_neg (by rw[eq_comm,hn];exact id)];exact hb) z
def uD(st:dD):dA × dD:=
 (⟨(fJ st).1,(aG 1 (fJ st).2).1,(aG 1 (aG 1 (fJ st).2).2).1,(aG 2 (aG 1 (aG 1 (fJ st).2).2).2).1,(aG 2 (aG 2 (aG 1 (aG 1 (fJ st).2).2).2).2).1⟩,
   (aG 2 (aG 2 (aG 1 (aG 1 (fJ st).2).2).2).2).2)
set_option maxHeartbeats 1000000 in
theorem B7o{σ:AS}{rb:Nat}{st:dD}(h:σ.box rb=some (bR st)):aJ Tryd.prog G 32 [.ptr rb 0] σ fun r s=>r=(uD st).1.enc /\ s=σ.setBox rb (bR (uD st).2):=by
 have hne:∀ b',σ.fresh b' -> (rb=b')=False:=fun b' h'=>eq_false fun e=>by subst e;rw[h'.1]at h;cases h
 have hne2:∀ b',σ.fresh b' -> (b'=rb)=False:=fun b' h'=>eq_false fun e=>by subst e;rw[h'.1]at h;cases h
 unfold uD
 have t1:=fun(S:AS) (h:S.box rb=some (bR st))=>A1v (G:=G) h
 have t2:=fun(S:AS) (h:S.box rb=some (bR (fJ st).2))=>aZ (G:=G) 1 (by omega) h
 generalize fJ st=a1 at*
 have t3:=fun(S:AS) (h:S.box rb=some (bR (aG 1 a1.2).2))=>aZ (G:=G) 1 (by omega) h
 generalize aG 1 a1.2=a2 at*
 have t4:=fun(S:AS) (h:S.box rb=some (bR (aG 1 a2.2).2))=>aZ (G:=G) 2 (by omega) h
 generalize aG 1 a2.2=a3 at*
 have t5:=fun(S:AS) (h:S.box rb=some (bR (aG 2 a3.2).2))=>aZ (G:=G) 2 (by omega) h
 generalize aG 2 a3.2=a4 at*
 generalize aG 2 a4.2=a5 at*
 obtain⟨x1,s1⟩:=a1
 obtain⟨x2,s2⟩:=a2
 obtain⟨x3,s3⟩:=a3
 obtain⟨x4,s4⟩:=a4
 obtain⟨x5,s5⟩:=a5
 simp only[dA.enc]at*
 refine aJ.of_awp mixed Tryd.func32 rfl (by kernel_rfl) (by kernel_rfl) (by simp[Tryd.ntmps32]) Tryd.results32 ?_
 repeat'(first|refine xs ?_ ?_ <;>intros|(refine wn ?_;intro bx hbx;try simp only[fb]at hbx)|((refine aJ.mono (t1 _ (by simp[AS.setBox, *])) ?_;rintro r s ⟨rfl,rfl⟩;clear t1))|((refine aJ.mono (t2 _ (by simp[AS.setBox, *])) ?_;rintro r s ⟨rfl,rfl⟩;clear t2))|((refine aJ.mono (t3 _ (by simp[AS.setBox, *])) ?_;rintro r s ⟨rfl,rfl⟩;clear t3))|((refine aJ.mono (t4 _ (by simp[AS.setBox, *])) ?_;rintro r s ⟨rfl,rfl⟩;clear t4))|((refine aJ.mono (t5 _ (by simp[AS.setBox, *])) ?_;rintro r s ⟨rfl,rfl⟩;clear t5))|((refine aE (σ.setBox rb (bR s5)) (by repeat' first|exact gH.le (by repeat' first|exact gH.refl _|refine gH.setRb ?_ _|refine gH.setBox ?_ (by simp_all [AS.fresh]) _) _|refine C4s ?_ (by simp[*]) (by simp_all [AS.fresh])) ⟨?_,rfl⟩))|refine aQ ?_|(refine aB ?_;intro bx hbx;(try simp only[fb]at hbx))|refine aD ?_|((with_reducible refine And.intro ?_ ?_);omega)|refine aA (d':=⟨⟩) ?_|refine aR (by kernel_rfl) ?_|refine aP ?_ (by repeat' first|exact lr _|assumption|refine ls ?_ ?_|refine lt ?_ ?_|simp only[*];done|simp only[fb, *,not_false_eq_true,and_self];done|exact lf ‹_› (by simp only[*]))|refine aC ?_ (by repeat' first|exact lr _|assumption|refine ls ?_ ?_|refine lt ?_ ?_|simp only[*];done|simp only[fb, *,not_false_eq_true,and_self];done|exact lf ‹_› (by simp only[*]))|simp -dsimp only[↓bp,bq,br,seval,D6y, *]|refine wz ?_|fail)
 all_goals skip
end
end Go.Proofs.YthoenjlenkpnnaaDoor
