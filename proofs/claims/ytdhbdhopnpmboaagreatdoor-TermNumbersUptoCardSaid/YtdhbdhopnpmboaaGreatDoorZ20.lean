/- Rows that lie apart: how they grow, each in its own memory. -/
import Derived.Test.YtdhbdhopnpmboaaGreatDoorZ07
import Derived.Test.YtdhbdhopnpmboaaGreatDoorZ19
set_option linter.unusedVariables false
set_option linter.unusedSimpArgs false
set_option linter.defProp false
namespace Go.Proofs.YtdhbdhopnpmboaaGreatDoor
open Go Go.Av
section
structure jF(mk:Int ->Int ->AV)(s:Nat)(E:TypeId)(rs:List jX)(N:Nat)(σ0:AS)(bg:Nat)(gl:List AV)(k:Nat)(σ:AS):Prop where
 lex:nM (zQ rs) σ0 σ
 mrk:iA mk s rs σ rs.length
 gbox:σ.box bg=some gl
 glen:gl.length=rs.length
 g0:σ0.box bg=none
 gin: ¬ zQ rs bg
 grown:∀ j,j < k ->∃ c r,rs[j]? =some r /\ gl[j]? =some (.bs c (bL r+64) s E) /\ Pre σ c (cells mk j (bL r+N)) ((bL r+64)*s) /\ c ≠ bg /\ (zQ rs c ->∃ n,r=some (c,n))
def GV(mk:Int ->Int ->AV)(s:Nat)(E:TypeId)(rs:List jX)(σ0:AS)(bg:Nat)(gl:List AV)(k:Nat)(σ:AS)(v:AV)(p m:Nat):Prop:=
 ∃ r,rs[k]? =some r /\ bL r <=p /\ p <=m /\ ((v= .nil /\ m=0) \/
  ∃ c,v= .bs c m s E /\ Pre σ c (cells mk k p) (m*s) /\ c ≠ bg /\ (zQ rs c \/ σ0.box c=none) /\ (zQ rs c ->∃ n,r=some (c,n)) /\ ∀ j,j < k ->∀ q,gl[j]? ≠ some (.bs c q s E))
section
variable {mk:Int ->Int ->AV} {s:Nat} {E:TypeId} {rs:List jX} {N:Nat} {σ0:AS} {bg:Nat} {gl:List AV} {k:Nat} {σ:AS}
theorem jF.new(h:jF mk s E rs N σ0 bg gl k σ){c:Nat}(hc:σ.box c=none)(ds:List AV):jF mk s E rs N σ0 bg gl k (σ.setBox c ds):=by
 have hne:bg ≠ c:=fun e=>by have:=h.gbox;rw[e,hc]at this;cases this
 refine⟨⟨fun b cs hb hcs=> ?_,h.lex.tip,h.lex.ty⟩,h.mrk.fresh hc ds,by simp only[AS.setBox,if_neg hne];exact h.gbox,h.glen,h.g0,h.gin,fun j hj=> ?_⟩
 ·have h1:=h.lex.box b cs hb hcs
  have:b ≠ c:=fun e=>by rw[e,hc]at h1;cases h1
  simp only[AS.setBox,if_neg this];exact h1
 ·obtain⟨c',r,h1,h2,h3,h4,h5⟩:=h.grown j hj
  exact⟨c',r,h1,h2,h3.new hc,h4,h5⟩
theorem jF.set (hd:pC rs) (h:jF mk s E rs N σ0 bg gl k σ) {c:Nat} {r:jX} (hr:rs[k]? =some r) (hne:c ≠ bg) (hin:zQ rs c \/ σ0.box c=none) (hrow:zQ rs c ->∃ n,r=some (c,n)) (hap:∀ j,j < k ->∀ q,gl[j]? ≠ some (.bs c q s E))
  {ds:List AV} (h1:cells mk k (bL r) <+:ds) (h2:bL r*s <=ds.length):jF mk s E rs N σ0 bg gl k (σ.setBox c ds):=by
 refine⟨?_,?_,by simp only[AS.setBox,if_neg (Ne.symm hne)];exact h.gbox,h.glen,h.g0,h.gin,fun j hj=> ?_⟩
 ·rcases hin with hin|hin
  ·exact h.lex.set_in hin ds
  ·exact h.lex.set_new hin ds
 ·by_cases hc:zQ rs c
  ·obtain⟨n,rfl⟩:=hrow hc
   have hk:k < rs.length:=(List.getElem?_eq_some_iff.1 hr).1
   exact h.mrk.set hd hr (by rw[if_pos hk];exact h1) h2
  ·exact h.mrk.other hc ds
 ·obtain⟨c',r',g1,g2,g3,g4,g5⟩:=h.grown j hj
  refine⟨c',r',g1,g2,g3.other fun e=> ?_,g4,g5⟩
  subst e
  exact hap j hj _ g2
theorem jF.scratch(h:jF mk s E rs N σ0 bg gl k σ){c:Nat}(hin: ¬ zQ rs c)(h0:σ0.box c=none)(hne:c ≠ bg)(hap:∀ j,j < k ->∀ q,gl[j]? ≠ some (.bs c q s E))(ds:List AV):jF mk s E rs N σ0 bg gl k (σ.setBox c ds):=by
 refine⟨h.lex.set_new h0 ds,h.mrk.other hin ds,by simp only[AS.setBox,if_neg (Ne.symm hne)];exact h.gbox,h.glen,h.g0,h.gin,fun j hj=> ?_⟩
 obtain⟨c',r',g1,g2,g3,g4,g5⟩:=h.grown j hj
 refine⟨c',r',g1,g2,g3.other fun e=> ?_,g4,g5⟩
 subst e
 exact hap j hj _ g2
theorem jF.apart(h:jF mk s E rs N σ0 bg gl k σ){c:Nat}(hc:σ.box c=none):∀ j,j < k ->∀ q,gl[j]? ≠ some (.bs c q s E):=fun j hj q e=>by
 obtain⟨c',r',g1,g2,⟨cs,g3,_⟩,g4,g5⟩:=h.grown j hj
 rw[g2]at e
 simp only[Option.some.injEq,AV.bs.injEq]at e
 obtain⟨rfl,_⟩:=e
 rw[hc]at g3;cases g3
theorem jF.start(hd:pC rs)(h:jF mk s E rs N σ0 bg gl k σ){r:jX}(hr:rs[k]? =some r):GV mk s E rs σ0 bg gl k σ (jB s E r) (bL r) (bL r):=by
 have hk:k < rs.length:=(List.getElem?_eq_some_iff.1 hr).1
 refine⟨r,hr,Nat.le_refl _,Nat.le_refl _,?_⟩
 match r,hr with
 |none,_=>exact .inl ⟨rfl,rfl⟩
 | some (b,n),hr=>
  refine .inr ⟨b,rfl,?_,fun e=>h.gin (e ▸ ⟨n,List.mem_of_getElem? hr⟩), .inl ⟨n,List.mem_of_getElem? hr⟩,fun _=> ⟨n,rfl⟩,fun j hj q e=> ?_⟩
  ·have:=h.mrk k b n hr
   rwa [if_pos hk]at this
  ·obtain⟨c',r',g1,g2,g3,g4,g5⟩:=h.grown j hj
   rw[g2]at e
   simp only[Option.some.injEq,AV.bs.injEq]at e
   obtain⟨rfl,_⟩:=e
   obtain⟨n',rfl⟩:=g5 ⟨n,List.mem_of_getElem? hr⟩
   have:=hd j k _ _ _ g1 hr
   omega
theorem jF.here(h:jF mk s E rs N σ0 bg gl k σ){c m:Nat}(hm:rs=rs)(hin:zQ rs c):∃ cs,σ.box c=some cs:=by
 obtain⟨n,hn⟩:=hin
 obtain⟨j,hj⟩:=List.getElem?_of_mem hn
 obtain⟨cs,h1,_⟩:=h.mrk j c n hj
 exact⟨cs,h1⟩
theorem jF.notIn(h:jF mk s E rs N σ0 bg gl k σ){c:Nat}(hc:σ.box c=none): ¬ zQ rs c:=h.mrk.notIn hc
theorem jF.zero(h:jF mk s E rs N σ0 bg gl k σ){c:Nat}(hc:σ.box c=none):σ0.box c=none:=by
 cases e:σ0.box c with
 |none=>rfl
 | some cs=>
  have:=h.lex.box c cs (h.notIn hc) e
  rw[hc]at this;cases this
theorem B8p{mk:Int ->Int ->AV}{k:Nat} :cells mk k 0=[]:=rfl
theorem yH {P:Program} {bZ:Nat} {t tx:TypeId} {v x:AV} {m p' q:Nat} {ys:List AV} {K:AV ->AS ->Prop} {d:Dum σ} {d':Dum K} (hs:∀ k i,(flat (mk k i)).length=s) (hd:pC rs) (he:dU P t=some (E,s,bZ)) (hsrc:E5k P σ tx x ys) (hys:∀ a,a ∈ ys -> (flat a).length=s) (hq:ys.length=q) (hne:0 < q)
  (hb:(m+q)*bZ <=140737488355328) (hI:jF mk s E rs N σ0 bg gl k σ) (hv:GV mk s E rs σ0 bg gl k σ v m m) (hp1:m <=p') (hp2:p' <=m+q) (hp:cells mk k p' <+:cells mk k m++ys.flatMap flat)
  (hK:∀ v' σ',jF mk s E rs N σ0 bg gl k σ' ->GV mk s E rs σ0 bg gl k σ' v' p' (m+q) ->K v' σ'):B0y P σ t tx v x K d d':=by
 subst hq
 have hne:ys ≠ []:=fun e=>by subst e;simp at hne
 obtain⟨r,hr,hrm,_,hcase⟩:=hv
 have hfl:(ys.flatMap flat).length=ys.length*s:=bV ys hys
 have hpl:∀ q n,q <=n ->cells mk k q <+:cells mk k n:=fun q n hqn=>by
  obtain⟨e,rfl⟩:=Nat.exists_eq_add_of_le hqn
  clear hqn
  induction e with
  |zero=>exact List.prefix_refl _
  |succ e ih=>exact ih.trans (by rw[<- Nat.add_assoc,jS];exact List.prefix_append _ _)
 refine .inr (.inr (.inr ⟨E,s,bZ,ys,he,hsrc,hys,?_⟩))
 rcases hcase with⟨rfl,rfl⟩|⟨c,rfl,⟨cs,hc,hpre,hcl⟩,hcb,hin,hrow,hap⟩
 ·refine .inl ⟨rfl,hne,by simpa using hb,fun b hf=> ?_⟩
  rw[B8p,List.nil_append]at hp
  have hnin:=hI.notIn hf.1
  have h0:=hI.zero hf.1
  have hbb:b ≠ bg:=fun e=>by have:=hI.gbox;rw[<- e,hf.1]at this;cases this
  have:=hK (.bs b ys.length s E) (σ.setBox b (ys.flatMap flat)) (hI.new hf.1 _)
   ⟨r,hr,by omega,hp2, .inr ⟨b,by rw[Nat.zero_add],⟨_,AS.set_get,hp,by rw[hfl,Nat.zero_add];exact Nat.le_refl _⟩,hbb, .inr h0,fun hi=>absurd hi hnin,hI.apart hf.1⟩⟩
  exact this
 ·have htk:cs.take (m*s)=cells mk k m:=by
   have:=B6a hpre
   rwa [A0a hs]at this
  have hlen:(cs.take (m*s)++ys.flatMap flat).length=(m+ys.length)*s:=by
   rw[List.length_append,hfl,List.length_take,Nat.add_mul];omega
  refine .inr ⟨c,m,cs,rfl,hc,hcl,hb,?_,fun b hf=> ?_⟩
  ·refine hK _ _ (hI.set hd hr hcb hin hrow hap ?_ ?_) ⟨r,hr,by omega,hp2, .inr ⟨c,rfl,⟨_,AS.set_get,by rw[htk];exact hp,by rw[hlen];exact Nat.le_refl _⟩,hcb,hin,hrow,hap⟩⟩
   ·rw[htk]
    exact(hpl _ _ hrm).trans (List.prefix_append _ _)
   ·rw[hlen,Nat.add_mul]
    have:=Nat.mul_le_mul_right s hrm
    omega
  ·have hnin:=hI.notIn hf.1
   have h0:=hI.zero hf.1
   have hbb:b ≠ bg:=fun e=>by have:=hI.gbox;rw[<- e,hf.1]at this;cases this
   exact hK _ _ (hI.new hf.1 _) ⟨r,hr,by omega,hp2, .inr ⟨b,rfl,⟨_,AS.set_get,by rw[htk];exact hp,by rw[hlen];exact Nat.le_refl _⟩,hbb, .inr h0,fun hi=>absurd hi hnin,hI.apart hf.1⟩⟩
theorem GV.bs{v:AV}{p m:Nat}(h:GV mk s E rs σ0 bg gl k σ v p m)(hm:0 < m):∃ c,v= .bs c m s E:=by
 obtain⟨_,_,_,_,⟨_,h⟩|⟨c,h,_⟩⟩:=h
 ·omega
 ·exact⟨c,h⟩
theorem B6w{l:List AV}{v:AV}(hk:k < l.length)(j:Nat):(l.take k++[v]++l.drop (k+1))[j]? =if j=k then some v else l[j]? :=by
 by_cases h:j < k
 ·rw[if_neg (by omega),List.append_assoc,List.getElem?_append_left (by rw[List.length_take];omega),List.getElem?_take,if_pos h]
 ·by_cases e:j=k
  ·subst e
   rw[if_pos rfl,List.append_assoc,List.getElem?_append_right (by rw[List.length_take];omega),List.length_take]
   have:j - min j l.length=0:=by omega
   rw[this];rfl
  ·rw[if_neg e,List.getElem?_append_right (by simp;omega)]
   simp only[List.length_append,List.length_take,List.length_cons,List.length_nil]
   rw[List.getElem?_drop]
   congr 1;omega
theorem jF.store(h:jF mk s E rs N σ0 bg gl k σ){v:AV}{p:Nat}{r:jX}(hr:rs[k]? =some r)(hv:GV mk s E rs σ0 bg gl k σ v p (bL r+64))(hp:bL r+N <=p):
  jF mk s E rs N σ0 bg (gl.take k++[v]++gl.drop (k+1)) (k+1) (σ.setBox bg (gl.take k++[v]++gl.drop (k+1))):=by
 have hk:k < rs.length:=(List.getElem?_eq_some_iff.1 hr).1
 have hpl:∀ q n,q <=n ->cells mk k q <+:cells mk k n:=fun q n hqn=>by
  obtain⟨e,rfl⟩:=Nat.exists_eq_add_of_le hqn
  clear hqn
  induction e with
  |zero=>exact List.prefix_refl _
  |succ e ih=>exact ih.trans (by rw[<- Nat.add_assoc,jS];exact List.prefix_append _ _)
 refine⟨h.lex.set_new h.g0 _,h.mrk.other h.gin _,AS.set_get,?_,h.g0,h.gin,fun j hj=> ?_⟩
 ·have:=h.glen
  simp only[List.length_append,List.length_take,List.length_drop,List.length_cons,List.length_nil];omega
 ·by_cases e:j=k
  ·subst e
   obtain⟨r',hr',_,_,hc⟩:=hv
   rw[hr]at hr'
   simp only[Option.some.injEq]at hr'
   subst hr'
   rcases hc with⟨_,h0⟩|⟨c,rfl,⟨cs,hc,hpre,hcl⟩,hcb,hin,hrow,hap⟩
   ·omega
   ·exact⟨c,r,hr,by rw[B6w (by rw[h.glen];exact hk),if_pos rfl],⟨cs,by simp only[AS.setBox,if_neg hcb];exact hc,(hpl _ _ hp).trans hpre,hcl⟩,hcb,hrow⟩
  ·obtain⟨c',r',g1,g2,g3,g4,g5⟩:=h.grown j (by omega)
   exact⟨c',r',g1,by rw[B6w (by rw[h.glen];exact hk),if_neg e];exact g2,g3.other g4,g4,g5⟩
theorem jF.again(h:jF mk s E rs N σ0 bg gl k σ)(M:Nat):jF mk s E rs M σ0 bg gl 0 σ:=⟨h.lex,h.mrk,h.gbox,h.glen,h.g0,h.gin,fun j hj=>by omega⟩
theorem nF(hs:∀ k i,(flat (mk k i)).length=s){i m:Nat}{cs:List AV}(h:cells mk k m <+:cs)(hi:i < m):∃ rest,cs.drop (i*s)=flat (mk k i)++rest:=by
 obtain⟨t,rfl⟩:=h
 have h1:cells mk k (i+1) <+:cells mk k m:=by
  obtain⟨e,rfl⟩:=Nat.exists_eq_add_of_le (show i+1 <=m by omega)
  clear hi
  induction e with
  |zero=>exact List.prefix_refl _
  |succ e ih=>exact ih.trans (by rw[<- Nat.add_assoc,jS];exact List.prefix_append _ _)
 obtain⟨u,hu⟩:=h1
 refine⟨u++t,?_⟩
 rw[<- hu,jS,List.append_assoc,List.append_assoc]
 have:=A0a hs k i
 rw[<- this,List.drop_append_of_le_length (Nat.le_refl _),List.drop_length,List.nil_append]
end
def zP(s:Nat)(ds:List AV)(n:Nat):Prop:=∃ ys:List AV,ys.length=n /\ ys.flatMap flat=ds /\ ∀ a,a ∈ ys -> (flat a).length=s /\ isv a=true
theorem zP.len{s n:Nat}{ds:List AV}(h:zP s ds n):ds.length=n*s:=by
 obtain⟨ys,h1,h2,h3⟩:=h
 rw[<- h2,bV (sz:=s) ys (fun a ha=> (h3 a ha).1),h1]
theorem B1t{s:Nat} :∀ (ys:List AV) (i:Nat),(∀ a,a ∈ ys -> (flat a).length=s) -> (ys.flatMap flat).take (i*s)=(ys.take i).flatMap flat /\ (ys.flatMap flat).drop (i*s)=(ys.drop i).flatMap flat
 |[],i,_=>by simp
 |y::ys,0,_=>by simp
 | y::ys,i+1,h=>by
  have ih:=B1t ys i (fun a ha=>h a (by simp[ha]))
  have hy:=h y (by simp)
  have e:(i+1)*s=(flat y).length+i*s:=by rw[hy,Nat.add_mul,Nat.one_mul,Nat.add_comm]
  rw[List.flatMap_cons,e,List.take_length_add_append,List.drop_length_add_append,ih.1,ih.2]
  simp
theorem zP.set{s n:Nat}{ds:List AV}(h:zP s ds n){i:Nat}(hi:i < n){v:AV}(hv:(flat v).length=s)(hw:isv v=true):zP s (ds.take (i*s)++flat v++ds.drop (i*s+s)) n:=by
 obtain⟨ys,h1,h2,h3⟩:=h
 have ha:=fun a ha=> (h3 a ha).1
 refine⟨ys.take i++[v]++ys.drop (i+1),by simp;omega,?_,fun a hm=> ?_⟩
 ·rw[<- h2,(B1t ys i ha).1,show i*s+s=(i+1)*s by rw[Nat.add_mul,Nat.one_mul],(B1t ys (i+1) ha).2]
  simp
 ·simp only[List.mem_append,List.mem_singleton]at hm
  rcases hm with(hm|rfl)|hm
  ·exact h3 a (List.mem_of_mem_take hm)
  ·exact⟨hv,hw⟩
  ·exact h3 a (List.mem_of_mem_drop hm)
theorem zP.rep{s:Nat}(n:Nat){a:AV}{zz:List AV}(hf:flat a=zz)(hs:zz.length=s)(hv:isv a=true):zP s (List.replicate n zz).flatten n:=by
 refine⟨List.replicate n a,by simp,?_,fun b hb=> ?_⟩
 ·subst hf
  clear hs
  induction n with
  |zero=>rfl
  |succ n ih=>rw[List.replicate_succ,List.flatMap_cons,ih,List.replicate_succ,List.flatten_cons]
 ·rw[List.eq_of_mem_replicate hb,hf]
  exact⟨hs,hv⟩
theorem D1t{P:Program}{t:TypeId}{s:Nat}{E:TypeId}(r:jX):jO P .len #[t] [jB s E r]=if(el P t).isSome then some (.int .i64 (bL r))else none:=by
 rcases r with _|⟨b,n⟩
 ·exact C2h
 ·exact E4k
end
set_option maxRecDepth 20000
section
def bP:=And.intro (And.intro (And.intro @jD (And.intro @iZ @jJ)) (And.intro @eG (And.intro @jE @dL))) (And.intro (And.intro @eN (And.intro @dV @eD)) (And.intro (And.intro @qJ @jZ) (And.intro @D1t @nD)))
variable (G:Nat ->AV)
theorem ftN:dU Tryz.prog 24=some (26,7,104):=dV.2.2.2.2.2.2
theorem ftE:el Tryz.prog 24=some 26:=dV.2.2.2.1
theorem ftR:dU Tryz.prog 36=some (24,1,24):=qJ.2.2.2.2.2.2
theorem ftZ:(el Tryz.prog 24).bind (zc Tryz.prog)=some [.int .u8 0, .bool false, .nil, .str [], .int .i64 0, .nil, .nil]:=by kernel_rfl
theorem ftY:(el Tryz.prog 36).bind (zc Tryz.prog)=some [.nil]:=by kernel_rfl
theorem dE(k i:Int):aB Tryz.prog G 71 [.int .i64 k, .int .i64 i] (.agg [.int .u8 0, .bool false, .nil, .str [], .int .i64 (nE k i), .nil, .nil]):=by
 intro σ
 refine aJ.of_awp mixed Tryz.func71 rfl (by kernel_rfl) (by kernel_rfl) (by simp[Tryz.ntmps71]) Tryz.results71 ?_
 repeat'(first|refine xs ?_ ?_ <;>intros|(refine wn ?_;intro bx hbx;try simp only[fb]at hbx)|refine aB.use (by apply dZ <;> (first|assumption|omega|(simp only[*];done))) ?_|refine wj ?_|simp -dsimp only[↓bp,bq,br,seval,bP, *]|refine wz ?_|fail)
 all_goals rfl
theorem A0x(k i:Int):aB Tryz.prog G 18 [.agg [.int .u8 0, .bool false, .nil, .str [], .int .i64 (nE k i), .nil, .nil], .agg [.int .u8 0, .bool false, .nil, .str [], .int .i64 (nE k i), .nil, .nil]] (.bool true):=by
 have h:=sA G (nY k i) (nY k i) (by simp[nY,aA.bulk,aV]) (by simp[nY,aA.bulk,aV])
 rw[(nH _ _).2 rfl]at h
 exact h.lessArgs (.cons (gT 0 false [] _) (.cons (gT 0 false [] _) .nil))
def mkT(k i:Int):AV:= .agg [.int .u8 0, .bool false, .nil, .str [], .int .i64 (nE k i), .nil, .nil]
theorem tE(k i:Int):(flat (mkT k i)).length=7:=rfl
set_option maxHeartbeats 8000000 in
theorem A7q(rs:List jX)(hd:pC rs)(hN:rs.length <=1000000)(hn:∀ (k:Nat) (r:jX),rs[k]? =some r ->bL r <=1000000000)(σ:AS)(h0:∀ (j b n:Nat),rs[j]? =some (some (b,n)) ->∃ cs,σ.box b=some cs /\ n*7 <=cs.length):
  aJ Tryz.prog G 96 [.sl .none (rs.map (jB 7 26)) []] σ fun r σ'=>r= .bool true /\ nM (zQ rs) σ σ':=by
 have hM0:iA mkT 7 rs σ 0:=fun j b n hj=>by
  obtain⟨cs,h1,h2⟩:=h0 j b n hj
  exact⟨cs,h1,by rw[if_neg (by omega)];exact List.nil_prefix,h2⟩
 have hinS:∀ (k b n:Nat),rs[k]? =some (some (b,n)) ->zQ rs b:=fun k b n h=> ⟨n,List.mem_of_getElem? h⟩
 clear h0
 refine aJ.of_awp mixed Tryz.func96 rfl (by kernel_rfl) (by kernel_rfl) (by simp[Tryz.ntmps96]) Tryz.results96 ?_
 repeat'(first|refine xs ?_ ?_ <;>intros|(refine wn ?_;intro bx hbx;try simp only[fb]at hbx)|refine wj ?_|simp -dsimp only[↓bp,bq,br,seval,bP, *]|refine wz ?_|fail)
 -- each is marked
 refine aI (fun n e σ'=>∃ k,k <=rs.length /\ n=rs.length - k /\ e 3= .int .i64 (k:Nat) /\ nM (zQ rs) σ σ' /\ iA mkT 7 rs σ' k) rs.length
  ⟨0,by omega,by omega,by simp -dsimp only[↓bp,bq,br,seval,bP];first|done|rfl,nM.refl _ _,hM0⟩ ?_
 clear hM0
 rintro n e1 σ1 ⟨k,hk,rfl,h3,hL,hM⟩
 simp -dsimp only[↓bp,bq,br,seval,bP]at h3
 by_cases hlt:k < rs.length
 ·have hc:((k:Int) < rs.length)=True:=eq_true (by omega)
  obtain⟨r,hr⟩:∃ r,rs[k]? =some r:=⟨_,List.getElem?_eq_getElem hlt⟩
  have hrl:=hn k r hr
  clear hn
  repeat'(first|refine xs ?_ ?_ <;>intros|(refine wn ?_;intro bx hbx;try simp only[fb]at hbx)|refine wj ?_|simp -dsimp only[↓bp,bq,br,seval,bP, *]|refine wz ?_|fail)
  refine aI (fun n e σ'=>∃ i,i <=bL r /\ n=bL r - i /\ e 4= .int .i64 (i:Nat) /\ nM (zQ rs) σ σ' /\ iA mkT 7 rs σ' k /\ ∀ b n,r=some (b,n) ->Pre σ' b (cells mkT k i) (n*7)) (bL r)
   ⟨0,by omega,by omega,by simp -dsimp only[↓bp,bq,br,seval,bP];first|done|rfl,hL,hM,fun b n hb=>by subst hb;have:=hM k b n hr;rwa [if_neg (by omega)]at this⟩ ?_
  clear hL hM
  rintro n e2 σ2 ⟨i,hi,rfl,h4,hL,hM,hP⟩
  simp -dsimp only[↓bp,bq,br,seval,bP]at h4
  by_cases hil:i < bL r
  ·have hci:((i:Int) < bL r)=True:=eq_true (by omega)
   have hwi:IntKind.i64.wrap ((i:Int)+1)=((i+1:Nat):Int):=by rw[aC (by omega) (by omega)];rfl
   rcases r with _|⟨b,n⟩
   ·simp[bL]at hil
   ·obtain⟨cs,hcs,hpre,hcl⟩:=hP b n rfl
    have hin:=hinS k b n hr
    have hbi:i < n:=hil
    have hil':(i:Int) < n:=by omega
    have hco:i*7+7 <=cs.length:=by omega
    have hst:=B5z (mk:=mkT) (k:=k) (cs:=cs) tE hpre (by omega)
    clear hP hrl hinS
    repeat'(first|refine xs ?_ ?_ <;>intros|(refine wn ?_;intro bx hbx;try simp only[fb]at hbx)|refine aB.use (dE G k i) ?_|refine aB.head (dE G k i) ?_|refine wj ?_|simp -dsimp only[↓bp,bq,br,seval,bP,jB,bL, *]|refine wz ?_|fail)
    all_goals
     refine⟨n - (i+1),by omega,i+1,by first|omega|(simp only[bL];omega),by first|rfl|simp only[bL],rfl,hL.set_in hin _,hM.set hd hr (by rw[if_neg (Nat.lt_irrefl _)];exact List.nil_prefix) (hst.2.symm ▸ hcl),fun b' n' h=> ?_⟩
     simp only[Option.some.injEq,Prod.mk.injEq]at h
     obtain⟨rfl,rfl⟩:=h
     exact⟨_,AS.set_get,hst.1,hst.2.symm ▸ hcl⟩
  ·have:i=bL r:=by omega
   subst this
   have hci:((bL r:Int) < bL r)=False:=eq_false (by omega)
   have hwk:IntKind.i64.wrap ((k:Int)+1)=((k+1:Nat):Int):=by rw[aC (by omega) (by omega)];rfl
   clear hinS
   repeat'(first|refine xs ?_ ?_ <;>intros|(refine wn ?_;intro bx hbx;try simp only[fb]at hbx)|refine wj ?_|simp -dsimp only[↓bp,bq,br,seval,bP, *]|refine wz ?_|fail)
   all_goals
    exact⟨rs.length - (k+1),by omega,k+1,by omega,rfl,rfl,hM.next fun b n h=>by
     have e:r=some (b,n):=by rw[hr]at h;simpa using h
     subst e
     exact hP b n rfl⟩
 ·have : k=rs.length:=by omega
  subst this
  have hc:((rs.length:Int) < rs.length)=False:=eq_false (by omega)
  clear hk hlt
  repeat'(first|refine xs ?_ ?_ <;>intros|(refine wn ?_;intro bx hbx;try simp only[fb]at hbx)|refine wj ?_|simp -dsimp only[↓bp,bq,br,seval,bP, *]|refine wz ?_|fail)
  refine rV rs.length ftR ftY (by omega) (fun bg hg=> ?_)
  have hI0:jF mkT 7 26 rs 64 σ bg (List.replicate rs.length [AV.nil]).flatten 0 (σ1.setBox bg (List.replicate rs.length [AV.nil]).flatten):=
   ⟨hL.set_fresh hg _,hM.fresh hg.1 _,AS.set_get,by simp,(by
     cases e:σ.box bg with
     |none=>rfl
     |some cs=>have:=hL.box bg cs (hM.notIn hg.1) e;rw[hg.1]at this;cases this),hM.notIn hg.1,fun j hj=>by omega⟩
  clear hL hM hg
  repeat'(first|refine xs ?_ ?_ <;>intros|(refine wn ?_;intro bx hbx;try simp only[fb]at hbx)|refine wj ?_|simp -dsimp only[↓bp,bq,br,seval,bP, *]|refine wz ?_|fail)
  -- each grows,one by one
  refine aI (fun n e σ'=>∃ k,k <=rs.length /\ n=rs.length - k /\ e 6= .int .i64 (k:Nat) /\ ∃ gl,jF mkT 7 26 rs 64 σ bg gl k σ') rs.length
   ⟨0,by omega,by omega,by simp -dsimp only[↓bp,bq,br,seval,bP];first|done|rfl,_,hI0⟩ ?_
  clear hI0
  rintro n e2 σ2 ⟨k,hk,rfl,h6,gl,hI⟩
  simp -dsimp only[↓bp,bq,br,seval,bP]at h6
  by_cases hlt:k < rs.length
  ·have hc:((k:Int) < rs.length)=True:=eq_true (by omega)
   obtain⟨r,hr⟩:∃ r,rs[k]? =some r:=⟨_,List.getElem?_eq_getElem hlt⟩
   have hrl:=hn k r hr
   have hV0:=hI.start hd hr
   clear hn hinS
   repeat'(first|refine xs ?_ ?_ <;>intros|(refine wn ?_;intro bx hbx;try simp only[fb]at hbx)|refine wj ?_|simp -dsimp only[↓bp,bq,br,seval,bP, *]|refine wz ?_|fail)
   refine aI (fun n e σ'=>∃ i v,i <=64 /\ n=64 - i /\ e 8= .int .i64 (i:Nat) /\ e 7=v /\ jF mkT 7 26 rs 64 σ bg gl k σ' /\ GV mkT 7 26 rs σ bg gl k σ' v (bL r+i) (bL r+i)) 64
    ⟨0,_,by omega,by omega,by simp -dsimp only[↓bp,bq,br,seval,bP];first|done|rfl,by simp -dsimp only[↓bp,bq,br,seval,bP];first|done|rfl,hI,hV0⟩ ?_
   clear hI hV0
   rintro n e3 σ3 ⟨i,v,hi,rfl,h8,h7,hI,hV⟩
   simp -dsimp only[↓bp,bq,br,seval,bP]at h8 h7
   by_cases hil:i < 64
   ·have hci:((i:Int) < 64)=True:=eq_true (by omega)
    have hwi:IntKind.i64.wrap ((i:Int)+1)=((i+1:Nat):Int):=by rw[aC (by omega) (by omega)];rfl
    have hwm:IntKind.i64.wrap ((bL r:Int)+i)=((bL r+i:Nat):Int):=by rw[aC (by omega) (by omega)];rfl
    repeat'(first|refine xs ?_ ?_ <;>intros|(refine wn ?_;intro bx hbx;try simp only[fb]at hbx)|refine aB.use (dE G k ((bL r+i:Nat):Int)) ?_|refine aB.head (dE G k ((bL r+i:Nat):Int)) ?_|(refine yH (ys:=[mkT k ((bL r+i:Nat):Int)]) (p':=bL r+i+1) (q:=1) tE hd ftN (.inl (bJ ftE)) (fun a ha=>by simp at ha;subst ha;rfl) rfl (by omega) (by omega) hI hV (by omega) (by omega) (by rw[jS];simp) (fun v' σ4 hI' hV'=> ?_))|refine wj ?_|simp -dsimp only[↓bp,bq,br,seval,bP,List.length_singleton, *]|refine wz ?_|fail)
    all_goals exact⟨64 - (i+1),by omega,i+1,_,by omega,rfl,rfl,rfl,hV'⟩
   ·have:i=64:=by omega
    subst this
    have hci:(((64:Nat):Int) < 64)=False:=eq_false (by omega)
    have hwk:IntKind.i64.wrap ((k:Int)+1)=((k+1:Nat):Int):=by rw[aC (by omega) (by omega)];rfl
    have hS:=hI.store hr hV (Nat.le_refl _)
    obtain⟨c,rfl⟩:∃ c,v= .bs c (bL r+64) 7 26:=by
     obtain⟨_,_,_,_,⟨_,h⟩|⟨c,h,_⟩⟩:=hV
     ·omega
     ·exact⟨c,h⟩
    have hgb:=hI.gbox
    have hgl:=hI.glen
    have hkg:k*1+1 <=gl.length:=by omega
    have hki:0 <=(k:Int) /\ (k:Int) < rs.length:=by omega
    clear hV hI
    repeat'(first|refine xs ?_ ?_ <;>intros|(refine wn ?_;intro bx hbx;try simp only[fb]at hbx)|refine wj ?_|simp -dsimp only[↓bp,bq,br,seval,bP, *]|refine wz ?_|fail)
    all_goals exact⟨rs.length - (k+1),by omega,k+1,by omega,rfl,rfl,_,by rw[Nat.mul_one];exact hS⟩
  ·have :k=rs.length:=by omega
   subst this
   have hc:((rs.length:Int) < rs.length)=False:=eq_false (by omega)
   clear hk hlt
   repeat'(first|refine xs ?_ ?_ <;>intros|(refine wn ?_;intro bx hbx;try simp only[fb]at hbx)|refine wj ?_|simp -dsimp only[↓bp,bq,br,seval,bP, *]|refine wz ?_|fail)
   -- all are looked at
   have hgr:=hI.grown
   have hgb:=hI.gbox
   have hgl:=hI.glen
   have hmk:=hI.mrk
   refine aD mixed (fun n e=>∃ k,k <=rs.length /\ n=rs.length - k /\ e 9= .int .i64 (k:Nat)) rs.length
    ⟨0,by omega,by omega,by simp -dsimp only[↓bp,bq,br,seval,bP];first|done|rfl⟩ ?_
   rintro n e3 ⟨k,hk,rfl,h9⟩
   simp -dsimp only[↓bp,bq,br,seval,bP]at h9
   by_cases hlt:k < rs.length
   ·have hc:((k:Int) < rs.length)=True:=eq_true (by omega)
    clear hI
    obtain⟨c,r,hr,hgk,⟨cs,hcs,hpre,hcl⟩,_,_⟩:=hgr k hlt
    have hrl:=hn k r hr
    have hgd:gl.drop (k*1)= .bs c (bL r+64) 7 26::gl.drop (k+1):=by rw[Nat.mul_one];exact dC _ _ _ hgk
    have hmr:=hmk k
    have hki:0 <=(k:Int) /\ (k:Int) < rs.length:=by omega
    clear hgr hgk hn hmk hgl
    repeat'(first|refine xs ?_ ?_ <;>intros|(refine wn ?_;intro bx hbx;try simp only[fb]at hbx)|refine wj ?_|simp -dsimp only[↓bp,bq,br,seval,bP, *]|refine wz ?_|fail)
    refine aD mixed (fun n e=>∃ i,i <=bL r+64 /\ n=bL r+64 - i /\ e 10= .int .i64 (i:Nat)) (bL r+64)
     ⟨0,by omega,by omega,by simp -dsimp only[↓bp,bq,br,seval,bP];first|done|rfl⟩ ?_
    rintro n e4 ⟨i,hi,rfl,h10⟩
    simp -dsimp only[↓bp,bq,br,seval,bP]at h10
    by_cases hil:i < bL r+64
    ·have hci:((i:Int) < ((bL r+64:Nat):Int))=True:=eq_true (by omega)
     have hwi:IntKind.i64.wrap ((i:Int)+1)=((i+1:Nat):Int):=by rw[aC (by omega) (by omega)];rfl
     obtain⟨rest,hcd0⟩:=nF tE hpre hil
     have hcd:cs.drop (i*7)=[.int .u8 0, .bool false, .nil, .str [], .int .i64 (nE (k:Int) (i:Int)), .nil, .nil]++rest:=hcd0
     clear hcd0
     by_cases hir:i < bL r
     ·have hcj:((i:Int) < bL r)=True:=eq_true (by omega)
      rcases r with _|⟨b,n⟩
      ·simp[bL]at hir
      ·obtain⟨cs2,hcs2,hpre2,hcl2⟩:=hmr b n hr
       rw[if_pos hlt]at hpre2
       obtain⟨rest2,hcd3⟩:=nF tE hpre2 hir
       have hcd2:cs2.drop (i*7)=[.int .u8 0, .bool false, .nil, .str [], .int .i64 (nE (k:Int) (i:Int)), .nil, .nil]++rest2:=hcd3
       clear hcd3
       simp only[bL]at*
       clear hmr hpre hpre2
       repeat'(first|refine xs ?_ ?_ <;>intros|(refine wn ?_;intro bx hbx;try simp only[fb]at hbx)|refine aB.use (dE G k i) ?_|refine aB.head (dE G k i) ?_|refine aB.use (A0x G k i) ?_|refine aB.head (A0x G k i) ?_|refine wj ?_|simp -dsimp only[↓bp,bq,br,seval,bP,jB,bL, *]|refine wz ?_|fail)
       all_goals exact⟨n+64 - (i+1),by omega,i+1,by omega,rfl,rfl⟩
     ·have hcj:((i:Int) < bL r)=False:=eq_false (by omega)
      clear hmr hpre
      repeat'(first|refine xs ?_ ?_ <;>intros|(refine wn ?_;intro bx hbx;try simp only[fb]at hbx)|refine aB.use (dE G k i) ?_|refine aB.head (dE G k i) ?_|refine aB.use (A0x G k i) ?_|refine aB.head (A0x G k i) ?_|refine wj ?_|simp -dsimp only[↓bp,bq,br,seval,bP, *]|refine wz ?_|fail)
      all_goals exact⟨bL r+64 - (i+1),by omega,i+1,by omega,rfl,rfl⟩
    ·have:i=bL r+64:=by omega
     subst this
     have hci:(((bL r+64:Nat):Int) < ((bL r+64:Nat):Int))=False:=eq_false (by omega)
     have hwk:IntKind.i64.wrap ((k:Int)+1)=((k+1:Nat):Int):=by rw[aC (by omega) (by omega)];rfl
     clear hmr hpre
     repeat'(first|refine xs ?_ ?_ <;>intros|(refine wn ?_;intro bx hbx;try simp only[fb]at hbx)|refine wj ?_|simp -dsimp only[↓bp,bq,br,seval,bP, *]|refine wz ?_|fail)
     all_goals exact⟨rs.length - (k+1),by omega,k+1,by omega,rfl,rfl⟩
   ·have :k=rs.length:=by omega
    subst this
    have hc:((rs.length:Int) < rs.length)=False:=eq_false (by omega)
    clear hk hlt hgr hgb hgl hmk
    repeat'(first|refine xs ?_ ?_ <;>intros|(refine wn ?_;intro bx hbx;try simp only[fb]at hbx)|refine wj ?_|simp -dsimp only[↓bp,bq,br,seval,bP, *]|refine wz ?_|fail)
    -- each grows by many at once
    have hI5:=hI.again 0
    clear hI
    refine aI (fun n e σ'=>∃ k,k <=rs.length /\ n=rs.length - k /\ e 11= .int .i64 (k:Nat) /\ ∃ gl,jF mkT 7 26 rs 0 σ bg gl k σ') rs.length
     ⟨0,by omega,by omega,by simp -dsimp only[↓bp,bq,br,seval,bP];first|done|rfl,_,hI5⟩ ?_
    clear hI5
    rintro n e4 σ4 ⟨k,hk,rfl,h11,gl,hI⟩
    simp -dsimp only[↓bp,bq,br,seval,bP]at h11
    by_cases hlt:k < rs.length
    ·have hc:((k:Int) < rs.length)=True:=eq_true (by omega)
     obtain⟨r,hr⟩:∃ r,rs[k]? =some r:=⟨_,List.getElem?_eq_getElem hlt⟩
     have hrl:=hn k r hr
     clear hn
     repeat'(first|refine xs ?_ ?_ <;>intros|(refine wn ?_;intro bx hbx;try simp only[fb]at hbx)|refine wj ?_|simp -dsimp only[↓bp,bq,br,seval,bP, *]|refine wz ?_|fail)
     refine rV 64 ftN ftZ (by omega) (fun bm hbm=> ?_)
     have hnin:=hI.notIn hbm.1
     have h00:=hI.zero hbm.1
     have hbb:bm ≠ bg:=fun e=>by have:=hI.gbox;rw[<- e,hbm.1]at this;cases this
     have hap:=hI.apart hbm.1
     have hI':=hI.new hbm.1 (List.replicate 64 [.int .u8 0, .bool false, .nil, .str [], .int .i64 0, .nil, .nil]).flatten
     have hF:zP 7 (List.replicate 64 [.int .u8 0, .bool false, .nil, .str [], .int .i64 0, .nil, .nil]).flatten 64:=zP.rep 64 (a:= .agg [.int .u8 0, .bool false, .nil, .str [], .int .i64 0, .nil, .nil]) rfl rfl rfl
     clear hI hbm
     repeat'(first|refine xs ?_ ?_ <;>intros|(refine wn ?_;intro bx hbx;try simp only[fb]at hbx)|refine wj ?_|simp -dsimp only[↓bp,bq,br,seval,bP, *]|refine wz ?_|fail)
     refine aI (fun n e σ'=>∃ i ds,i <=64 /\ n=64 - i /\ e 13= .int .i64 (i:Nat) /\ σ'.box bm=some ds /\ zP 7 ds 64 /\ jF mkT 7 26 rs 0 σ bg gl k σ') 64
      ⟨0,_,by omega,by omega,by simp -dsimp only[↓bp,bq,br,seval,bP];first|done|rfl,AS.set_get,hF,hI'⟩ ?_
     clear hI' hF
     rintro n e5 σ5 ⟨i,ds,hi,rfl,h13,hds,hF,hI⟩
     simp -dsimp only[↓bp,bq,br,seval,bP]at h13
     by_cases hil:i < 64
     ·have hci:((i:Int) < 64)=True:=eq_true (by omega)
      have hwi:IntKind.i64.wrap ((i:Int)+1)=((i+1:Nat):Int):=by rw[aC (by omega) (by omega)];rfl
      have hdl:=hF.len
      have hco:i*7+7 <=ds.length:=by omega
      have hii:0 <=(i:Int) /\ (i:Int) < (64:Nat):=by omega
      repeat'(first|refine xs ?_ ?_ <;>intros|(refine wn ?_;intro bx hbx;try simp only[fb]at hbx)|refine aB.use (dE G _ i) ?_|refine aB.head (dE G _ i) ?_|refine wj ?_|simp -dsimp only[↓bp,bq,br,seval,bP, *]|refine wz ?_|fail)
      all_goals exact⟨64 - (i+1),by omega,i+1,_,by omega,rfl,rfl,rfl,hF.set (v:=mkT _ i) hil rfl rfl,hI.scratch hnin h00 hbb hap _⟩
     ·have:i=64:=by omega
      subst this
      have hci:(((64:Nat):Int) < 64)=False:=eq_false (by omega)
      have hwk:IntKind.i64.wrap ((k:Int)+1)=((k+1:Nat):Int):=by rw[aC (by omega) (by omega)];rfl
      have hdl:=hF.len
      obtain⟨ys,hy1,hy2,hy3⟩:=hF
      have hki:0 <=(k:Int) /\ (k:Int) < rs.length:=by omega
      repeat'(first|refine xs ?_ ?_ <;>intros|(refine wn ?_;intro bx hbx;try simp only[fb]at hbx)|((refine yH (ys:=ys) (p':=bL r) (m:=bL r) (q:=64) tE hd ftN (.inr ⟨bm,64,7,26,ds,rfl,by rw[dV.2.2.2.1];rfl,hds,hy1,by omega,by rw[hy2,List.take_of_length_le (by omega)],hy3⟩) (fun a ha=> (hy3 a ha).1) hy1 (by omega) (by omega) hI (hI.start hd hr) (Nat.le_refl _) (by omega) (List.prefix_append _ _) (fun v' σ6 hI' hV'=> ?_);obtain⟨c,rfl⟩:=hV'.bs (by omega);have hgb:=hI'.gbox;have hgl:=hI'.glen;have hkg:k*1+1 <=gl.length:=(by omega);have hS:=hI'.store hr hV' (Nat.le_refl _)))|refine wj ?_|simp -dsimp only[↓bp,bq,br,seval,bP, *]|refine wz ?_|fail)
      all_goals exact⟨rs.length - (k+1),by omega,k+1,by omega,rfl,rfl,_,by rw[Nat.mul_one];exact hS⟩
    ·have:k=rs.length:=by omega
     subst this
     have hc:((rs.length:Int) < rs.length)=False:=eq_false (by omega)
     clear hk hlt
     repeat'(first|refine xs ?_ ?_ <;>intros|(refine wn ?_;intro bx hbx;try simp only[fb]at hbx)|refine wj ?_|simp -dsimp only[↓bp,bq,br,seval,bP, *]|refine wz ?_|fail)
     -- all are looked at again
     have hgr:=hI.grown
     have hgb:=hI.gbox
     have hgl:=hI.glen
     have hmk:=hI.mrk
     refine aD mixed (fun n e=>∃ k,k <=rs.length /\ n=rs.length - k /\ e 14= .int .i64 (k:Nat)) rs.length
      ⟨0,by omega,by omega,by simp -dsimp only[↓bp,bq,br,seval,bP];first|done|rfl⟩ ?_
     rintro n e5 ⟨k,hk,rfl,h14⟩
     simp -dsimp only[↓bp,bq,br,seval,bP]at h14
     by_cases hlt:k < rs.length
     ·have hc:((k:Int) < rs.length)=True:=eq_true (by omega)
      clear hI
      obtain⟨c,r,hr,hgk,⟨cs,hcs,hpre,hcl⟩,_,_⟩:=hgr k hlt
      have hrl:=hn k r hr
      have hgd:gl.drop (k*1)= .bs c (bL r+64) 7 26::gl.drop (k+1):=by rw[Nat.mul_one];exact dC _ _ _ hgk
      have hmr:=hmk k
      have hki:0 <=(k:Int) /\ (k:Int) < rs.length:=by omega
      clear hgr hgk hn hmk hgl
      repeat'(first|refine xs ?_ ?_ <;>intros|(refine wn ?_;intro bx hbx;try simp only[fb]at hbx)|refine wj ?_|simp -dsimp only[↓bp,bq,br,seval,bP, *]|refine wz ?_|fail)
      refine aD mixed (fun n e=>∃ i,i <=bL r /\ n=bL r - i /\ e 15= .int .i64 (i:Nat)) (bL r)
       ⟨0,by omega,by omega,by simp -dsimp only[↓bp,bq,br,seval,bP];first|done|rfl⟩ ?_
      rintro n e6 ⟨i,hi,rfl,h15⟩
      simp -dsimp only[↓bp,bq,br,seval,bP]at h15
      by_cases hil:i < bL r
      ·have hci:((i:Int) < bL r)=True:=eq_true (by omega)
       have hwi:IntKind.i64.wrap ((i:Int)+1)=((i+1:Nat):Int):=by rw[aC (by omega) (by omega)];rfl
       obtain⟨rest,hcd0⟩:=nF tE hpre hil
       have hcd:cs.drop (i*7)=[.int .u8 0, .bool false, .nil, .str [], .int .i64 (nE (k:Int) (i:Int)), .nil, .nil]++rest:=hcd0
       clear hcd0
       rcases r with _|⟨b,n⟩
       ·simp[bL]at hil
       ·obtain⟨cs2,hcs2,hpre2,hcl2⟩:=hmr b n hr
        rw[if_pos hlt]at hpre2
        obtain⟨rest2,hcd3⟩:=nF tE hpre2 hil
        have hcd2:cs2.drop (i*7)=[.int .u8 0, .bool false, .nil, .str [], .int .i64 (nE (k:Int) (i:Int)), .nil, .nil]++rest2:=hcd3
        clear hcd3
        simp only[bL]at*
        have hcn:0 <=(i:Int) /\ (i:Int) < ((n+64:Nat):Int):=by omega
        have hcm:((i:Int) < ((n+64:Nat):Int))=True:=eq_true (by omega)
        clear hmr hpre hpre2
        repeat'(first|refine xs ?_ ?_ <;>intros|(refine wn ?_;intro bx hbx;try simp only[fb]at hbx)|refine aB.use (dE G k i) ?_|refine aB.head (dE G k i) ?_|refine aB.use (A0x G k i) ?_|refine aB.head (A0x G k i) ?_|refine wj ?_|simp -dsimp only[↓bp,bq,br,seval,bP,jB,bL, *]|refine wz ?_|fail)
        all_goals exact⟨n - (i+1),by omega,i+1,by omega,rfl,rfl⟩
      ·have:i=bL r:=by omega
       subst this
       have hci:((bL r:Int) < bL r)=False:=eq_false (by omega)
       have hwk:IntKind.i64.wrap ((k:Int)+1)=((k+1:Nat):Int):=by rw[aC (by omega) (by omega)];rfl
       clear hmr hpre
       repeat'(first|refine xs ?_ ?_ <;>intros|(refine wn ?_;intro bx hbx;try simp only[fb]at hbx)|refine wj ?_|simp -dsimp only[↓bp,bq,br,seval,bP, *]|refine wz ?_|fail)
       all_goals exact⟨rs.length - (k+1),by omega,k+1,by omega,rfl,rfl⟩
     ·have:k=rs.length:=by omega
      subst this
      have hc:((rs.length:Int) < rs.length)=False:=eq_false (by omega)
      have hlx:=hI.lex
      clear hk hlt hgr hgb hgl hmk hI
      repeat'(first|refine xs ?_ ?_ <;>intros|(refine wn ?_;intro bx hbx;try simp only[fb]at hbx)|refine wj ?_|simp -dsimp only[↓bp,bq,br,seval,bP, *]|refine wz ?_|fail)
      all_goals exact aE _ (AS.le.refl _) ⟨rfl,hlx⟩
end
set_option maxRecDepth 20000
section
def bS:=And.intro (And.intro (And.intro @jD @iZ) (And.intro @jJ (And.intro @eG @jE))) (And.intro (And.intro @dL @C6y) (And.intro @jZ (And.intro @D1t @nD)))
variable (G:Nat ->AV)
theorem flN:dU Tryz.prog 23=some (47,1,4):=dL.2.2.2.2.2.2
theorem flE:el Tryz.prog 23=some 47:=dL.2.2.2.1
theorem flR:dU Tryz.prog 73=some (23,1,24):=C6y.2.2.2.2.2.2
theorem flZ:(el Tryz.prog 23).bind (zc Tryz.prog)=some [.int .u32 0]:=by kernel_rfl
theorem flY:(el Tryz.prog 73).bind (zc Tryz.prog)=some [.nil]:=by kernel_rfl
def mkL(k i:Int):AV:= .int .u32 (IntKind.u32.wrap (nE k i))
theorem tD(k i:Int):(flat (mkL k i)).length=1:=rfl
set_option maxHeartbeats 8000000 in
theorem A7l(rs:List jX)(hd:pC rs)(hN:rs.length <=1000000)(hn:∀ (k:Nat) (r:jX),rs[k]? =some r ->bL r <=1000000000)(σ:AS)(h0:∀ (j b n:Nat),rs[j]? =some (some (b,n)) ->∃ cs,σ.box b=some cs /\ n*1 <=cs.length):
  aJ Tryz.prog G 89 [.sl .none (rs.map (jB 1 47)) []] σ fun r σ'=>r= .bool true /\ nM (zQ rs) σ σ':=by
 have hM0:iA mkL 1 rs σ 0:=fun j b n hj=>by
  obtain⟨cs,h1,h2⟩:=h0 j b n hj
  exact⟨cs,h1,by rw[if_neg (by omega)];exact List.nil_prefix,h2⟩
 have hinS:∀ (k b n:Nat),rs[k]? =some (some (b,n)) ->zQ rs b:=fun k b n h=> ⟨n,List.mem_of_getElem? h⟩
 clear h0
 refine aJ.of_awp mixed Tryz.func89 rfl (by kernel_rfl) (by kernel_rfl) (by simp[Tryz.ntmps89]) Tryz.results89 ?_
 repeat'(first|refine xs ?_ ?_ <;>intros|(refine wn ?_;intro bx hbx;try simp only[fb]at hbx)|refine wj ?_|simp -dsimp only[↓bp,bq,br,seval,bS, *]|refine wz ?_|fail)
 -- each is marked
 refine aI (fun n e σ'=>∃ k,k <=rs.length /\ n=rs.length - k /\ e 3= .int .i64 (k:Nat) /\ nM (zQ rs) σ σ' /\ iA mkL 1 rs σ' k) rs.length
  ⟨0,by omega,by omega,by simp -dsimp only[↓bp,bq,br,seval,bS];first|done|rfl,nM.refl _ _,hM0⟩ ?_
 clear hM0
 rintro n e1 σ1 ⟨k,hk,rfl,h3,hL,hM⟩
 simp -dsimp only[↓bp,bq,br,seval,bS]at h3
 by_cases hlt:k < rs.length
 ·have hc:((k:Int) < rs.length)=True:=eq_true (by omega)
  obtain⟨r,hr⟩:∃ r,rs[k]? =some r:=⟨_,List.getElem?_eq_getElem hlt⟩
  have hrl:=hn k r hr
  clear hn
  repeat'(first|refine xs ?_ ?_ <;>intros|(refine wn ?_;intro bx hbx;try simp only[fb]at hbx)|refine wj ?_|simp -dsimp only[↓bp,bq,br,seval,bS, *]|refine wz ?_|fail)
  refine aI (fun n e σ'=>∃ i,i <=bL r /\ n=bL r - i /\ e 4= .int .i64 (i:Nat) /\ nM (zQ rs) σ σ' /\ iA mkL 1 rs σ' k /\ ∀ b n,r=some (b,n) ->Pre σ' b (cells mkL k i) (n*1)) (bL r)
   ⟨0,by omega,by omega,by simp -dsimp only[↓bp,bq,br,seval,bS];first|done|rfl,hL,hM,fun b n hb=>by subst hb;have:=hM k b n hr;rwa [if_neg (by omega)]at this⟩ ?_
  clear hL hM
  rintro n e2 σ2 ⟨i,hi,rfl,h4,hL,hM,hP⟩
  simp -dsimp only[↓bp,bq,br,seval,bS]at h4
  by_cases hil:i < bL r
  ·have hci:((i:Int) < bL r)=True:=eq_true (by omega)
   have hwi:IntKind.i64.wrap ((i:Int)+1)=((i+1:Nat):Int):=by rw[aC (by omega) (by omega)];rfl
   rcases r with _|⟨b,n⟩
   ·simp[bL]at hil
   ·obtain⟨cs,hcs,hpre,hcl⟩:=hP b n rfl
    have hin:=hinS k b n hr
    have hbi:i < n:=hil
    have hil':(i:Int) < n:=by omega
    have hco:i*1+1 <=cs.length:=by omega
    have hst:=B5z (mk:=mkL) (k:=k) (cs:=cs) tD hpre (by omega)
    clear hP hrl hinS
    repeat'(first|refine xs ?_ ?_ <;>intros|(refine wn ?_;intro bx hbx;try simp only[fb]at hbx)|refine aB.use (dZ G k i) ?_|refine aB.head (dZ G k i) ?_|refine wj ?_|simp -dsimp only[↓bp,bq,br,seval,bS,jB,bL, *]|refine wz ?_|fail)
    all_goals
     refine⟨n - (i+1),by omega,i+1,by first|omega|(simp only[bL];omega),by first|rfl|simp only[bL],rfl,hL.set_in hin _,hM.set hd hr (by rw[if_neg (Nat.lt_irrefl _)];exact List.nil_prefix) (hst.2.symm ▸ hcl),fun b' n' h=> ?_⟩
     simp only[Option.some.injEq,Prod.mk.injEq]at h
     obtain⟨rfl,rfl⟩:=h
     exact⟨_,AS.set_get,hst.1,hst.2.symm ▸ hcl⟩
  ·have:i=bL r:=by omega
   subst this
   have hci:((bL r:Int) < bL r)=False:=eq_false (by omega)
   have hwk:IntKind.i64.wrap ((k:Int)+1)=((k+1:Nat):Int):=by rw[aC (by omega) (by omega)];rfl
   clear hinS
   repeat'(first|refine xs ?_ ?_ <;>intros|(refine wn ?_;intro bx hbx;try simp only[fb]at hbx)|refine wj ?_|simp -dsimp only[↓bp,bq,br,seval,bS, *]|refine wz ?_|fail)
   all_goals
    exact⟨rs.length - (k+1),by omega,k+1,by omega,rfl,rfl,hM.next fun b n h=>by
     have e:r=some (b,n):=by rw[hr]at h;simpa using h
     subst e
     exact hP b n rfl⟩
 ·have : k=rs.length:=by omega
  subst this
  have hc:((rs.length:Int) < rs.length)=False:=eq_false (by omega)
  clear hk hlt
  repeat'(first|refine xs ?_ ?_ <;>intros|(refine wn ?_;intro bx hbx;try simp only[fb]at hbx)|refine wj ?_|simp -dsimp only[↓bp,bq,br,seval,bS, *]|refine wz ?_|fail)
  refine rV rs.length flR flY (by omega) (fun bg hg=> ?_)
  have hI0:jF mkL 1 47 rs 64 σ bg (List.replicate rs.length [AV.nil]).flatten 0 (σ1.setBox bg (List.replicate rs.length [AV.nil]).flatten):=
   ⟨hL.set_fresh hg _,hM.fresh hg.1 _,AS.set_get,by simp,(by
     cases e:σ.box bg with
     |none=>rfl
     |some cs=>have:=hL.box bg cs (hM.notIn hg.1) e;rw[hg.1]at this;cases this),hM.notIn hg.1,fun j hj=>by omega⟩
  clear hL hM hg
  repeat'(first|refine xs ?_ ?_ <;>intros|(refine wn ?_;intro bx hbx;try simp only[fb]at hbx)|refine wj ?_|simp -dsimp only[↓bp,bq,br,seval,bS, *]|refine wz ?_|fail)
  -- each grows,one by one
  refine aI (fun n e σ'=>∃ k,k <=rs.length /\ n=rs.length - k /\ e 6= .int .i64 (k:Nat) /\ ∃ gl,jF mkL 1 47 rs 64 σ bg gl k σ') rs.length
   ⟨0,by omega,by omega,by simp -dsimp only[↓bp,bq,br,seval,bS];first|done|rfl,_,hI0⟩ ?_
  clear hI0
  rintro n e2 σ2 ⟨k,hk,rfl,h6,gl,hI⟩
  simp -dsimp only[↓bp,bq,br,seval,bS]at h6
  by_cases hlt:k < rs.length
  ·have hc:((k:Int) < rs.length)=True:=eq_true (by omega)
   obtain⟨r,hr⟩:∃ r,rs[k]? =some r:=⟨_,List.getElem?_eq_getElem hlt⟩
   have hrl:=hn k r hr
   have hV0:=hI.start hd hr
   clear hn hinS
   repeat'(first|refine xs ?_ ?_ <;>intros|(refine wn ?_;intro bx hbx;try simp only[fb]at hbx)|refine wj ?_|simp -dsimp only[↓bp,bq,br,seval,bS, *]|refine wz ?_|fail)
   refine aI (fun n e σ'=>∃ i v,i <=64 /\ n=64 - i /\ e 8= .int .i64 (i:Nat) /\ e 7=v /\ jF mkL 1 47 rs 64 σ bg gl k σ' /\ GV mkL 1 47 rs σ bg gl k σ' v (bL r+i) (bL r+i)) 64
    ⟨0,_,by omega,by omega,by simp -dsimp only[↓bp,bq,br,seval,bS];first|done|rfl,by simp -dsimp only[↓bp,bq,br,seval,bS];first|done|rfl,hI,hV0⟩ ?_
   clear hI hV0
   rintro n e3 σ3 ⟨i,v,hi,rfl,h8,h7,hI,hV⟩
   simp -dsimp only[↓bp,bq,br,seval,bS]at h8 h7
   by_cases hil:i < 64
   ·have hci:((i:Int) < 64)=True:=eq_true (by omega)
    have hwi:IntKind.i64.wrap ((i:Int)+1)=((i+1:Nat):Int):=by rw[aC (by omega) (by omega)];rfl
    have hwm:IntKind.i64.wrap ((bL r:Int)+i)=((bL r+i:Nat):Int):=by rw[aC (by omega) (by omega)];rfl
    repeat'(first|refine xs ?_ ?_ <;>intros|(refine wn ?_;intro bx hbx;try simp only[fb]at hbx)|refine aB.use (dZ G k ((bL r+i:Nat):Int)) ?_|refine aB.head (dZ G k ((bL r+i:Nat):Int)) ?_|(refine yH (ys:=[mkL k ((bL r+i:Nat):Int)]) (p':=bL r+i+1) (q:=1) tD hd flN (.inl (bJ flE)) (fun a ha=>by simp at ha;subst ha;rfl) rfl (by omega) (by omega) hI hV (by omega) (by omega) (by rw[jS];simp) (fun v' σ4 hI' hV'=> ?_))|refine wj ?_|simp -dsimp only[↓bp,bq,br,seval,bS,List.length_singleton, *]|refine wz ?_|fail)
    all_goals exact⟨64 - (i+1),by omega,i+1,_,by omega,rfl,rfl,rfl,hV'⟩
   ·have:i=64:=by omega
    subst this
    have hci:(((64:Nat):Int) < 64)=False:=eq_false (by omega)
    have hwk:IntKind.i64.wrap ((k:Int)+1)=((k+1:Nat):Int):=by rw[aC (by omega) (by omega)];rfl
    have hS:=hI.store hr hV (Nat.le_refl _)
    obtain⟨c,rfl⟩:∃ c,v= .bs c (bL r+64) 1 47:=by
     obtain⟨_,_,_,_,⟨_,h⟩|⟨c,h,_⟩⟩:=hV
     ·omega
     ·exact⟨c,h⟩
    have hgb:=hI.gbox
    have hgl:=hI.glen
    have hkg:k*1+1 <=gl.length:=by omega
    have hki:0 <=(k:Int) /\ (k:Int) < rs.length:=by omega
    clear hV hI
    repeat'(first|refine xs ?_ ?_ <;>intros|(refine wn ?_;intro bx hbx;try simp only[fb]at hbx)|refine wj ?_|simp -dsimp only[↓bp,bq,br,seval,bS, *]|refine wz ?_|fail)
    all_goals exact⟨rs.length - (k+1),by omega,k+1,by omega,rfl,rfl,_,by rw[Nat.mul_one];exact hS⟩
  ·have :k=rs.length:=by omega
   subst this
   have hc:((rs.length:Int) < rs.length)=False:=eq_false (by omega)
   clear hk hlt
   repeat'(first|refine xs ?_ ?_ <;>intros|(refine wn ?_;intro bx hbx;try simp only[fb]at hbx)|refine wj ?_|simp -dsimp only[↓bp,bq,br,seval,bS, *]|refine wz ?_|fail)
   -- all are looked at
   have hgr:=hI.grown
   have hgb:=hI.gbox
   have hgl:=hI.glen
   have hmk:=hI.mrk
   refine aD mixed (fun n e=>∃ k,k <=rs.length /\ n=rs.length - k /\ e 9= .int .i64 (k:Nat)) rs.length
    ⟨0,by omega,by omega,by simp -dsimp only[↓bp,bq,br,seval,bS];first|done|rfl⟩ ?_
   rintro n e3 ⟨k,hk,rfl,h9⟩
   simp -dsimp only[↓bp,bq,br,seval,bS]at h9
   by_cases hlt:k < rs.length
   ·have hc:((k:Int) < rs.length)=True:=eq_true (by omega)
    clear hI
    obtain⟨c,r,hr,hgk,⟨cs,hcs,hpre,hcl⟩,_,_⟩:=hgr k hlt
    have hrl:=hn k r hr
    have hgd:gl.drop (k*1)= .bs c (bL r+64) 1 47::gl.drop (k+1):=by rw[Nat.mul_one];exact dC _ _ _ hgk
    have hmr:=hmk k
    have hki:0 <=(k:Int) /\ (k:Int) < rs.length:=by omega
    clear hgr hgk hn hmk hgl
    repeat'(first|refine xs ?_ ?_ <;>intros|(refine wn ?_;intro bx hbx;try simp only[fb]at hbx)|refine wj ?_|simp -dsimp only[↓bp,bq,br,seval,bS, *]|refine wz ?_|fail)
    refine aD mixed (fun n e=>∃ i,i <=bL r+64 /\ n=bL r+64 - i /\ e 10= .int .i64 (i:Nat)) (bL r+64)
     ⟨0,by omega,by omega,by simp -dsimp only[↓bp,bq,br,seval,bS];first|done|rfl⟩ ?_
    rintro n e4 ⟨i,hi,rfl,h10⟩
    simp -dsimp only[↓bp,bq,br,seval,bS]at h10
    by_cases hil:i < bL r+64
    ·have hci:((i:Int) < ((bL r+64:Nat):Int))=True:=eq_true (by omega)
     have hwi:IntKind.i64.wrap ((i:Int)+1)=((i+1:Nat):Int):=by rw[aC (by omega) (by omega)];rfl
     obtain⟨rest,hcd0⟩:=nF tD hpre hil
     have hcd:cs.drop (i*1)=[.int .u32 (IntKind.u32.wrap (nE (k:Int) (i:Int)))]++rest:=hcd0
     clear hcd0
     by_cases hir:i < bL r
     ·have hcj:((i:Int) < bL r)=True:=eq_true (by omega)
      rcases r with _|⟨b,n⟩
      ·simp[bL]at hir
      ·obtain⟨cs2,hcs2,hpre2,hcl2⟩:=hmr b n hr
       rw[if_pos hlt]at hpre2
       obtain⟨rest2,hcd3⟩:=nF tD hpre2 hir
       have hcd2:cs2.drop (i*1)=[.int .u32 (IntKind.u32.wrap (nE (k:Int) (i:Int)))]++rest2:=hcd3
       clear hcd3
       simp only[bL]at*
       clear hmr hpre hpre2
       repeat'(first|refine xs ?_ ?_ <;>intros|(refine wn ?_;intro bx hbx;try simp only[fb]at hbx)|refine aB.use (dZ G k i) ?_|refine aB.head (dZ G k i) ?_|refine wj ?_|simp -dsimp only[↓bp,bq,br,seval,bS,jB,bL, *]|refine wz ?_|fail)
       all_goals exact⟨n+64 - (i+1),by omega,i+1,by omega,rfl,rfl⟩
     ·have hcj:((i:Int) < bL r)=False:=eq_false (by omega)
      clear hmr hpre
      repeat'(first|refine xs ?_ ?_ <;>intros|(refine wn ?_;intro bx hbx;try simp only[fb]at hbx)|refine aB.use (dZ G k i) ?_|refine aB.head (dZ G k i) ?_|refine wj ?_|simp -dsimp only[↓bp,bq,br,seval,bS, *]|refine wz ?_|fail)
      all_goals exact⟨bL r+64 - (i+1),by omega,i+1,by omega,rfl,rfl⟩
    ·have:i=bL r+64:=by omega
     subst this
     have hci:(((bL r+64:Nat):Int) < ((bL r+64:Nat):Int))=False:=eq_false (by omega)
     have hwk:IntKind.i64.wrap ((k:Int)+1)=((k+1:Nat):Int):=by rw[aC (by omega) (by omega)];rfl
     clear hmr hpre
     repeat'(first|refine xs ?_ ?_ <;>intros|(refine wn ?_;intro bx hbx;try simp only[fb]at hbx)|refine wj ?_|simp -dsimp only[↓bp,bq,br,seval,bS, *]|refine wz ?_|fail)
     all_goals exact⟨rs.length - (k+1),by omega,k+1,by omega,rfl,rfl⟩
   ·have :k=rs.length:=by omega
    subst this
    have hc:((rs.length:Int) < rs.length)=False:=eq_false (by omega)
    clear hk hlt hgr hgb hgl hmk
    repeat'(first|refine xs ?_ ?_ <;>intros|(refine wn ?_;intro bx hbx;try simp only[fb]at hbx)|refine wj ?_|simp -dsimp only[↓bp,bq,br,seval,bS, *]|refine wz ?_|fail)
    -- each grows by many at once
    have hI5:=hI.again 0
    clear hI
    refine aI (fun n e σ'=>∃ k,k <=rs.length /\ n=rs.length - k /\ e 11= .int .i64 (k:Nat) /\ ∃ gl,jF mkL 1 47 rs 0 σ bg gl k σ') rs.length
     ⟨0,by omega,by omega,by simp -dsimp only[↓bp,bq,br,seval,bS];first|done|rfl,_,hI5⟩ ?_
    clear hI5
    rintro n e4 σ4 ⟨k,hk,rfl,h11,gl,hI⟩
    simp -dsimp only[↓bp,bq,br,seval,bS]at h11
    by_cases hlt:k < rs.length
    ·have hc:((k:Int) < rs.length)=True:=eq_true (by omega)
     obtain⟨r,hr⟩:∃ r,rs[k]? =some r:=⟨_,List.getElem?_eq_getElem hlt⟩
     have hrl:=hn k r hr
     clear hn
     repeat'(first|refine xs ?_ ?_ <;>intros|(refine wn ?_;intro bx hbx;try simp only[fb]at hbx)|refine wj ?_|simp -dsimp only[↓bp,bq,br,seval,bS, *]|refine wz ?_|fail)
     refine rV 64 flN flZ (by omega) (fun bm hbm=> ?_)
     have hnin:=hI.notIn hbm.1
     have h00:=hI.zero hbm.1
     have hbb:bm ≠ bg:=fun e=>by have:=hI.gbox;rw[<- e,hbm.1]at this;cases this
     have hap:=hI.apart hbm.1
     have hI':=hI.new hbm.1 (List.replicate 64 [.int .u32 0]).flatten
     have hF:zP 1 (List.replicate 64 [.int .u32 0]).flatten 64:=zP.rep 64 (a:= .int .u32 0) rfl rfl rfl
     clear hI hbm
     repeat'(first|refine xs ?_ ?_ <;>intros|(refine wn ?_;intro bx hbx;try simp only[fb]at hbx)|refine wj ?_|simp -dsimp only[↓bp,bq,br,seval,bS, *]|refine wz ?_|fail)
     refine aI (fun n e σ'=>∃ i ds,i <=64 /\ n=64 - i /\ e 13= .int .i64 (i:Nat) /\ σ'.box bm=some ds /\ zP 1 ds 64 /\ jF mkL 1 47 rs 0 σ bg gl k σ') 64
      ⟨0,_,by omega,by omega,by simp -dsimp only[↓bp,bq,br,seval,bS];first|done|rfl,AS.set_get,hF,hI'⟩ ?_
     clear hI' hF
     rintro n e5 σ5 ⟨i,ds,hi,rfl,h13,hds,hF,hI⟩
     simp -dsimp only[↓bp,bq,br,seval,bS]at h13
     by_cases hil:i < 64
     ·have hci:((i:Int) < 64)=True:=eq_true (by omega)
      have hwi:IntKind.i64.wrap ((i:Int)+1)=((i+1:Nat):Int):=by rw[aC (by omega) (by omega)];rfl
      have hdl:=hF.len
      have hco:i*1+1 <=ds.length:=by omega
      have hii:0 <=(i:Int) /\ (i:Int) < (64:Nat):=by omega
      repeat'(first|refine xs ?_ ?_ <;>intros|(refine wn ?_;intro bx hbx;try simp only[fb]at hbx)|refine aB.use (dZ G _ i) ?_|refine aB.head (dZ G _ i) ?_|refine wj ?_|simp -dsimp only[↓bp,bq,br,seval,bS, *]|refine wz ?_|fail)
      all_goals exact⟨64 - (i+1),by omega,i+1,_,by omega,rfl,rfl,rfl,hF.set (v:=mkL _ i) hil rfl rfl,hI.scratch hnin h00 hbb hap _⟩
     ·have:i=64:=by omega
      subst this
      have hci:(((64:Nat):Int) < 64)=False:=eq_false (by omega)
      have hwk:IntKind.i64.wrap ((k:Int)+1)=((k+1:Nat):Int):=by rw[aC (by omega) (by omega)];rfl
      have hdl:=hF.len
      obtain⟨ys,hy1,hy2,hy3⟩:=hF
      have hki:0 <=(k:Int) /\ (k:Int) < rs.length:=by omega
      repeat'(first|refine xs ?_ ?_ <;>intros|(refine wn ?_;intro bx hbx;try simp only[fb]at hbx)|((refine yH (ys:=ys) (p':=bL r) (m:=bL r) (q:=64) tD hd flN (.inr ⟨bm,64,1,47,ds,rfl,by rw[dL.2.2.2.1];rfl,hds,hy1,by omega,by rw[hy2,List.take_of_length_le (by omega)],hy3⟩) (fun a ha=> (hy3 a ha).1) hy1 (by omega) (by omega) hI (hI.start hd hr) (Nat.le_refl _) (by omega) (List.prefix_append _ _) (fun v' σ6 hI' hV'=> ?_);obtain⟨c,rfl⟩:=hV'.bs (by omega);have hgb:=hI'.gbox;have hgl:=hI'.glen;have hkg:k*1+1 <=gl.length:=(by omega);have hS:=hI'.store hr hV' (Nat.le_refl _)))|refine wj ?_|simp -dsimp only[↓bp,bq,br,seval,bS, *]|refine wz ?_|fail)
      all_goals exact⟨rs.length - (k+1),by omega,k+1,by omega,rfl,rfl,_,by rw[Nat.mul_one];exact hS⟩
    ·have:k=rs.length:=by omega
     subst this
     have hc:((rs.length:Int) < rs.length)=False:=eq_false (by omega)
     clear hk hlt
     repeat'(first|refine xs ?_ ?_ <;>intros|(refine wn ?_;intro bx hbx;try simp only[fb]at hbx)|refine wj ?_|simp -dsimp only[↓bp,bq,br,seval,bS, *]|refine wz ?_|fail)
     -- all are looked at again
     have hgr:=hI.grown
     have hgb:=hI.gbox
     have hgl:=hI.glen
     have hmk:=hI.mrk
     refine aD mixed (fun n e=>∃ k,k <=rs.length /\ n=rs.length - k /\ e 14= .int .i64 (k:Nat)) rs.length
      ⟨0,by omega,by omega,by simp -dsimp only[↓bp,bq,br,seval,bS];first|done|rfl⟩ ?_
     rintro n e5 ⟨k,hk,rfl,h14⟩
     simp -dsimp only[↓bp,bq,br,seval,bS]at h14
     by_cases hlt:k < rs.length
     ·have hc:((k:Int) < rs.length)=True:=eq_true (by omega)
      clear hI
      obtain⟨c,r,hr,hgk,⟨cs,hcs,hpre,hcl⟩,_,_⟩:=hgr k hlt
      have hrl:=hn k r hr
      have hgd:gl.drop (k*1)= .bs c (bL r+64) 1 47::gl.drop (k+1):=by rw[Nat.mul_one];exact dC _ _ _ hgk
      have hmr:=hmk k
      have hki:0 <=(k:Int) /\ (k:Int) < rs.length:=by omega
      clear hgr hgk hn hmk hgl
      repeat'(first|refine xs ?_ ?_ <;>intros|(refine wn ?_;intro bx hbx;try simp only[fb]at hbx)|refine wj ?_|simp -dsimp only[↓bp,bq,br,seval,bS, *]|refine wz ?_|fail)
      refine aD mixed (fun n e=>∃ i,i <=bL r /\ n=bL r - i /\ e 15= .int .i64 (i:Nat)) (bL r)
       ⟨0,by omega,by omega,by simp -dsimp only[↓bp,bq,br,seval,bS];first|done|rfl⟩ ?_
      rintro n e6 ⟨i,hi,rfl,h15⟩
      simp -dsimp only[↓bp,bq,br,seval,bS]at h15
      by_cases hil:i < bL r
      ·have hci:((i:Int) < bL r)=True:=eq_true (by omega)
       have hwi:IntKind.i64.wrap ((i:Int)+1)=((i+1:Nat):Int):=by rw[aC (by omega) (by omega)];rfl
       obtain⟨rest,hcd0⟩:=nF tD hpre hil
       have hcd:cs.drop (i*1)=[.int .u32 (IntKind.u32.wrap (nE (k:Int) (i:Int)))]++rest:=hcd0
       clear hcd0
       rcases r with _|⟨b,n⟩
       ·simp[bL]at hil
       ·obtain⟨cs2,hcs2,hpre2,hcl2⟩:=hmr b n hr
        rw[if_pos hlt]at hpre2
        obtain⟨rest2,hcd3⟩:=nF tD hpre2 hil
        have hcd2:cs2.drop (i*1)=[.int .u32 (IntKind.u32.wrap (nE (k:Int) (i:Int)))]++rest2:=hcd3
        clear hcd3
        simp only[bL]at*
        have hcn:0 <=(i:Int) /\ (i:Int) < ((n+64:Nat):Int):=by omega
        have hcm:((i:Int) < ((n+64:Nat):Int))=True:=eq_true (by omega)
        clear hmr hpre hpre2
        repeat'(first|refine xs ?_ ?_ <;>intros|(refine wn ?_;intro bx hbx;try simp only[fb]at hbx)|refine aB.use (dZ G k i) ?_|refine aB.head (dZ G k i) ?_|refine wj ?_|simp -dsimp only[↓bp,bq,br,seval,bS,jB,bL, *]|refine wz ?_|fail)
        all_goals exact⟨n - (i+1),by omega,i+1,by omega,rfl,rfl⟩
      ·have:i=bL r:=by omega
       subst this
       have hci:((bL r:Int) < bL r)=False:=eq_false (by omega)
       have hwk:IntKind.i64.wrap ((k:Int)+1)=((k+1:Nat):Int):=by rw[aC (by omega) (by omega)];rfl
       clear hmr hpre
       repeat'(first|refine xs ?_ ?_ <;>intros|(refine wn ?_;intro bx hbx;try simp only[fb]at hbx)|refine wj ?_|simp -dsimp only[↓bp,bq,br,seval,bS, *]|refine wz ?_|fail)
       all_goals exact⟨rs.length - (k+1),by omega,k+1,by omega,rfl,rfl⟩
     ·have:k=rs.length:=by omega
      subst this
      have hc:((rs.length:Int) < rs.length)=False:=eq_false (by omega)
      have hlx:=hI.lex
      clear hk hlt hgr hgb hgl hmk hI
      repeat'(first|refine xs ?_ ?_ <;>intros|(refine wn ?_;intro bx hbx;try simp only[fb]at hbx)|refine wj ?_|simp -dsimp only[↓bp,bq,br,seval,bS, *]|refine wz ?_|fail)
      all_goals exact aE _ (AS.le.refl _) ⟨rfl,hlx⟩
end
end Go.Proofs.YtdhbdhopnpmboaaGreatDoor
