/- TermNumbers on abstract values: joined. -/
import Derived.Test.YtdhbdhopnpmboaaGreatDoorZ22
import Derived.Test.YtdhbdhopnpmboaaGreatDoorZ21
import Derived.Test.YtdhbdhopnpmboaaGreatDoorZ07
import Derived.Test.YtdhbdhopnpmboaaGreatDoorRows
import Derived.Test.YtdhbdhopnpmboaaGreatDoorZ17
set_option linter.unusedVariables false
set_option linter.unusedSimpArgs false
set_option maxRecDepth 20000
namespace Go.Proofs.YtdhbdhopnpmboaaGreatDoor
open Go Go.Av
section
variable {G:Nat ->AV}
theorem A4c(n:Nat):aV (nG n)=2*n:=by
 have h:(cD [97]).bulk=2:=rfl
 unfold nG
 induction n with
 |zero=>rfl
 |succ n ih=>rw[List.replicate_succ];simp only[aV,ih,h];omega
theorem B3y(l:List aA):(gG l).bulk=aV l+1:=by simp[gG,aA.bulk,aV]
theorem D4n(hg:A1j G):aB Tryz.prog G 5 [] (.bool true):=by
 have hm:∀ x,x ∈ A2h ->right x=true /\ x.bulk <=100:=fun x hx=>by
  have h:=List.all_eq_true.1 C0y x hx
  simp only[Bool.and_eq_true,decide_eq_true_eq]at h
  exact h
 have hL:A2h.length=32:=rfl
 have b1:(gG (nG 4095)).bulk=8191:=by rw[B3y,A4c]
 have b2:(gG (cD [98]::nG 4095)).bulk=8193:=by
  have h:(cD [98]).bulk=2:=rfl
  rw[B3y,aV,A4c,h]
 have hr:right (gG (cD [98]::nG 4095))=false:=by
  unfold right
  rw[A9d];rfl
 refine E1b (L:=A2h) {w:=sO hg,s:=C6s G,lL:=hL,r:=fun x hx=> ?_,be:=fun x n hx hn=> ?_,to:=fun x y hx hy=>C0g hg x y (by have:=(hm x hx).2;omega) (by have:=(hm y hy).2;omega),tl:=fun x y hx hy=>xX hg x y [] (by have:=(hm x hx).2;omega) (by have:=(hm y hy).2;omega) (by simp),sm:=fun i k x y hi hk=> ?_,at_:=fun t h=>A6p hg t (by omega),fs:= ?_,mr:= ?_,mt:= ?_,ms:= ?_,fl:=xX hg _ _ [] (by omega) (by decide) (by simp),li:=fun x y s h1 h2 h3=>xX hg x y s (by omega) (by omega) (by omega)}
 ·have h:=cP G x (by have:=(hm x hx).2;omega)
  rw[(hm x hx).1]at h
  exact h
 ·obtain⟨y,hy,hp⟩:=C8q G x (by have:=(hm x hx).2;omega) n hn
  exact⟨y,hp,A6p hg y hy⟩
 ·have h:=tJ G x y (by have:=(hm x (List.mem_of_getElem? hi)).2;omega) (by have:=(hm y (List.mem_of_getElem? hk)).2;omega)
  have h1:i < 32:=(List.getElem?_eq_some_iff.1 hi).1
  have h2:k < 32:=(List.getElem?_eq_some_iff.1 hk).1
  have e:=List.all_eq_true.1 (List.all_eq_true.1 C6t i (List.mem_range.2 h1)) k (List.mem_range.2 h2)
  rw[List.getD_eq_getElem?_getD,List.getD_eq_getElem?_getD,hi,hk]at e
  have e':wR x y=decide (i=k):=by simpa using e
  rw[e']at h
  exact h
 ·have h:=mX G (gG (nG 4095)) (by omega)
  rw[C5a]at h
  exact h
 ·have h:=cP G (gG (cD [98]::nG 4095)) (by omega)
  rw[hr]at h
  exact h
 ·have h:=pB hg (gG (cD [98]::nG 4095)) (by omega)
  rw[text,if_neg (by rw[hr];decide)]at h
  exact h
 ·have h:=mX G (gG (cD [98]::nG 4095)) (by omega)
  rw[A9d]at h
  exact h
end
set_option maxRecDepth 100000
section
open Go Go.Av Go.RowKit
variable {H:Type}
def S:List TypeId:=[26,22,4,23,47,9,3,24,105,5,128,239]
theorem B1l:sS Tryz.prog S=true:=by kernel_rfl
def Gv:Nat ->AV:=fun g=>if g=0 then .rp (words.map AV.str)else if g=2 then .tab D2y else .raw (.pointer (some ⟨g,0,none⟩))
theorem E3d:A1j Gv:= {words:=rfl,pow:=rfl}
theorem D1v {P:Program} {W:World} {S:List TypeId} (hS:sS P S=true) {laid:List (String × DataW Unit)} (hL:laidMet P laid W) {n:String} {d:DataW Unit} (hm:(n,d) ∈ laid) {g:Nat} {t:TypeId} (hg:P.globalNamed n=some g)
  (ht:(P.globals[g]?).map (·.type)=some t) (htS:t ∈ S) {k:IntKind} {zs:List Int} (hcs:flat (avW d)=zs.map fun z=> .int k z):VR (nO W) (.tab (zs.map fun z=> .int k z)) (.pointer (some ⟨g,0,none⟩)):=by
 obtain⟨ps,h1,_⟩:=hL
 obtain⟨g',t',vs,fuel,p,hg',ht',hvar,hd⟩:=sZ laid ps h1 hm
 obtain rfl:=Option.some.inj (hg.symm.trans hg')
 obtain rfl:=Option.some.inj (ht.symm.trans ht')
 obtain⟨_,h2,_⟩:=B6f (K:=nO W) hS (fun b o v h=>h) fuel t _ _ htS hd
 simp only[hcs]at h2
 have hsz:=h2.size
 have hv:vs=(zs.map fun z=>Value.int k z).toArray:=by
  apply Array.toList_inj.1
  refine List.ext_getElem? fun j=> ?_
  by_cases hj:j < zs.length
  ·have h3:=h2.at_ j (by simpa using hj)
   simp only[List.getElem_map,VR.int_iff]at h3
   have hj2:j < vs.toList.length:=by rw[hsz];simpa using hj
   rw[List.getD_eq_getElem?_getD,List.getElem?_eq_getElem hj2]at h3
   simp only[Option.getD_some]at h3
   rw[List.getElem?_eq_getElem hj2,h3]
   simp[hj]
  ·rw[List.getElem?_eq_none (by simp at hsz ⊢;omega),List.getElem?_eq_none (by simp;omega)]
 unfold World.var? at hvar
 rw[hg]at hvar
 simp only[Option.bind_some]at hvar
 cases hw:W.heap[g]? with
 |none=>rw[hw]at hvar;simp at hvar
 | some o=>
  rw[hw]at hvar
  cases o with
  | cells cs E fz=>
   simp only[Option.some.injEq]at hvar
   subst hvar
   rw[hv]at hw
   exact .tab _ g E fz (Array.getElem?_eq_some_iff.1 hw).1 hw
  |_=>simp at hvar
theorem B9a{W:World}{laid:List (String × DataW Unit)}(hL:laidMetH Tryz.prog laid W)(hl:laid=[("math/bits.deBruijn32tab",Rows.laid_math_bits_deBruijn32tab),("math/bits.deBruijn64tab",Rows.laid_math_bits_deBruijn64tab),("internal/strconv.uint64pow10",Rows.laid_internal_strconv_uint64pow10),("pigeonhole/term.words",Rows.laid_pigeonhole_term_words)]):
  ∀ g,VR (nO W) (Gv g) (.pointer (some ⟨g,0,none⟩)):=by
 subst hl
 have hL':laidMet Tryz.prog [("math/bits.deBruijn32tab",Rows.laid_math_bits_deBruijn32tab),("math/bits.deBruijn64tab",Rows.laid_math_bits_deBruijn64tab),("internal/strconv.uint64pow10",Rows.laid_internal_strconv_uint64pow10),("pigeonhole/term.words",Rows.laid_pigeonhole_term_words)] W:=hL
 have h0:VR (nO W) (.rp (words.map AV.str)) (.pointer (some ⟨0,0,none⟩)):=
  C5o B1l hL' (n:= "pigeonhole/term.words") (d:=Rows.laid_pigeonhole_term_words) (by simp) (g:=0) (t:=105) (by kernel_rfl) (by kernel_rfl) (by decide) (by kernel_rfl)
 have h1:VR (nO W) (.tab D2y) (.pointer (some ⟨2,0,none⟩)):=
  D1v B1l hL' (n:= "internal/strconv.uint64pow10") (d:=Rows.laid_internal_strconv_uint64pow10) (by simp) (g:=2) (t:=239) (k:= .u64) (zs:=Lib.pow10Tab) (by kernel_rfl) (by kernel_rfl) (by decide) (by kernel_rfl)
 intro g
 unfold Gv
 by_cases hg0:g=0
 ·subst hg0;exact h0
 ·by_cases hg1:g=2
  ·subst hg1;exact h1
  ·rw[if_neg hg0,if_neg hg1];exact .raw _
end
end Go.Proofs.YtdhbdhopnpmboaaGreatDoor
