/-
 DERIVED: THE SHELF's CONTRACTS AT THIS DUMP, IN PLAIN WORDS (tools/lay-plain.mjs out of 'TryzShelf.lean', which tools/lay-shelf.mjs wrote): THE SAME DECLARATIONS UNDER THE SAME NAMES: 'import', 'namespace', 'open', 'def', 'theorem' AND NOTHING ELSE: no command of the shelf's: FOR A HAND-IN. Each laying: the table of numbers ('.._ren') and one theorem, a field a fact of the dump's own or the kernel's comparison; each contract: ONE APPLICATION.
-/
import Derived.Shelf.Strings.Builder1
import Derived.Shelf.Small.Wraps
import Derived.Shelf.Strings.BuilderF
import Derived.Shelf.Strings.BuilderK
import Derived.Shelf.Strconv.Itoa0
import Derived.Shelf.Strconv.Itoa1
import Derived.Shelf.LaysM
import Derived.Shelf.Strconv.Itoa2
import Derived.Shelf.Strconv.Itoa3
import Derived.Shelf.Strings.BuilderCap
import Derived.Shelf.Slices.Turned
import Derived.Ground.Names2Prog
import Derived.Shelf.Slices.SearchI
import Derived.Ground.SlgnProg
import Derived.Shelf.SlicesE.Clone
import Derived.Test.YtdhbdhopnpmboaaGreatDoorProg
import Derived.Test.YtdhbdhopnpmboaaGreatDoorZ13
import Derived.Lib.AppendIntMem
import Derived.Test.YtdhbdhopnpmboaaGreatDoorZ10
import Derived.Test.YtdhbdhopnpmboaaGreatDoorZ14
set_option linter.defProp false
namespace Go.Proofs
open Go.Shelf
def Tryz.laysM171_ren:Go.Shelf.Ren:=⟨fun|171=>47|243=>81|246=>123|283=>163|284=>164|285=>165|286=>166|129=>179|317=>178|318=>180|319=>181|320=>182|337=>184|338=>185|n=>n,fun|3=>3|9=>9|2=>2|4=>4|171=>222|0=>0|53=>128|37=>45|5=>5|173=>225|212=>239|51=>47|20=>20|213=>240|46=>106|232=>244|233=>245|n=>n,fun|17=>2|18=>3|19=>4|n=>n⟩
theorem Tryz.laysM171:Go.Proofs.LaysM.n171 Tryz.prog Tryz.laysM171_ren:= {
 mixed:=by kernel_rfl
 f129:=Tryz.func179.trans (congrArg some (by kernel_rfl))
 f171:=Tryz.func47.trans (congrArg some (by kernel_rfl))
 f243:=Tryz.func81.trans (congrArg some (by kernel_rfl))
 f246:=Tryz.func123.trans (congrArg some (by kernel_rfl))
 f283:=Tryz.func163.trans (congrArg some (by kernel_rfl))
 f284:=Tryz.func164.trans (congrArg some (by kernel_rfl))
 f285:=Tryz.func165.trans (congrArg some (by kernel_rfl))
 f286:=Tryz.func166.trans (congrArg some (by kernel_rfl))
 f317:=Tryz.func178.trans (congrArg some (by kernel_rfl))
 f318:=Tryz.func180.trans (congrArg some (by kernel_rfl))
 f319:=Tryz.func181.trans (congrArg some (by kernel_rfl))
 f320:=Tryz.func182.trans (congrArg some (by kernel_rfl))
 f337:=Tryz.func184.trans (congrArg some (by kernel_rfl))
 f338:=Tryz.func185.trans (congrArg some (by kernel_rfl))
 t0:=Tryz.underlying0
 a0:=Tryz.isAgg0
 z0:=Tryz.sizeOf0
 v0:=Tryz.zeroValue0
 t2:=Tryz.underlying2
 a2:=Tryz.isAgg2
 z2:=Tryz.sizeOf2
 v2:=Tryz.zeroValue2
 t3:=Tryz.underlying3
 a3:=Tryz.isAgg3
 z3:=Tryz.sizeOf3
 v3:=Tryz.zeroValue3
 t4:=Tryz.underlying4
 a4:=Tryz.isAgg4
 z4:=Tryz.sizeOf4
 v4:=Tryz.zeroValue4
 t5:=Tryz.underlying5
 a5:=Tryz.isAgg5
 z5:=Tryz.sizeOf5
 v5:=Tryz.zeroValue5
 t9:=Tryz.underlying9
 a9:=Tryz.isAgg9
 z9:=Tryz.sizeOf9
 v9:=Tryz.zeroValue9
 t20:=Tryz.underlying20
 a20:=Tryz.isAgg20
 z20:=Tryz.sizeOf20
 v20:=Tryz.zeroValue20
 t37:=Tryz.underlying45
 a37:=Tryz.isAgg45
 z37:=Tryz.sizeOf45
 v37:=Tryz.zeroValue45
 t46:=Tryz.underlying106
 a46:=Tryz.isAgg106
 z46:=Tryz.sizeOf106
 v46:=Tryz.zeroValue106
 t51:=Tryz.underlying47
 a51:=Tryz.isAgg47
 z51:=Tryz.sizeOf47
 v51:=Tryz.zeroValue47
 t53:=Tryz.underlying128
 a53:=Tryz.isAgg128
 z53:=Tryz.sizeOf128
 v53:=Tryz.zeroValue128
 t171:=Tryz.underlying222
 a171:=Tryz.isAgg222
 z171:=Tryz.sizeOf222
 v171:=Tryz.zeroValue222
 t173:=Tryz.underlying225
 a173:=Tryz.isAgg225
 z173:=Tryz.sizeOf225
 v173:=Tryz.zeroValue225
 t212:=Tryz.underlying239
 a212:=Tryz.isAgg239
 z212:=Tryz.sizeOf239
 v212:=Tryz.zeroValue239
 t213:=Tryz.underlying240
 a213:=Tryz.isAgg240
 z213:=Tryz.sizeOf240
 t232:=Tryz.underlying244
 a232:=Tryz.isAgg244
 z232:=Tryz.sizeOf244
 v232:=Tryz.zeroValue244
 t233:=Tryz.underlying245
 a233:=Tryz.isAgg245
 z233:=Tryz.sizeOf245
 v233:=Tryz.zeroValue245
 g17:=by kernel_rfl
 g18:=by kernel_rfl
 g19:=by kernel_rfl
 i0:=by kernel_rfl
 i2:=by kernel_rfl
 i3:=by kernel_rfl
 i4:=by kernel_rfl
 i5:=by kernel_rfl
 i9:=by kernel_rfl
 i20:=by kernel_rfl
 i37:=by kernel_rfl
 i46:=by kernel_rfl
 i51:=by kernel_rfl
 i53:=by kernel_rfl
 i171:=by kernel_rfl
 i173:=by kernel_rfl
 i212:=by kernel_rfl
 i232:=by kernel_rfl
 i233:=by kernel_rfl
 m17:=by kernel_rfl
 m18:=by kernel_rfl
 m19:=by kernel_rfl}
open Go.RowKit Go.Sort Go.Lib in
theorem Tryz.strconv_Itoa(n:Int)(h0: -9223372036854775808 <=n)(h1:n <=9223372036854775807)(w:World)(htab:Lib.TabIs Tryz.prog w "internal/strconv.uint64pow10" .u64 Lib.pow10Tab):
  Calls Tryz.prog 47 #[.int .i64 n] w fun e w'=>e= .returned (.string ⟨(Lib.itoa n).toArray⟩) /\ ∃ k os,w'=grow (w.drewN k) os:=Any.strconv_Itoa Tryz.laysM171 n h0 h1 w htab
end Go.Proofs
set_option linter.unusedVariables false
set_option linter.unusedSimpArgs false
namespace Go.Proofs.YtdhbdhopnpmboaaGreatDoor
open Go Go.Av Go.RowKit
variable {G:Nat ->AV}
theorem yL(n:Nat):Lib.decDigits n=A0d n:=by
 have key:∀ n,n ≠ 0 ->Lib.decDigits n=(kT n).reverse:=by
  intro n
  induction n using Nat.strongRecOn with
  | _ n ih=>
   intro h0
   rw[Lib.decDigits,A0f h0]
   by_cases h:n < 10
   ·rw[dif_pos h]
    have:n / 10=0:=by omega
    rw[this,kT]
    simp
    congr 1;omega
   ·rw[dif_neg h,ih (n / 10) (by omega) (by omega)]
    simp
 unfold A0d
 by_cases h0:n=0
 ·subst h0;rw[if_pos rfl,Lib.decDigits];rfl
 ·rw[if_neg h0,key n h0]
theorem B9z(n:Int):Lib.itoa n=itoa n:=by
 unfold Lib.itoa itoa
 split
 ·rw[yL];rfl
 ·rw[yL]
  have:n.toNat=n.natAbs:=by omega
  rw[this];rfl
def D2y:List Value:=Lib.pow10Tab.map fun z=> .int .u64 z
theorem A0l(hp:G 2= .tab D2y)(n:Int)(h0: -9223372036854775808 <=n)(h1:n <=9223372036854775807):aB Tryz.prog G 47 [.int .i64 n] (.str (itoa n)):=by
 refine aB.of_calls (vals:=[.int .i64 n]) (u:= .string ⟨⟨itoa n⟩⟩) (by kernel_rfl) (fun K l h=> ?_) (fun K=> .str _) (fun K σ w hr=> ?_)
 ·match l,h with
  |[a],⟨h1,_⟩=>rw[VR.int_iff]at h1;rw[h1]
 ·have hg:=hr.glob 2
  rw[hp]at hg
  have htab:Lib.TabIs Tryz.prog w "internal/strconv.uint64pow10" .u64 Lib.pow10Tab:=by
   cases hg with
   | tab _ _ E fz hb hw=>
    have hblk:=(hr.below.block _ hb).trans hw
    unfold Lib.TabIs World.var?
    rw[show Tryz.prog.globalNamed "internal/strconv.uint64pow10" =some 2 by kernel_rfl]
    simp[hblk,D2y]
  refine(Tryz.strconv_Itoa n h0 h1 w htab).mono ?_
  rintro e w' ⟨he,k,os,hw⟩
  subst hw
  rw[B9z]at he
  exact⟨he,Lib.below_grow _ _ (Nat.le_refl _) k os⟩
end Go.Proofs.YtdhbdhopnpmboaaGreatDoor
set_option maxRecDepth 20000
namespace Go.Proofs.YtdhbdhopnpmboaaGreatDoor
open Go Go.Av
def qH:=And.intro (And.intro (And.intro @jD @iZ) (And.intro @jJ (And.intro @jE @sE))) (And.intro (And.intro @D4k @D4i) (And.intro @C1f (And.intro @C1e @lU)))
variable (G:Nat ->AV)
def idx(s:List UInt8):Nat ->List (List UInt8) ->Int
 |_,[]=> -1
 |k,w::ws=>if s=w then k else idx s (k+1) ws
theorem C2f(s:List UInt8):∀ (ws:List (List UInt8)) (k:Nat),(0 <=idx s k ws) ↔ s ∈ ws
 |[],k=>by simp[idx]
 | w::ws,k=>by
  simp only[idx]
  split
  ·rename_i h;subst h;simp
  ·rename_i h;rw[C2f s ws (k+1)];simp[h]
def wS(ws:List (List UInt8)):AV:= .sl .none (ws.map AV.str) []
instance {ws:List (List UInt8)} :NotBs (wS ws):=⟨fun _ _ _ _ h=>by unfold wS at h;cases h⟩
theorem wC{P:Program}{t:TypeId}(l:List (List UInt8)):jO P .len #[t] [wS l]=if(el P t).isSome then some (.int .i64 l.length)else none:=by
 simp[wS,B2h]
theorem yU{P:Program}{t:TypeId}{k:IntKind}(l:List (List UInt8))(i:Nat):fV P t (wS l) (.int k (i:Int))=ixk ((el P t).bind (tk P)) ((l[i]?).map AV.str):=by
 simp[wS,jQ]
theorem B9p(ws:List (List UInt8))(s:List UInt8)(hl:ws.length <=1000000):aB Tryz.prog G 122 [wS ws, .str s] (.int .i64 (idx s 0 ws)):=by
 intro σ
 refine aJ.of_awp mixed Tryz.func122 rfl (by kernel_rfl) (by kernel_rfl) (by simp[Tryz.ntmps122]) Tryz.results122 ?_
 repeat'(first|refine xs ?_ ?_ <;>intros|(refine wn ?_;intro bx hbx;try simp only[fb]at hbx)|refine wj ?_|simp -dsimp only[↓bp,bq,br,seval,qH,wC,yU, *]|refine wz ?_|fail)
 refine aD mixed (fun n e=>∃ i:Nat,i <=(ws).length /\ n=(ws).length - i /\ e 8= .int .i64 i /\ idx s i (ws.drop i)=idx s 0 ws) (ws).length
   ⟨0,by omega,by omega,by simp -dsimp only[↓bp,bq,br,seval,qH];first|done|rfl,rfl⟩ ?_
 rintro n v ⟨i,hi,rfl,h8,htk⟩
 simp -dsimp only[↓bp,bq,br,seval,qH]at h8
 simp -dsimp only[↓bp,bq,br,seval,qH,h8]
 refine cG (fun hlt=> ?_) (fun hge=> ?_)
 ·obtain⟨x,hx⟩:∃ x,ws[i]? =some x:=⟨_,List.getElem?_eq_getElem (by omega)⟩
  rw[dC _ _ _ hx]at htk
  simp only[idx]at htk
  clear hi hlt
  by_cases h0:s=x
  ·subst h0
   simp only[if_true]at htk
   rw[<- htk]
   clear htk
   repeat'(first|refine xs ?_ ?_ <;>intros|(refine wn ?_;intro bx hbx;try simp only[fb]at hbx)|refine wj ?_|simp -dsimp only[↓bp,bq,br,seval,qH,wC,yU, *]|refine wz ?_|fail)
   all_goals rfl
  ·rw[if_neg h0]at htk
   repeat'(first|refine xs ?_ ?_ <;>intros|(refine wn ?_;intro bx hbx;try simp only[fb]at hbx)|refine wj ?_|simp -dsimp only[↓bp,bq,br,seval,qH,wC,yU, *]|refine wz ?_|fail)
   all_goals(have hlt:=(List.getElem?_eq_some_iff.1 hx).1)
   all_goals exact⟨ws.length - (i+1),by omega,i+1,by omega,rfl,by rw[aC (by omega) (by omega)];rfl,htk⟩
 ·have:i=ws.length:=by omega
  subst this
  rw[List.drop_length]at htk
  simp only[idx]at htk
  rw[<- htk]
  clear hi hge htk
  repeat'(first|refine xs ?_ ?_ <;>intros|(refine wn ?_;intro bx hbx;try simp only[fb]at hbx)|refine wj ?_|simp -dsimp only[↓bp,bq,br,seval,qH,wC,yU, *]|refine wz ?_|fail)
  all_goals rfl
theorem A7g(ws:List (List UInt8))(s:List UInt8)(hl:ws.length <=1000000):aB Tryz.prog G 79 [wS ws, .str s] (.bool (ws.contains s)):=by
 have h:=B9p G ws s hl
 have hm:=C2f s ws 0
 have e:ws.contains s=decide (0 <=idx s 0 ws):=by rw[Bool.eq_iff_iff,decide_eq_true_eq,hm];simp
 rw[e]
 intro σ
 refine aJ.of_awp mixed Tryz.func79 rfl (by kernel_rfl) (by kernel_rfl) (by simp[Tryz.ntmps79]) Tryz.results79 ?_
 repeat'(first|refine xs ?_ ?_ <;>intros|(refine wn ?_;intro bx hbx;try simp only[fb]at hbx)|refine wp h ?_|refine wj ?_|simp -dsimp only[↓bp,bq,br,seval,qH, *]|refine wz ?_|fail)
 all_goals rfl
set_option maxHeartbeats 1000000 in
theorem B9q(s:List UInt8)(hs:s.length <=1000000000):aB Tryz.prog G 80 [.str s] (.bool (s.all gJ)):=by
 intro σ
 have hml:s.length <=maxLen:=by unfold maxLen;omega
 refine aJ.of_awp mixed Tryz.func80 rfl (by kernel_rfl) (by kernel_rfl) (by simp[Tryz.ntmps80]) Tryz.results80 ?_
 repeat'(first|refine xs ?_ ?_ <;>intros|(refine wn ?_;intro bx hbx;try simp only[fb]at hbx)|refine wj ?_|simp -dsimp only[↓bp,bq,br,seval,qH,hml, *]|refine wz ?_|fail)
 refine aD mixed (fun n e=>∃ i:Nat,i <=(s).length /\ n=(s).length - i /\ e 8= .int .i64 i /\ ∀ x,x ∈ s.take i ->gJ x=true) (s).length
   ⟨0,by omega,by omega,by simp -dsimp only[↓bp,bq,br,seval,qH];first|done|rfl,by simp⟩ ?_
 rintro n v ⟨i,hi,rfl,h8,hno⟩
 simp -dsimp only[↓bp,bq,br,seval,qH]at h8
 simp -dsimp only[↓bp,bq,br,seval,qH,h8]
 refine cG (fun hlt=> ?_) (fun hge=> ?_)
 ·obtain⟨k,hk⟩:∃ k,s[i]? =some k:=⟨_,List.getElem?_eq_getElem (by omega)⟩
  have hkm:k ∈ s:=List.mem_of_getElem? hk
  have step:gJ k=true ->∀ x,x ∈ s.take (i+1) ->gJ x=true:=fun ht x hx=>by
   rw[aW _ _ _ hk,List.mem_append,List.mem_singleton]at hx
   rcases hx with hx|rfl
   ·exact hno x hx
   ·exact ht
  have stop_:gJ k=false ->s.all gJ=false:=fun hf=>by
   rw[List.all_eq_false];exact⟨k,hkm,by simp[hf]⟩
  have hic:gJ k=(decide ((97:Int) <=k.toNat) && decide ((k.toNat:Int) <=122)||decide ((65:Int) <=k.toNat) && decide ((k.toNat:Int) <=90)||decide ((48:Int) <=k.toNat) && decide ((k.toNat:Int) <=57)||decide ((k.toNat:Int)=95)||decide ((k.toNat:Int)=64)):=by
   unfold gJ
   rw[Bool.eq_iff_iff]
   simp only[Bool.or_eq_true,Bool.and_eq_true,decide_eq_true_eq]
   omega
  have hw:IntKind.i64.wrap ((i:Int)+1)=((i+1:Nat):Int):=by rw[aC (by omega) (by omega)];rfl
  rw[hic]at step stop_
  have hlt':=(List.getElem?_eq_some_iff.1 hk).1
  clear hic hno hi hlt
  cases hv:(decide ((97:Int) <=k.toNat) && decide ((k.toNat:Int) <=122)||decide ((65:Int) <=k.toNat) && decide ((k.toNat:Int) <=90)||decide ((48:Int) <=k.toNat) && decide ((k.toNat:Int) <=57)||decide ((k.toNat:Int)=95)||decide ((k.toNat:Int)=64))
  ·have stop_:=stop_ hv
   rw[stop_]
   simp only[Bool.or_eq_false_iff,Bool.and_eq_false_iff,decide_eq_false_iff_not]at hv
   clear step stop_
   repeat'(first|refine xs ?_ ?_ <;>intros|(refine wn ?_;intro bx hbx;try simp only[fb]at hbx)|refine wj ?_|simp -dsimp only[↓bp,bq,br,seval,qH,hk,hw, *]|refine wz ?_|fail)
   all_goals first|rfl|(exfalso;omega)
  ·have step:=step hv
   simp only[Bool.or_eq_true,Bool.and_eq_true,decide_eq_true_eq]at hv
   clear stop_
   repeat'(first|refine xs ?_ ?_ <;>intros|(refine wn ?_;intro bx hbx;try simp only[fb]at hbx)|refine wj ?_|simp -dsimp only[↓bp,bq,br,seval,qH,hk,hw, *]|refine wz ?_|fail)
   all_goals first|exact⟨s.length - (i+1),by omega,i+1,by omega,rfl,rfl,step⟩|(exfalso;omega)
 ·have:i=s.length:=by omega
  subst this
  rw[List.take_length]at hno
  have he:s.all gJ=true:=List.all_eq_true.2 hno
  rw[he]
  clear hno hi hge
  repeat'(first|refine xs ?_ ?_ <;>intros|(refine wn ?_;intro bx hbx;try simp only[fb]at hbx)|refine wj ?_|simp -dsimp only[↓bp,bq,br,seval,qH, *]|refine wz ?_|fail)
  all_goals rfl
end Go.Proofs.YtdhbdhopnpmboaaGreatDoor
set_option maxRecDepth 20000
namespace Go.Proofs.YtdhbdhopnpmboaaGreatDoor
open Go Go.Av
def A6n:=And.intro (And.intro (And.intro @jD (And.intro @iZ @jJ)) (And.intro @jE (And.intro @sE @D4k))) (And.intro (And.intro @D4i (And.intro @C1f @C1e)) (And.intro @lU (And.intro @oW @mF)))
variable {G:Nat ->AV}
structure Glob(G:Nat ->AV):Prop where
 words:G 0= .rp (Proofs.YtdhbdhopnpmboaaGreatDoor.words.map AV.str)
theorem C7i:(words.map AV.str).length=19:=rfl
theorem B5x(hg:Glob G)(s:List UInt8)(hs:s.length <=1000000000):aB Tryz.prog G 45 [.str s] (.bool (qD s)):=by
 have hi:=B9q G s hs
 have hc:=A7g G words s (by decide)
 have hw:=hg.words
 have h19:rsk (some (19,1)) (words.map AV.str)=some (wS words):=by
  show(if 19=(words.map AV.str).length /\ 19 <=maxLen then some (AV.sl .none (words.map AV.str) [])else none)=_
  exact if_pos ⟨C7i.symm,by unfold maxLen;decide⟩
 have ha:wX Tryz.prog 105=some (19,1):=D4i.2.2.2.2.2.2.1
 have has:iC Tryz.prog 105 (.rp (words.map AV.str)) none none=some (wS words):=by rw[A8q,ha,h19]
 cases s with
 | nil=>
  intro σ
  clear hi hc
  refine aJ.of_awp mixed Tryz.func45 rfl (by kernel_rfl) (by kernel_rfl) (by simp[Tryz.ntmps45]) Tryz.results45 ?_
  repeat'(first|refine xs ?_ ?_ <;>intros|(refine wn ?_;intro bx hbx;try simp only[fb]at hbx)|refine wj ?_|simp -dsimp only[↓bp,bq,br,seval,A6n, *]|refine wz ?_|fail)
  all_goals rfl
 | cons c l=>
  have hp:qD (c::l)=(decide (97 <=c.toNat) && decide (c.toNat <=122) && !words.contains (c::l) && (c::l).all gJ):=rfl
  have hx:(c::l)[0]? =some c:=rfl
  have hne: ¬ (c::l)=[]:=by simp
  rw[hp]
  generalize(c::l)=s at*
  clear hp
  generalize words.contains s=wc at*
  generalize s.all gJ=si at*
  have e1:((97:Int) <=c.toNat) ↔ 97 <=c.toNat:=by omega
  have e2:((c.toNat:Int) <=122) ↔ c.toNat <=122:=by omega
  by_cases h1:97 <=c.toNat
  ·have g1: ¬ (c.toNat:Int) < 97:=by omega
   by_cases h2:c.toNat <=122
   ·have g2: ¬ (122:Int) < c.toNat:=by omega
    have q1:=decide_eq_true h1
    have q2:=decide_eq_true h2
    rw[q1,q2]
    clear h1 h2 e1 e2 q1 q2
    intro σ
    cases wc
    ·refine aJ.of_awp mixed Tryz.func45 rfl (by kernel_rfl) (by kernel_rfl) (by simp[Tryz.ntmps45]) Tryz.results45 ?_
     repeat'(first|refine xs ?_ ?_ <;>intros|(refine wn ?_;intro bx hbx;try simp only[fb]at hbx)|refine wp hc ?_|refine wp hi ?_|refine wj ?_|simp -dsimp only[↓bp,bq,br,seval,A6n, *]|refine wz ?_|fail)
     all_goals rfl
    ·refine aJ.of_awp mixed Tryz.func45 rfl (by kernel_rfl) (by kernel_rfl) (by simp[Tryz.ntmps45]) Tryz.results45 ?_
     repeat'(first|refine xs ?_ ?_ <;>intros|(refine wn ?_;intro bx hbx;try simp only[fb]at hbx)|refine wp hc ?_|refine wp hi ?_|refine wj ?_|simp -dsimp only[↓bp,bq,br,seval,A6n, *]|refine wz ?_|fail)
     all_goals rfl
   ·have g2:(122:Int) < c.toNat:=by omega
    have q2:=decide_eq_false h2
    rw[q2]
    simp only[Bool.and_false,Bool.false_and]
    clear h1 h2 e1 e2 q2
    intro σ
    refine aJ.of_awp mixed Tryz.func45 rfl (by kernel_rfl) (by kernel_rfl) (by simp[Tryz.ntmps45]) Tryz.results45 ?_
    repeat'(first|refine xs ?_ ?_ <;>intros|(refine wn ?_;intro bx hbx;try simp only[fb]at hbx)|refine wp hc ?_|refine wp hi ?_|refine wj ?_|simp -dsimp only[↓bp,bq,br,seval,A6n, *]|refine wz ?_|fail)
    all_goals rfl
  ·have g1:(c.toNat:Int) < 97:=by omega
   have q1:=decide_eq_false h1
   rw[q1]
   simp only[Bool.and_false,Bool.false_and]
   clear h1 e1 e2 q1
   intro σ
   refine aJ.of_awp mixed Tryz.func45 rfl (by kernel_rfl) (by kernel_rfl) (by simp[Tryz.ntmps45]) Tryz.results45 ?_
   repeat'(first|refine xs ?_ ?_ <;>intros|(refine wn ?_;intro bx hbx;try simp only[fb]at hbx)|refine wp hc ?_|refine wp hi ?_|refine wj ?_|simp -dsimp only[↓bp,bq,br,seval,A6n, *]|refine wz ?_|fail)
   all_goals rfl
theorem wb{σ0 σ:AS}{b:Nat}{xs:List UInt8}(h:Bl σ0 σ b xs)(hl:xs.length <=1000000000)(c:UInt8)(n:Int)(hn:n=c.toNat):
  aJ Tryz.prog G 42 [.ptr b 0, .int .u8 n] σ fun r σ'=>Bl σ0 σ' b (xs++[c]):=by subst hn;exact A8i G h hl c
def E7t:List UInt8:=[48,49,50,51,52,53,54,55,56,57,97,98,99,100,101,102]
theorem B1x:∀ k,k < 16 ->E7t[k]? =some (xH k):=by decide
theorem E2y(c:UInt8):((c.toNat:Int).fdiv (2 ^ min 4 IntKind.u8.bits))=((c.toNat / 16:Nat):Int):=by
 have:((2:Int) ^ min 4 IntKind.u8.bits)=((16:Nat):Int):=by decide
 rw[this,Int.fdiv_eq_ediv_of_nonneg _ (by omega)];rfl
theorem E6y(c:UInt8):IntKind.u8.wrap ((BitVec.ofInt IntKind.u8.bits (c.toNat:Int) &&& BitVec.ofInt IntKind.u8.bits 15).toNat:Int)=((c.toNat % 16:Nat):Int):=by
 have hb:IntKind.u8.bits=8:=rfl
 have hc:=c.toNat_lt
 rw[hb,BitVec.toNat_and,BitVec.toNat_ofInt,BitVec.toNat_ofInt]
 have e1:((c.toNat:Int) % ((2 ^ 8:Nat):Int)).toNat=c.toNat:=by omega
 have e2:((15:Int) % ((2 ^ 8:Nat):Int)).toNat=15:=by decide
 rw[e1,e2,show(15:Nat)=2 ^ 4 - 1 by decide,Nat.and_two_pow_sub_one_eq_mod,IntKind.wrap_u8]
 omega
end Go.Proofs.YtdhbdhopnpmboaaGreatDoor
set_option maxRecDepth 20000
namespace Go.Proofs.YtdhbdhopnpmboaaGreatDoor
open Go Go.Av
def nR:=And.intro (And.intro (And.intro @jD @iZ) (And.intro @jJ (And.intro @jE @sE))) (And.intro (And.intro @C1f @C1e) (And.intro @lU (And.intro @oW @mF)))
variable {G:Nat ->AV}
theorem D2z(c:UInt8):(iR c).length <=4:=by
 unfold iR;repeat' split
 all_goals simp
theorem rY(s:List UInt8):(s.flatMap iR).length <=4*s.length:=by
 induction s with
 |nil=>simp
 |cons c s ih=>have:=D2z c;simp only[List.flatMap_cons,List.length_append,List.length_cons];omega
set_option maxHeartbeats 1000000 in
theorem B6d(s:List UInt8)(hs:s.length <=100000000):aB Tryz.prog G 46 [.str s] (.str (xL s)):=by
 intro σ
 have hml:s.length <=maxLen:=by unfold maxLen;omega
 refine aJ.of_awp mixed Tryz.func46 rfl (by kernel_rfl) (by kernel_rfl) (by simp[Tryz.ntmps46]) Tryz.results46 ?_
 simp -dsimp only[↓bp,bq,br,seval,nR]
 refine C2m (fun b hb=> ?_)
 have hB0:Bl σ ((σ.setBox b [.nilptr, .nil]).setTy b (.t 56,2)) b []:=Bld.start (AS.le.refl σ) hb
 simp only[List.length_cons,List.length_nil,Nat.zero_add,Nat.reduceAdd]
 generalize(σ.setBox b [.nilptr, .nil]).setTy b (.t 56,2)=σ0 at*
 repeat'(first|refine xs ?_ ?_ <;>intros|(refine wn ?_;intro bx hbx;try simp only[fb]at hbx)|((refine aJ.mono (wb hB0 (by simp) 39 39 rfl) ?_;rintro r s1 hB1))|refine wj ?_|simp -dsimp only[↓bp,bq,br,seval,nR,hml, *]|refine wz ?_|fail)
 refine aI (fun n e σ'=>∃ i:Nat,i <=s.length /\ n=s.length - i /\ e 10= .int .i64 i /\ Bl σ σ' b (39::(s.take i).flatMap iR)) s.length ⟨0,by omega,by omega,by first|(simp -dsimp only[↓bp,bq,br,seval,nR];done)|(simp -dsimp only[↓bp,bq,br,seval,nR];try rfl),by simpa using hB1⟩ ?_
 rintro n v σ' ⟨i,hi,rfl,h10,hB⟩
 simp -dsimp only[↓bp,bq,br,seval,nR]at h10
 by_cases hlt:(i:Int) < s.length
 ·obtain⟨c,hc⟩:∃ c,s[i]? =some c:=⟨_,List.getElem?_eq_getElem (by omega)⟩
  have hts:(s.take (i+1)).flatMap iR=(s.take i).flatMap iR++iR c:=by rw[aW _ _ _ hc,List.flatMap_append];simp
  have hq:=rY (s.take i)
  have hti:(s.take i).length=i:=by rw[List.length_take];omega
  have hlen:(39::(s.take i).flatMap iR).length <=500000000:=by simp only[List.length_cons];omega
  have hw:IntKind.i64.wrap ((i:Int)+1)=((i+1:Nat):Int):=by rw[aC (by omega) (by omega)];rfl
  have hnext:∀ s2:AS,Bl σ s2 b (39::(s.take i).flatMap iR++iR c) ->∃ m,m < s.length - i /\ ∃ i_1,i_1 <=s.length /\ m=s.length - i_1 /\ AV.int .i64 ((i+1:Nat):Int)= .int .i64 i_1 /\ Bl σ s2 b (39::(s.take i_1).flatMap iR):=fun s2 h2=>
   ⟨s.length - (i+1),by omega,i+1,by omega,rfl,rfl,by rw[hts];simpa using h2⟩
  clear hts hq hti hi
  generalize 39::(s.take i).flatMap iR=out at*
  by_cases k1:c.toNat=39 \/ c.toNat=92
  ·have hqc:iR c=[92]++[c]:=by unfold iR;rw[if_pos k1];rfl
   rw[hqc]at hnext
   have k1':(c.toNat:Int)=39 \/ (c.toNat:Int)=92:=by omega
   clear hqc k1
   rcases k1' with k1'|k1'
   ·have kk:=eq_true k1'
    clear k1'
    repeat'(first|refine xs ?_ ?_ <;>intros|(refine wn ?_;intro bx hbx;try simp only[fb]at hbx)|((refine aJ.mono (wb hB (by omega) 92 92 rfl) ?_;rintro r s1 hBB))|((refine aJ.mono (wb hBB (by simp;omega) c _ rfl) ?_;rintro r s2 hB2))|refine wj ?_|simp -dsimp only[↓bp,bq,br,seval,nR,hw, *]|refine wz ?_|fail)
    all_goals exact hnext _ (by simpa using hB2)
   ·have kk:=eq_true k1'
    have kk2:=eq_false (show ¬ (c.toNat:Int)=39 by omega)
    clear k1'
    repeat'(first|refine xs ?_ ?_ <;>intros|(refine wn ?_;intro bx hbx;try simp only[fb]at hbx)|((refine aJ.mono (wb hB (by omega) 92 92 rfl) ?_;rintro r s1 hBB))|((refine aJ.mono (wb hBB (by simp;omega) c _ rfl) ?_;rintro r s2 hB2))|refine wj ?_|simp -dsimp only[↓bp,bq,br,seval,nR,hw, *]|refine wz ?_|fail)
    all_goals exact hnext _ (by simpa using hB2)
  ·have j1:=eq_false (show ¬ (c.toNat:Int)=39 by omega)
   have j2:=eq_false (show ¬ (c.toNat:Int)=92 by omega)
   by_cases k2:c.toNat=10
   ·have hqc:iR c=[92,110]:=by unfold iR;rw[if_neg k1,if_pos k2]
    rw[hqc]at hnext
    have j3:=eq_true (show(c.toNat:Int)=10 by omega)
    clear hqc k1 k2
    repeat'(first|refine xs ?_ ?_ <;>intros|(refine wn ?_;intro bx hbx;try simp only[fb]at hbx)|((refine aJ.mono (dF _ hB [92,110] (by simp;omega)) ?_;rintro r s2 hB2))|refine wj ?_|simp -dsimp only[↓bp,bq,br,seval,nR,hw, *]|refine wz ?_|fail)
    all_goals exact hnext _ (by simpa using hB2)
   ·have j3:=eq_false (show ¬ (c.toNat:Int)=10 by omega)
    by_cases k3:c.toNat < 32 \/ 126 < c.toNat
    ·have hqc:iR c=[92,120]++[xH (c.toNat / 16)]++[xH (c.toNat % 16)]:=by unfold iR;rw[if_neg k1,if_neg k2,if_pos k3];rfl
     rw[hqc]at hnext
     have hcl:=c.toNat_lt
     have hx1:=B1x (c.toNat / 16) (by omega)
     have hx2:=B1x (c.toNat % 16) (by omega)
     unfold E7t at hx1 hx2
     have f1:=E2y c
     have f2:=E6y c
     have hn1:(0:Int) <=((c.toNat / 16:Nat):Int):=Int.natCast_nonneg _
     have hn2:(0:Int) <=((c.toNat % 16:Nat):Int):=Int.natCast_nonneg _
     generalize c.toNat / 16=d1 at*
     generalize c.toNat % 16=d2 at*
     have k3':(c.toNat:Int) < 32 \/ ¬ (c.toNat:Int) < 32 /\ 126 < (c.toNat:Int):=by omega
     clear hqc k1 k2 k3 hcl
     rcases k3' with k3|⟨k3,k4⟩
     ·have k3:=eq_true k3
      repeat'(first|refine xs ?_ ?_ <;>intros|(refine wn ?_;intro bx hbx;try simp only[fb]at hbx)|((refine aJ.mono (dF _ hB [92,120] (by simp;omega)) ?_;rintro r s2 hB2))|((refine aJ.mono (wb hB2 (by simp;omega) (xH d1) _ rfl) ?_;rintro r s3 hB3))|((refine aJ.mono (wb hB3 (by simp;omega) (xH d2) _ rfl) ?_;rintro r s4 hB4))|refine wj ?_|simp -dsimp only[↓bp,bq,br,seval,nR,hw, *]|refine wz ?_|fail)
      all_goals exact hnext _ (by simpa using hB4)
     ·have k3:=eq_false k3
      repeat'(first|refine xs ?_ ?_ <;>intros|(refine wn ?_;intro bx hbx;try simp only[fb]at hbx)|((refine aJ.mono (dF _ hB [92,120] (by simp;omega)) ?_;rintro r s2 hB2))|((refine aJ.mono (wb hB2 (by simp;omega) (xH d1) _ rfl) ?_;rintro r s3 hB3))|((refine aJ.mono (wb hB3 (by simp;omega) (xH d2) _ rfl) ?_;rintro r s4 hB4))|refine wj ?_|simp -dsimp only[↓bp,bq,br,seval,nR,hw, *]|refine wz ?_|fail)
      all_goals exact hnext _ (by simpa using hB4)
    ·have hqc:iR c=[c]:=by unfold iR;rw[if_neg k1,if_neg k2,if_neg k3]
     rw[hqc]at hnext
     have j4:=eq_false (show ¬ (c.toNat:Int) < 32 by omega)
     have j5:=eq_false (show ¬ (126:Int) < c.toNat by omega)
     clear hqc k1 k2 k3
     repeat'(first|refine xs ?_ ?_ <;>intros|(refine wn ?_;intro bx hbx;try simp only[fb]at hbx)|((refine aJ.mono (wb hB (by omega) c _ rfl) ?_;rintro r s2 hB2))|refine wj ?_|simp -dsimp only[↓bp,bq,br,seval,nR,hw, *]|refine wz ?_|fail)
     all_goals exact hnext _ (by simpa using hB2)
 ·have:i=s.length:=by omega
  subst this
  rw[List.take_length]at hB
  have hq:=rY s
  clear hi
  repeat'(first|refine xs ?_ ?_ <;>intros|(refine wn ?_;intro bx hbx;try simp only[fb]at hbx)|((refine aJ.mono (wb hB (by simp only[List.length_cons];omega) 39 39 rfl) ?_;rintro r s1 hBB))|((refine aJ.mono (A6l _ hBB (by simp only[List.length_append,List.length_cons,List.length_nil];omega)) ?_;rintro r s2 ⟨rfl,rfl⟩))|refine wj ?_|simp -dsimp only[↓bp,bq,br,seval,nR, *]|refine wz ?_|fail)
  all_goals simp[xL]
end Go.Proofs.YtdhbdhopnpmboaaGreatDoor
set_option maxRecDepth 20000
namespace Go.Proofs.YtdhbdhopnpmboaaGreatDoor
open Go Go.Av
def fO:=And.intro (And.intro (And.intro (And.intro @jD @iZ) (And.intro @jJ (And.intro @jE @sE))) (And.intro (And.intro @eN (And.intro @dV @eD)) (And.intro @dL (And.intro @C1f @C1e)))) (And.intro (And.intro (And.intro @E5p (And.intro @E5q @aA.flat_enc)) (And.intro @aA.isv_enc (And.intro @aA.fold_enc @aS))) (And.intro (And.intro @aN (And.intro @aU @bW)) (And.intro @bG (And.intro @aQ @aM))))
variable {G:Nat ->AV}
structure A1j(G:Nat ->AV):Prop extends Glob G where
 pow:G 2= .tab D2y
structure Fns(σ0:AS)(b p q:Nat):Prop where
 put:σ0.box p=some [.fn 43 [.ptr b 0, .ptr q 0]]
 row:σ0.box q=some [.fn 40 [.ptr b 0, .ptr p 0]]
theorem Fns.up{σ0 σ1:AS}{b p q:Nat}(h:Fns σ0 b p q)(hl:σ0.le σ1):Fns σ1 b p q:=⟨hl.box _ _ h.put,hl.box _ _ h.row⟩
def C3j(G:Nat ->AV)(t:aA):Prop:=∀ (σ0 σ:AS) (b p q:Nat) (xs:List UInt8),Fns σ0 b p q ->Bl σ0 σ b xs ->xs.length+(iP t).length <=900000000 ->
 aJ Tryz.prog G 43 [t.enc, .ptr b 0, .ptr q 0] σ fun r σ'=>Bl σ0 σ' b (xs++iP t)
theorem A6e:∀ (l:List aA) (i:Nat) (x:aA),l[i]? =some x ->qW (l.take (i+1))=qW (l.take i)++(44::iP x)
 |[],i,x,h=>by simp at h
 |y::l,0,x,h=>by simp at h;subst h;simp[qW]
 | y::l,i+1,x,h=>by
  have:=A6e l i x (by simpa using h)
  simp only[List.take_succ_cons,qW,this]
  simp
theorem A6d(l:List aA)(i:Nat)(x:aA)(h:l[i]? =some x):fY (l.take (i+1))=fY (l.take i)++(if i=0 then iP x else 44::iP x):=by
 cases l with
 |nil=>simp at h
 | cons y l=>
  cases i with
  |zero=>simp at h;subst h;simp[fY,qW]
  | succ i=>
   have:=A6e l i x (by simpa using h)
   simp only[List.take_succ_cons,fY,this]
   simp
theorem A6f:∀ (l:List aA) (i:Nat) (x:aA),l[i]? =some x ->gM (l.take (i+1))=gM (l.take i)++(124::iP x)
 |[],i,x,h=>by simp at h
 |y::l,0,x,h=>by simp at h;subst h;simp[gM]
 | y::l,i+1,x,h=>by
  have:=A6f l i x (by simpa using h)
  simp only[List.take_succ_cons,gM,this]
  simp
theorem B6u:∀ (l:List aA) (i:Nat),(qW (l.take i)).length <=(qW l).length
 |[],i=>by simp
 |x::l,0=>by simp[qW]
 |x::l,i+1=>by have:=B6u l i;simp only[List.take_succ_cons,qW,List.length_cons,List.length_append];omega
theorem B6t(l:List aA)(i:Nat):(fY (l.take i)).length <=(fY l).length:=by
 cases l with
 |nil=>simp
 | cons x l=>cases i with
  |zero=>simp[fY]
  |succ i=>have:=B6u l i;simp only[List.take_succ_cons,fY,List.length_append];omega
theorem B6v:∀ (l:List aA) (i:Nat),(gM (l.take i)).length <=(gM l).length
 |[],i=>by simp
 |x::l,0=>by simp[gM]
 |x::l,i+1=>by have:=B6v l i;simp only[List.take_succ_cons,gM,List.length_cons,List.length_append];omega
set_option maxHeartbeats 1000000 in
theorem C2s (t:aA) (hb:t.bulk <=1000000000) (hi:∀ x,x ∈ t.items ->C3j G x) (ht:∀ x,x ∈ t.tail ->C3j G x) (fr to:List UInt8) (σ0 σ:AS) (b p q:Nat) (xs:List UInt8) (hF:Fns σ0 b p q) (hB:Bl σ0 σ b xs)
  (hlen:xs.length+fr.length+(fY t.items).length+(gM t.tail).length+to.length <=900000000):
  aJ Tryz.prog G 40 [t.enc, .str fr, .str to, .ptr b 0, .ptr p 0] σ fun r σ'=>Bl σ0 σ' b (xs++fr++fY t.items++gM t.tail++to):=by
 have hli:=cA t
 have hlt:=dD t
 refine aJ.of_awp mixed Tryz.func40 rfl (by kernel_rfl) (by kernel_rfl) (by simp[Tryz.ntmps40]) Tryz.results40 ?_
 simp -dsimp only[↓bp,bq,br,seval,fO]
 refine cX fun b5 h5=> ?_
 obtain⟨σ1,hs1⟩:∃ σ1,σ1=σ0.setBox b5 [.int .u8 t.knd, .bool t.neg,bD t.limbs, .str t.text, .int .i64 t.num,aH t.items,aH t.tail]:=⟨_,rfl⟩
 have hB1:=hB.newBox h5 [.int .u8 t.knd, .bool t.neg,bD t.limbs, .str t.text, .int .i64 t.num,aH t.items,aH t.tail]
 rw[<- hs1]at hB1
 have hle1:σ0.le σ1:=by rw[hs1];exact(AS.le.refl σ0).setBox (hB.le.fresh h5).1 _
 have hF1:=hF.up hle1
 have hb5:σ1.box b5=some [.int .u8 t.knd, .bool t.neg,bD t.limbs, .str t.text, .int .i64 t.num,aH t.items,aH t.tail]:=by rw[hs1];simp[AS.setBox]
 clear hs1
 generalize σ.setBox b5 _=s0 at*
 repeat'(first|refine xs ?_ ?_ <;>intros|(refine wn ?_;intro bx hbx;try simp only[fb]at hbx)|((refine aJ.mono (dF _ hB1 fr (by omega)) ?_;rintro r s1 hB2;have k5:=hB2.le.box b5 _ hb5))|refine wj ?_|simp -dsimp only[↓bp,bq,br,seval,fO, *]|refine wz ?_|fail)
 refine aI (fun n e σ'=>∃ i:Nat,i <=t.items.length /\ n=t.items.length - i /\ e 17= .int .i64 i /\ Bl σ1 σ' b (xs++fr++fY (t.items.take i))) t.items.length ⟨0,by omega,by omega,by first|(simp -dsimp only[↓bp,bq,br,seval,fO];done)|(simp -dsimp only[↓bp,bq,br,seval,fO];try rfl),by simpa [fY] using hB2⟩ ?_
 rintro n v σ' ⟨i,hile,rfl,h17,hBi⟩
 simp -dsimp only[↓bp,bq,br,seval,fO]at h17
 by_cases hlt:(i:Int) < t.items.length
 ·obtain⟨x,hx⟩:∃ x,t.items[i]? =some x:=⟨_,List.getElem?_eq_getElem (by omega)⟩
  have hxm:x ∈ t.items:=List.mem_of_getElem? hx
  have htk:=A6d t.items i x hx
  have hl2:=B6t t.items (i+1)
  have hPx:=hi x hxm
  have hilt:i < t.items.length:=by omega
  have hw:IntKind.i64.wrap ((i:Int)+1)=((i+1:Nat):Int):=by rw[aC (by omega) (by omega)];rfl
  have hnext:∀ s2:AS,Bl σ1 s2 b (xs++fr++fY (t.items.take (i+1))) ->∃ m,m < t.items.length - i /\ ∃ i_1,i_1 <=t.items.length /\ m=t.items.length - i_1 /\ AV.int .i64 ((i+1:Nat):Int)= .int .i64 i_1 /\ Bl σ1 s2 b (xs++fr++fY (t.items.take i_1)):=fun s2 h2=>
   ⟨t.items.length - (i+1),by omega,i+1,by omega,rfl,rfl,h2⟩
  clear hi ht hB hB1 hB2 h5 k5
  simp -dsimp only[↓bp,bq,br,seval,fO,h17,hlt,hx]
  refine aY fun b9 h9=> ?_
  have hB9:=hBi.newBox h9 [.int .u8 x.knd, .bool x.neg,bD x.limbs, .str x.text, .int .i64 x.num,aH x.items,aH x.tail]
  have hle2:σ1.le (σ1.setBox b9 [.int .u8 x.knd, .bool x.neg,bD x.limbs, .str x.text, .int .i64 x.num,aH x.items,aH x.tail]):=(AS.le.refl σ1).setBox (hBi.le.fresh h9).1 _
  have hb9:(σ1.setBox b9 [.int .u8 x.knd, .bool x.neg,bD x.limbs, .str x.text, .int .i64 x.num,aH x.items,aH x.tail]).box b9=some [.int .u8 x.knd, .bool x.neg,bD x.limbs, .str x.text, .int .i64 x.num,aH x.items,aH x.tail]:=by simp[AS.setBox]
  have hF2:=hF1.up hle2
  generalize σ1.setBox b9 _=σ2 at*
  simp -dsimp only[↓bp,bq,br,seval,fO,h17,hlt,hx]
  generalize σ'.setBox b9 _=s2 at*
  have h9b:s2.box b9=some [.int .u8 x.knd, .bool x.neg,bD x.limbs, .str x.text, .int .i64 x.num,aH x.items,aH x.tail]:=hB9.le.box _ _ hb9
  have h9p:s2.box p=some [.fn 43 [.ptr b 0, .ptr q 0]]:=hB9.le.box _ _ hF2.put
  rw[htk]at hnext hl2
  by_cases i0:i=0
  ·rw[if_pos i0]at hnext hl2
   have i0':=eq_false (show ¬ (0:Int) < i by omega)
   rw[List.length_append]at hl2
   clear i0 hlt hBi
   simp -dsimp only[↓bp,bq,br,seval,fO,i0']
   repeat'(first|refine xs ?_ ?_ <;>intros|(refine wn ?_;intro bx hbx;try simp only[fb]at hbx)|((refine aJ.mono (hPx σ2 s2 b p q _ hF2 hB9 (by simp only[List.length_append];omega)) ?_;rintro r s3 hB3))|refine wj ?_|simp -dsimp only[↓bp,bq,br,seval,fO, *]|refine wz ?_|fail)
   try rw[hw]
   exact hnext _ (by have:=hB3.weaken hle2;simpa using this)
  ·rw[if_neg i0]at hnext hl2
   have i0':=eq_true (show(0:Int) < i by omega)
   rw[List.length_append,List.length_cons]at hl2
   clear i0 hlt hBi
   simp -dsimp only[↓bp,bq,br,seval,fO,i0']
   repeat'(first|refine xs ?_ ?_ <;>intros|(refine wn ?_;intro bx hbx;try simp only[fb]at hbx)|((refine aJ.mono (wb hB9 (by simp only[List.length_append];omega) 44 44 rfl) ?_;rintro r s3 hB3;have h9b:=hB3.le.box _ _ hb9;have h9p:=hB3.le.box _ _ hF2.put;clear hB9))|((refine aJ.mono (hPx σ2 _ b p q _ hF2 hB3 (by simp only[List.length_append,List.length_cons,List.length_nil];omega)) ?_;rintro r s4 hB4))|refine wj ?_|simp -dsimp only[↓bp,bq,br,seval,fO, *]|refine wz ?_|fail)
   try rw[hw]
   exact hnext _ (by have:=hB4.weaken hle2;simpa using this)
 ·have:i=t.items.length:=by omega
  subst this
  rw[List.take_length]at hBi
  clear hlt hile hB hB1 hB2 k5 h5
  have k5:=hBi.le.box b5 _ hb5
  have hirr:=eq_false (Int.lt_irrefl (t.items.length:Int))
  simp -dsimp only[↓bp,bq,br,seval,fO,h17,hirr]
  repeat'(first|refine xs ?_ ?_ <;>intros|(refine wn ?_;intro bx hbx;try simp only[fb]at hbx)|refine wj ?_|simp -dsimp only[↓bp,bq,br,seval,fO, *]|refine wz ?_|fail)
  have hIx:(fY t.items).length <=900000000:=by omega
  refine aI (fun n e σ'=>∃ i:Nat,i <=t.tail.length /\ n=t.tail.length - i /\ e 32= .int .i64 i /\ Bl σ1 σ' b (xs++fr++fY t.items++gM (t.tail.take i))) t.tail.length ⟨0,by omega,by omega,by first|(simp -dsimp only[↓bp,bq,br,seval,fO];done)|(simp -dsimp only[↓bp,bq,br,seval,fO];try rfl),by simpa [gM] using hBi⟩ ?_
  clear hBi k5 h17
  rintro n v2 σ3 ⟨i,hile,rfl,h32,hBi⟩
  simp -dsimp only[↓bp,bq,br,seval,fO]at h32
  by_cases hlt:(i:Int) < t.tail.length
  ·obtain⟨x,hx⟩:∃ x,t.tail[i]? =some x:=⟨_,List.getElem?_eq_getElem (by omega)⟩
   have hxm:x ∈ t.tail:=List.mem_of_getElem? hx
   have htk:=A6f t.tail i x hx
   have hl2:=B6v t.tail (i+1)
   have hPx:=ht x hxm
   have hilt:i < t.tail.length:=by omega
   have hw:IntKind.i64.wrap ((i:Int)+1)=((i+1:Nat):Int):=by rw[aC (by omega) (by omega)];rfl
   have hnext:∀ s2:AS,Bl σ1 s2 b (xs++fr++fY t.items++gM (t.tail.take (i+1))) ->∃ m,m < t.tail.length - i /\ ∃ i_1,i_1 <=t.tail.length /\ m=t.tail.length - i_1 /\ AV.int .i64 ((i+1:Nat):Int)= .int .i64 i_1 /\ Bl σ1 s2 b (xs++fr++fY t.items++gM (t.tail.take i_1)):=fun s2 h2=>
    ⟨t.tail.length - (i+1),by omega,i+1,by omega,rfl,rfl,h2⟩
   clear hi ht
   simp -dsimp only[↓bp,bq,br,seval,fO,h32,hlt,hx]
   refine aY fun b9 h9=> ?_
   have hB9:=hBi.newBox h9 [.int .u8 x.knd, .bool x.neg,bD x.limbs, .str x.text, .int .i64 x.num,aH x.items,aH x.tail]
   have hle2:σ1.le (σ1.setBox b9 [.int .u8 x.knd, .bool x.neg,bD x.limbs, .str x.text, .int .i64 x.num,aH x.items,aH x.tail]):=(AS.le.refl σ1).setBox (hBi.le.fresh h9).1 _
   have hb9:(σ1.setBox b9 [.int .u8 x.knd, .bool x.neg,bD x.limbs, .str x.text, .int .i64 x.num,aH x.items,aH x.tail]).box b9=some [.int .u8 x.knd, .bool x.neg,bD x.limbs, .str x.text, .int .i64 x.num,aH x.items,aH x.tail]:=by simp[AS.setBox]
   have hF2:=hF1.up hle2
   generalize σ1.setBox b9 _=σ2 at*
   simp -dsimp only[↓bp,bq,br,seval,fO,h32,hlt,hx]
   generalize σ3.setBox b9 _=s2 at*
   have h9b:s2.box b9=some [.int .u8 x.knd, .bool x.neg,bD x.limbs, .str x.text, .int .i64 x.num,aH x.items,aH x.tail]:=hB9.le.box _ _ hb9
   have h9p:s2.box p=some [.fn 43 [.ptr b 0, .ptr q 0]]:=hB9.le.box _ _ hF2.put
   rw[htk]at hnext hl2
   rw[List.length_append,List.length_cons]at hl2
   clear hlt hBi
   repeat'(first|refine xs ?_ ?_ <;>intros|(refine wn ?_;intro bx hbx;try simp only[fb]at hbx)|((refine aJ.mono (wb hB9 (by simp only[List.length_append];omega) 124 124 rfl) ?_;rintro r s3 hB3;have h9b:=hB3.le.box _ _ hb9;have h9p:=hB3.le.box _ _ hF2.put;clear hB9))|((refine aJ.mono (hPx σ2 _ b p q _ hF2 hB3 (by simp only[List.length_append,List.length_cons,List.length_nil];omega)) ?_;rintro r s4 hB4))|refine wj ?_|simp -dsimp only[↓bp,bq,br,seval,fO, *]|refine wz ?_|fail)
   try rw[hw]
   exact hnext _ (by have:=hB4.weaken hle2;simpa using this)
  ·have:i=t.tail.length:=by omega
   subst this
   rw[List.take_length]at hBi
   clear hlt hile hi ht
   have hirr2:=eq_false (Int.lt_irrefl (t.tail.length:Int))
   simp -dsimp only[↓bp,bq,br,seval,fO,h32,hirr2]
   repeat'(first|refine xs ?_ ?_ <;>intros|(refine wn ?_;intro bx hbx;try simp only[fb]at hbx)|((refine aJ.mono (dF _ hBi to (by simp only[List.length_append];omega)) ?_;rintro r s3 hB3))|refine wj ?_|simp -dsimp only[↓bp,bq,br,seval,fO, *]|refine wz ?_|fail)
   exact aE _ (AS.le.refl _) (hB3.weaken hle1)
end Go.Proofs.YtdhbdhopnpmboaaGreatDoor
