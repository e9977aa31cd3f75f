/- A law's call: from what is said of abstract values to the row's statement. -/
import Derived.Test.YthoenjlenkpnnaaDoorY06
import Derived.Below
import Derived.ChangeSame
import Derived.DataShut
import Derived.HandedShaped
import Derived.Shelf.LaysM
import Derived.Shelf.Bytes.GrowSliceCatch
import Derived.Shelf.Bytes.GrowSlice
import Derived.Shelf.Strings.Search1
import Derived.Shelf.Strings.Search2
import Derived.Shelf.Strings.Search3
import Derived.Shelf.Strings.Shaped
import Derived.Ground.SlbCloneProg
import Derived.Shelf.Bytes.SlClone
import Derived.Test.YthoenjlenkpnnaaDoorProg
import Derived.Test.YthoenjlenkpnnaaDoorChecked
import Derived.KernelRfl
set_option linter.unusedVariables false
set_option linter.unusedSimpArgs false
namespace Go.Av
open Go Go.RowKit Go.WideShapes Go.ChangeShapes
variable {H:Type}
section shut
variable {enc:TypeId × Value ->H} {P:Program} {w:World} {held:Bool} {S:List TypeId}
theorem C8x(hS:mG P S=true){sp:Nat ->Bool} :∀ (fuel:Nat) (t:TypeId) (cs:List Value) (x:DataW H × List MemPlace),t ∈ S ->
  DataW.trod enc P w 0 (fun _=>true) held fuel t cs=some x -> (∀ p ∈ x.2,sp p.block=true) ->DataW.trod enc P w 0 sp held fuel t cs=some x:=by
 intro fuel
 induction fuel with
 |zero=>intro t cs x _ h;simp[DataW.trod]at h
 | succ n ih=>
  intro t cs x htS h hsp
  have hc:=List.all_eq_true.1 hS t htS
  split at hc
  ·rename_i ht
   obtain⟨b,rfl,rfl⟩:=DataW.trod_bool ht h
   simp[DataW.trod,ht]
  ·rename_i k ht
   obtain⟨m,rfl,rfl,hw⟩:=DataW.trod_int ht h
   simp[DataW.trod,ht,hw]
  ·rename_i ht
   obtain⟨s,rfl,rfl,hw⟩:=DataW.trod_string ht h
   simp[DataW.trod,ht,hw]
  ·rename_i e ht
   simp only[Bool.and_eq_true,decide_eq_true_eq]at hc
   have heS:e ∈ S:=by simpa using hc.1
   rcases DataW.trod_slice ht h with⟨rfl,rfl⟩|⟨a,len,cap,elems,rest,m,hm,rfl,rfl,hb0,hlc,hml,hlen,hel,hspr,_⟩
   ·simp[DataW.trod,ht]
   ·have hmn:m=n:=by omega
    subst hmn
    obtain⟨hrl,hr⟩:=hspr rfl
    have hpe:∀ y,y ∈ elems++rest ->∀ p ∈ y.2,sp p.block=true:=fun y hy p hp=>hsp p (by
     simp only[List.mem_append,List.mem_flatMap]
     exact .inr ⟨y,by simpa using hy,hp⟩)
    have step:∀ (i:Nat) (y:DataW H × List MemPlace),y ∈ elems++rest -> ((w.cells? 0 (a.add (i*P.cellsOf e)) (P.cellsOf e)).bind (DataW.trod enc P w 0 (fun _=>true) held m e))=some y ->
      ((w.cells? 0 (a.add (i*P.cellsOf e)) (P.cellsOf e)).bind (DataW.trod enc P w 0 sp held m e))=some y:=fun i y hy hh=>by
     rw[Option.bind_eq_some_iff]at hh ⊢
     obtain⟨cs,g1,g2⟩:=hh
     exact⟨cs,g1,ih e cs y heS g2 (hpe y hy)⟩
    have h1':(List.range len).mapM (fun i=> (w.cells? 0 (a.add (i*P.cellsOf e)) (P.cellsOf e)).bind (DataW.trod enc P w 0 sp held m e))=some elems:=
     mapM_some_of_get _ _ (by simp[hlen]) (fun i x hx=>by
      obtain⟨hi,rfl⟩:=List.getElem?_eq_some_iff.1 hx
      simp only[List.length_range]at hi
      rw[List.getElem_range,List.getElem?_eq_getElem (by omega)]
      refine step i _ (List.mem_append_left _ (List.getElem_mem _)) ?_
      rw[hel i hi,List.getElem?_eq_getElem (by omega)])
    have h2':(List.range (cap - len)).mapM (fun j=> (w.cells? 0 (a.add ((len+j)*P.cellsOf e)) (P.cellsOf e)).bind (DataW.trod enc P w 0 sp held m e))=some rest:=
     mapM_some_of_get _ _ (by simp[hrl]) (fun i x hx=>by
      obtain⟨hi,rfl⟩:=List.getElem?_eq_some_iff.1 hx
      simp only[List.length_range]at hi
      rw[List.getElem_range,List.getElem?_eq_getElem (by omega)]
      refine step (len+i) _ (List.mem_append_right _ (List.getElem_mem _)) ?_
      rw[hr i hi,List.getElem?_eq_getElem (by omega)])
    rw[DataW.trod_step]
    unfold DataW.trodStep
    simp only[ht]
    rw[if_pos ⟨hb0,hlc,hml⟩,h1']
    simp only[Option.bind_some]
    by_cases hz:cap - len=0
    ·have:rest=[]:=List.eq_nil_of_length_eq_zero (by omega)
     subst this
     rw[hz]
     split <;>simp
    ·have hb:sp a.block=true:=by
      refine hsp (.cell a.block a.off) ?_
      simp only[List.mem_append]
      refine .inl (MemPlace.mem_row.2 ⟨0,?_,rfl⟩)
      have hp:0 < P.cellsOf e:=hc.2
      exact Nat.mul_pos (by omega) hp
     rw[if_pos hb,h2']
     simp
  ·rename_i fs ht
   simp only[Bool.and_eq_true]at hc
   have hfS:∀ f,f ∈ fs.toList ->f.type ∈ S:=fun f hf=>by have:=List.all_eq_true.1 hc.1 f hf;simpa using this
   obtain⟨xs,m,hm,rfl,hcl,hxl,hx⟩:=DataW.trod_struct ht h
   have hmn:m=n:=by omega
   subst hmn
   have h1':fs.toList.mapM (fun f=>DataW.trod enc P w 0 sp held m f.type ((cs.drop f.offset).take (P.cellsOf f.type)))=some xs:=
    mapM_some_of_get _ _ (by simp[hxl]) (fun i f hf=>by
     have hfa:fs[i]? =some f:=by simpa using hf
     have h2:=hx i f hfa
     have hi:i < xs.length:=by have:=(Array.getElem?_eq_some_iff.1 hfa).1;omega
     rw[List.getElem?_eq_getElem hi]at h2 ⊢
     exact ih f.type _ _ (hfS f (by rw[Array.mem_toList_iff];exact Array.mem_of_getElem? hfa)) h2 fun p hp=>hsp p (List.mem_flatMap.2 ⟨_,List.getElem_mem hi,hp⟩))
   rw[DataW.trod_step]
   unfold DataW.trodStep
   simp only[ht]
   rw[if_pos hcl,h1']
   rfl
  ·rename_i q e ht
   simp only[Bool.and_eq_true,decide_eq_true_eq]at hc
   have heS:e ∈ S:=by simpa using hc.1
   obtain⟨xs,m,hm,rfl,hcl,hxl,hx⟩:=DataW.trod_array ht h
   have hmn:m=n:=by omega
   subst hmn
   have h1':(List.range q).mapM (fun i=>DataW.trod enc P w 0 sp held m e ((cs.drop (i*P.cellsOf e)).take (P.cellsOf e)))=some xs:=
    mapM_some_of_get _ _ (by simp[hxl]) (fun i f hf=>by
     obtain⟨hi,rfl⟩:=List.getElem?_eq_some_iff.1 hf
     simp only[List.length_range]at hi
     rw[List.getElem_range]
     have h2:=hx i hi
     rw[List.getElem?_eq_getElem (by omega)]at h2 ⊢
     exact ih e _ _ heS h2 fun p hp=>hsp p (List.mem_flatMap.2 ⟨_,List.getElem_mem (by omega),hp⟩))
   rw[DataW.trod_step]
   unfold DataW.trodStep
   simp only[ht]
   rw[if_pos hcl,h1']
   rfl
  ·cases hc
theorem zF(hS:mG P S=true){w':World}{sp:Nat ->Bool}(hb:Below w.heap.size w w'):∀ (ts:List TypeId) (vs:List Value) (ds:List (DataW H)) (ps:List MemPlace),(∀ t,t ∈ ts ->t ∈ S) ->
  DataW.TrodAll enc P w 0 (fun _=>true) held ts vs ds ps -> (∀ p ∈ ps,p.block < w.heap.size) -> (∀ p ∈ ps,sp p.block=true) ->DataW.TrodAll enc P w' 0 sp held ts vs ds ps
 |[],[],[],ps,_,h,_,_=>h
 | t::ts,v::vs,d::ds,ps,hts,⟨p,q,⟨fuel,h1⟩,h2,h3⟩,hlt,hsp=>by
  subst h3
  have hsame:∀ x ∈ p,w.sameAt w' x:=fun x hx=>by
   have hl:=hlt x (by simp[hx])
   cases x with
   |cell b o=>exact hb.cell (p:=⟨b,o,none⟩) hl
   |map b=>exact hb.block b hl
  have h4:=DataW.trod_carry fuel t _ _ h1 hsame
  exact⟨p,q,⟨fuel,C8x hS fuel t _ _ (hts t (by simp)) h4 fun x hx=>hsp x (by simp[hx])⟩,
   zF hS hb ts vs ds q (fun t ht=>hts t (by simp[ht])) h2 (fun x hx=>hlt x (by simp[hx])) (fun x hx=>hsp x (by simp[hx])),rfl⟩
 |[],_::_,_,_,_,h,_,_=>h.elim
 |[],[],_::_,_,_,h,_,_=>h.elim
 |_::_,[],_,_,_,h,_,_=>h.elim
 |_::_,_::_,[],_,_,h,_,_=>h.elim
end shut
section typed
variable {P:Program} {n:Nat} {t:TypeId} {d:DataW H}
theorem C8y{k:IntKind}(h:tyW P n t d)(ht:P.underlying t=some (.int k)):∃ m,d= .lit (.int k m) /\ (Lit.int k m).wf=true:=by
 cases n with
 |zero=>exact h.elim
 |succ n=>simp only[tyW,ht]at h;exact h
theorem B4p{e:TypeId}(h:tyW P n t d)(ht:P.underlying t=some (.slice e)):∃ xs sp m,(d= .nil /\ xs=[] \/ d= .slice xs sp) /\ n=m+1 /\ ∀ x,x ∈ xs ->tyW P m e x:=by
 cases n with
 |zero=>exact h.elim
 | succ n=>
  simp only[tyW,ht]at h
  rcases h with h|⟨xs,sp,h1,h2⟩
  ·exact⟨[],[],n, .inl ⟨h,rfl⟩,rfl,fun x hx=>by cases hx⟩
  ·exact⟨xs,sp,n, .inr h1,rfl,h2⟩
theorem zG{P:Program}{α:Type}{e:TypeId}{enc:α ->AV}{good:DataW H ->α ->Prop}{m:Nat}(hd:∀ x,tyW P m e x ->∃ a,kX x=enc a /\ good x a):∀ (xs:List (DataW H)),(∀ x,x ∈ xs ->tyW P m e x) ->
  ∃ l:List α,A0l xs=l.map enc /\ l.length=xs.length /\ ∀ (i:Nat) x a,xs[i]? =some x ->l[i]? =some a ->good x a
 |[],_=> ⟨[],by simp[A0l],rfl,fun i x a h=>by simp at h⟩
 | x::xs,h=>by
  obtain⟨a,h1,h2⟩:=hd x (h x (by simp))
  obtain⟨l,h3,h4,h5⟩:=zG hd xs fun y hy=>h y (by simp[hy])
  refine⟨a::l,by simp[A0l,h1,h3],by simp[h4],fun i y b hy hb=> ?_⟩
  cases i with
  |zero=>simp at hy hb;subst hy hb;exact h2
  |succ i=>exact h5 i y b (by simpa using hy) (by simpa using hb)
end typed
section entry
variable {P:Program} {G:Nat ->AV} {W:World}
def iP(W:World):aT:= {imm:=fun b o=>W.cell? ⟨b,o,none⟩,row:=fun _=>none,base:=W.heap.size,W:=W}
def B7n:AS:= {box:=fun _=>none,tip:=fun _=>none,ty:=fun _=>none}
theorem bM.entry(hG:∀ g,VR (iP W) (G g) (.pointer (some ⟨g,0,none⟩))):bM G (iP W) B7n W:=
 ⟨fun _ _ _ h=>h,fun _ _ _ _ h=> (by cases h),fun _ _ h=> (by cases h),fun _ _ _ h=> (by cases h),fun _ _ _ h=> (by cases h),hG,Below.refl _ _,Nat.le_refl _⟩
theorem qZ{P:Program}{w:World}{n:String}{d:DataW Unit} :∀ (laid:List (String × DataW Unit)) (ps:List MemPlace),DataW.LaidVars P w laid ps -> (n,d) ∈ laid ->
  ∃ g t cs fuel p,P.globalNamed n=some g /\ (P.globals[g]?).map (·.type)=some t /\ w.var? P n=some cs /\ DataW.trod (fun _=> ()) P w 0 (fun _=>true) false fuel t cs.toList=some (d,p)
 |[],_,_,h=>by cases h
 | (m,e)::r,ps,⟨g,t,cs,fuel,p,q,h1,h2,h3,h4,h5,_⟩,h=>by
  rcases List.mem_cons.1 h with h|h
  ·cases h;exact⟨g,t,cs,fuel,p,h1,h2,h3,h4⟩
  ·exact qZ r q h5 h
theorem sF {S:List TypeId} (hS:mG P S=true) {laid:List (String × DataW Unit)} (hL:laidMet P laid W) {n:String} {d:DataW Unit} (hm:(n,d) ∈ laid) {g:Nat} {t:TypeId} (hg:P.globalNamed n=some g)
  (ht:(P.globals[g]?).map (·.type)=some t) (htS:t ∈ S) {cs:List AV} (hcs:flat (kX d)=cs):VR (iP W) (.rp cs) (.pointer (some ⟨g,0,none⟩)):=by
 obtain⟨ps,h1,_⟩:=hL
 obtain⟨g',t',vs,fuel,p,hg',ht',hvar,hd⟩:=qZ laid ps h1 hm
 obtain rfl:=Option.some.inj (hg.symm.trans hg')
 obtain rfl:=Option.some.inj (ht.symm.trans ht')
 obtain⟨_,h2,_⟩:=A5l (K:=iP W) hS (fun b o v h=>h) fuel t _ _ htS hd
 simp only[hcs]at h2
 have hsz:=h2.size
 refine .rp cs g 0 (fun j=>vs.toList.getD j Go.undef) h2.one (fun j hj=> ?_) h2.at_
 have h3:=World.var?_cell hg hvar j
 show W.cell? ⟨g,0+j,none⟩=_
 have hj2:j < vs.toList.length:=by omega
 have hj3:j < vs.size:=by simpa using hj2
 rw[Nat.zero_add,h3]
 simp[hj3]
theorem aN.calls{f:FuncId}{args:List AV}{vals:List Value}{b:Bool}(h:aN P G f args (.bool b))(hG:∀ g,VR (iP W) (G g) (.pointer (some ⟨g,0,none⟩)))(hv:lE (iP W) args vals):
  Calls P f vals.toArray W fun e w'=>e= .returned (.bool b) /\ Below W.heap.size W w':=by
 refine((h B7n).2 (iP W) W vals (bM.entry hG) hv).mono ?_
 rintro e w' ⟨v,r,σ',K',rfl,⟨rfl,rfl⟩,hvr,hrel,hle⟩
 rw[VR.bool_iff]at hvr
 subst hvr
 have hb:=hrel.below
 rw[hle.base,hle.W]at hb
 exact⟨rfl,hb⟩
end entry
theorem C0m {t0:TypeId} {enc:TypeId × Value ->H} {P:Program} {f:Func} {s:ChangeSpec} {W W':World} {args:Array Value} {ds gs:List (DataW H)} {before:List MemPlace} {S:List TypeId} (hS:mG P S=true) (hts:∀ t,t ∈ f.params.toList ->t ∈ S)
  (hvars:s.vars=[]) (hres:f.resultTypes= #[t0]) (ht0:P.underlying t0=some .bool)
  (hfn:s.fn H (ds++gs)= {results:=[.lit (.bool true)],args:=ds})
  (hW:DataW.Whole enc P f.params.toList s.vars false W args.toList ds gs before) (hb:Below W.heap.size W W'):
  s.post enc P f false true false false W args (.bool true) W':=by
 have hW':=hW
 obtain⟨p,q,hA,hV,rfl,hfz,hnd⟩:=hW
 rw[hvars]at hV
 obtain⟨hgs,rfl⟩:=trodVars_none hV
 rw[List.append_nil]at hW'
 have hA':DataW.TrodAll enc P W 0 (fun _=>true) true f.params.toList args.toList ds p:=hA
 have hlt:∀ x ∈ p,x.block < W.heap.size:=fun x hx=>hA'.lt x hx
 have inW:∀ x ∈ p,decide (x.block < W.heap.size)=true:=fun x hx=>by simpa using hlt x hx
 have results:∀ (b:Nat) (sp:Nat ->Bool) (hd:Bool),DataW.TrodAll enc P W' b sp hd f.resultTypes.toList ((Value.bool true).resultList f.resultTypes.size) (s.fn H (ds++gs)).results []:=fun b sp hd=>by
  rw[hfn,hres];exact trodAll_cons_mk (shut_bool ht0 _) trodAll_mk0
 have arguments:∀ sp:Nat ->Bool,(∀ x ∈ p,sp x.block=true) ->DataW.TrodAll enc P W' 0 sp true f.params.toList args.toList (s.fn H (ds++gs)).args p:=fun sp hsp=>by
  rw[hfn];exact zF hS hb _ _ _ _ hts hA' hlt hsp
 have variables_:∀ sp:Nat ->Bool,DataW.TrodVars enc P W' sp s.vars (s.fn H (ds++gs)).vars []:=fun sp=>by
  rw[hfn,hvars];exact rfl
 refine⟨ds,gs,p,[],p,[],by simpa using hW',results _ _ _,arguments _ inW,variables_ _,World.keptBut_mono (fun x hx=>hx.elim) (hb.frame fun _=>False),fun _=> ?_⟩
 refine⟨?_,_,_,p,⟨p,[],trodAll_append (arguments _ fun _ _=>rfl) (results _ _ _),variables_ _,(by simp),?_,fun h=> (by cases h)⟩,fun x hx _=> (by simpa using hx)⟩
 ·exact ok_one hres rfl (okWide_bool_mk ht0 _)
 ·intro b o hx
  rw[hb.frozen (p:=⟨b,o,none⟩) (hlt (.cell b o) hx)]
  exact hfz b o (by simpa using hx)
end Go.Av
namespace Go.Av
open Go Go.RowKit
theorem VR.mono2 {K K':aT} (hi:∀ b o v,K.imm b o=some v ->K'.imm b o=some v) (hr:∀ b x,K.row b=some x ->K'.row b=some x)
  (ht:∀ b,b < K.base ->b < K'.base /\ K'.W.heap[b]? =K.W.heap[b]?) {a:AV} {v:Value} (k:VR K a v):VR K' a v:=by
 induction k with
 |undef v=>exact .undef v
 |bool b=>exact .bool b
 |int k n=>exact .int k n
 |str s=>exact .str s
 |nil=>exact .nil
 | sl g xs sp sz b off cap f hsz hcap hml himm hv hg ih=>
  refine .sl g xs sp sz b off cap f hsz hcap hml (fun j hj=>hi _ _ _ (himm j hj)) ih ?_
  cases g with
  |none=>exact hg
  |full=>exact hg
  |own b'=>obtain⟨h1,h2,E,s,h3⟩:=hg;exact⟨h1,h2,E,s,hr _ _ h3⟩
 |sl0 a=>exact .sl0 a
 |agg cs vs hl h1 hv ih=>exact .agg cs vs hl h1 ih
 |tup cs vs hl hv ih=>exact .tup cs vs hl ih
 |ptr b o=>exact .ptr b o
 |rp cs b off f h1 himm hv ih=>exact .rp cs b off f h1 (fun j hj=>hi _ _ _ (himm j hj)) ih
 |nilptr=>exact .nilptr
 |fn f caps vs hl hv ih=>exact .fn f caps vs hl ih
 |nilfn=>exact .nilfn
 |bs b n s cap E hr' hn hm=>exact .bs b n s cap E (hr _ _ hr') hn hm
 |bp b s cap E hr'=>exact .bp b s cap E (hr _ _ hr')
 |raw v=>exact .raw v
 |tab vs b E fz hb hw=>exact .tab vs b E fz (ht b hb).1 (by rw[(ht b hb).2];exact hw)
def aT.lent(K:aT)(σ:AS)(w:World):aT:=
 {imm:=fun b o=>match σ.box b with|some cs=>if o < cs.length then w.cell? ⟨b,o,none⟩else K.imm b o|none=>K.imm b o,row:=K.row,base:=w.heap.size,W:=w}
def tyT:Option (rQ × Nat) ->Option (rQ × Nat)
 |some (.t E,n)=>some (.t E,n)
 |_=>none
theorem C2w{x:Option (rQ × Nat)}{y:rQ × Nat}(h:tyT x=some y):∃ E n,x=some (.t E,n) /\ y=(.t E,n):=by
 unfold tyT at h
 split at h
 ·cases h;exact⟨_,_,rfl,rfl⟩
 ·cases h
def AS.shut(σ:AS):AS:= {box:=fun _=>none,tip:=fun _=>none,ty:=fun b=>tyT (σ.ty b)}
section
variable {G:Nat ->AV} {K:aT} {σ:AS} {w:World}
theorem C0q(h:bM G K σ w):∀ b o v,K.imm b o=some v -> (K.lent σ w).imm b o=some v:=by
 intro b o v hv
 unfold aT.lent
 simp only
 cases e:σ.box b with
 |none=>exact hv
 | some cs=>
  obtain⟨_,_,_,h4,_⟩:=h.box b cs e
  rw[h4 o]at hv;cases hv
theorem VR.lent(h:bM G K σ w){a:AV}{v:Value}(k:VR K a v):VR (K.lent σ w) a v:=
 VR.mono2 (C0q h) (fun b x hx=>hx) (fun b hb=> ⟨Nat.lt_of_lt_of_le hb h.bs,h.below.block b hb⟩) k
theorem bM.lent(h:bM G K σ w):bM G (K.lent σ w) σ.shut w:=by
 refine⟨fun b o v hv=> ?_,fun b cap s E hr=> ?_,fun b cs hb=> (by cases hb),fun b n s ht=> (by cases ht),fun b E n ht=> ?_,fun g=> (h.glob g).lent h,Below.refl _ _,Nat.le_refl _⟩
 ·unfold aT.lent at hv
  simp only at hv
  cases e:σ.box b with
  |none=>rw[e]at hv;exact h.imm b o v hv
  | some cs=>
   rw[e]at hv
   simp only at hv
   split at hv
   ·exact hv
   ·exact h.imm b o v hv
 ·obtain⟨cur,fz,h1,h2,h3,_⟩:=h.row b cap s E hr
  exact⟨cur,fz,h1,h2,h3,fun⟨x,hx⟩=>by cases hx⟩
 ·obtain⟨E',n',h1,h2⟩:=C2w ht
  cases h2
  exact h.ty b _ _ h1
end
def uT(G:Nat ->AV)(σ:AS)(a a':AV):Prop:=∀ K w u,bM G K σ w ->VR K a u ->VR (K.lent σ w) a' u
inductive lG(G:Nat ->AV)(σ:AS):List AV ->List AV ->Prop
 |nil:lG G σ [] []
 |cons {a a':AV} {l l':List AV} (h:uT G σ a a') (t:lG G σ l l'):lG G σ (a::l) (a'::l')
theorem uT.id{G:Nat ->AV}{σ:AS}(a:AV):uT G σ a a:=fun K w u hr h=>h.lent hr
theorem uT.le{G:Nat ->AV}{σ:AS}{a b c:AV}(h:uT G σ a b)(k:Le b c):uT G σ a c:=fun K w u hr hv=>k _ _ (h K w u hr hv)
theorem lG.length{G:Nat ->AV}{σ:AS}{l l':List AV}(h:lG G σ l l'):l.length=l'.length:=by
 induction h with
 |nil=>rfl
 |cons _ _ ih=>simp[ih]
theorem lG.at_{G:Nat ->AV}{σ:AS}{l l':List AV}(h:lG G σ l l'):∀ j (h1:j < l.length) (h2:j < l'.length),uT G σ l[j] l'[j]:=by
 induction h with
 |nil=>intro j h1;cases h1
 | cons h _ ih=>
  intro j h1 h2
  cases j with
  |zero=>exact h
  |succ j=>exact ih j (by simpa using h1) (by simpa using h2)
theorem lG.append{G:Nat ->AV}{σ:AS}{a a' b b':List AV}(h:lG G σ a a')(k:lG G σ b b'):lG G σ (a++b) (a'++b'):=by
 induction h with
 |nil=>exact k
 |cons h _ ih=>exact .cons h ih
theorem uT.row {G:Nat ->AV} {σ:AS} {b s:Nat} {E:TypeId} {cs ds:List AV} (hb:σ.box b=some cs) (hl:lG G σ (cs.take ds.length) ds) (hd:ds.length <=cs.length) {xs sp:List AV} (hx:(xs++sp).flatMap flat=ds) (hs0:0 < s)
  (hsz:∀ e,e ∈ xs++sp -> (flat e).length=s /\ isv e=true /\ ∀ c,c ∈ flat e ->one c=true):uT G σ (.bs b xs.length s E) (.sl .none xs sp):=by
 intro K w u hr hv
 obtain⟨g1,g2,g3,g4,g5,c,F,hc,hs,hvv⟩:=hr.box b cs hb
 generalize hn:xs.length=n at hv
 cases hv with
 | bs _ _ _ cap _ hrow hn' hm=>
  obtain⟨cur,fz,h1,h2,h3,_⟩:=hr.row b cap s E hrow
  rw[hc]at h1
  simp only[Option.some.injEq,Obj.cells.injEq]at h1
  obtain⟨rfl,_,_⟩:=h1
  have hlen:ds.length=(xs.length+sp.length)*s:=by
   rw[<- hx]
   have:∀ l:List AV,(∀ e,e ∈ l -> (flat e).length=s) -> (l.flatMap flat).length=l.length*s:=by
    intro l
    induction l with
    |nil=>intro _;simp
    | cons x l ih=>
     intro h
     rw[List.flatMap_cons,List.length_append,h x (by simp),ih (fun e he=>h e (by simp[he])),List.length_cons,Nat.add_mul,Nat.one_mul,Nat.add_comm]
   rw[this _ (fun e he=> (hsz e he).1),List.length_append]
  have hcap:xs.length+sp.length <=cap:=by
   have:(xs.length+sp.length)*s <=cap*s:=by omega
   exact Nat.le_of_mul_le_mul_right this hs0
  have hval:=VR.sl (K:=K.lent σ w) .none xs sp s b 0 cap (fun j=>c.getD j Go.undef) hsz hcap hm
   (fun j hj=>by
     rw[hx]at hj
     rw[Nat.zero_add]
     unfold aT.lent
     simp only[hb]
     rw[if_pos (by omega),cell_of_row w b j c F (0,0) hc]
     have:j < c.size:=by omega
     simp[this])
   (fun j hj=>by
     have hj':j < ds.length:=by rw[<- hx];exact hj
     have e:((xs++sp).flatMap flat)[j]=ds[j]:=by simp only[hx]
     rw[e]
     have h4:=hl.at_ j (by rw[List.length_take];omega) hj'
     have h5:(cs.take ds.length)[j]'(by rw[List.length_take];omega)=cs[j]'(by omega):=List.getElem_take
     rw[h5]at h4
     exact h4 K w _ hr (hvv j (by omega)))
   trivial
  rw[hn]at hval
  exact hval
theorem uT.agg{G:Nat ->AV}{σ:AS}{l l':List AV}(h:lG G σ l l')(h1:∀ c,c ∈ l' ->one c=true):uT G σ (.agg l) (.agg l'):=by
 intro K w u hr hv
 cases hv with
 | agg _ vs hl _ hv=>
  have hlen:=h.length
  exact .agg l' vs (by omega) h1 (fun j hj=>h.at_ j (by omega) hj K w _ hr (hv j (by omega)))
section
variable {G:Nat ->AV} {K K':aT} {σ s:AS} {w w':World}
end
def Mk.row(n s:Nat)(E:TypeId)(cs:List AV):Mk:=⟨fun b=> .bs b n s E,cs⟩
end Go.Av
namespace Go.Av
open Go Go.RowKit
section
variable {P:Program} {e:aM} {σ:AS}
theorem hU{t:Tmp}{r:ResultVar}{rs:List ResultVar} :jJ P e σ (.tmp t::r::rs)=(jJ P e σ (r::rs)).map (e t:: ·):=by
 rw[jJ]
 simp only[A3k]
 cases jJ P e σ (r::rs) <;>rfl
theorem fW{t:Tmp}{ty:TypeId}{r:ResultVar}{rs:List ResultVar} :jJ P e σ (.cell t ty::r::rs)=(hO P σ ty (e t)).bind fun x=> (jJ P e σ (r::rs)).map (x:: ·):=by
 rw[jJ]
 simp only[A3k]
 cases hO P σ ty (e t) <;>cases jJ P e σ (r::rs) <;>rfl
end
end Go.Av
namespace Go.Av
open Go Go.RowKit
end Go.Av
namespace Go.Proofs
open Go.Shelf
def Tryd.laysM290_ren:Go.Shelf.Ren:=⟨fun|290=>64|324=>73|n=>n,fun|37=>27|3=>3|0=>0|4=>4|20=>20|75=>61|5=>5|80=>105|9=>9|n=>n,fun|14=>1|n=>n⟩
theorem Tryd.laysM290:Go.Proofs.LaysM.n290 Tryd.prog Tryd.laysM290_ren:= {
 mixed:=by kernel_rfl
 f290:=Tryd.func64.trans (congrArg some (by kernel_rfl))
 f324:=Tryd.func73.trans (congrArg some (by kernel_rfl))
 t0:=Tryd.underlying0
 a0:=Tryd.isAgg0
 z0:=Tryd.sizeOf0
 v0:=Tryd.zeroValue0
 t3:=Tryd.underlying3
 a3:=Tryd.isAgg3
 z3:=Tryd.sizeOf3
 v3:=Tryd.zeroValue3
 t4:=Tryd.underlying4
 a4:=Tryd.isAgg4
 z4:=Tryd.sizeOf4
 v4:=Tryd.zeroValue4
 t20:=Tryd.underlying20
 a20:=Tryd.isAgg20
 z20:=Tryd.sizeOf20
 v20:=Tryd.zeroValue20
 t37:=Tryd.underlying27
 a37:=Tryd.isAgg27
 z37:=Tryd.sizeOf27
 v37:=Tryd.zeroValue27
 t75:=Tryd.underlying61
 a75:=Tryd.isAgg61
 z75:=Tryd.sizeOf61
 v75:=Tryd.zeroValue61
 g14:=by kernel_rfl
 t5:=Tryd.underlying5
 a5:=Tryd.isAgg5
 z5:=Tryd.sizeOf5
 v5:=Tryd.zeroValue5
 t9:=Tryd.underlying9
 a9:=Tryd.isAgg9
 z9:=Tryd.sizeOf9
 v9:=Tryd.zeroValue9
 t80:=Tryd.underlying105
 a80:=Tryd.isAgg105
 z80:=Tryd.sizeOf105
 v80:=Tryd.zeroValue105
 i0:=by kernel_rfl
 i3:=by kernel_rfl
 i4:=by kernel_rfl
 i5:=by kernel_rfl
 i9:=by kernel_rfl
 i20:=by kernel_rfl
 i37:=by kernel_rfl
 i75:=by kernel_rfl
 i80:=by kernel_rfl
 m14:=by kernel_rfl}
def Tryd.lays144_ren:Go.Shelf.Ren:=⟨fun|144=>74|143=>75|219=>76|217=>77|225=>78|224=>79|267=>80|266=>81|314=>82|n=>n,fun|9=>9|4=>4|3=>3|5=>5|46=>117|146=>125|51=>88|n=>n,fun|1=>4|n=>n⟩
theorem Tryd.lays144:Go.Proofs.Lays.n144 Tryd.prog Tryd.lays144_ren:= {
 mixed:=by kernel_rfl
 f143:=Tryd.func75.trans (congrArg some (by kernel_rfl))
 f144:=Tryd.func74.trans (congrArg some (by kernel_rfl))
 f217:=Tryd.func77.trans (congrArg some (by kernel_rfl))
 f219:=Tryd.func76.trans (congrArg some (by kernel_rfl))
 f224:=Tryd.func79.trans (congrArg some (by kernel_rfl))
 f225:=Tryd.func78.trans (congrArg some (by kernel_rfl))
 f266:=Tryd.func81.trans (congrArg some (by kernel_rfl))
 f267:=Tryd.func80.trans (congrArg some (by kernel_rfl))
 f314:=Tryd.func82.trans (congrArg some (by kernel_rfl))
 t3:=Tryd.underlying3
 a3:=Tryd.isAgg3
 z3:=Tryd.sizeOf3
 v3:=Tryd.zeroValue3
 t4:=Tryd.underlying4
 a4:=Tryd.isAgg4
 z4:=Tryd.sizeOf4
 v4:=Tryd.zeroValue4
 t5:=Tryd.underlying5
 a5:=Tryd.isAgg5
 z5:=Tryd.sizeOf5
 v5:=Tryd.zeroValue5
 t9:=Tryd.underlying9
 a9:=Tryd.isAgg9
 z9:=Tryd.sizeOf9
 v9:=Tryd.zeroValue9
 t46:=Tryd.underlying117
 a46:=Tryd.isAgg117
 z46:=Tryd.sizeOf117
 v46:=Tryd.zeroValue117
 t51:=Tryd.underlying88
 a51:=Tryd.isAgg88
 z51:=Tryd.sizeOf88
 v51:=Tryd.zeroValue88
 t146:=Tryd.underlying125
 a146:=Tryd.isAgg125
 z146:=Tryd.sizeOf125
 v146:=Tryd.zeroValue125
 g1:=by kernel_rfl}
open Go.RowKit Go.Lib in
theorem Tryd.strings_Contains(s sub:ByteArray)(m:Int)(w:World)(hs:s.size < 4294967281)(hm:w.cell? ⟨4,0,none⟩=some (.int .i64 m)):
  Calls Tryd.prog 74 #[.string s, .string sub] w fun e w'=>e= .returned (.bool (Lib.contains s.data.toList sub.data.toList)) /\ w'=w:=Any.strings_Contains Tryd.lays144 s sub m w hs hm
end Go.Proofs
set_option maxRecDepth 100000
namespace Go.Proofs.YthoenjlenkpnnaaDoor
open Go Go.Av
theorem A5z:tk Tryd.prog 61=some (false,1) /\ sk Tryd.prog 61= .oth /\ (Tryd.prog.underlying 61).isSome=true /\ el Tryd.prog 61=none /\ dB Tryd.prog 61=some 16 /\ ifc Tryd.prog 61=true:=⟨by kernel_rfl,by kernel_rfl,by kernel_rfl,by kernel_rfl,by kernel_rfl,by kernel_rfl⟩
end Go.Proofs.YthoenjlenkpnnaaDoor
set_option maxRecDepth 100000
namespace Go.Proofs.YthoenjlenkpnnaaDoor
open Go Go.Av
end Go.Proofs.YthoenjlenkpnnaaDoor
