/- Abstract values, what it means that a value of the machine is seen as one, and the relation between an abstract state and a world. No program is named here. -/
import Derived.WalkKit
import Derived.Deep.LoopGhost
import Derived.StillTail
import Derived.Deep.AppendSrc
import Derived.ChangeKeysEq
import Derived.Laws.StructEq
set_option linter.unusedVariables false
set_option linter.unusedSimpArgs false
namespace Go.Av
open Go Go.RowKit
inductive Gh where
 |none|full|own (b:Nat)
inductive AV where
 |undef
 |bool (b:Bool)
 |int (k:IntKind) (n:Int)
 |str (s:List UInt8)
 |nil
 |sl (g:Gh) (xs sp:List AV)
 |agg (cs:List AV)
 |tup (vs:List AV)
 |ptr (b o:Nat)
 |rp (cs:List AV)
 |nilptr
 |fn (f:FuncId) (caps:List AV)
 |nilfn
 |bs (b n s:Nat) (E:TypeId)
 |bp (b s:Nat) (E:TypeId)
 |raw (v:Value)
 |tab (vs:List Value)
instance:Inhabited AV:=⟨.undef⟩
def flat:AV ->List AV
 | .agg cs=>cs
 |a=> [a]
def one:AV ->Bool
 | .undef=>false
 | .agg _=>false
 | .tup _=>false
 | .raw v=>v.oneCell'
 |_=>true
def isv:AV ->Bool
 | .agg _=>true
 |a=>one a
structure aJ where
 imm:Nat ->Nat ->Option Value
 row:Nat ->Option (Nat × Nat × TypeId)
 base:Nat
 W:World
 /-- blocks that hold no cells and that stay as they are -/
 obs:Nat ->Option Obj
structure aJ.le(K K':aJ):Prop where
 imm:∀ b o v,K.imm b o=some v ->K'.imm b o=some v
 row:∀ b x,K.row b=some x ->K'.row b=some x
 base:K'.base=K.base
 W:K'.W=K.W
 obs:∀ b o,K.obs b=some o ->K'.obs b=some o
theorem aJ.le.refl(K:aJ):K.le K:=⟨fun _ _ _ h=>h,fun _ _ h=>h,rfl,rfl,fun _ _ h=>h⟩
theorem aJ.le.trans{A B C:aJ}(h:A.le B)(k:B.le C):A.le C:=
 ⟨fun _ _ _ x=>k.imm _ _ _ (h.imm _ _ _ x),fun _ _ x=>k.row _ _ (h.row _ _ x),k.base.trans h.base,k.W.trans h.W,fun _ _ x=>k.obs _ _ (h.obs _ _ x)⟩
def Gh.ok(K:aJ)(b off len cap:Nat):Gh ->Prop
 | .none=>True
 | .full=>cap=len
 | .own b'=>b'=b /\ off=0 /\ ∃ E s,K.row b=some (cap,s,E)
inductive VR(K:aJ):AV ->Value ->Prop
 |undef (v:Value):VR K .undef v
 |bool (b:Bool):VR K (.bool b) (.bool b)
 |int (k:IntKind) (n:Int):VR K (.int k n) (.int k n)
 |str (s:List UInt8):VR K (.str s) (.string ⟨⟨s⟩⟩)
 |nil:VR K .nil (.slice none 0 0)
 | sl (g:Gh) (xs sp:List AV) (sz b off cap:Nat) (f:Nat ->Value)
   (hsz:∀ e,e ∈ xs++sp -> (flat e).length=sz /\ isv e=true /\ ∀ c,c ∈ flat e ->one c=true) (hcap:xs.length+sp.length <=cap) (hml:cap <=maxLen)
   (himm:∀ j,j < ((xs++sp).flatMap flat).length ->K.imm b (off+j)=some (f j))
   (hv:∀ j (h:j < ((xs++sp).flatMap flat).length),VR K (((xs++sp).flatMap flat)[j]) (f j))
   (hg:g.ok K b off xs.length cap):VR K (.sl g xs sp) (.slice (some ⟨b,off,none⟩) xs.length cap)
 |sl0 (a:Option Addr):VR K (.sl .none [] []) (.slice a 0 0)
 | agg (cs:List AV) (vs:Array Value) (hl:vs.size=cs.length) (h1:∀ c,c ∈ cs ->one c=true)
   (hv:∀ j (h:j < cs.length),VR K cs[j] (vs.getD j undef)):VR K (.agg cs) (.agg vs)
 | tup (cs:List AV) (vs:Array Value) (hl:vs.size=cs.length)
   (hv:∀ j (h:j < cs.length),VR K cs[j] (vs.getD j undef)):VR K (.tup cs) (.tuple vs)
 |ptr (b o:Nat):VR K (.ptr b o) (.pointer (some ⟨b,o,none⟩))
 | rp (cs:List AV) (b off:Nat) (f:Nat ->Value) (h1:∀ c,c ∈ cs ->one c=true)
   (himm:∀ j,j < cs.length ->K.imm b (off+j)=some (f j))
   (hv:∀ j (h:j < cs.length),VR K cs[j] (f j)):VR K (.rp cs) (.pointer (some ⟨b,off,none⟩))
 |nilptr:VR K .nilptr (.pointer none)
 | fn (f:FuncId) (caps:List AV) (vs:Array Value) (hl:vs.size=caps.length)
   (hv:∀ j (h:j < caps.length),VR K caps[j] (vs.getD j undef)):VR K (.fn f caps) (.func (.func f) #[] vs)
 |nilfn:VR K .nilfn .nilFunc
 |bs (b n s cap:Nat) (E:TypeId) (hr:K.row b=some (cap,s,E)) (hn:n <=cap) (hm:cap <=maxLen):VR K (.bs b n s E) (.slice (some ⟨b,0,none⟩) n cap)
 |bp (b s cap:Nat) (E:TypeId) (hr:K.row b=some (cap,s,E)):VR K (.bp b s E) (.pointer (some ⟨b,0,none⟩))
 |raw (v:Value):VR K (.raw v) v
 |tab (vs:List Value) (b:Nat) (E:TypeId) (fz:Nat × Nat) (hb:b < K.base) (hw:K.W.heap[b]? =some (.cells vs.toArray E fz)):VR K (.tab vs) (.pointer (some ⟨b,0,none⟩))
theorem Gh.ok.mono{K K':aJ}(h:K.le K'){b off len cap:Nat}{g:Gh}(k:g.ok K b off len cap):g.ok K' b off len cap:=by
 cases g with
 |none=>exact k
 |full=>exact k
 |own b'=>obtain⟨h1,h2,E,s,h3⟩:=k;exact⟨h1,h2,E,s,h.row _ _ h3⟩
theorem VR.mono{K K':aJ}(h:K.le K'){a:AV}{v:Value}(k:VR K a v):VR K' a v:=by
 induction k with
 |undef v=>exact .undef v
 |bool b=>exact .bool b
 |int k n=>exact .int k n
 |str s=>exact .str s
 |nil=>exact .nil
 |sl g xs sp sz b off cap f hsz hcap hml himm hv hg ih=>exact .sl g xs sp sz b off cap f hsz hcap hml (fun j hj=>h.imm _ _ _ (himm j hj)) ih (hg.mono h)
 |sl0 a=>exact .sl0 a
 |agg cs vs hl h1 hv ih=>exact .agg cs vs hl h1 ih
 |tup cs vs hl hv ih=>exact .tup cs vs hl ih
 |ptr b o=>exact .ptr b o
 |rp cs b off f h1 himm hv ih=>exact .rp cs b off f h1 (fun j hj=>h.imm _ _ _ (himm j hj)) ih
 |nilptr=>exact .nilptr
 |fn f caps vs hl hv ih=>exact .fn f caps vs hl ih
 |nilfn=>exact .nilfn
 |bs b n s cap E hr hn hm=>exact .bs b n s cap E (h.row _ _ hr) hn hm
 |bp b s cap E hr=>exact .bp b s cap E (h.row _ _ hr)
 |raw v=>exact .raw v
 |tab vs b E fz hb hw=>exact .tab vs b E fz (by rw[h.base];exact hb) (by rw[h.W];exact hw)
theorem VR.mono2 {K K':aJ} (hi:∀ b o v,K.imm b o=some v ->K'.imm b o=some v) (hr:∀ b x,K.row b=some x ->K'.row b=some x)
  (ht:∀ b,b < K.base ->b < K'.base /\ K'.W.heap[b]? =K.W.heap[b]?) {a:AV} {v:Value} (k:VR K a v):VR K' a v:=by
 induction k with
 |undef v=>exact .undef v
 |bool b=>exact .bool b
 |int k n=>exact .int k n
 |str s=>exact .str s
 |nil=>exact .nil
 | sl g xs sp sz b off cap f hsz hcap hml himm hv hg ih=>
  refine .sl g xs sp sz b off cap f hsz hcap hml (fun j hj=>hi _ _ _ (himm j hj)) ih ?_
  cases g with
  |none=>exact hg
  |full=>exact hg
  |own b'=>obtain⟨h1,h2,E,s,h3⟩:=hg;exact⟨h1,h2,E,s,hr _ _ h3⟩
 |sl0 a=>exact .sl0 a
 |agg cs vs hl h1 hv ih=>exact .agg cs vs hl h1 ih
 |tup cs vs hl hv ih=>exact .tup cs vs hl ih
 |ptr b o=>exact .ptr b o
 |rp cs b off f h1 himm hv ih=>exact .rp cs b off f h1 (fun j hj=>hi _ _ _ (himm j hj)) ih
 |nilptr=>exact .nilptr
 |fn f caps vs hl hv ih=>exact .fn f caps vs hl ih
 |nilfn=>exact .nilfn
 |bs b n s cap E hr' hn hm=>exact .bs b n s cap E (hr _ _ hr') hn hm
 |bp b s cap E hr'=>exact .bp b s cap E (hr _ _ hr')
 |raw v=>exact .raw v
 |tab vs b E fz hb hw=>exact .tab vs b E fz (ht b hb).1 (by rw[(ht b hb).2];exact hw)
structure aJ.ple(K K':aJ):Prop where
 imm:∀ b o v,K.imm b o=some v ->K'.imm b o=some v
 row:∀ b x,K.row b=some x ->K'.row b=some x
 base:K'.base=K.base
 W:K'.W=K.W
theorem aJ.le.p{K K':aJ}(h:K.le K'):K.ple K':=⟨h.imm,h.row,h.base,h.W⟩
theorem aJ.ple.trans{A B C:aJ}(h:A.ple B)(k:B.ple C):A.ple C:=
 ⟨fun _ _ _ x=>k.imm _ _ _ (h.imm _ _ _ x),fun _ _ x=>k.row _ _ (h.row _ _ x),k.base.trans h.base,k.W.trans h.W⟩
theorem aJ.ple.obs(K:aJ)(f:Nat ->Option Obj):K.ple {K with obs:=f} :=⟨fun _ _ _ h=>h,fun _ _ h=>h,rfl,rfl⟩
theorem aJ.ple.le{K K':aJ}(h:K.ple K')(ho:∀ b o,K.obs b=some o ->K'.obs b=some o):K.le K':=⟨h.imm,h.row,h.base,h.W,ho⟩
theorem VR.pmono{K K':aJ}(h:K.ple K'){a:AV}{v:Value}(k:VR K a v):VR K' a v:=
 VR.mono2 h.imm h.row (fun b hb=> ⟨by rw[h.base];exact hb,by rw[h.W]⟩) k
section inv
variable {K:aJ} {v:Value}
theorem VR.bool_iff{b:Bool} :VR K (.bool b) v ↔ v= .bool b:=⟨fun h=>by cases h;rfl,fun h=>h ▸ .bool b⟩
theorem VR.int_iff{k:IntKind}{n:Int} :VR K (.int k n) v ↔ v= .int k n:=⟨fun h=>by cases h;rfl,fun h=>h ▸ .int k n⟩
theorem VR.str_iff{s:List UInt8} :VR K (.str s) v ↔ v= .string ⟨⟨s⟩⟩:=⟨fun h=>by cases h;rfl,fun h=>h ▸ .str s⟩
theorem VR.nil_iff:VR K .nil v ↔ v= .slice none 0 0:=⟨fun h=>by cases h;rfl,fun h=>h ▸ .nil⟩
theorem VR.ptr_iff{b o:Nat} :VR K (.ptr b o) v ↔ v= .pointer (some ⟨b,o,none⟩):=⟨fun h=>by cases h;rfl,fun h=>h ▸ .ptr b o⟩
theorem VR.nilptr_iff:VR K .nilptr v ↔ v= .pointer none:=⟨fun h=>by cases h;rfl,fun h=>h ▸ .nilptr⟩
theorem VR.nilfn_iff:VR K .nilfn v ↔ v= .nilFunc:=⟨fun h=>by cases h;rfl,fun h=>h ▸ .nilfn⟩
theorem VR.raw_iff{u:Value} :VR K (.raw u) v ↔ v=u:=⟨fun h=>by cases h;rfl,fun h=>by subst h;exact .raw v⟩
end inv
theorem VR.oneCell{K:aJ}{a:AV}{v:Value}(h:VR K a v)(h1:one a=true):v.oneCell'=true:=by
 cases h <;>first|rfl|(simp[one]at h1;done)|exact h1
theorem VR.cells{K:aJ}{a:AV}{v:Value}(h:VR K a v)(h1:isv a=true):
  v.cells.size=(flat a).length /\ (∀ c,c ∈ flat a ->one c=true) /\ ∀ j (hj:j < (flat a).length),VR K (flat a)[j] (v.cells.getD j Go.undef):=by
 cases a with
 |agg cs=>cases h with|agg _ vs hl h1 hv=>exact⟨hl,h1,hv⟩
 |undef=>cases h1
 |tup vs=>cases h1
 | raw u=>
  cases h
  have hc:v.cells= #[v]:=by cases v <;>first|rfl|cases h1
  rw[hc]
  exact⟨rfl,fun c hc=>by simp[flat]at hc;subst hc;exact h1,fun j hj=>by
   have:j=0:=by simpa [flat] using hj
   subst this;exact .raw v⟩
 | _=>
  have hc:v.cells= #[v]:=by cases h <;>rfl
  rw[hc]
  refine⟨rfl,fun c hc=>by simp[flat]at hc;subst hc;rfl,fun j hj=> ?_⟩
  have:j=0:=by simpa [flat] using hj
  subst this
  exact h
theorem VR.agg_of {K:aJ} (cs:List AV) (vs:Array Value) (hl:vs.size=cs.length) (h1:∀ c,c ∈ cs ->one c=true)
  (hv:∀ j (h:j < cs.length),VR K cs[j] (vs.getD j Go.undef)):VR K (.agg cs) (.agg vs):= .agg cs vs hl h1 hv
inductive AO where
 |iter (s:List UInt8) (pos:Nat)
 |map (kv:List (AV × AV))
def VRm(K:aJ):List (AV × AV) ->List MapEntry ->Prop
 |[],[]=>True
 |x::l,e::r=>VR K x.1 e.key /\ VR K x.2 e.val /\ VRm K l r
 |_,_=>False
theorem VRm.pmono{K K':aJ}(h:K.ple K'):∀ {l:List (AV × AV)} {r:List MapEntry},VRm K l r ->VRm K' l r
 |[],[],_=>trivial
 |_::_,_::_,⟨a,b,c⟩=> ⟨a.pmono h,b.pmono h,VRm.pmono h c⟩
 |[],_::_,k=>k.elim
 |_::_,[],k=>k.elim
theorem VRm.mono{K K':aJ}(h:K.le K'){l:List (AV × AV)}{r:List MapEntry}(k:VRm K l r):VRm K' l r:=k.pmono h.p
inductive mR where
 |t (E:TypeId)
 |ob (o:AO)
instance:Coe TypeId mR:=⟨.t⟩
inductive OR(K:aJ):AO ->Obj ->Prop
 |iter (s:List UInt8) (pos:Nat):OR K (.iter s pos) (.stringIter ⟨⟨s⟩⟩ pos)
 |map (kv:List (AV × AV)) (es:Array MapEntry) (clock:Nat) (h:VRm K kv es.toList):OR K (.map kv) (.map es clock)
theorem OR.pmono{K K':aJ}(h:K.ple K'){o:AO}{x:Obj}(k:OR K o x):OR K' o x:=by
 cases k with
 |iter=>exact .iter _ _
 |map kv es clock k=>exact .map kv es clock (k.pmono h)
theorem OR.mono{K K':aJ}(h:K.le K'){o:AO}{x:Obj}(k:OR K o x):OR K' o x:=k.pmono h.p
theorem OR.cells{K:aJ}{o:AO}{c:Array Value}{E:TypeId}{fz:Nat × Nat}(k:OR K o (.cells c E fz)):False:=by cases k
def nQ(K:aJ)(w:World)(b:Nat):mR ->Nat ->Prop
 | .t E,n=>∃ c fz,w.heap[b]? =some (.cells c E fz) /\ c.size=n
 | .ob o,_=>K.base <=b /\ ∃ x,w.heap[b]? =some x /\ OR K o x
theorem nQ.lt{K:aJ}{w:World}{b:Nat}{E:mR}{n:Nat}(h:nQ K w b E n):b < w.heap.size:=by
 cases E with
 |t E=>obtain⟨c,fz,hc,_⟩:=h;exact(Array.getElem?_eq_some_iff.1 hc).1
 |ob o=>obtain⟨_,x,hx,_⟩:=h;exact(Array.getElem?_eq_some_iff.1 hx).1
theorem nQ.pmono{K K':aJ}(hk:K.ple K'){w:World}{b:Nat}{E:mR}{n:Nat}(h:nQ K w b E n):nQ K' w b E n:=by
 cases E with
 |t E=>exact h
 |ob o=>obtain⟨hb,x,hx,ho⟩:=h;exact⟨by rw[hk.base];exact hb,x,hx,ho.pmono hk⟩
theorem nQ.mono{K K':aJ}(hk:K.le K'){w:World}{b:Nat}{E:mR}{n:Nat}(h:nQ K w b E n):nQ K' w b E n:=h.pmono hk.p
theorem nQ.old{K:aJ}{w w':World}{b:Nat}{E:mR}{n:Nat}(h:nQ K w b E n)(he:w'.heap[b]? =w.heap[b]?):nQ K w' b E n:=by
 cases E with
 |t E=>obtain⟨c,fz,hc,hn⟩:=h;exact⟨c,fz,by rw[he];exact hc,hn⟩
 |ob o=>obtain⟨hb,x,hx,ho⟩:=h;exact⟨hb,x,by rw[he];exact hx,ho⟩
theorem nQ.wrote{K:aJ}{w w':World}{b:Nat}{E:mR}{n:Nat}(h:nQ K w b E n){c c':Array Value}{F:TypeId}{fz fz':Nat × Nat}(hc:w.heap[b]? =some (.cells c F fz))(hc':w'.heap[b]? =some (.cells c' F fz'))(hs:c'.size=c.size):nQ K w' b E n:=by
 cases E with
 | t E=>
  obtain⟨d,fz,hd,hn⟩:=h
  rw[hc]at hd
  simp only[Option.some.injEq,Obj.cells.injEq]at hd
  obtain⟨rfl,rfl,rfl⟩:=hd
  exact⟨c',fz',hc',by rw[hs];exact hn⟩
 | ob o=>
  obtain⟨_,x,hx,ho⟩:=h
  rw[hc]at hx
  simp only[Option.some.injEq]at hx
  subst hx
  exact ho.cells.elim
structure AS where
 box:Nat ->Option (List AV)
 tip:Nat ->Option (Nat × Nat)
 ty:Nat ->Option (mR × Nat)
def AS.fresh(σ:AS)(b:Nat):Prop:=σ.box b=none /\ σ.tip b=none /\ σ.ty b=none
def AS.setBox(σ:AS)(b:Nat)(cs:List AV):AS:= {σ with box:=fun i=>if i=b then some cs else σ.box i}
def AS.setTip(σ:AS)(b:Nat)(n:Nat × Nat):AS:= {σ with tip:=fun i=>if i=b then some n else σ.tip i}
def AS.setTy(σ:AS)(b:Nat)(n:mR × Nat):AS:= {σ with ty:=fun i=>if i=b then some n else σ.ty i}
def AS.delTip(σ:AS)(b:Nat):AS:= {σ with tip:=fun i=>if i=b then none else σ.tip i}
structure AS.le(σ σ':AS):Prop where
 box:∀ b cs,σ.box b=some cs ->σ'.box b=some cs
 tip:∀ b n,σ.tip b=some n ->σ'.tip b=some n
 ty:∀ b n,σ.ty b=some n ->σ'.ty b=some n
theorem AS.le.refl(σ:AS):σ.le σ:=⟨fun _ _ h=>h,fun _ _ h=>h,fun _ _ h=>h⟩
theorem AS.le.trans{a b c:AS}(h:a.le b)(k:b.le c):a.le c:=⟨fun _ _ x=>k.box _ _ (h.box _ _ x),fun _ _ x=>k.tip _ _ (h.tip _ _ x),fun _ _ x=>k.ty _ _ (h.ty _ _ x)⟩
theorem AS.le.setTy{σ σ':AS}(h:σ.le σ'){b:Nat}(hb:σ.ty b=none)(n:mR × Nat):σ.le (σ'.setTy b n):=by
 refine⟨h.box,h.tip,fun i m hi=> ?_⟩
 have hne:i ≠ b:=fun e=>by subst e;rw[hb]at hi;cases hi
 simp only[AS.setTy,if_neg hne]
 exact h.ty _ _ hi
theorem AS.le.setBox{σ σ':AS}(h:σ.le σ'){b:Nat}(hb:σ.box b=none)(cs:List AV):σ.le (σ'.setBox b cs):=by
 refine⟨fun i c hi=> ?_,fun i n hi=>h.tip _ _ hi,h.ty⟩
 have hne:i ≠ b:=fun e=>by subst e;rw[hb]at hi;cases hi
 simp only[AS.setBox,if_neg hne]
 exact h.box _ _ hi
theorem AS.le.setTip{σ σ':AS}(h:σ.le σ'){b:Nat}(hb:σ.tip b=none)(n:Nat × Nat):σ.le (σ'.setTip b n):=by
 refine⟨fun i c hi=>h.box _ _ hi,fun i m hi=> ?_,h.ty⟩
 have hne:i ≠ b:=fun e=>by subst e;rw[hb]at hi;cases hi
 simp only[AS.setTip,if_neg hne]
 exact h.tip _ _ hi
theorem AS.le.delTip{σ σ':AS}(h:σ.le σ'){b:Nat}(hb:σ.tip b=none):σ.le (σ'.delTip b):=by
 refine⟨fun i c hi=>h.box _ _ hi,fun i m hi=> ?_,h.ty⟩
 have hne:i ≠ b:=fun e=>by subst e;rw[hb]at hi;cases hi
 simp only[AS.delTip,if_neg hne]
 exact h.tip _ _ hi
theorem AS.le.fresh{σ σ':AS}(h:σ.le σ'){b:Nat}(hb:σ'.fresh b):σ.fresh b:=by
 refine⟨?_,?_,?_⟩
 ·cases e:σ.box b with
  |none=>rfl
  |some c=>have:=h.box _ _ e;rw[hb.1]at this;cases this
 ·cases e:σ.tip b with
  |none=>rfl
  |some c=>have:=h.tip _ _ e;rw[hb.2.1]at this;cases this
 ·cases e:σ.ty b with
  |none=>rfl
  |some c=>have:=h.ty _ _ e;rw[hb.2.2]at this;cases this
structure Bel(K:aJ)(ty:Nat ->Option (mR × Nat))(w:World):Prop where
 b:Below K.base K.W w
 d:∀ b o,K.obs b=some o ->w.heap[b]? =some o /\ (∀ c E fz,o ≠ .cells c E fz) /\ (∀ a n,ty b ≠ some (.ob a,n)) /\ K.base <=b
section bel
variable {K:aJ} {ty:Nat ->Option (mR × Nat)} {w w':World}
theorem Bel.drew(h:Bel K ty w):Bel K ty w.drew:=⟨h.b.drew,h.d⟩
theorem Bel.step(h:Bel K ty w)(hb:Below K.base w w')(hd:∀ b o,w.heap[b]? =some o -> (∀ c E fz,o ≠ .cells c E fz) -> (∀ a n,ty b ≠ some (.ob a,n)) ->w'.heap[b]? =some o):Bel K ty w':=
 ⟨h.b.trans hb,fun b o ho=> ⟨hd b o (h.d b o ho).1 (h.d b o ho).2.1 (h.d b o ho).2.2.1,(h.d b o ho).2⟩⟩
theorem Bel.alloc(h:Bel K ty w)(hb:K.base <=w.heap.size)(o:Obj):Bel K ty (w.alloc o):=
 ⟨h.b.alloc hb o,fun b x hx=> ⟨(heap_alloc_old w o (Array.getElem?_eq_some_iff.1 (h.d b x hx).1).1).trans (h.d b x hx).1,(h.d b x hx).2⟩⟩
theorem Bel.trans(h:Bel K ty w)(hb:Below K.base w w'){i:Nat}{c:Array Value}{E:TypeId}{fz:Nat × Nat}(hi:w.heap[i]? =some (.cells c E fz))(old:∀ j,j ≠ i ->w'.heap[j]? =w.heap[j]?):Bel K ty w':=
 h.step hb fun b o ho hc _=>by
  have hne:b ≠ i:=fun e=>by subst e;rw[hi]at ho;exact hc _ _ _ (Option.some.inj ho).symm
  rw[old b hne];exact ho
theorem Bel.less(h:Bel K ty w){ty':Nat ->Option (mR × Nat)}(ht:∀ b a n,ty' b=some (.ob a,n) ->ty b=some (.ob a,n)):Bel K ty' w:=
 ⟨h.b,fun b o ho=> ⟨(h.d b o ho).1,(h.d b o ho).2.1,fun a n e=> (h.d b o ho).2.2.1 a n (ht b a n e),(h.d b o ho).2.2.2⟩⟩
end bel
structure aZ(G:Nat ->AV)(K:aJ)(σ:AS)(w:World):Prop where
 imm:∀ b o v,K.imm b o=some v ->w.cell? ⟨b,o,none⟩=some v
 row:∀ b cap s E,K.row b=some (cap,s,E) ->∃ cur fz,w.heap[b]? =some (.cells cur E fz) /\ cur.size=cap*s /\ cap <=maxLen /\ ((∃ x,σ.tip b=some x) ->fz=(0,0) \/ cap*s <=fz.1)
 box:∀ b cs,σ.box b=some cs ->K.base <=b /\ σ.tip b=none /\ True /\ (∀ o,K.imm b o=none) /\ (∀ c,c ∈ cs ->one c=true) /\
  ∃ c E,w.heap[b]? =some (.cells c E (0,0)) /\ cs.length <=c.size /\ ∀ j (h:j < cs.length),VR K cs[j] (c.getD j Go.undef)
 tip:∀ b n s,σ.tip b=some (n,s) ->K.base <=b /\ ∃ cap E,K.row b=some (cap,s,E) /\ n <=cap /\ ∀ o,n*s <=o ->K.imm b o=none
 ty:∀ b E n,σ.ty b=some (E,n) ->nQ K w b E n
 glob:∀ g,VR K (G g) (.pointer (some ⟨g,0,none⟩))
 below:Bel K σ.ty w
 bs:K.base <=w.heap.size
section rel
variable {G:Nat ->AV} {K:aJ} {σ:AS} {w:World}
theorem aZ.drew(h:aZ G K σ w):aZ G K σ w.drew:=
 ⟨h.imm,h.row,h.box,h.tip,h.ty,h.glob,h.below.drew,h.bs⟩
theorem aZ.imm_lt(h:aZ G K σ w){b o:Nat}{v:Value}(hi:K.imm b o=some v):b < w.heap.size:=
 World.block_lt_of_cell? w _ (h.imm b o v hi)
theorem aZ.imm_none(h:aZ G K σ w){b:Nat}(hb:w.heap.size <=b)(o:Nat):K.imm b o=none:=by
 cases e:K.imm b o with
 |none=>rfl
 |some v=>have:=h.imm_lt e;omega
theorem aZ.row_lt(h:aZ G K σ w){b:Nat}{x:Nat × Nat × TypeId}(hi:K.row b=some x):b < w.heap.size:=by
 obtain⟨cap,s,E⟩:=x
 obtain⟨cur,fz,hc,_⟩:=h.row b cap s E hi
 exact(Array.getElem?_eq_some_iff.1 hc).1
theorem aZ.row_none(h:aZ G K σ w){b:Nat}(hb:w.heap.size <=b):K.row b=none:=by
 cases e:K.row b with
 |none=>rfl
 |some v=>have:=h.row_lt e;omega
theorem aZ.fresh(h:aZ G K σ w){b:Nat}(hb:w.heap.size <=b):σ.fresh b:=by
 refine⟨?_,?_,?_⟩
 ·cases e:σ.box b with
  |none=>rfl
  | some cs=>
   obtain⟨_,_,_,_,_,c,E,hc,_⟩:=h.box b cs e
   have:=(Array.getElem?_eq_some_iff.1 hc).1
   omega
 ·cases e:σ.tip b with
  |none=>rfl
  | some n=>
   obtain⟨_,cap,E,hr,_⟩:=h.tip b n.1 n.2 e
   have:=h.row_lt hr
   omega
 ·cases e:σ.ty b with
  |none=>rfl
  | some n=>
   have:=(h.ty b n.1 n.2 e).lt
   omega
theorem aZ.alloc(h:aZ G K σ w)(o:Obj):aZ G K σ (w.alloc o):=by
 have old:∀ b,b < w.heap.size -> (w.alloc o).heap[b]? =w.heap[b]? :=fun b hb=>heap_alloc_old w o hb
 refine⟨fun b o' v hv=> ?_,fun b cap s E hr=> ?_,fun b cs hb=> ?_,h.tip,fun b E n ht=> ?_,h.glob,h.below.alloc h.bs o,?_⟩
 ·rw[World.cell?_of_block (w:=w) (old b (h.imm_lt hv))];exact h.imm b o' v hv
 ·obtain⟨cur,fz,hc,hs⟩:=h.row b cap s E hr
  exact⟨cur,fz,by rw[old b (h.row_lt hr)];exact hc,hs⟩
 ·obtain⟨h1,h2,h3,h4,h5,c,E,hc,hs,hv⟩:=h.box b cs hb
  exact⟨h1,h2,h3,h4,h5,c,E,by rw[old b (Array.getElem?_eq_some_iff.1 hc).1];exact hc,hs,hv⟩
 ·have h1:=h.ty b E n ht
  exact h1.old (old b h1.lt)
 ·have:=h.bs;simp only[World.size_alloc];omega
theorem aZ.keep(h:aZ G K σ w)(b:Nat)(p:Nat ->Bool)(hbase:σ.box b=none)(htip:∀ n s,σ.tip b=some (n,s) ->∀ o,p o=true ->o < n*s):
  let K':aJ:= {K with imm:=fun i o=>if i=b /\ p o=true then w.cell? ⟨b,o,none⟩else K.imm i o}
  K.le K' /\ aZ G K' σ w:=by
 intro K'
 have hle:K.le K':=by
  refine⟨fun i o v hv=> ?_,fun _ _ h=>h,rfl,rfl,fun _ _ h=>h⟩
  show(if i=b /\ p o=true then w.cell? ⟨b,o,none⟩else K.imm i o)=some v
  split
  ·rename_i hi;obtain⟨rfl,_⟩:=hi;exact h.imm _ _ _ hv
  ·exact hv
 refine⟨hle,fun i o v hv=> ?_,h.row,fun i cs hi=> ?_,fun i n s hi=> ?_,fun i E n hi=> (h.ty i E n hi).mono hle,fun g=> (h.glob g).mono hle,⟨h.below.b,h.below.d⟩,h.bs⟩
 ·have hv':(if i=b /\ p o=true then w.cell? ⟨b,o,none⟩else K.imm i o)=some v:=hv
  split at hv'
  ·rename_i hi;obtain⟨rfl,_⟩:=hi;exact hv'
  ·exact h.imm _ _ _ hv'
 ·obtain⟨h1,h2,h3,h4,h5,c,E,hc,hs,hvv⟩:=h.box i cs hi
  have hne:i ≠ b:=fun e=>by subst e;rw[hbase]at hi;cases hi
  refine⟨h1,h2,h3,fun o=> ?_,h5,c,E,hc,hs,fun j hj=> (hvv j hj).mono hle⟩
  show(if i=b /\ p o=true then _ else K.imm i o)=none
  rw[if_neg (fun x=>hne x.1)];exact h4 o
 ·obtain⟨h1,cap,E,hr,hn,ho⟩:=h.tip i n s hi
  refine⟨h1,cap,E,hr,hn,fun o hlo=> ?_⟩
  show(if i=b /\ p o=true then _ else K.imm i o)=none
  split
  ·rename_i hx
   obtain⟨rfl,hp⟩:=hx
   have:=htip n s hi o hp
   omega
  ·exact ho o hlo
theorem aZ.addBox (h:aZ G K σ w) (c:Array Value) (E:TypeId) (cs:List AV) (hl:cs.length <=c.size) (h1:∀ a,a ∈ cs ->one a=true)
  (hv:∀ j (hj:j < cs.length),VR K cs[j] (c.getD j Go.undef)):aZ G K (σ.setBox w.heap.size cs) (w.alloc (.cells c E)):=by
 have h':=h.alloc (.cells c E)
 have hf:=h.fresh (Nat.le_refl w.heap.size)
 refine⟨h'.imm,h'.row,fun b cs' hb=> ?_,fun b n s hb=>h'.tip b n s hb,h'.ty,h'.glob,h'.below,h'.bs⟩
 by_cases hbe:b=w.heap.size
 ·subst hbe
  simp only[AS.setBox,if_true,Option.some.injEq]at hb
  subst hb
  exact⟨h.bs,hf.2.1,trivial,h.imm_none (Nat.le_refl _),h1,c,E,heap_alloc_new w _,hl,hv⟩
 ·simp only[AS.setBox,if_neg hbe]at hb
  exact h'.box b cs' hb
theorem aZ.weaken(h:aZ G K σ w){σ':AS}(hl:σ'.le σ):aZ G K σ' w:=by
 refine⟨h.imm,fun b cap s E hr=> ?_,fun b cs hb=> ?_,fun b n s hb=>h.tip b n s (hl.tip _ _ hb),fun b E n hb=>h.ty b E n (hl.ty _ _ hb),h.glob,h.below.less fun b a n e=>hl.ty _ _ e,h.bs⟩
 ·obtain⟨cur,fz,h1,h2,h3,h4⟩:=h.row b cap s E hr
  exact⟨cur,fz,h1,h2,h3,fun⟨x,hx⟩=>h4 ⟨x,hl.tip _ _ hx⟩⟩
 obtain⟨h1,h2,h3,h4⟩:=h.box b cs (hl.box _ _ hb)
 refine⟨h1,?_,h3,h4⟩
 cases e:σ'.tip b with
 |none=>rfl
 |some n=>have:=hl.tip _ _ e;rw[h2]at this;cases this
theorem aZ.typed(h:aZ G K σ w){b:Nat}{c:Array Value}{E:TypeId}{fz:Nat × Nat}{n:Nat}(hc:w.heap[b]? =some (.cells c E fz))(hn:c.size=n):aZ G K (σ.setTy b (E,n)) w:=by
 refine⟨h.imm,h.row,h.box,h.tip,fun i F m hi=> ?_,h.glob,h.below.less fun i a m e=> ?_,h.bs⟩
 case refine_2=>
  have e':(if i=b then some ((E:mR),n)else σ.ty i)=some (.ob a,m):=e
  split at e'
  ·cases e'
  ·exact e'
 have hi':(if i=b then some ((E:mR),n)else σ.ty i)=some (F,m):=hi
 split at hi'
 ·rename_i he
  subst he
  simp only[Option.some.injEq,Prod.mk.injEq]at hi'
  obtain⟨rfl,rfl⟩:=hi'
  exact⟨c,fz,hc,hn⟩
 ·exact h.ty i F m hi'
theorem aZ.setBox (h:aZ G K σ w) {b:Nat} {cs cs':List AV} (hb:σ.box b=some cs) {c:Array Value} {E:TypeId} (hc:w.heap[b]? =some (.cells c E (0,0))) (c':Array Value) (hcs:c'.size=c.size) (hl:cs'.length <=c'.size)
  (h1:∀ a,a ∈ cs' ->one a=true) (hv:∀ j (hj:j < cs'.length),VR K cs'[j] (c'.getD j Go.undef)):aZ G K (σ.setBox b cs') (w.setRow b c'):=by
 obtain⟨g1,g2,g3,g4,g5,_⟩:=h.box b cs hb
 have hnew:(w.setRow b c').heap[b]? =some (.cells c' E (0,0)):=setRow_heap w b c c' E (0,0) hc
 have old:∀ i,i ≠ b -> (w.setRow b c').heap[i]? =w.heap[i]? :=fun i hi=>setRow_other w b i c' hi
 have hsize:(w.setRow b c').heap.size=w.heap.size:=by simp[World.setRow]
 refine⟨fun i o v hi=> ?_,fun i cap s F hr=> ?_,fun i ds hi=> ?_,h.tip,fun i F n ht=> ?_,h.glob,?_,by rw[hsize];exact h.bs⟩
 ·have hne:i ≠ b:=fun e=>by subst e;rw[g4 o]at hi;cases hi
  rw[World.cell?_of_block (w:=w) (old i hne)];exact h.imm i o v hi
 ·obtain⟨cur,fz,hcur,hx⟩:=h.row i cap s F hr
  by_cases hib:i=b
  ·subst hib
   rw[hc]at hcur
   simp only[Option.some.injEq,Obj.cells.injEq]at hcur
   obtain⟨rfl,rfl,rfl⟩:=hcur
   exact⟨c',_,hnew,by rw[hcs];exact hx.1,hx.2⟩
  ·exact⟨cur,fz,by rw[old i hib];exact hcur,hx⟩
 ·by_cases hib:i=b
  ·subst hib
   simp only[AS.setBox,if_true,Option.some.injEq]at hi
   subst hi
   exact⟨g1,g2,g3,g4,h1,c',E,hnew,hl,hv⟩
  ·simp only[AS.setBox,if_neg hib]at hi
   obtain⟨k1,k2,k3,k4,k5,d,F,hd,hds,hdv⟩:=h.box i ds hi
   exact⟨k1,k2,k3,k4,k5,d,F,by rw[old i hib];exact hd,hds,hdv⟩
 ·have h1:=h.ty i F n ht
  by_cases hib:i=b
  ·subst hib
   exact h1.wrote hc hnew hcs
  ·exact h1.old (old i hib)
 ·exact h.below.trans ⟨rfl,rfl,rfl,by rw[hsize];exact Nat.le_refl _,fun k hk=>old k (by omega)⟩ hc old
theorem aZ.reOb(h:aZ G K σ w){D:Nat}{o o':Obj}(hD:K.obs D=some o)(ho':∀ c E fz,o' ≠ .cells c E fz)(f:Nat ->Option Obj)(hf:∀ b x,f b=some x -> (b=D /\ x=o') \/ (b ≠ D /\ K.obs b=some x)):
  aZ G {K with obs:=f} σ {w with heap:=w.heap.setIfInBounds D o'} :=by
 obtain⟨hx,hc,hob,hbb⟩:=h.below.d D o hD
 have hlt:=(Array.getElem?_eq_some_iff.1 hx).1
 have old:∀ i,i ≠ D -> (w.heap.setIfInBounds D o')[i]? =w.heap[i]? :=fun i hi=>Array.getElem?_setIfInBounds_ne (Ne.symm hi)
 have new:(w.heap.setIfInBounds D o')[D]? =some o':=by simp[hlt]
 have nc:∀ {c E fz},¬ w.heap[D]? =some (.cells c E fz):=fun e=>by rw[hx]at e;exact hc _ _ _ (Option.some.inj e)
 have pk:=aJ.ple.obs K f
 refine⟨fun i p v hv=> ?_,fun i cap s E hr=> ?_,fun i cs hi=> ?_,h.tip,fun i E m hi=> ?_,fun g=> (h.glob g).pmono pk,?_,?_⟩
 ·have hne:i ≠ D:=by
   rintro rfl
   have:=h.imm _ _ _ hv
   rw[World.cell?,hx]at this
   cases o <;>first|exact hc _ _ _ rfl|cases this
  rw[World.cell?_of_block (w:=w) (old i hne)];exact h.imm i p v hv
 ·obtain⟨cur,fz,h1,h2⟩:=h.row i cap s E hr
  have hne:i ≠ D:=by rintro rfl;exact nc h1
  exact⟨cur,fz,by rw[old i hne];exact h1,h2⟩
 ·obtain⟨h1,h2,h3,h4,h5,c,E,h6,h7,h8⟩:=h.box i cs hi
  have hne:i ≠ D:=by rintro rfl;exact nc h6
  exact⟨h1,h2,h3,h4,h5,c,E,by rw[old i hne];exact h6,h7,fun j hj=> (h8 j hj).pmono pk⟩
 ·have h1:=h.ty i E m hi
  have hne:i ≠ D:=by
   rintro rfl
   cases E with
   |t E=>obtain⟨c,fz,h2,_⟩:=h1;exact nc h2
   |ob a=>exact hob a m hi
  exact(h1.old (old i hne)).pmono pk
 ·refine⟨h.below.b.trans ⟨rfl,rfl,rfl,by simp,fun k hk=>old k (by omega)⟩,fun i x hi=> ?_⟩
  rcases hf i x hi with⟨rfl,rfl⟩|⟨hne,hi⟩
  ·exact⟨new,ho',hob,hbb⟩
  ·obtain⟨k1,k2⟩:=h.below.d i x hi
   exact⟨(old i hne).trans k1,k2⟩
 ·have:=h.bs;simp;exact this
theorem aZ.addKept(h:aZ G K σ w){D:Nat}{o:Obj}(hx:w.heap[D]? =some o)(hc:∀ c E fz,o ≠ .cells c E fz)(hob:∀ a n,σ.ty D ≠ some (.ob a,n))(hb:K.base <=D):aZ G {K with obs:=fun i=>if i=D then some o else K.obs i} σ w:=by
 have pk:=aJ.ple.obs K (fun i=>if i=D then some o else K.obs i)
 refine⟨h.imm,h.row,fun i cs hi=> ?_,h.tip,fun i E m hi=> (h.ty i E m hi).pmono pk,fun g=> (h.glob g).pmono pk,⟨h.below.b,fun i x hi=> ?_⟩,h.bs⟩
 ·obtain⟨h1,h2,h3,h4,h5,c,E,h6,h7,h8⟩:=h.box i cs hi
  exact⟨h1,h2,h3,h4,h5,c,E,h6,h7,fun j hj=> (h8 j hj).pmono pk⟩
 ·have hi':(if i=D then some o else K.obs i)=some x:=hi
  split at hi'
  ·rename_i e;subst e;cases hi';exact⟨hx,hc,hob,hb⟩
  ·exact h.below.d i x hi'
end rel
end Go.Av
namespace Go.Av
open Go Go.RowKit
def ofCell:Value ->AV
 | .bool b=> .bool b
 | .int k n=> .int k n
 | .string s=> .str s.data.toList
 | .slice none 0 0=> .nil
 | .pointer none=> .nilptr
 | .nilFunc=> .nilfn
 |v=> .raw v
def ofConst:Value ->AV
 | .agg cs=>if cs.toList.all (fun c=>one (ofCell c))then .agg (cs.toList.map ofCell)else .raw (.agg cs)
 | .tuple cs=> .tup (cs.toList.map ofCell)
 |v=>ofCell v
theorem VR.ofCell(K:aJ)(v:Value):VR K (ofCell v) v:=by
 unfold Av.ofCell
 split <;>first|exact .bool _|exact .int _ _|exact .nil|exact .nilptr|exact .nilfn|exact .raw _|exact .str _
theorem VR.ofCells(K:aJ)(cs:Array Value):∀ j (h:j < (cs.toList.map Av.ofCell).length),VR K (cs.toList.map Av.ofCell)[j] (cs.getD j Go.undef):=by
 intro j h
 have hj:j < cs.size:=by simpa using h
 simp only[List.getElem_map,Array.getElem_toList]
 rw[show cs.getD j Go.undef=cs[j]by simp[Array.getD,hj]]
 exact VR.ofCell K _
theorem VR.ofConst(K:aJ)(v:Value):VR K (ofConst v) v:=by
 unfold Av.ofConst
 split
 ·rename_i cs
  split
  ·rename_i h
   refine .agg _ _ (by simp) (fun c hc=> ?_) (VR.ofCells K cs)
   obtain⟨x,hx,rfl⟩:=List.mem_map.1 hc
   exact List.all_eq_true.1 h x hx
  ·exact .raw _
 ·rename_i cs
  exact .tup _ _ (by simp) (VR.ofCells K cs)
 ·exact VR.ofCell K v
abbrev aK:=Nat ->AV
def ev(G:Nat ->AV)(e:aK):Operand ->AV
 | .tmp t=>e t
 | .const v=>ofConst v
 | .global g=>G g
 | .func f=> .fn f []
def aK.upd(e:aK)(d:Option Tmp)(v:AV):aK:=
 match d with
 |some d=>fun j=>if j=d then v else e j
 |none=>e
def ER(K:aJ)(e:aK)(a:Act):Prop:=∀ t,VR K (e t) (a.tmps.getD t Go.undef)
theorem ER.mono{K K':aJ}(h:K.le K'){e:aK}{a:Act}(k:ER K e a):ER K' e a:=fun t=> (k t).mono h
theorem ER.eval{G:Nat ->AV}{K:aJ}{σ:AS}{w:World}{e:aK}{a:Act}(h:ER K e a)(hr:aZ G K σ w)(x:Operand):VR K (ev G e x) (a.eval x):=by
 cases x with
 |tmp t=>exact h t
 |const v=>exact VR.ofConst K v
 |global g=>exact hr.glob g
 |func f=>exact .fn f [] #[] rfl (fun j h=>by cases h)
theorem ER.put{K:aJ}{e:aK}{a:Act}(h:ER K e a){d:Option Tmp}(hd:∀ t,d=some t ->t < a.tmps.size){r:AV}{v:Value}(hv:VR K r v):
  ER K (e.upd d r) (a.put d v):=by
 cases d with
 |none=>exact h
 | some d=>
  intro t
  have hlt:=hd d rfl
  simp only[aK.upd,Act.put]
  by_cases htd:t=d
  ·subst htd;simpa [hlt] using hv
  ·rw[if_neg htd]
   have:=h t
   simp only[Array.getD_eq_getD_getElem?]at this ⊢
   rw[Array.getElem?_setIfInBounds_ne (Ne.symm htd)]
   exact this
section tables
variable (P:Program)
def tk(t:TypeId):Option (Bool × Nat):=
 match P.underlying t,P.info? t with
 |some d,some i=>some ((match d with| .struct _=>true| .array _ _=>true|_=>false),i.size)
 |_,_=>none
def el(t:TypeId):Option TypeId:=
 match P.underlying t with
 |some (.slice e)=>some e
 |_=>none
def qE(t:TypeId)(i:Nat):Option (Nat × Bool × Nat):=
 match P.underlying t with
 | some (.struct fs)=>match fs[i]? with
  |some f=> (tk P f.type).map fun x=> (f.offset,x)
  |none=>none
 |_=>none
def pH(t:TypeId):Option (Nat × Nat):=
 match P.underlying t with
 |some (.array m e)=> (P.info? e).map fun i=> (m,i.size)
 |_=>none
end tables
theorem fY{P:Program}{t:TypeId}{b:Bool}{n:Nat}(h:tk P t=some (b,n))(w:World):
  (isAgg t).run P w= .ok b w /\ (sizeOf t).run P w= .ok n w /\ (P.info? t).map (·.size)=some n:=by
 unfold tk at h
 split at h
 ·rename_i d i hd hi
  simp only[Option.some.injEq,Prod.mk.injEq]at h
  obtain⟨h1,h2⟩:=h
  refine⟨?_,by simp[sizeOf,typeInfo,hi,h2],by simp[hi,h2]⟩
  unfold isAgg
  simp only[Sem.run_bind,run_underlying hd]
  subst h1
  cases d <;>rfl
 ·cases h
theorem bX{P:Program}{t e:TypeId}(h:el P t=some e):P.underlying t=some (.slice e):=by
 unfold el at h
 split at h
 ·rename_i x hx;simp only[Option.some.injEq]at h;subst h;exact hx
 ·cases h
def rd(ag:Bool)(n:Nat)(cs:List AV):Option AV:=
 if ag then(if n <=cs.length then some (.agg (cs.take n))else none)else cs.head?
def fR(P:Program)(σ:AS)(t:TypeId)(p:AV):Option AV:=
 match tk P t with
 |none=>none
 | some (ag,n)=>
  match p with
  | .ptr b o=>match σ.box b with
   |some cs=>rd ag n (cs.drop o)
   |none=>none
  | .rp cs=>rd ag n cs
  |_=>none
theorem uI{P:Program}{w:World}{a:Addr}{v:Value}(h:w.cell? a=some v):(load a).run P w= .ok v w:=by simp[run_load,h]
theorem A0k {P:Program} {K:aJ} {w:World} {t:TypeId} {ag:Bool} {n:Nat} (ht:tk P t=some (ag,n)) {cs:List AV} {b o:Nat} {f:Nat ->Value}
  (hc:∀ j,j < cs.length ->w.cell? ⟨b,o+j,none⟩=some (f j)) (h1:∀ c,c ∈ cs ->one c=true) (hv:∀ j (h:j < cs.length),VR K cs[j] (f j)) {r:AV} (hr:rd ag n cs=some r):
  ∃ v,(loadVar t ⟨b,o,none⟩).run P w= .ok v w /\ VR K r v:=by
 obtain⟨ht1,ht2,_⟩:=fY ht w
 unfold rd at hr
 cases ag with
 | true=>
  simp only[if_true]at hr
  split at hr
  ·rename_i hn
   simp only[Option.some.injEq]at hr
   subst hr
   have hl:=run_loadCells (P:=P) w ⟨b,o,none⟩ n f (fun j hj=>by rw[Addr.add_lit];exact hc j (by omega))
   refine⟨.agg ((List.range n).map f).toArray,?_, .agg _ _ (by simp[hn]) (fun c hcm=>h1 c (List.mem_of_mem_take hcm)) (fun j hj=> ?_)⟩
   ·unfold loadVar
    simp[ht1,ht2,hl]
   ·have hjn:j < n:=by simp at hj;omega
    have hjc:j < cs.length:=by omega
    simpa [Array.getD,hjn] using hv j hjc
  ·cases hr
 | false=>
  simp only[Bool.false_eq_true,if_false]at hr
  cases cs with
  |nil=>cases hr
  | cons c rest=>
   simp only[List.head?_cons,Option.some.injEq]at hr
   subst hr
   have h0:=hc 0 (by simp)
   simp only[Nat.add_zero]at h0
   refine⟨f 0,?_,hv 0 (by simp)⟩
   unfold loadVar
   simp only[Sem.run_bind,ht1,Bool.false_eq_true,if_false]
   exact uI h0
theorem qA{P:Program}{G:Nat ->AV}{K:aJ}{σ:AS}{w:World}(hr:aZ G K σ w){t:TypeId}{p r:AV}(h:fR P σ t p=some r){v:Value}(hv:VR K p v):
  ∃ u,(Instr.loadAt t v).run P w= .ok u w /\ VR K r u:=by
 unfold fR at h
 split at h
 ·cases h
 rename_i ag n ht
 cases p with
 | ptr b o=>
  rw[VR.ptr_iff]at hv;subst hv
  simp only at h
  split at h
  ·rename_i cs hb
   obtain⟨_,_,_,_,h1,c,E,hc,hs,hvv⟩:=hr.box b cs hb
   have:=A0k (P:=P) (K:=K) (w:=w) ht (cs:=cs.drop o) (b:=b) (o:=o) (f:=fun j=>c.getD (o+j) Go.undef)
    (fun j hj=>by
      have hj':o+j < c.size:=by simp at hj;omega
      rw[cell_of_row w b (o+j) c E (0,0) hc];simp[Array.getD,hj'])
    (fun x hx=>h1 x (List.mem_of_mem_drop hx)) (fun j hj=>by
      have hj':o+j < cs.length:=by simp at hj;omega
      simpa using hvv (o+j) hj') h
   obtain⟨u,hu,hru⟩:=this
   exact⟨u,by simpa [Instr.loadAt,Instr.sureAddr] using hu,hru⟩
  ·cases h
 | rp cs=>
  simp only at h
  cases hv with
  | rp _ b off f h1 himm hvv=>
   obtain⟨u,hu,hru⟩:=A0k (P:=P) (K:=K) (w:=w) ht (cs:=cs) (b:=b) (o:=off) (f:=f) (fun j hj=>hr.imm _ _ _ (himm j hj)) h1 hvv h
   exact⟨u,by simpa [Instr.loadAt,Instr.sureAddr] using hu,hru⟩
 |_=>cases h
def lO(P:Program)(t:TypeId)(p:AV)(i:Nat):Option AV:=
 match qE P t i with
 | some (off,_,n)=>if n=0 then none else
  match p with
  | .ptr b o=>some (.ptr b (o+off))
  | .rp cs=>some (.rp (cs.drop off))
  |_=>none
 |none=>none
theorem vX{P:Program}{K:aJ}{w:World}{t:TypeId}{p r:AV}{i:Nat}(h:lO P t p i=some r){v:Value}(hv:VR K p v):
  ∃ u,(Instr.fieldAt t v i).run P w= .ok u w /\ VR K r u:=by
 unfold lO at h
 split at h
 ·rename_i off ag n hf
  split at h
  ·cases h
  rename_i hn
  unfold qE at hf
  split at hf
  ·rename_i fs hu
   split at hf
   ·rename_i f hfi
    cases htk:tk P f.type with
    |none=>rw[htk]at hf;cases hf
    | some x=>
     rw[htk]at hf
     simp only[Option.map_some,Option.some.injEq,Prod.mk.injEq]at hf
     obtain⟨rfl,hx⟩:=hf
     obtain⟨_,hs,_⟩:=fY (b:=x.1) (n:=x.2) htk w
     have hxn:x.2=n:=by rw[hx]
     have key:∀ b o,(Instr.fieldAt t (.pointer (some ⟨b,o,none⟩)) i).run P w= .ok (.pointer (some ⟨b,o+f.offset,none⟩)) w:=by
      intro b o
      have hz: ¬ (x.2=0):=by rw[hxn];exact hn
      simp[Instr.fieldAt,run_underlying hu,hfi,Instr.sureAddr,fieldPlace,hs,hz,Addr.add_lit]
     cases p with
     | ptr b o=>
      rw[VR.ptr_iff]at hv;subst hv
      simp only[Option.some.injEq]at h;subst h
      exact⟨_,key b o, .ptr _ _⟩
     | rp cs=>
      simp only[Option.some.injEq]at h;subst h
      cases hv with
      | rp _ b o g h1 himm hvv=>
       refine⟨_,key b o, .rp _ _ _ (fun j=>g (f.offset+j)) (fun c hc=>h1 c (List.mem_of_mem_drop hc)) (fun j hj=> ?_) (fun j hj=> ?_)⟩
       ·have hj':f.offset+j < cs.length:=by simp at hj;omega
        rw[Nat.add_assoc];exact himm _ hj'
       ·have hj':f.offset+j < cs.length:=by simp at hj;omega
        simpa using hvv _ hj'
     |_=>cases h
   ·cases hf
  ·cases hf
 ·cases h
theorem sK{sz:Nat} :∀ (l:List AV),(∀ e,e ∈ l -> (flat e).length=sz) ->∀ i (hi:i < l.length) j,j < sz ->
  (l.flatMap flat)[i*sz+j]? =(flat l[i])[j]? :=by
 intro l
 induction l with
 |nil=>intro _ i hi;cases hi
 | cons x l ih=>
  intro h i hi j hj
  have hx:=h x (by simp)
  cases i with
  |zero=>simp only[List.flatMap_cons,Nat.zero_mul,Nat.zero_add,List.getElem_cons_zero];rw[List.getElem?_append_left (by omega)]
  | succ i=>
   simp only[List.flatMap_cons,List.getElem_cons_succ]
   rw[List.getElem?_append_right (by rw[hx,Nat.succ_mul];omega)]
   rw[show(i+1)*sz+j - (flat x).length=i*sz+j by rw[hx,Nat.succ_mul];omega]
   exact ih (fun e he=>h e (by simp[he])) i (by simpa using hi) j hj
theorem aS{sz:Nat} :∀ (l:List AV),(∀ e,e ∈ l -> (flat e).length=sz) -> (l.flatMap flat).length=l.length*sz:=by
 intro l
 induction l with
 |nil=>intro _;simp
 | cons x l ih=>
  intro h
  simp only[List.flatMap_cons,List.length_append,h x (by simp),ih (fun e he=>h e (by simp[he])),List.length_cons,Nat.succ_mul]
  omega
def      cR(P:Program)(t:TypeId)(x i:AV):Option AV:=
 match x,i with
 | .sl _ xs _, .int _ i=> (match el P t with
  |none=>none
  | some e=>match tk P e with
   | some (_,n)=>if 0 <=i then match xs[i.toNat]? with
     |some a=>if(flat a).length=n then some (.rp (flat a))else none
     |none=>none
    else none
   |none=>none)
 | .rp cs, .int _ i=> (match pH P t with
  |some (m,n)=>if 0 <=i /\ i < m then some (.rp (cs.drop (i.toNat*n)))else none
  |none=>none)
 | .ptr b o, .int _ i=> (match pH P t with
  |some (m,n)=>if 0 <=i /\ i < m then some (.ptr b (o+i.toNat*n))else none
  |none=>none)
 | .bs b m s _, .int _ i=> (match el P t with
  |none=>none
  | some e=>match tk P e with
   |some (_,n)=>if 0 <=i /\ i < m then some (.ptr b (i.toNat*n))else none
   |none=>none)
 | .raw (.slice (some ⟨b,o,none⟩) m _), .int _ i=> (match(el P t).bind (tk P)with
  |some (_,n)=>if 0 <=i /\ i < m then some (.ptr b (o+i.toNat*n))else none
  |none=>none)
 |_,_=>none
theorem C1d{K:aJ}{g:Gh}{xs sp:List AV}{v:Value}(hv:VR K (.sl g xs sp) v){i:Nat}(hi:i < xs.length):
  ∃ b off cap,∃ f:Nat ->Value,v= .slice (some ⟨b,off,none⟩) xs.length cap /\ (∀ j,j < (flat xs[i]).length ->K.imm b (off+i*(flat xs[i]).length+j)=some (f j)) /\
   (∀ j (h:j < (flat xs[i]).length),VR K (flat xs[i])[j] (f j)) /\ isv xs[i]=true /\ (∀ c,c ∈ flat xs[i] ->one c=true):=by
 cases hv with
 |sl0 a=>cases hi
 | sl _ _ _ sz b off cap f hsz hcap hml himm hv hg=>
  have hm:xs[i] ∈ xs++sp:=List.mem_append_left _ (List.getElem_mem hi)
  have hl:=(hsz _ hm).1
  have hlen:=aS (sz:=sz) (xs++sp) (fun e he=> (hsz e he).1)
  refine⟨b,off,cap,fun j=>f (i*sz+j),rfl,fun j hj=> ?_,fun j hj=> ?_,(hsz _ hm).2⟩
  ·rw[hl]at hj ⊢
   have:i*sz+j < ((xs++sp).flatMap flat).length:=by
    rw[hlen,List.length_append]
    have h1:(i+1)*sz <=(xs.length+sp.length)*sz:=Nat.mul_le_mul_right _ (by omega)
    rw[Nat.succ_mul]at h1;omega
   rw[Nat.add_assoc];exact himm _ this
  ·have hj':j < sz:=by rw[hl]at hj;exact hj
   have hlt:i*sz+j < ((xs++sp).flatMap flat).length:=by
    rw[hlen,List.length_append]
    have h1:(i+1)*sz <=(xs.length+sp.length)*sz:=Nat.mul_le_mul_right _ (by omega)
    rw[Nat.succ_mul]at h1;omega
   have h2:=sK (sz:=sz) (xs++sp) (fun e he=> (hsz e he).1) i (by simp;omega) j hj'
   rw[List.getElem?_eq_getElem hlt]at h2
   have h3:(xs++sp)[i]'(by simp;omega)=xs[i]:=List.getElem_append_left hi
   rw[h3,List.getElem?_eq_getElem hj]at h2
   have h4:=hv _ hlt
   rw[Option.some.inj h2]at h4
   exact h4
theorem iW{P:Program}(w:World){t e:TypeId}{ag:Bool}{n:Nat}(ht:el P t=some e)(hn:tk P e=some (ag,n))(b off len cap:Nat)(k:IntKind)(i:Nat)(hi:i < len):
  (Instr.indexAt t (.slice (some ⟨b,off,none⟩) len cap) (.int k i)).run P w= .ok (.pointer (some ⟨b,off+i*n,none⟩)) w:=by
 obtain⟨_,hs,_⟩:=fY hn w
 have hu:=bX ht
 have h1:(0:Int) <=(i:Int) /\ (i:Int) < (len:Int):=by omega
 simp[Instr.indexAt,asIntOf,run_underlying hu,h1,hs,Addr.add_lit]
 omega
theorem lG{P:Program}(w:World){t:TypeId}{m n:Nat}(ht:pH P t=some (m,n))(b off:Nat)(k:IntKind)(i:Int)(h0:0 <=i)(h1:i < m):
  (Instr.indexAt t (.pointer (some ⟨b,off,none⟩)) (.int k i)).run P w= .ok (.pointer (some ⟨b,off+i.toNat*n,none⟩)) w:=by
 unfold pH at ht
 split at ht
 ·rename_i m' e hu
  cases hi:P.info? e with
  |none=>rw[hi]at ht;cases ht
  | some inf=>
   rw[hi]at ht
   simp only[Option.map_some,Option.some.injEq,Prod.mk.injEq]at ht
   obtain⟨rfl,rfl⟩:=ht
   simp[Instr.indexAt,asIntOf,run_underlying hu,Instr.sureAddr,sizeOf,typeInfo,hi,h0,h1,Addr.add_lit]
 ·cases ht
theorem tT{P:Program}{K:aJ}{w:World}(hK:∀ b o v,K.imm b o=some v ->w.cell? ⟨b,o,none⟩=some v){t:TypeId}{x i r:AV}(h:cR P t x i=some r){v u:Value}(hv:VR K x v)(hu:VR K i u):
  ∃ z,(Instr.indexAt t v u).run P w= .ok z w /\ VR K r z:=by
 unfold cR at h
 split at h
 ·rename_i g xs sp k i
  split at h
  ·cases h
  rename_i e he
  split at h
  case h_2=>cases h
  rename_i ag n hn
  split at h
  case isFalse=>cases h
  rename_i h0
  split at h
  case h_2=>cases h
  rename_i a ha
  split at h
  case isFalse=>cases h
  rename_i hlen
  simp only[Option.some.injEq]at h
  subst h
  rw[VR.int_iff]at hu;subst hu
  obtain⟨hi,hai⟩:=List.getElem?_eq_some_iff.1 ha
  obtain⟨b,off,cap,f,rfl,h1,h2,h3,h4⟩:=C1d hv hi
  rw[hai]at h1 h2 h4
  rw[hlen]at h1
  have hrun:=iW (P:=P) w he hn b off xs.length cap k i.toNat hi
  rw[Int.toNat_of_nonneg h0]at hrun
  exact⟨_,hrun, .rp _ _ _ f h4 (fun j hj=>h1 j (by omega)) h2⟩
 ·rename_i cs k i
  split at h
  case h_2=>cases h
  rename_i m n hm
  split at h
  case isFalse=>cases h
  rename_i hc
  simp only[Option.some.injEq]at h
  subst h
  rw[VR.int_iff]at hu;subst hu
  cases hv with
  | rp _ b o g h1 himm hvv=>
   refine⟨_,lG w hm b o k i hc.1 hc.2, .rp _ _ _ (fun j=>g (i.toNat*n+j)) (fun c hcm=>h1 c (List.mem_of_mem_drop hcm)) (fun j hj=> ?_) (fun j hj=> ?_)⟩
   ·have hj':i.toNat*n+j < cs.length:=by simp at hj;omega
    rw[Nat.add_assoc];exact himm _ hj'
   ·have hj':i.toNat*n+j < cs.length:=by simp at hj;omega
    simpa using hvv _ hj'
 ·rename_i b o k i
  split at h
  case h_2=>cases h
  rename_i m n hm
  split at h
  case isFalse=>cases h
  rename_i hc
  simp only[Option.some.injEq]at h
  subst h
  rw[VR.int_iff]at hu;subst hu
  rw[VR.ptr_iff]at hv;subst hv
  exact⟨_,lG w hm b o k i hc.1 hc.2, .ptr _ _⟩
 ·rename_i b m q E0 k i
  split at h
  ·cases h
  rename_i e he
  split at h
  case h_2=>cases h
  rename_i ag n hn
  split at h
  case isFalse=>cases h
  rename_i hc
  simp only[Option.some.injEq]at h
  subst h
  rw[VR.int_iff]at hu;subst hu
  cases hv with
  | bs _ _ _ cap E hr hnn hm=>
   have hrun:=iW (P:=P) w he hn b 0 m cap k i.toNat (by omega)
   rw[Int.toNat_of_nonneg hc.1,Nat.zero_add]at hrun
   exact⟨_,hrun, .ptr _ _⟩
 ·rename_i b o m c k i
  split at h
  case h_2=>cases h
  rename_i ag n hn
  split at h
  case isFalse=>cases h
  rename_i hc
  simp only[Option.some.injEq]at h
  subst h
  obtain⟨e,he,hn⟩:=Option.bind_eq_some_iff.1 hn
  rw[VR.int_iff]at hu;subst hu
  rw[VR.raw_iff]at hv;subst hv
  have hrun:=iW (P:=P) w he hn b o m c k i.toNat (by omega)
  rw[Int.toNat_of_nonneg hc.1]at hrun
  exact⟨_,hrun, .ptr _ _⟩
 ·cases h
end Go.Av
namespace Go.Av
open Go Go.RowKit
inductive SK where
 |bool|int (k:IntKind)|str|sl (e:TypeId)|ptr (e:TypeId)|fn|st|map (k e:TypeId)|arr (n:Nat) (e:TypeId)|oth
 deriving DecidableEq
def A0t:Option TypeDesc ->SK
 |some .bool=> .bool
 |some (.int k)=> .int k
 |some .string=> .str
 |some (.slice e)=> .sl e
 |some (.pointer e)=> .ptr e
 |some (.func ..)=> .fn
 |some (.struct _)=> .st
 |some (.map k e)=> .map k e
 |some (.array n e)=> .arr n e
 |_=> .oth
def sk(P:Program)(t:TypeId):SK:=A0t (P.underlying t)
section sk
variable {P:Program} {t:TypeId}
theorem C1a(h:sk P t= .bool):P.underlying t=some .bool:=by
 unfold sk A0t at h;split at h <;>first|assumption|cases h
theorem kZ{k:IntKind}(h:sk P t= .int k):P.underlying t=some (.int k):=by
 unfold sk A0t at h;split at h <;>first|(cases h;assumption)|cases h
theorem jA(h:sk P t= .str):P.underlying t=some .string:=by
 unfold sk A0t at h;split at h <;>first|assumption|cases h
theorem pV{e:TypeId}(h:sk P t= .ptr e):P.underlying t=some (.pointer e):=by
 unfold sk A0t at h;split at h <;>first|(cases h;assumption)|cases h
theorem B5e(h:sk P t= .fn):∃ a b c,P.underlying t=some (.func a b c):=by
 unfold sk A0t at h;split at h <;>first|exact⟨_,_,_,by assumption⟩|cases h
theorem xR{k e:TypeId}(h:sk P t= .map k e):P.underlying t=some (.map k e):=by
 unfold sk A0t at h;split at h <;>first|(cases h;assumption)|cases h
end sk
def dC(op:BinOp)(k:IntKind)(a:Int)(k':IntKind)(b:Int):Option AV:=
 match op with
 | .shl=>if b < 0 then none else some (.int k (k.wrap (a*2 ^ (min b.toNat k.bits))))
 | .shr=>if b < 0 then none else some (.int k (a.fdiv (2 ^ (min b.toNat k.bits))))
 | op=>if k ≠ k' then none else
  match op with
  | .add=>some (.int k (k.wrap (a+b)))
  | .sub=>some (.int k (k.wrap (a - b)))
  | .mul=>some (.int k (k.wrap (a*b)))
  | .quo=>if b=0 then none else some (.int k (k.wrap (a.tdiv b)))
  | .rem=>if b=0 then none else some (.int k (a.tmod b))
  | .and=>some (.int k (k.wrap ((BitVec.ofInt k.bits a &&& BitVec.ofInt k.bits b).toNat)))
  | .or=>some (.int k (k.wrap ((BitVec.ofInt k.bits a|||BitVec.ofInt k.bits b).toNat)))
  | .xor=>some (.int k (k.wrap ((BitVec.ofInt k.bits a ^^^ BitVec.ofInt k.bits b).toNat)))
  | .andNot=>some (.int k (k.wrap ((BitVec.ofInt k.bits a &&& ~~~BitVec.ofInt k.bits b).toNat)))
  | .eql=>some (.bool (a==b))
  | .neq=>some (.bool (a !=b))
  | .lss=>some (.bool (decide (a < b)))
  | .leq=>some (.bool (decide (a <=b)))
  | .gtr=>some (.bool (decide (b < a)))
  | .geq=>some (.bool (decide (b <=a)))
  |_=>none
def mT(op:BinOp)(a b:List UInt8):Option AV:=
 match op with
 | .add=>if a.length+b.length <=maxLen then some (.str (a++b))else none
 | .eql=>some (.bool (a==b))
 | .neq=>some (.bool (!(a==b)))
 | .lss=>some (.bool (Op.bytesLess a b))
 | .leq=>some (.bool (Op.bytesLess a b||a==b))
 | .gtr=>some (.bool (!(Op.bytesLess a b||a==b)))
 | .geq=>some (.bool (!(Op.bytesLess a b)))
 |_=>none
def lH(op:BinOp)(r:Bool):Option AV:=
 match op with
 | .eql=>some (.bool r)
 | .neq=>some (.bool (!r))
 |_=>none
def qG:Gh ->List AV ->Bool
 | .none,[]=>true
 |_,_=>false
def B1n(P:Program):List Field ->Nat ->Option (List SK)
 |[],_=>some []
 |f::fs,n=>if f.name ≠ "_" /\ f.offset=n /\ P.plainKey f.type=true then(B1n P fs (n+1)).map (sk P f.type:: ·)else none
def eqK(P:Program)(t:TypeId):Option (List SK):=
 match P.underlying t with
 |some (.struct fs)=>if P.stoodInHeld t=false /\ P.eqGuardType P.depth t=false then B1n P fs.toList 0 else none
 |_=>none
def oH:List SK ->List AV ->List AV ->Option Bool
 |[],[],[]=>some true
 | .str::ks, .str a::xs, .str b::ys=> (oH ks xs ys).map fun r=>decide (a=b) && r
 | .int _::ks, .int k a::xs, .int k' b::ys=>if k=k' then(oH ks xs ys).map fun r=>decide (a=b) && r else none
 | .bool::ks, .bool a::xs, .bool b::ys=> (oH ks xs ys).map fun r=>decide (a=b) && r
 |_,_,_=>none
def fQ(P:Program)(op:BinOp)(t:TypeId)(x y:AV):Option AV:=
 match x,y with
 | .int k a, .int k' b=>dC op k a k' b
 | .str a, .str b=>mT op a b
 | .bool a, .bool b=>if sk P t= .bool then lH op (a==b)else none
 | .nil, .nil=>if(el P t).isSome then lH op true else none
 | .nil, .sl g xs _=>if(el P t).isSome=true /\ qG g xs=false then lH op false else none
 | .sl g xs _, .nil=>if(el P t).isSome=true /\ qG g xs=false then lH op false else none
 | .nil, .bs .. =>if(el P t).isSome=true then lH op false else none
 | .bs .., .nil=>if(el P t).isSome=true then lH op false else none
 | .raw (.slice (some _) _ _), .nil=>if(el P t).isSome=true then lH op false else none
 | .fn .., .nilfn=>if sk P t= .fn then lH op false else none
 | .nilfn, .fn .. =>if sk P t= .fn then lH op false else none
 | .nilfn, .nilfn=>if sk P t= .fn then lH op true else none
 | .nilptr, .nilptr=> (match sk P t with| .ptr _=>lH op true|_=>none)
 | .nilptr, .ptr .. => (match sk P t with| .ptr _=>lH op false|_=>none)
 | .nilptr, .rp .. => (match sk P t with| .ptr _=>lH op false|_=>none)
 | .ptr .., .nilptr=> (match sk P t with| .ptr _=>lH op false|_=>none)
 | .rp .., .nilptr=> (match sk P t with| .ptr _=>lH op false|_=>none)
 | .agg xs, .agg ys=> (eqK P t).bind fun ks=> (oH ks xs ys).bind (lH op)
 |_,_=>none
theorem pX(s:List UInt8):(ByteArray.mk (Array.mk s)).toList=s:=by rw[ByteArray.toList_eq]
theorem B7p{P:Program}{w:World}{t:TypeId}(h:P.underlying t=some .bool)(a b:Bool):(Op.equal t (.bool a) (.bool b)).run P w= .ok (a==b) w:=by
 have key:∀ d,(Op.equalIn (d+1) t (.bool a) (.bool b)).run P w= .ok (a==b) w:=fun d=>by simp[Op.equalIn,run_underlying h]
 exact key 9999
theorem C7o{P:Program}{w:World}{t e:TypeId}(h:P.underlying t=some (.slice e))  :(Op.equal t (.slice none 0 0) (.slice none 0 0)).run P w= .ok true w:=by
 have key:∀ d,(Op.equalIn (d+1) t (.slice none 0 0) (.slice none 0 0)).run P w= .ok true w:=fun d=>by simp[Op.equalIn,run_underlying h]
 exact key 9999
theorem C1t{P:Program}{w:World}{t e:TypeId}(h:P.underlying t=some (.slice e))(a:Addr)(n c:Nat):(Op.equal t (.slice none 0 0) (.slice (some a) n c)).run P w= .ok false w:=by
 have key:∀ d,(Op.equalIn (d+1) t (.slice none 0 0) (.slice (some a) n c)).run P w= .ok false w:=fun d=>by simp[Op.equalIn,run_underlying h]
 exact key 9999
theorem B1c{P:Program}{w:World}{t e:TypeId}(h:P.underlying t=some (.slice e))(a:Addr)(n c:Nat):(Op.equal t (.slice (some a) n c) (.slice none 0 0)).run P w= .ok false w:=by
 have key:∀ d,(Op.equalIn (d+1) t (.slice (some a) n c) (.slice none 0 0)).run P w= .ok false w:=fun d=>by simp[Op.equalIn,run_underlying h]
 exact key 9999
theorem C7j{P:Program}{w:World}{t:TypeId}(h:sk P t= .fn)(f:Fn)(a b:Array Value):(Op.equal t (.func f a b) .nilFunc).run P w= .ok false w:=by
 obtain⟨x,y,z,h⟩:=B5e h
 have key:∀ d,(Op.equalIn (d+1) t (.func f a b) .nilFunc).run P w= .ok false w:=fun d=>by simp[Op.equalIn,run_underlying h]
 exact key 9999
theorem C7n{P:Program}{w:World}{t:TypeId}(h:sk P t= .fn)(f:Fn)(a b:Array Value):(Op.equal t .nilFunc (.func f a b)).run P w= .ok false w:=by
 obtain⟨x,y,z,h⟩:=B5e h
 have key:∀ d,(Op.equalIn (d+1) t .nilFunc (.func f a b)).run P w= .ok false w:=fun d=>by simp[Op.equalIn,run_underlying h]
 exact key 9999
theorem C7i{P:Program}{w:World}{t:TypeId}(h:sk P t= .fn)  :(Op.equal t .nilFunc .nilFunc).run P w= .ok true w:=by
 obtain⟨x,y,z,h⟩:=B5e h
 have key:∀ d,(Op.equalIn (d+1) t .nilFunc .nilFunc).run P w= .ok true w:=fun d=>by simp[Op.equalIn,run_underlying h]
 exact key 9999
theorem B1b{P:Program}{w:World}{t e:TypeId}(h:P.underlying t=some (.pointer e))(b:Option Addr):(Op.equal t (.pointer none) (.pointer b)).run P w= .ok b.isNone w:=by
 have key:∀ d,(Op.equalIn (d+1) t (.pointer none) (.pointer b)).run P w= .ok b.isNone w:=fun d=>by simp[Op.equalIn,run_underlying h]
 exact key 9999
theorem C1u{P:Program}{w:World}{t e:TypeId}(h:P.underlying t=some (.pointer e))(a:Addr):(Op.equal t (.pointer (some a)) (.pointer none)).run P w= .ok false w:=by
 have key:∀ d,(Op.equalIn (d+1) t (.pointer (some a)) (.pointer none)).run P w= .ok false w:=fun d=>by simp[Op.equalIn,run_underlying h]
 exact key 9999
theorem C1b{P:Program}{t:TypeId}(h:P.plainKey t=true):(sk P t= .bool /\ P.underlying t=some .bool) \/ (∃ k,sk P t= .int k /\ P.underlying t=some (.int k)) \/ (sk P t= .str /\ P.underlying t=some .string):=by
 unfold Program.plainKey at h
 unfold sk A0t
 cases hu:P.underlying t with
 |none=>rw[hu]at h;cases h
 |some d=>rw[hu]at h;cases d <;>first|exact .inl ⟨rfl,rfl⟩|exact .inr (.inl ⟨_,rfl,rfl⟩)|exact .inr (.inr ⟨rfl,rfl⟩)|(cases h;done)
theorem A4o{P:Program}{K:aJ}{w:World}{vs us:Array Value} :∀ (fs:List Field) (n:Nat) (ks:List SK) (xs ys:List AV) (b:Bool),B1n P fs n=some ks ->oH ks xs ys=some b ->
  (vs.size=n+xs.length) -> (us.size=n+ys.length) -> (∀ j (h:j < xs.length),VR K xs[j] (vs.getD (n+j) undef)) -> (∀ j (h:j < ys.length),VR K ys[j] (us.getD (n+j) undef)) ->
  (Op.eqFields 9999 vs us fs).run P w= .ok b w
 | [],n,ks,xs,ys,b,hk,he,hvs,hus,hv,hu=>by
  simp only[B1n,Option.some.injEq]at hk
  subst hk
  unfold oH at he
  split at he <;>first|(simp at he;done)|skip
  all_goals first
   |(simp only[Option.some.injEq]at he;subst he;simp[Op.eqFields];done)
   |(cases he;done)
   |simp_all
 | f ::fs,n,ks,xs,ys,b,hk,he,hvs,hus,hv,hu=>by
  simp only[B1n]at hk
  split at hk
  case isFalse=>cases hk
  rename_i hc
  obtain⟨c1,c2,c3⟩:=hc
  obtain⟨ks',hk',rfl⟩:=Option.map_eq_some_iff.1 hk
  have step:∀ (a c:AV) (xs' ys':List AV),xs=a::xs' ->ys=c::ys' ->∃ va vc,vs[n]? =some va /\ us[n]? =some vc /\ VR K a va /\ VR K c vc /\
    ∀ b',oH ks' xs' ys'=some b' -> (Op.eqFields 9999 vs us fs).run P w= .ok b' w:=by
   intro a c xs' ys' ex ey
   subst ex ey
   simp only[List.length_cons]at hvs hus
   have h1:=hv 0 (by simp)
   have h2:=hu 0 (by simp)
   simp only[List.getElem_cons_zero,Nat.add_zero]at h1 h2
   refine⟨vs.getD n undef,us.getD n undef,?_,?_,h1,h2,fun b' hb'=> ?_⟩
   ·rw[Array.getD_eq_getD_getElem?,Array.getElem?_eq_getElem (by omega)];rfl
   ·rw[Array.getD_eq_getD_getElem?,Array.getElem?_eq_getElem (by omega)];rfl
   ·refine A4o (K:=K) fs (n+1) ks' xs' ys' b' hk' hb' (by omega) (by omega) (fun j hj=> ?_) (fun j hj=> ?_)
    ·have:=hv (j+1) (by simpa using hj)
     rw[show n+1+j=n+(j+1)by omega]
     simpa using this
    ·have:=hu (j+1) (by simpa using hj)
     rw[show n+1+j=n+(j+1)by omega]
     simpa using this
  have run:∀ (va vc:Value) (r:Bool),vs[n]? =some va ->us[n]? =some vc -> (Op.equalIn 9999 f.type va vc).run P w= .ok r w ->∀ b',(Op.eqFields 9999 vs us fs).run P w= .ok b' w -> (Op.eqFields 9999 vs us (f::fs)).run P w= .ok (r && b') w:=by
   intro va vc r h1 h2 h3 b' h4
   have p1:(part f.type vs f.offset).run P w= .ok va w:=run_part_plain w c3 (by rw[c2];exact h1)
   have p2:(part f.type us f.offset).run P w= .ok vc w:=run_part_plain w c3 (by rw[c2];exact h2)
   simp only[Op.eqFields,c1,ne_eq,not_false_eq_true,if_true,Sem.run_bind,p1,p2,h3,Result.andThen_ok]
   cases r
   ·simp
   ·simpa using h4
  unfold oH at he
  rcases C1b c3 with⟨e,hu2⟩|⟨k,e,hu2⟩|⟨e,hu2⟩
  all_goals
   rw[e]at he
   split at he <;>first|(cases he;done)|skip
  all_goals first
   |(rename_i heq;cases heq;done)
   |skip
  ·rename_i ks0 a xs' c ys' heq
   injection heq with e1 e2;subst e2
   obtain⟨b',hb',rfl⟩:=Option.map_eq_some_iff.1 he
   obtain⟨va,vc,g1,g2,g3,g4,g5⟩:=step _ _ _ _ rfl rfl
   rw[VR.bool_iff]at g3 g4;subst g3 g4
   have:=run _ _ (a==c) g1 g2 (run_equalIn_bool w 9998 f.type a c hu2) b' (g5 b' hb')
   rw[this];cases a <;>cases c <;>rfl
  ·rename_i ks0 k0 a xs' k1 c ys' heq
   injection heq with e1 e2;subst e2
   split at he
   case isFalse=>cases he
   rename_i hkk;subst hkk
   obtain⟨b',hb',rfl⟩:=Option.map_eq_some_iff.1 he
   obtain⟨va,vc,g1,g2,g3,g4,g5⟩:=step _ _ _ _ rfl rfl
   rw[VR.int_iff]at g3 g4;subst g3 g4
   have:=run _ _ (a==c) g1 g2 (run_equalIn_int w 9998 f.type _ _ a c hu2) b' (g5 b' hb')
   rw[this,show(a==c)=decide (a=c) from rfl]
  ·rename_i ks0 a xs' c ys' heq
   injection heq with e1 e2;subst e2
   obtain⟨b',hb',rfl⟩:=Option.map_eq_some_iff.1 he
   obtain⟨va,vc,g1,g2,g3,g4,g5⟩:=step _ _ _ _ rfl rfl
   rw[VR.str_iff]at g3 g4;subst g3 g4
   have:=run _ _ _ g1 g2 (run_equalIn_string w 9998 f.type _ _ hu2) b' (g5 b' hb')
   rw[this,pX,pX];first|rfl|(congr 2;rw[Bool.eq_iff_iff];simp)
theorem C3c{P:Program}{K:aJ}{w:World}{t:TypeId}{xs ys:List AV}{vs us:Array Value}{ks:List SK}{b:Bool}(hk:eqK P t=some ks)(he:oH ks xs ys=some b)(hv:VR K (.agg xs) (.agg vs))(hu:VR K (.agg ys) (.agg us)):
  (Op.equal t (.agg vs) (.agg us)).run P w= .ok b w /\ P.eqGuardType P.depth t=false:=by
 unfold eqK at hk
 split at hk
 case h_2=>cases hk
 rename_i fs hf
 split at hk
 case isFalse=>cases hk
 rename_i hc
 have hfo:P.fieldsOf t=fs:=by unfold Program.fieldsOf;rw[hf]
 refine⟨?_,hc.2⟩
 have key:(Op.equalIn (9999+1) t (.agg vs) (.agg us)).run P w= .ok b w:=by
  rw[run_equalIn_struct w 9999 t vs us (by rw[hfo];exact hf) hc.1,hfo]
  cases hv with
  | agg _ _ hl h1 hv=>
   cases hu with
   | agg _ _ hl2 h2 hu=>
    exact A4o (K:=K) fs.toList 0 ks xs ys b hk he (by omega) (by omega) (fun j hj=>by rw[Nat.zero_add];exact hv j hj) (fun j hj=>by rw[Nat.zero_add];exact hu j hj)
 exact key
theorem bY {P:Program} {K:aJ} {w:World} {op:BinOp} {t:TypeId} {v u:Value} {b:Bool} {r:AV} (h:lH op b=some r) (ox oy:Operand)
  (heq:(Op.equal t v u).run P w= .ok b w)
  (hg:(eqGuard op t ox oy v u).run P w= .ok () w)
  (h1:binOp .eql t v u=(do pure (.bool (<- Op.equal t v u)))) (h2:binOp .neq t v u=(do pure (.bool (!(<- Op.equal t v u))))):
  ∃ z,(do eqGuard op t ox oy v u;binOp op t v u:Sem Value).run P w= .ok z w /\ VR K r z:=by
 simp only[Sem.run_bind,hg]
 unfold lH at h
 cases op <;>simp only[Option.some.injEq]at h <;>first|cases h|skip
 ·exact⟨.bool b,by rw[h1];simp[Sem.run_bind,heq], .bool b⟩
 ·exact⟨.bool (!b),by rw[h2];simp[Sem.run_bind,heq], .bool (!b)⟩
theorem A1h{P:Program}{K:aJ}{w:World}{op:BinOp}{t:TypeId}{x y r:AV}(h:fQ P op t x y=some r){v u:Value}(hv:VR K x v)(hu:VR K y u)(ox oy:Operand):
  ∃ z,(do eqGuard op t ox oy v u;binOp op t v u:Sem Value).run P w= .ok z w /\ VR K r z:=by
 unfold fQ at h
 split at h
 ·--  C4k
  rename_i k a k' b
  rw[VR.int_iff]at hv hu;subst hv hu
  have hg:(eqGuard op t ox oy (.int k a) (.int k' b)).run P w= .ok () w:=by cases op <;>rfl
  simp only[Sem.run_bind,hg]
  unfold dC at h
  cases op
  case shl=>
   simp only at h
   split at h
   ·cases h
   ·rename_i hb
    simp only[Option.some.injEq]at h;subst h
    exact⟨_,by simp[binOp,Op.shift,hb], .int _ _⟩
  case shr=>
   simp only at h
   split at h
   ·cases h
   ·rename_i hb
    simp only[Option.some.injEq]at h;subst h
    exact⟨_,by simp[binOp,Op.shift,hb], .int _ _⟩
  all_goals
   simp only at h
   split at h
   ·cases h
   rename_i hk
   simp only[ne_eq,Decidable.not_not]at hk
   subst hk
   first
   | (split at h
      ·cases h
      ·rename_i hb
       simp only[Option.some.injEq]at h;subst h
       exact⟨_,by simp[binOp,Op.intDiv,hb], .int _ _⟩)
   | (simp only[Option.some.injEq]at h;subst h
      first
      |(refine⟨_,?_, .int _ _⟩;simp only[binOp,ne_eq,not_true_eq_false,if_false];rfl)
      |(refine⟨_,?_, .bool _⟩;simp only[binOp,ne_eq,not_true_eq_false,if_false];rfl))
   |cases h
 ·-- strings
  rename_i a b
  rw[VR.str_iff]at hv hu;subst hv hu
  have hg:(eqGuard op t ox oy (.string ⟨⟨a⟩⟩) (.string ⟨⟨b⟩⟩)).run P w= .ok () w:=by cases op <;>rfl
  simp only[Sem.run_bind,hg]
  unfold mT at h
  cases op <;>simp only[Option.some.injEq]at h <;>first|cases h|skip
  case add=>
   split at h
   ·rename_i hl
    simp only[Option.some.injEq]at h;subst h
    have hmax: ¬ (((a.length+b.length:Nat):Int) >IntKind.i64.max):=by
     have:IntKind.i64.max=9223372036854775807:=by decide
     unfold maxLen at hl;omega
    have hsz:∀ l:List UInt8,(ByteArray.mk (Array.mk l)).size=l.length:=fun l=>rfl
    refine⟨.string (⟨⟨a⟩⟩++⟨⟨b⟩⟩),by simp only[binOp,Op.stringOp,hsz];rw[if_neg hmax];rfl,?_⟩
    have:(ByteArray.mk (Array.mk a)++ByteArray.mk (Array.mk b))=ByteArray.mk (Array.mk (a++b)):=by
     apply ByteArray.ext
     rw[ByteArray.data_append]
     simp
    rw[this];exact .str _
   ·cases h
  all_goals exact⟨_,by simp[binOp,Op.stringOp,pX], .bool _⟩
 ·rename_i a b
  rw[VR.bool_iff]at hv hu;subst hv hu
  split at h
  ·rename_i hs
   exact bY h ox oy (B7p (C1a hs) a b) (by cases op <;>rfl) rfl rfl
  ·cases h
 ·rw[VR.nil_iff]at hv hu;subst hv hu
  split at h
  ·rename_i hs
   obtain⟨e,he⟩:=Option.isSome_iff_exists.1 hs
   exact bY h ox oy (C7o (bX he)) (by cases op <;>rfl) rfl rfl
  ·cases h
 ·rw[VR.nil_iff]at hv;subst hv
  split at h
  ·rename_i hs
   obtain⟨hs,hnn⟩:=hs
   obtain⟨e,he⟩:=Option.isSome_iff_exists.1 hs
   cases hu
   case sl0=>cases hnn
   exact bY h ox oy (C1t (bX he) _ _ _) (by cases op <;>rfl) rfl rfl
  ·cases h
 ·rw[VR.nil_iff]at hu;subst hu
  split at h
  ·rename_i hs
   obtain⟨hs,hnn⟩:=hs
   obtain⟨e,he⟩:=Option.isSome_iff_exists.1 hs
   cases hv
   case sl0=>cases hnn
   exact bY h ox oy (B1c (bX he) _ _ _) (by cases op <;>rfl) rfl rfl
  ·cases h
 ·rw[VR.nil_iff]at hv;subst hv
  split at h
  ·rename_i hs
   obtain⟨e,he⟩:=Option.isSome_iff_exists.1 hs
   cases hu
   exact bY h ox oy (C1t (bX he) _ _ _) (by cases op <;>rfl) rfl rfl
  ·cases h
 ·rw[VR.nil_iff]at hu;subst hu
  split at h
  ·rename_i hs
   obtain⟨e,he⟩:=Option.isSome_iff_exists.1 hs
   cases hv
   exact bY h ox oy (B1c (bX he) _ _ _) (by cases op <;>rfl) rfl rfl
  ·cases h
 ·rw[VR.nil_iff]at hu;subst hu
  split at h
  ·rename_i hs
   obtain⟨e,he⟩:=Option.isSome_iff_exists.1 hs
   cases hv
   exact bY h ox oy (B1c (bX he) _ _ _) (by cases op <;>rfl) rfl rfl
  ·cases h
 ·rw[VR.nilfn_iff]at hu;subst hu
  split at h
  ·rename_i hs;cases hv
   exact bY h ox oy (C7j hs _ _ _) (by cases op <;>rfl) rfl rfl
  ·cases h
 ·rw[VR.nilfn_iff]at hv;subst hv
  split at h
  ·rename_i hs;cases hu
   exact bY h ox oy (C7n hs _ _ _) (by cases op <;>rfl) rfl rfl
  ·cases h
 ·rw[VR.nilfn_iff]at hv hu;subst hv hu
  split at h
  ·rename_i hs
   exact bY h ox oy (C7i hs) (by cases op <;>rfl) rfl rfl
  ·cases h
 ·rw[VR.nilptr_iff]at hv hu;subst hv hu
  split at h
  ·rename_i e hs
   exact bY h ox oy (B1b (pV hs) _) (by cases op <;>rfl) rfl rfl
  ·cases h
 ·rw[VR.nilptr_iff]at hv;subst hv
  split at h
  ·rename_i e hs;cases hu
   exact bY h ox oy (B1b (pV hs) _) (by cases op <;>rfl) rfl rfl
  ·cases h
 ·rw[VR.nilptr_iff]at hv;subst hv
  split at h
  ·rename_i e hs;cases hu
   exact bY h ox oy (B1b (pV hs) _) (by cases op <;>rfl) rfl rfl
  ·cases h
 ·rw[VR.nilptr_iff]at hu;subst hu
  split at h
  ·rename_i e hs;cases hv
   exact bY h ox oy (C1u (pV hs) _) (by cases op <;>rfl) rfl rfl
  ·cases h
 ·rw[VR.nilptr_iff]at hu;subst hu
  split at h
  ·rename_i e hs;cases hv
   exact bY h ox oy (C1u (pV hs) _) (by cases op <;>rfl) rfl rfl
  ·cases h
 ·obtain⟨ks,hk,h⟩:=Option.bind_eq_some_iff.1 h
  obtain⟨b,hb,h⟩:=Option.bind_eq_some_iff.1 h
  cases hv with
  | agg _ vs hl h1 hv'=>
   cases hu with
   | agg _ us hl2 h2 hu'=>
    have he:=C3c (w:=w) hk hb (VR.agg_of _ vs hl h1 hv') (VR.agg_of _ us hl2 h2 hu')
    exact bY h ox oy he.1 (run_eqGuard_agg w op t ox oy _ _ he.2) rfl rfl
 ·cases h
def ifc(P:Program)(t:TypeId):Bool:=match P.underlying t with|some (.interface _)=>true|_=>false
theorem zS{P:Program}{t:TypeId}(h:ifc P t=true):∃ m,P.underlying t=some (.interface m):=by
 unfold ifc at h
 split at h
 ·exact⟨_,by assumption⟩
 ·cases h
def uK(P:Program)(op:BinOp)(t:TypeId):AV ->Option AV
 | .raw .nilIface=>if ifc P t then lH op true else none
 | .raw (.iface _ _)=>if ifc P t then lH op false else none
 |_=>none
def nU(P:Program)(op:BinOp)(t:TypeId):AV ->Option AV
 | .raw (.map m)=>match sk P t with
  | .map _ _=>lH op m.isNone
  |_=>none
 |_=>none
theorem C7m{P:Program}{w:World}{t k e:TypeId}(h:P.underlying t=some (.map k e))(m:Option Nat):(Op.equal t (.map m) (.map none)).run P w= .ok m.isNone w:=by
 have key:∀ d,(Op.equalIn (d+1) t (.map m) (.map none)).run P w= .ok m.isNone w:=fun d=>by cases m <;>simp[Op.equalIn,run_underlying h]
 exact key 9999
theorem yD{P:Program}{K:aJ}{w:World}{op:BinOp}{t:TypeId}{x r:AV}(h:nU P op t x=some r){v:Value}(hv:VR K x v)(ox:Operand):
  ∃ z,(do eqGuard op t ox (.const (.map none)) v (.map none);binOp op t v (.map none):Sem Value).run P w= .ok z w /\ VR K r z:=by
 unfold nU at h
 split at h
 ·rename_i m
  rw[VR.raw_iff]at hv;subst hv
  split at h
  ·rename_i k e hs
   exact bY h ox (.const (.map none)) (C7m (xR hs) m) (by cases op <;>rfl) rfl rfl
  ·cases h
 ·cases h
def mS(P:Program)(op:BinOp)(t:TypeId)(oy:Operand)(x y:AV):Option AV:=
 match oy with
 | .const .nilIface=>uK P op t x
 | .const (.map none)=>nU P op t x
 |_=>fQ P op t x y
theorem C7l{P:Program}{w:World}{t:TypeId}(h:ifc P t=true):(Op.equal t .nilIface .nilIface).run P w= .ok true w:=by
 obtain⟨m,h⟩:=zS h
 have key:∀ d,(Op.equalIn (d+1) t .nilIface .nilIface).run P w= .ok true w:=fun d=>by simp[Op.equalIn,run_underlying h]
 exact key 9999
theorem C7k{P:Program}{w:World}{t s:TypeId}{v:Value}(h:ifc P t=true):(Op.equal t (.iface s v) .nilIface).run P w= .ok false w:=by
 obtain⟨m,h⟩:=zS h
 have key:∀ d,(Op.equalIn (d+1) t (.iface s v) .nilIface).run P w= .ok false w:=fun d=>by simp[Op.equalIn,run_underlying h]
 exact key 9999
theorem yE{P:Program}{K:aJ}{w:World}{op:BinOp}{t:TypeId}{x r:AV}(h:uK P op t x=some r){v:Value}(hv:VR K x v)(ox:Operand):
  ∃ z,(do eqGuard op t ox (.const .nilIface) v .nilIface;binOp op t v .nilIface:Sem Value).run P w= .ok z w /\ VR K r z:=by
 unfold uK at h
 split at h
 ·rw[VR.raw_iff]at hv;subst hv
  split at h
  ·rename_i hi
   refine bY h ox (.const .nilIface) (C7l hi) ?_ rfl rfl
   cases op <;>simp[eqGuard]
  ·cases h
 ·rw[VR.raw_iff]at hv;subst hv
  split at h
  ·rename_i hi
   exact bY h ox (.const .nilIface) (C7k hi) (by cases op <;>rfl) rfl rfl
  ·cases h
 ·cases h
def aun(op:UnOp)(x:AV):Option AV:=
 match op,x with
 | .neg, .int k n=>some (.int k (k.wrap (0 - n)))
 | .not, .bool b=>some (.bool (!b))
 |_,_=>none
theorem A5z{P:Program}{K:aJ}{w:World}{op:UnOp}{x r:AV}(h:aun op x=some r){v:Value}(hv:VR K x v):
  ∃ z,(Op.unary op v).run P w= .ok z w /\ VR K r z:=by
 unfold aun at h
 split at h
 ·rw[VR.int_iff]at hv;subst hv
  simp only[Option.some.injEq]at h;subst h
  exact⟨_,by simp only[Op.unary,Op.intArith];rfl, .int _ _⟩
 ·rw[VR.bool_iff]at hv;subst hv
  simp only[Option.some.injEq]at h;subst h
  exact⟨_,by simp only[Op.unary];rfl, .bool _⟩
 ·cases h
def nY(P:Program)(s d:TypeId)(x:AV):Option AV:=
 match x,sk P d with
 | .int _ n, .int k=>if(P.underlying s).isSome then some (.int k (k.wrap n))else none
 | .str s', .str=>if(P.underlying s).isSome then some (.str s')else none
 |_,_=>none
theorem yL{P:Program}{K:aJ}{w:World}{s d:TypeId}{x r:AV}(h:nY P s d x=some r){v:Value}(hv:VR K x v):
  ∃ z,(convert s d v).run P w= .ok z w /\ VR K r z:=by
 unfold nY at h
 split at h
 ·rename_i n k hd
  rw[VR.int_iff]at hv;subst hv
  split at h
  ·rename_i hs
   obtain⟨u,hu⟩:=Option.isSome_iff_exists.1 hs
   simp only[Option.some.injEq]at h;subst h
   refine⟨.int k (k.wrap n),?_, .int _ _⟩
   unfold convert
   simp only[Sem.run_bind,run_underlying hu,run_underlying (kZ hd)]
   cases u <;>rfl
  ·cases h
 ·rename_i s' hd
  rw[VR.str_iff]at hv;subst hv
  split at h
  ·rename_i hs
   obtain⟨u,hu⟩:=Option.isSome_iff_exists.1 hs
   simp only[Option.some.injEq]at h;subst h
   refine⟨.string ⟨⟨s'⟩⟩,?_, .str _⟩
   unfold convert
   simp only[Sem.run_bind,run_underlying hu,run_underlying (jA hd)]
   cases u <;>rfl
  ·cases h
 ·cases h
def C2q(P:Program)(t:TypeId):Option (Nat × Bool × Nat):=
 match P.underlying t with
 |some (.array m e)=> (tk P e).map fun x=> (m,x)
 |_=>none
def lQ(P:Program)(t:TypeId)(x i:AV):Option AV:=
 match x,i with
 | .str s, .int _ i=>if sk P t= .str then(if 0 <=i then(match s[i.toNat]? with|some c=>some (.int .u8 c.toNat)|none=>none)else none)else none
 | .agg cs, .int _ i=> (match C2q P t with
  |some (m,ag,n)=>if 0 <=i /\ i < m then rd ag n (cs.drop (i.toNat*n))else none
  |none=>none)
 |_,_=>none
theorem A3w{P:Program}{K:aJ}{w:World}{t:TypeId}{ag:Bool}{n off:Nat}(ht:tk P t=some (ag,n)){cs:List AV}{vs:Array Value}(hl:vs.size=cs.length)(h1:∀ c,c ∈ cs ->one c=true)(hvv:∀ j (h:j < cs.length),VR K cs[j] (vs.getD j Go.undef)){r:AV}(h:rd ag n (cs.drop off)=some r):
  ∃ z,(part t vs off).run P w= .ok z w /\ VR K r z:=by
 obtain⟨ha,hs,_⟩:=fY (b:=ag) (n:=n) ht w
 unfold rd at h
 cases ag with
 | true=>
  simp only[if_true]at h
  split at h
  ·rename_i hn
   simp only[Option.some.injEq]at h;subst h
   refine⟨.agg (vs.extract off (off+n)),?_, .agg _ _ (by simp[hl]at hn ⊢;omega) (fun c hc=>h1 c (List.mem_of_mem_drop (List.mem_of_mem_take hc))) (fun j hj=> ?_)⟩
   ·simp[part,ha,hs]
   ·have hj':off+j < cs.length:=by simp at hj;omega
    have hjn:j < n:=by simp at hj;omega
    have:=hvv _ hj'
    have hj2:off+j < vs.size:=by omega
    have hj3:j < min (off+n) vs.size - off:=by omega
    simpa [Array.getD,hj2,hj3] using this
  ·cases h
 | false=>
  simp only[Bool.false_eq_true,if_false]at h
  have hlt:off < cs.length:=by
   rcases Nat.lt_or_ge off cs.length with h'|h'
   ·exact h'
   ·rw[List.drop_eq_nil_of_le h']at h;cases h
  have hlt':off < vs.size:=by omega
  rw[List.head?_drop,List.getElem?_eq_getElem hlt,Option.some.injEq]at h
  subst h
  refine⟨vs[off],?_,by have:=hvv _ hlt;simpa [Array.getD,hlt'] using this⟩
  simp[part,ha,hlt']
theorem vY{P:Program}{K:aJ}{w:World}{t:TypeId}{x i r:AV}(h:lQ P t x i=some r){v u:Value}(hv:VR K x v)(hu:VR K i u):
  ∃ z,(Instr.index t v u).run P w= .ok z w /\ VR K r z:=by
 unfold lQ at h
 split at h
 ·rename_i s k i
  rw[VR.str_iff]at hv;rw[VR.int_iff]at hu;subst hv hu
  split at h
  ·rename_i hs
   split at h
   ·rename_i h0
    split at h
    ·rename_i c hc
     simp only[Option.some.injEq]at h;subst h
     refine⟨.int .u8 c.toNat,?_, .int _ _⟩
     have:(ByteArray.mk (Array.mk s))[i.toNat]? =some c:=by
      obtain⟨hlt,hcc⟩:=List.getElem?_eq_some_iff.1 hc
      have hlt':i.toNat < (ByteArray.mk (Array.mk s)).size:=hlt
      rw[getElem?_pos (ByteArray.mk (Array.mk s)) i.toNat hlt']
      exact congrArg some hcc
     unfold Instr.index
     simp[asIntOf,run_underlying (jA hs),h0,this]
    ·cases h
   ·cases h
  ·cases h
 ·rename_i cs k i
  rw[VR.int_iff]at hu;subst hu
  split at h
  case h_2=>cases h
  rename_i m ag n hm
  split at h
  case isFalse=>cases h
  rename_i hc
  unfold C2q at hm
  split at hm
  case h_2=>cases hm
  rename_i m' e' hund
  cases htk:tk P e' with
  |none=>rw[htk]at hm;cases hm
  | some x=>
   rw[htk]at hm
   simp only[Option.map_some,Option.some.injEq,Prod.mk.injEq]at hm
   obtain⟨rfl,rfl⟩:=hm
   cases hv with
   | agg _ vs hl h1 hvv=>
    obtain⟨z,hz,hr⟩:=A3w (w:=w) (K:=K) htk hl h1 hvv h
    refine⟨z,?_,hr⟩
    obtain⟨_,hs,_⟩:=fY htk w
    unfold Instr.index
    simp[asIntOf,run_underlying hund,hc.1,hc.2,hs,hz]
 ·cases h
def jW(x:AV)(i:Nat):Option AV:=
 match x with
 | .tup vs=>vs[i]?
 |_=>none
theorem rO{P:Program}{K:aJ}{w:World}{x r:AV}{i:Nat}(h:jW x i=some r){v:Value}(hv:VR K x v):
  ∃ z,(Instr.extract v i).run P w= .ok z w /\ VR K r z:=by
 unfold jW at h
 split at h
 ·rename_i vs
  obtain⟨hi,rfl⟩:=List.getElem?_eq_some_iff.1 h
  cases hv with
  | tup _ us hl hv=>
   have hi':i < us.size:=by omega
   refine⟨us[i],?_,by have:=hv i hi;simpa [Array.getD,hi'] using this⟩
   unfold Instr.extract
   simp[hi']
 ·cases h
def kM(P:Program)(t:TypeId)(x:AV)(i:Nat):Option AV:=
 match x,qE P t i with
 | .agg cs,some (off,ag,n)=>rd ag n (cs.drop off)
 |_,_=>none
theorem            tR{P:Program}{K:aJ}{w:World}{t:TypeId}{x r:AV}{i:Nat}(h:kM P t x i=some r){v:Value}(hv:VR K x v):
  ∃ z,(Instr.field t v i).run P w= .ok z w /\ VR K r z:=by
 unfold kM at h
 split at h
 ·rename_i cs off ag n hf
  cases hv with
  | agg _ vs hl h1 hvv=>
   unfold qE at hf
   split at hf
   ·rename_i fs hu
    split at hf
    ·rename_i f hfi
     cases htk:tk P f.type with
     |none=>rw[htk]at hf;cases hf
     | some x=>
      rw[htk]at hf
      simp only[Option.map_some,Option.some.injEq,Prod.mk.injEq]at hf
      obtain⟨rfl,hx⟩:=hf
      subst hx
      obtain⟨ha,hs,_⟩:=fY (b:=ag) (n:=n) htk w
      unfold rd at h
      cases ag with
      | true=>
       simp only[if_true]at h
       split at h
       ·rename_i hn
        simp only[Option.some.injEq]at h;subst h
        refine⟨.agg (vs.extract f.offset (f.offset+n)),?_, .agg _ _ (by simp[hl];omega) (fun c hc=>h1 c (List.mem_of_mem_drop (List.mem_of_mem_take hc))) (fun j hj=> ?_)⟩
        ·unfold Instr.field
         simp[run_underlying hu,hfi,asAgg,part,ha,hs]
        ·have hj':f.offset+j < cs.length:=by simp at hj;omega
         have hjn:j < n:=by simp at hj;omega
         have:=hvv _ hj'
         have hj2:f.offset+j < vs.size:=by omega
         have hj3:j < min (f.offset+n) vs.size - f.offset:=by omega
         simpa [Array.getD,hj2,hj3] using this
       ·cases h
      | false=>
       simp only[Bool.false_eq_true,if_false]at h
       have hlt:f.offset < cs.length:=by
        rcases Nat.lt_or_ge f.offset cs.length with h'|h'
        ·exact h'
        ·rw[List.drop_eq_nil_of_le h']at h;cases h
       have hlt':f.offset < vs.size:=by omega
       rw[List.head?_drop,List.getElem?_eq_getElem hlt,Option.some.injEq]at h
       subst h
       refine⟨vs[f.offset],?_,by have:=hvv _ hlt;simpa [Array.getD,hlt'] using this⟩
       unfold Instr.field
       simp[run_underlying hu,hfi,asAgg,part,ha,hlt']
    ·cases hf
   ·cases hf
 ·cases h
end Go.Av
namespace Go.Av
open Go Go.RowKit
def cG(o:Option AV)(d:Nat):Option Nat:=
 match o with
 |none=>some d
 |some (.int _ i)=>if 0 <=i then some i.toNat else none
 |_=>none
theorem iX{P:Program}{K:aJ}{w:World}{o:AV}{d n:Nat}(h:cG (some o) d=some n){v:Value}(hv:VR K o v)(y:Nat)(hy:n <=y)(code:BoundsCode):
  (Instr.sliceBound v y code).run P w= .ok n w:=by
 unfold cG at h
 split at h
 ·rename_i heq;cases heq
 ·rename_i k i heq
  simp only[Option.some.injEq]at heq;subst heq
  rw[VR.int_iff]at hv;subst hv
  split at h
  ·rename_i h0
   simp only[Option.some.injEq]at h;subst h
   have:0 <=i /\ i <=(y:Int):=by omega
   simp[Instr.sliceBound,asIntOf,this]
  ·cases h
 ·cases h
theorem cH {P:Program} {K:aJ} {w:World} {lo hi:Option AV} {len cap l h:Nat} (hl:cG lo 0=some l) (hh:cG hi len=some h) (hlh:l <=h) (hcap:h <=cap)
  {vlo vhi:Option Value} (hvl:∀ a,lo=some a ->∃ v,vlo=some v /\ VR K a v) (hvln:lo=none ->vlo=none) (hvh:∀ a,hi=some a ->∃ v,vhi=some v /\ VR K a v) (hvhn:hi=none ->vhi=none) (b:Bool):
  (Instr.sliceBounds b len cap vlo vhi none).run P w= .ok (l,h,cap) w:=by
 unfold Instr.sliceBounds
 cases hi with
 | none=>
  rw[hvhn rfl]
  simp only[cG,Option.some.injEq]at hh;subst hh
  cases lo with
  | none=>
   rw[hvln rfl]
   simp only[cG,Option.some.injEq]at hl;subst hl
   simp
  | some a=>
   obtain⟨v,rfl,hv⟩:=hvl a rfl
   have:=iX (P:=P) (w:=w) hl hv len hlh .sliceB
   simp[this]
 | some c=>
  obtain⟨u,rfl,hu⟩:=hvh c rfl
  have h1:=fun code=>iX (P:=P) (w:=w) hh hu cap hcap code
  cases lo with
  | none=>
   rw[hvln rfl]
   simp only[cG,Option.some.injEq]at hl;subst hl
   simp[h1]
  | some a=>
   obtain⟨v,rfl,hv⟩:=hvl a rfl
   have:=iX (P:=P) (w:=w) hl hv h hlh .sliceB
   simp[this,h1]
def gN(g:Gh)(l h len:Nat):Gh:=
 match g with
 | .none=> .none
 | .full=>if h=len then .full else .none
 | .own b=>if l=0 /\ h=len then .own b else .none
open Classical in
noncomputable def iB(P:Program)(t:TypeId)(x:AV)(lo hi:Option AV):Option AV:=
 match x with
 | .str s=>if sk P t= .str then
   match cG lo 0,cG hi s.length with
   |some l,some h=>if l <=h /\ h <=s.length then some (.str ((s.take h).drop l))else none
   |_,_=>none
  else none
 | .nil=>match el P t,cG lo 0,cG hi 0 with
  |some e,some l,some h=>if l <=h /\ h <=0 /\ (tk P e).isSome then some .nil else none
  |_,_,_=>none
 | .sl g xs sp=>match el P t,cG lo 0,cG hi xs.length with
  | some e,some l,some h=>match tk P e with
   | some (_,n)=>if l <=h /\ h <=xs.length+sp.length /\ (l=0 \/ ∀ a,a ∈ xs++sp -> (flat a).length=n)then
     some (.sl (gN g l h xs.length) (((xs++sp).take h).drop l) ((xs++sp).drop h))else none
   |none=>none
  |_,_,_=>none
 | .bs b n s E=>match el P t,cG lo 0,cG hi n with
  |some e,some l,some h=>if l=0 /\ h <=n /\ (tk P e).isSome then some (.bs b h s E)else none
  |_,_,_=>none
 | .rp cs=>match lo,hi,pH P t with
  |none,none,some (m,1)=>if m=cs.length /\ m <=maxLen then some (.sl .none cs [])else none
  |_,_,_=>none
 |_=>none
theorem kA{a:AV}(h:one a=true):flat a=[a] /\ isv a=true:=by cases a <;>first|exact⟨rfl,h⟩|cases h
theorem mM:∀ (l:List AV),(∀ a,a ∈ l ->one a=true) ->l.flatMap flat=l
 |[],_=>rfl
 |a::l,h=>by rw[List.flatMap_cons,(kA (h a (by simp))).1,mM l fun b hb=>h b (by simp[hb])];rfl
theorem B4v{P:Program}{t:TypeId}{m n:Nat}(h:pH P t=some (m,n)):∃ e i,P.underlying t=some (.array m e) /\ P.info? e=some i /\ i.size=n:=by
 unfold pH at h
 split at h
 ·rename_i m' e hu
  obtain⟨i,hi,he⟩:=Option.map_eq_some_iff.1 h
  simp only[Prod.mk.injEq]at he
  obtain⟨rfl,rfl⟩:=he
  exact⟨e,i,hu,hi,rfl⟩
 ·cases h
theorem wS{sz:Nat}(l:List AV)(h:∀ e,e ∈ l -> (flat e).length=sz)(k j:Nat)(hj:k*sz+j < (l.flatMap flat).length)(hj2:j < ((l.drop k).flatMap flat).length):
  ((l.drop k).flatMap flat)[j]=(l.flatMap flat)[k*sz+j]:=by
 induction l generalizing k with
 |nil=>simp at hj
 | cons x l ih=>
  have hx:=h x (by simp)
  cases k with
  |zero=>simp
  | succ k=>
   simp only[List.drop_succ_cons,List.flatMap_cons]at hj2 ⊢
   have e:(k+1)*sz+j=(flat x).length+(k*sz+j):=by rw[hx,Nat.succ_mul];omega
   have hlt:k*sz+j < (l.flatMap flat).length:=by
    simp only[List.flatMap_cons,List.length_append]at hj;omega
   rw[ih (fun a ha=>h a (by simp[ha])) k hlt hj2]
   have h3:((flat x)++l.flatMap flat)[(k+1)*sz+j]? =(l.flatMap flat)[k*sz+j]? :=by
    rw[e,List.getElem?_append_right (by omega)];congr 1;omega
   have h4:=List.getElem?_eq_getElem hj
   simp only[List.flatMap_cons]at h4
   rw[h3,List.getElem?_eq_getElem hlt]at h4
   exact Option.some.inj h4
theorem            tV {P:Program} {K:aJ} {w:World} {t:TypeId} {x r:AV} {lo hi:Option AV} (h:iB P t x lo hi=some r) {v:Value} (hv:VR K x v)
  {vlo vhi:Option Value} (hvl:∀ a,lo=some a ->∃ v,vlo=some v /\ VR K a v) (hvln:lo=none ->vlo=none) (hvh:∀ a,hi=some a ->∃ v,vhi=some v /\ VR K a v) (hvhn:hi=none ->vhi=none):
  ∃ z,(Instr.sliceAt t v vlo vhi none).run P w= .ok z w /\ VR K r z:=by
 unfold iB at h
 split at h
 ·rename_i s
  rw[VR.str_iff]at hv;subst hv
  split at h
  ·rename_i hs
   have hu:=jA hs
   split at h
   ·rename_i l hh hl hhh
    split at h
    ·rename_i hc
     simp only[Option.some.injEq]at h;subst h
     have hb:=cH (P:=P) (w:=w) (len:=s.length) (cap:=s.length) hl hhh hc.1 hc.2 hvl hvln hvh hvhn false
     refine⟨.string ((ByteArray.mk (Array.mk s)).extract l hh),?_,?_⟩
     ·have hsz:(ByteArray.mk (Array.mk s)).size=s.length:=rfl
      unfold Instr.sliceAt Instr.slice
      simp[run_underlying hu,hsz,hb]
     ·have:(ByteArray.mk (Array.mk s)).extract l hh=⟨⟨(s.take hh).drop l⟩⟩:=by
       apply ByteArray.ext
       rw[ByteArray.data_extract]
       apply Array.ext'
       simp[List.drop_take]
      rw[this];exact .str _
    ·cases h
   ·cases h
  ·cases h
 ·rw [VR.nil_iff]at hv;subst hv
  split at h
  ·rename_i e l hh he hl hhh
   split at h
   ·rename_i hc
    simp only[Option.some.injEq]at h;subst h
    have hh0:hh=0:=by omega
    have hl0:l=0:=by omega
    subst hh0 hl0
    obtain⟨x,hx⟩:=Option.isSome_iff_exists.1 hc.2.2
    obtain⟨_,hsz,_⟩:=fY (b:=x.1) (n:=x.2) hx w
    have hb:=cH (P:=P) (w:=w) (len:=0) (cap:=0) hl hhh (Nat.le_refl _) (Nat.le_refl _) hvl hvln hvh hvhn true
    refine⟨.slice none 0 0,?_, .nil⟩
    unfold Instr.sliceAt Instr.slice
    simp[run_underlying (bX he),hb,hsz]
   ·cases h
  ·cases h
 ·rename_i g xs sp
  split at h
  ·rename_i e l hh he hl hhh
   split at h
   ·rename_i ag n hn
    split at h
    ·rename_i hc
     simp only[Option.some.injEq]at h;subst h
     obtain⟨hc1,hc2,hc3⟩:=hc
     obtain⟨_,hsz,_⟩:=fY hn w
     cases hv with
     | sl0 a=>
      have hh0:hh=0:=by simpa using hc2
      have hl0:l=0:=by omega
      subst hh0 hl0
      have hb:=cH (P:=P) (w:=w) (len:=0) (cap:=0) hl hhh (Nat.le_refl _) (Nat.le_refl _) hvl hvln hvh hvhn true
      refine⟨.slice a 0 0,?_, .sl0 a⟩
      unfold Instr.sliceAt Instr.slice
      simp[run_underlying (bX he),hb,hsz]
     | sl _ _ _ sz b off cap f hsze hcap hml himm hvv hg=>
      have hb:=cH (P:=P) (w:=w) (len:=xs.length) (cap:=cap) hl hhh hc1 (by omega) hvl hvln hvh hvhn true
      have hlen:=aS (sz:=sz) (xs++sp) (fun e he=> (hsze e he).1)
      have hxl:(((xs++sp).take hh).drop l).length=hh - l:=by simp;omega
      -- the new address
      have hadr:∃ off',(if cap=l then(some (⟨b,off,none⟩:Addr))else(some (⟨b,off,none⟩:Addr)).map (·.add (l*n)))=some ⟨b,off',none⟩ /\
        (l=0 ->off'=off) /\ ((((xs++sp).take hh).drop l++(xs++sp).drop hh).flatMap flat ≠ [] ->off'=off+l*sz):=by
       by_cases hcl:cap=l
       ·refine⟨off,by rw[if_pos hcl],fun _=>rfl,fun hne=> ?_⟩
        have:((xs++sp).take hh).drop l++(xs++sp).drop hh=(xs++sp).drop l:=by
         rw[<- List.drop_append_of_le_length (by simp;omega),List.take_append_drop]
        rw[this,List.drop_eq_nil_of_le (by simp;omega)]at hne
        exact absurd rfl hne
       ·refine⟨off+l*n,by rw[if_neg hcl];simp[Addr.add_lit],fun hl0=>by rw[hl0];simp,fun hne=> ?_⟩
        rcases hc3 with h0|hall
        ·rw[h0];simp
        ·have hx:∃ a,a ∈ xs++sp:=by
          cases hxs:xs++sp with
          |nil=>rw[hxs]at hne;simp at hne
          |cons a _=>exact⟨a,by simp⟩
         obtain⟨a,ha⟩:=hx
         rw[<- hall a ha,<- (hsze a ha).1]
      obtain⟨off',hoff,hoff0,hoff1⟩:=hadr
      refine⟨.slice (some ⟨b,off',none⟩) (hh - l) (cap - l),?_,?_⟩
      ·unfold Instr.sliceAt Instr.slice
       simp[run_underlying (bX he),hb,hsz]
       exact hoff
      ·have hall:((xs++sp).take hh).drop l++(xs++sp).drop hh=(xs++sp).drop l:=by
        rw[<- List.drop_append_of_le_length (by simp;omega),List.take_append_drop]
       have hmem:∀ a,a ∈ ((xs++sp).take hh).drop l++(xs++sp).drop hh ->a ∈ xs++sp:=fun a ha=>by
        rw[hall]at ha;exact List.mem_of_mem_drop ha
       have hlen2:=aS (sz:=sz) ((xs++sp).drop l) (fun e he=> (hsze e (List.mem_of_mem_drop he)).1)
       have key:∀ j,j < ((xs++sp).drop l).length*sz ->l*sz+j < ((xs++sp).flatMap flat).length:=by
        intro j hj
        rw[hlen]
        simp only[List.length_drop]at hj
        have h5:(xs++sp).length*sz=((xs++sp).length - l)*sz+l*sz:=by
         rw[<- Nat.add_mul];congr 1;simp;omega
        omega
       have :=VR.sl (K:=K) (gN g l hh xs.length) (((xs++sp).take hh).drop l) ((xs++sp).drop hh) sz b off' (cap - l) (fun j=>f (l*sz+j))
        (fun e he=>hsze e (hmem e he)) (by simp;omega) (by omega)
        (fun j hj=>by
          have hne:(((xs++sp).take hh).drop l++(xs++sp).drop hh).flatMap flat ≠ []:=by intro hh';rw[hh']at hj;simp at hj
          rw[hoff1 hne,Nat.add_assoc]
          rw[hall,hlen2]at hj
          exact himm _ (key j hj))
        (fun j hj=>by
          have hj':=hj
          rw[hall,hlen2]at hj'
          have h6:=hvv _ (key j hj')
          have hj3:j < (((xs++sp).drop l).flatMap flat).length:=by rw[hlen2];exact hj'
          have h7:=wS (sz:=sz) (xs++sp) (fun e he=> (hsze e he).1) l j (key j hj') hj3
          rw[<- h7]at h6
          have h8:((((xs++sp).take hh).drop l++(xs++sp).drop hh).flatMap flat)[j]=(((xs++sp).drop l).flatMap flat)[j]:=by
           congr 1;rw[hall]
          rw[h8];exact h6)
        (by
          rw[hxl]
          cases g with
          |none=>trivial
          | full=>
           simp only[gN]
           split
           ·rename_i hx;simp only[Gh.ok]at hg ⊢;omega
           ·trivial
          | own b'=>
           simp only[gN]
           split
           ·rename_i hx
            obtain⟨g1,g2,E,s,g3⟩:=hg
            obtain⟨rfl,_⟩:=hx
            exact⟨g1,(hoff0 rfl).trans g2,E,s,by simpa using g3⟩
           ·trivial)
       rw[hxl]at this
       exact this
    ·cases h
   ·cases h
  ·cases h
 ·rename_i b n s E0
  split at h
  ·rename_i e l hh he hl hhh
   split at h
   ·rename_i hc
    simp only[Option.some.injEq]at h;subst h
    obtain⟨rfl,hc2,hc3⟩:=hc
    obtain⟨x,hx⟩:=Option.isSome_iff_exists.1 hc3
    obtain⟨_,hsz,_⟩:=fY (b:=x.1) (n:=x.2) hx w
    cases hv with
    | bs _ _ _ cap E hr hnn hm=>
     have hb:=cH (P:=P) (w:=w) (len:=n) (cap:=cap) hl hhh (Nat.zero_le _) (by omega) hvl hvln hvh hvhn true
     refine⟨.slice (some ⟨b,0,none⟩) hh cap,?_, .bs b hh s cap _ hr (by omega) hm⟩
     unfold Instr.sliceAt Instr.slice
     simp[run_underlying (bX he),hb,hsz,Addr.add_lit]
   ·cases h
  ·cases h
 ·rename_i cs
  split at h
  ·rename_i m hm
   split at h
   ·rename_i hc
    simp only[Option.some.injEq]at h;subst h
    obtain⟨rfl,hml⟩:=hc
    obtain⟨e,i,hu,hi,hsz⟩:=B4v hm
    cases hv with
    | rp _ b off f h1 himm hvv=>
     have hfl:=mM cs h1
     have hb:=cH (P:=P) (w:=w) (lo:=none) (hi:=none) (len:=cs.length) (cap:=cs.length) (l:=0) (h:=cs.length) rfl rfl (Nat.zero_le _) (Nat.le_refl _) hvl hvln hvh hvhn false
     refine⟨.slice (some ⟨b,off,none⟩) cs.length cs.length,?_,?_⟩
     ·unfold Instr.sliceAt
      simp[run_underlying hu,Instr.sureAddr,asAddr,hb,sizeOf,typeInfo,hi,Addr.add_lit]
     ·have:=VR.sl (K:=K) .none cs [] 1 b off cs.length f (fun a ha=>by
       have ha':a ∈ cs:=by simpa using ha
       have g:=kA (h1 a ha')
       exact⟨by rw[g.1];rfl,g.2,fun c hc=>by rw[g.1]at hc;simp at hc;subst hc;exact h1 c ha'⟩) (by simp) hml
       (fun j hj=>by rw[List.append_nil,hfl]at hj;exact himm j hj)
       (fun j hj=>by
         have hj':j < cs.length:=by rw[List.append_nil,hfl]at hj;exact hj
         have e1:((cs++[]).flatMap flat)[j]=cs[j]:=by congr 1;rw[List.append_nil,hfl]
         rw[e1];exact hvv j hj') trivial
      exact this
   ·cases h
  ·cases h
 ·cases h
theorem VR.spareless{K:aJ}{g:Gh}{xs sp:List AV}{v:Value}(h:VR K (.sl g xs sp) v):VR K (.sl g xs []) v:=by
 cases h with
 |sl0 a=>exact .sl0 a
 | sl _ _ _ sz b off cap f hsz hcap hml himm hvv hg=>
  have hle:(xs.flatMap flat).length <=((xs++sp).flatMap flat).length:=by simp
  have :=VR.sl (K:=K) g xs [] sz b off cap f (fun e he=>hsz e (List.mem_append_left _ (by simpa using he))) (by simp;omega) hml
   (fun j hj=>himm j (by simp only[List.append_nil]at hj;omega))
   (fun j hj=>by
     simp only[List.append_nil]at hj ⊢
     have h1:=hvv j (by omega)
     have:((xs++sp).flatMap flat)[j]'(by omega)=(xs.flatMap flat)[j]:=by
      have h2:((xs++sp).flatMap flat)[j]? =(xs.flatMap flat)[j]? :=by
       rw[List.flatMap_append,List.getElem?_append_left hj]
      rw[List.getElem?_eq_getElem (by omega),List.getElem?_eq_getElem hj]at h2
      exact Option.some.inj h2
     rw[this]at h1;exact h1) hg
  exact this
def sZ(x r:AV):AV:=match x,r with
 | .sl .none _ [], .sl g xs _=> .sl g xs []
 |_,r=>r
theorem VR.thinned{K:aJ}{x r:AV}{v:Value}(h:VR K r v):VR K (sZ x r) v:=by
 unfold sZ
 split
 ·exact h.spareless
 ·exact h
noncomputable def eN(P:Program)(t:TypeId)(x:AV)(lo hi:Option AV):Option AV:=(iB P t x lo hi).map (sZ x)
theorem oB {P:Program} {K:aJ} {w:World} {t:TypeId} {x r:AV} {lo hi:Option AV} (h:eN P t x lo hi=some r) {v:Value} (hv:VR K x v)
  {vlo vhi:Option Value} (hvl:∀ a,lo=some a ->∃ v,vlo=some v /\ VR K a v) (hvln:lo=none ->vlo=none) (hvh:∀ a,hi=some a ->∃ v,vhi=some v /\ VR K a v) (hvhn:hi=none ->vhi=none):
  ∃ z,(Instr.sliceAt t v vlo vhi none).run P w= .ok z w /\ VR K r z:=by
 obtain⟨r0,h0,rfl⟩:=Option.map_eq_some_iff.1 h
 obtain⟨z,h1,h2⟩:=tV h0 hv hvl hvln hvh hvhn
 exact⟨z,h1,h2.thinned⟩
def eK(P:Program)(b:Builtin)(ts:Array TypeId)(args:List AV):Option AV:=
 match b,ts[0]?,args with
 | .len,some t,[.str s]=>if sk P t= .str then some (.int .i64 s.length)else none
 | .len,some t,[.nil]=>if(el P t).isSome then some (.int .i64 0)else none
 | .len,some t,[.sl _ xs _]=>if(el P t).isSome then some (.int .i64 xs.length)else none
 | .unsafeSliceData,_,[.nil]=>some .nilptr
 | .unsafeSliceData,_,[.bs b n s E]=>if 0 < n then some (.bp b s E)else none
 | .len,some t,[.bs _ n _ _]=>if(el P t).isSome then some (.int .i64 n)else none
 | .cap,some t,[.nil]=>if(el P t).isSome then some (.int .i64 0)else none
 | .len,some t,[.raw (.slice (some _) n _)]=>if(el P t).isSome then some (.int .i64 n)else none
 | .cap,some t,[.raw (.slice (some _) _ c)]=>if(el P t).isSome then some (.int .i64 c)else none
 | .max,_,[.int k a, .int _ b]=>some (.int k (if b >a then b else a))
 | .min,_,[.int k a, .int _ b]=>some (.int k (if b < a then b else a))
 | .max,_,[.int k a, .int _ b, .int _ c]=>some (.int k (if c > (if b >a then b else a)then c else(if b >a then b else a)))
 | .min,_,[.int k a, .int _ b, .int _ c]=>some (.int k (if c < (if b < a then b else a)then c else(if b < a then b else a)))
 |_,_,_=>none
def iL(K:aJ):List AV ->List Value ->Prop
 |[],[]=>True
 |a::l,v::r=>VR K a v /\ iL K l r
 |_,_=>False
theorem iL.length{K:aJ} :∀ {l:List AV} {r:List Value},iL K l r ->l.length=r.length
 |[],[],_=>rfl
 |a::l,v::r,h=>by simp[iL.length h.2]
 |[],_::_,h=>h.elim
 |_::_,[],h=>h.elim
theorem iL.get{K:aJ} :∀ {l:List AV} {r:List Value},iL K l r ->∀ (j:Nat) (h:j < l.length),VR K l[j] (r.getD j Go.undef)
 |a::l,v::r,h,0,_=>h.1
 |a::l,v::r,h,j+1,hj=>by simpa using iL.get h.2 j (by simpa using hj)
 |[],[],_,j,h=>by cases h
 |_::_,[],h,_,_=>h.elim
theorem iL.map{K:aJ}{G:Nat ->AV}{σ:AS}{w:World}{e:aK}{a:Act}(h:ER K e a)(hr:aZ G K σ w):∀ (l:List Operand),iL K (l.map (ev G e)) (l.map a.eval)
 |[]=>trivial
 |x::l=> ⟨h.eval hr x,iL.map h hr l⟩
theorem iL.mono{K K':aJ}(h:K.le K'):∀ {l:List AV} {r:List Value},iL K l r ->iL K' l r
 |[],[],_=>trivial
 |a::l,v::r,k=> ⟨k.1.mono h,iL.mono h k.2⟩
 |[],_::_,k=>k.elim
 |_::_,[],k=>k.elim
theorem iL.append{K:aJ} :∀ {l l':List AV} {r r':List Value},iL K l r ->iL K l' r' ->iL K (l++l') (r++r')
 |[],_,[],_,_,h=>h
 |a::l,_,v::r,_,k,h=> ⟨k.1,iL.append k.2 h⟩
 |[],_,_::_,_,k,_=>k.elim
 |_::_,_,[],_,k,_=>k.elim
theorem iL.of{K:aJ} :∀ {l:List AV} {r:List Value},l.length=r.length -> (∀ (j:Nat) (h:j < l.length),VR K l[j] (r.getD j Go.undef)) ->iL K l r
 |[],[],_,_=>trivial
 |a::l,v::r,h,k=> ⟨k 0 (by simp),iL.of (by simpa using h) (fun j hj=>k (j+1) (by simpa using hj))⟩
 |[],_::_,h,_=>by cases h
 |_::_,[],h,_=>by cases h
theorem A1i{P:Program}{K:aJ}{w:World}{b:Builtin}{ts:Array TypeId}{ty:TypeId}{cn:Array Bool}{args:List AV}{r:AV}(h:eK P b ts args=some r){vs:List Value}(hv:iL K args vs):
  ∃ z,(builtin b ts ty cn vs.toArray).run P w= .ok (.value z) w /\ VR K r z:=by
 unfold eK at h
 split at h
 ·rename_i t s ht
  split at h
  ·rename_i hs
   simp only[Option.some.injEq]at h;subst h
   match vs,hv with
   | [v],⟨h1,_⟩=>
    rw[VR.str_iff]at h1;subst h1
    refine⟨.int .i64 s.length,?_, .int _ _⟩
    have hsz:(ByteArray.mk (Array.mk s)).size=s.length:=rfl
    simp[builtin,Builtin.len_,ht,run_underlying (jA hs),goInt,hsz]
  ·cases h
 ·rename_i t ht
  split at h
  ·rename_i hs
   obtain⟨e,he⟩:=Option.isSome_iff_exists.1 hs
   simp only[Option.some.injEq]at h;subst h
   match vs,hv with
   | [v],⟨h1,_⟩=>
    rw[VR.nil_iff]at h1;subst h1
    exact⟨.int .i64 0,by simp[builtin,Builtin.len_,ht,run_underlying (bX he),goInt], .int _ _⟩
  ·cases h
 ·rename_i t g xs sp ht
  split at h
  ·rename_i hs
   obtain⟨e,he⟩:=Option.isSome_iff_exists.1 hs
   simp only[Option.some.injEq]at h;subst h
   match vs,hv with
   | [v],⟨h1,_⟩=>
    cases h1
    case sl0=>exact⟨.int .i64 0,by simp[builtin,Builtin.len_,ht,run_underlying (bX he),goInt], .int _ _⟩
    exact⟨.int .i64 xs.length,by simp[builtin,Builtin.len_,ht,run_underlying (bX he),goInt], .int _ _⟩
  ·cases h
 ·simp only[Option.some.injEq]at h;subst h
  match vs,hv with
  | [v],⟨h1,_⟩=>
   rw[VR.nil_iff]at h1;subst h1
   exact⟨.pointer none,rfl, .nilptr⟩
 ·rename_i b n s E
  split at h
  ·rename_i hn
   simp only[Option.some.injEq]at h;subst h
   match vs,hv with
   | [v],⟨h1,_⟩=>
    cases h1 with
    | bs _ _ _ cap _ hr hnn hm=>
     obtain⟨c,rfl⟩:∃ c,cap=c+1:=⟨cap - 1,by omega⟩
     exact⟨.pointer (some ⟨b,0,none⟩),rfl, .bp b s _ E hr⟩
  ·cases h
 ·rename_i t b n s E ht
  split at h
  ·rename_i hs
   obtain⟨e,he⟩:=Option.isSome_iff_exists.1 hs
   simp only[Option.some.injEq]at h;subst h
   match vs,hv with
   | [v],⟨h1,_⟩=>
    cases h1
    exact⟨.int .i64 n,by simp[builtin,Builtin.len_,ht,run_underlying (bX he),goInt], .int _ _⟩
  ·cases h
 ·rename_i t ht
  split at h
  ·rename_i hs
   obtain⟨e,he⟩:=Option.isSome_iff_exists.1 hs
   simp only[Option.some.injEq]at h;subst h
   match vs,hv with
   | [v],⟨h1,_⟩=>
    rw[VR.nil_iff]at h1;subst h1
    exact⟨.int .i64 0,by simp[builtin,Builtin.cap_,ht,run_underlying (bX he),goInt], .int _ _⟩
  ·cases h
 ·rename_i t a n c ht
  split at h
  ·rename_i hs
   obtain⟨e,he⟩:=Option.isSome_iff_exists.1 hs
   simp only[Option.some.injEq]at h;subst h
   match vs,hv with
   | [v],⟨h1,_⟩=>
    rw[VR.raw_iff]at h1;subst h1
    exact⟨.int .i64 n,by simp[builtin,Builtin.len_,ht,run_underlying (bX he),goInt], .int _ _⟩
  ·cases h
 ·rename_i t a n c ht
  split at h
  ·rename_i hs
   obtain⟨e,he⟩:=Option.isSome_iff_exists.1 hs
   simp only[Option.some.injEq]at h;subst h
   match vs,hv with
   | [v],⟨h1,_⟩=>
    rw[VR.raw_iff]at h1;subst h1
    exact⟨.int .i64 c,by simp[builtin,Builtin.cap_,ht,run_underlying (bX he),goInt], .int _ _⟩
  ·cases h
 all_goals first
  | (rename_i k a k' b
     simp only[Option.some.injEq]at h;subst h
     match vs,hv with
     | [v,u],⟨h1,h2,_⟩=>
      rw[VR.int_iff]at h1 h2;subst h1 h2
      first
      |exact⟨_,by simp[builtin,Builtin.max_,Builtin.max2];rfl, .int _ _⟩
      |exact⟨_,by simp[builtin,Builtin.min_,Builtin.min2];rfl, .int _ _⟩)
  | (rename_i k a k' b k'' c
     simp only[Option.some.injEq]at h;subst h
     match vs,hv with
     | [v,u,x],⟨h1,h2,h3,_⟩=>
      rw[VR.int_iff]at h1 h2 h3;subst h1 h2 h3
      first
      |exact⟨_,by simp[builtin,Builtin.max_,Builtin.max2];rfl, .int _ _⟩
      |exact⟨_,by simp[builtin,Builtin.min_,Builtin.min2];rfl, .int _ _⟩)
  |cases h
end Go.Av
