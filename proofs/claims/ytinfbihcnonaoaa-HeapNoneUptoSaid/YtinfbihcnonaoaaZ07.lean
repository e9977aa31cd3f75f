/- A drawn row whose ways meet again: what it yields is told once. -/
import Derived.Test.YtinfbihcnonaoaaZ06
import Derived.Test.YtinfbihcnonaoaaChecked
import Derived.KernelRfl
set_option linter.unusedVariables false
set_option linter.unusedSimpArgs false
set_option linter.defProp false
namespace Go.Av
open Go Go.RowKit
section fl
variable {P:Program} {G:Nat ->AV} {ops rest:List Oper} {σ0 σ:AS} {R:aK ->AS ->Prop} {e:aK} {d:Option Tmp} {ty:TypeId} {pos:String} {af:Array Edge} {g:Option (Nat × Bool)} {av:List Nat} {K:AV ->AS ->List Nat ->Prop}
def A4c(P:Program)(σ:AS)(av:List Nat)(t:TypeId)(p x:AV)(K:AV ->AS ->List Nat ->Prop)(_:Dum σ)(_:Dum K):Prop:=
 ∃ b off z0 z,p= .ptr b off /\ b ∈ av /\ σ.box b=some z0 /\ fG P σ t (.ptr b off) x=some (σ.setBox b z) /\ K .undef (σ.setBox b z) (av.filter fun c=>decide (c ≠ b))
theorem C4e:bW P G ops σ0 R [] e σ av=R e σ:=nr rfl
theorem B8o{o:Oper} :bW P G ops σ0 R (o::rest) e σ av=
   gW (bZ ops e o.guard) (eE P G o e σ0 σ av fun r σ' av'=>bW P G ops σ0 R rest (e.upd o.dst r) σ' av') (bW P G ops σ0 R rest (e.upd o.dst (.tup [])) σ av) ⟨⟩ ⟨⟩:=nr rfl
def B5i(P:Program)(σ0 σ:AS)(av:List Nat)(t:TypeId)(p x:AV)(K:AV ->AS ->List Nat ->Prop)(_:Dum σ0)(_:Dum σ)(_:Dum K):Prop:=A4c P σ av t p x K ⟨⟩ ⟨⟩ \/ (nN P σ0 t p x /\ K .undef σ av)
theorem B2o{t:TypeId}{p x:Operand} :eE P G ⟨d, .store t p x,ty,pos,af,g⟩ e σ0 σ av K=B5i P σ0 σ av t (ev G e p) (ev G e x) K ⟨⟩ ⟨⟩ ⟨⟩:=nr rfl
theorem B5j{σ0 σ:AS}{av:List Nat}{t:TypeId}{p x:AV}{K:AV ->AS ->List Nat ->Prop}{d:Dum σ0}{d':Dum σ}{d2:Dum K}(h:A4c P σ av t p x K ⟨⟩ ⟨⟩):B5i P σ0 σ av t p x K d d' d2:= .inl h
def C9u(P:Program)(σ0:AS)(t:TypeId)(p x:AV)(F:Prop)(_:Dum σ0)(_:Dum F):Prop:=nN P σ0 t p x /\ F
theorem B8g{K:AV ->AS ->Prop}{t:TypeId}{p x:Operand} :hop P G ⟨d, .store t p x,ty,pos,af,g⟩ e σ0 σ K=C9u P σ0 t (ev G e p) (ev G e x) (K .undef σ) ⟨⟩ ⟨⟩:=nr rfl
theorem B8q{x:Operand} :eE P G ⟨d, .move x,ty,pos,af,g⟩ e σ0 σ av K=hop P G ⟨d, .move x,ty,pos,af,g⟩ e σ0 σ (fun r σ'=>K r σ' av):=nr rfl
theorem A7j{x:Operand} :eE P G ⟨d, .assign x,ty,pos,af,g⟩ e σ0 σ av K=hop P G ⟨d, .assign x,ty,pos,af,g⟩ e σ0 σ (fun r σ'=>K r σ' av):=nr rfl
theorem B8r{a b c:Operand} :eE P G ⟨d, .pick a b c,ty,pos,af,g⟩ e σ0 σ av K=hop P G ⟨d, .pick a b c,ty,pos,af,g⟩ e σ0 σ (fun r σ'=>K r σ' av):=nr rfl
theorem B2i{E:TypeId} :eE P G ⟨d, .alloc E,ty,pos,af,g⟩ e σ0 σ av K=hop P G ⟨d, .alloc E,ty,pos,af,g⟩ e σ0 σ (fun r σ'=>K r σ' av):=nr rfl
theorem C3y{E:TypeId}{x:Operand} :eE P G ⟨d, .box E x,ty,pos,af,g⟩ e σ0 σ av K=hop P G ⟨d, .box E x,ty,pos,af,g⟩ e σ0 σ (fun r σ'=>K r σ' av):=nr rfl
theorem B2k{t:TypeId}{ps:Array (Nat × Operand)} :eE P G ⟨d, .build t ps,ty,pos,af,g⟩ e σ0 σ av K=hop P G ⟨d, .build t ps,ty,pos,af,g⟩ e σ0 σ (fun r σ'=>K r σ' av):=nr rfl
theorem uF{t n:Nat}{ps:Array (Nat × Operand)} :eE P G ⟨d, .buildSlice t n ps,ty,pos,af,g⟩ e σ0 σ av K=hop P G ⟨d, .buildSlice t n ps,ty,pos,af,g⟩ e σ0 σ (fun r σ'=>K r σ' av):=nr rfl
theorem B8p{t:TypeId}{x:Operand} :eE P G ⟨d, .load t x,ty,pos,af,g⟩ e σ0 σ av K=hop P G ⟨d, .load t x,ty,pos,af,g⟩ e σ0 σ (fun r σ'=>K r σ' av):=nr rfl
theorem zR{x:Operand} :eE P G ⟨d, .nilCheck x,ty,pos,af,g⟩ e σ0 σ av K=hop P G ⟨d, .nilCheck x,ty,pos,af,g⟩ e σ0 σ (fun r σ'=>K r σ' av):=nr rfl
theorem B2j{op:BinOp}{t yt:TypeId}{x y:Operand} :eE P G ⟨d, .binOp op t x y yt,ty,pos,af,g⟩ e σ0 σ av K=hop P G ⟨d, .binOp op t x y yt,ty,pos,af,g⟩ e σ0 σ (fun r σ'=>K r σ' av):=nr rfl
theorem B8s{op:UnOp}{t:TypeId}{x:Operand} :eE P G ⟨d, .unOp op t x,ty,pos,af,g⟩ e σ0 σ av K=hop P G ⟨d, .unOp op t x,ty,pos,af,g⟩ e σ0 σ (fun r σ'=>K r σ' av):=nr rfl
theorem A2y{s t:TypeId}{x:Operand} :eE P G ⟨d, .convert s t x,ty,pos,af,g⟩ e σ0 σ av K=hop P G ⟨d, .convert s t x,ty,pos,af,g⟩ e σ0 σ (fun r σ'=>K r σ' av):=nr rfl
theorem zQ{f:FuncId}{caps:Array Operand} :eE P G ⟨d, .makeFunc (.func f) #[] caps,ty,pos,af,g⟩ e σ0 σ av K=hop P G ⟨d, .makeFunc (.func f) #[] caps,ty,pos,af,g⟩ e σ0 σ (fun r σ'=>K r σ' av):=nr rfl
theorem C4c{f:FuncId}{x:Operand} :eE P G ⟨d, .makeFunc (.func f) #[x] #[],ty,pos,af,g⟩ e σ0 σ av K=hop P G ⟨d, .makeFunc (.func f) #[x] #[],ty,pos,af,g⟩ e σ0 σ (fun r σ'=>K r σ' av):=nr rfl
theorem B2n{t:TypeId}{x:Operand}{lo hi:Option Operand} :eE P G ⟨d, .slice t x lo hi none,ty,pos,af,g⟩ e σ0 σ av K=hop P G ⟨d, .slice t x lo hi none,ty,pos,af,g⟩ e σ0 σ (fun r σ'=>K r σ' av):=nr rfl
theorem xD{t:TypeId}{x:Operand}{i:Nat} :eE P G ⟨d, .fieldAddr t x i,ty,pos,af,g⟩ e σ0 σ av K=hop P G ⟨d, .fieldAddr t x i,ty,pos,af,g⟩ e σ0 σ (fun r σ'=>K r σ' av):=nr rfl
theorem B2l{t:TypeId}{x:Operand}{i:Nat} :eE P G ⟨d, .field t x i,ty,pos,af,g⟩ e σ0 σ av K=hop P G ⟨d, .field t x i,ty,pos,af,g⟩ e σ0 σ (fun r σ'=>K r σ' av):=nr rfl
theorem xE{t:TypeId}{x i:Operand} :eE P G ⟨d, .indexAddr t x i,ty,pos,af,g⟩ e σ0 σ av K=hop P G ⟨d, .indexAddr t x i,ty,pos,af,g⟩ e σ0 σ (fun r σ'=>K r σ' av):=nr rfl
theorem B2m{t:TypeId}{x i:Operand} :eE P G ⟨d, .index t x i,ty,pos,af,g⟩ e σ0 σ av K=hop P G ⟨d, .index t x i,ty,pos,af,g⟩ e σ0 σ (fun r σ'=>K r σ' av):=nr rfl
theorem A2z{x:Operand}{i:Nat} :eE P G ⟨d, .extract x i,ty,pos,af,g⟩ e σ0 σ av K=hop P G ⟨d, .extract x i,ty,pos,af,g⟩ e σ0 σ (fun r σ'=>K r σ' av):=nr rfl
theorem B8n{f:Operand}{args:Array Operand}{ts:Array TypeId} :eE P G ⟨d, .call ⟨.value f,args,ts⟩,ty,pos,af,g⟩ e σ0 σ av K=hop P G ⟨d, .call ⟨.value f,args,ts⟩,ty,pos,af,g⟩ e σ0 σ (fun r σ'=>K r σ' av):=nr rfl
theorem C4a{args:Array Operand}{ts:Array TypeId} :eE P G ⟨d, .call ⟨.builtin .len,args,ts⟩,ty,pos,af,g⟩ e σ0 σ av K=hop P G ⟨d, .call ⟨.builtin .len,args,ts⟩,ty,pos,af,g⟩ e σ0 σ (fun r σ'=>K r σ' av):=nr rfl
theorem C3z{args:Array Operand}{ts:Array TypeId} :eE P G ⟨d, .call ⟨.builtin .cap,args,ts⟩,ty,pos,af,g⟩ e σ0 σ av K=hop P G ⟨d, .call ⟨.builtin .cap,args,ts⟩,ty,pos,af,g⟩ e σ0 σ (fun r σ'=>K r σ' av):=nr rfl
theorem C4f{args:Array Operand}{ts:Array TypeId} :eE P G ⟨d, .call ⟨.builtin .unsafeSliceData,args,ts⟩,ty,pos,af,g⟩ e σ0 σ av K=hop P G ⟨d, .call ⟨.builtin .unsafeSliceData,args,ts⟩,ty,pos,af,g⟩ e σ0 σ (fun r σ'=>K r σ' av):=nr rfl
theorem C4b{args:Array Operand}{ts:Array TypeId} :eE P G ⟨d, .call ⟨.builtin .max,args,ts⟩,ty,pos,af,g⟩ e σ0 σ av K=hop P G ⟨d, .call ⟨.builtin .max,args,ts⟩,ty,pos,af,g⟩ e σ0 σ (fun r σ'=>K r σ' av):=nr rfl
theorem C4d{args:Array Operand}{ts:Array TypeId} :eE P G ⟨d, .call ⟨.builtin .min,args,ts⟩,ty,pos,af,g⟩ e σ0 σ av K=hop P G ⟨d, .call ⟨.builtin .min,args,ts⟩,ty,pos,af,g⟩ e σ0 σ (fun r σ'=>K r σ' av):=nr rfl
theorem xF{t:TypeId}{x y:Operand} :eE P G ⟨d, .makeSlice t x y,ty,pos,af,g⟩ e σ0 σ av K=hop P G ⟨d, .makeSlice t x y,ty,pos,af,g⟩ e σ0 σ (fun r σ'=>K r σ' av):=nr rfl
def stw(m:Bool)(k:Option (Bool × Nat))(σ:AS)(bx:Option (List AV))(b off:Nat)(x:AV)(K:AS ->Prop):Prop:=match m,k,bx with
 |true,some (_,n),some cs=>isv x=true /\ (flat x).length=n /\ off+n <=cs.length /\ K (σ.setBox b (cs.take off++flat x++cs.drop (off+n)))
 |_,_,_=>False
theorem B5k{ag:Bool}{n:Nat}{cs:List AV}{b off:Nat}{x:AV}{F:AS ->Prop} :stw true (some (ag,n)) σ (some cs) b off x F=(isv x=true /\ (flat x).length=n /\ off+n <=cs.length /\ F (σ.setBox b (cs.take off++flat x++cs.drop (off+n)))):=nr rfl
theorem A8l{t:TypeId}{b off:Nat}{x:AV}{d:Dum σ}{d':Dum K} :A4c P σ av t (.ptr b off) x K d d'=stw (decide (b ∈ av)) (tk P t) σ (σ.box b) b off x (fun s=>K .undef s (av.filter fun c=>decide (c ≠ b))):=by
 apply propext
 constructor
 ·rintro⟨b',off',z0,z,h1,h2,h3,h4,h5⟩
  simp only[AV.ptr.injEq]at h1
  obtain⟨rfl,rfl⟩:=h1
  have h0:decide (b ∈ av)=true:=by simpa using h2
  rw[h0,h3]
  rw[nD,h3]at h4
  unfold stw
  unfold stk at h4
  cases hk:tk P t with
  |none=>rw[hk]at h4;cases h4
  | some y=>
   obtain⟨ag,n⟩:=y
   rw[hk]at h4
   simp only at h4 ⊢
   split at h4
   ·rename_i hc
    simp only[Option.some.injEq]at h4
    have:=nO h4
    rw[this]
    exact⟨hc.1,hc.2.1,hc.2.2,h5⟩
   ·cases h4
 ·intro h
  unfold stw at h
  split at h
  ·rename_i ag n cs hm hk hb
   obtain⟨g1,g2,g3,g4⟩:=h
   refine⟨b,off,cs,_,rfl,by simpa using hm,hb,?_,g4⟩
   rw[nD,hb,hk]
   unfold stk
   exact if_pos ⟨g1,g2,g3⟩
  ·exact h.elim
theorem AS.delBox_le(σ:AS)(b:Nat):(σ.delBox b).le σ:=⟨fun i cs hi=>by
 have hi':(if i=b then none else σ.box i)=some cs:=hi
 split at hi'
 ·cases hi'
 ·exact hi',fun _ _ h=>h,fun _ _ h=>h⟩
theorem lW {l:List Oper} {d:Dum l.toArray} {d':Dum R} {d2:Dum e} {d3:Dum σ} (n b b':Nat) {z z':List AV} (hn:uS l.toArray n=true) (hb:σ.box b=some z) (hb':σ.box b'=some z')
  (h:bW P G l ((σ.delBox b).delBox b') (fun e' σ'=>cI P G l R (l.drop n) e' σ') (l.take n) e σ [b,b']):uT P G l.toArray R e σ d d' d2 d3:=
 .inl ⟨[],n,(σ.delBox b).delBox b',[b,b'],rfl,hn,(AS.delBox_le _ b').trans (AS.delBox_le σ b),fun c hc=>by
  have:c=b \/ c=b':=by simpa using hc
  rcases this with rfl|rfl
  ·exact⟨by rw[hb];rfl,by simp[AS.delBox]⟩
  ·exact⟨by rw[hb'];rfl,by simp[AS.delBox]⟩,h⟩
end fl
section pl
variable {P:Program} {G:Nat ->AV} {ops:List Oper} {σ0 σ:AS} {R:aK ->AS ->Prop} {e:aK} {d:Option Tmp} {ty:TypeId} {pos:String} {af:Array Edge} {g:Option (Nat × Bool)}
theorem C0g:hU P G ops σ0 R .done e σ=R e σ:=nr rfl
theorem C5p:hU P G ops σ0 R .bad e σ=False:=nr rfl
theorem C0i:hU P G ops σ0 R .none e σ=True:=nr rfl
theorem C0h{i:Nat}{t r:Pl} :hU P G ops σ0 R (.more i t r) e σ=(oR P G ops σ0 ops[i]? (fun e' s=>hU P G ops σ0 R t e' s) e σ /\ hU P G ops σ0 R r e σ):=nr rfl
theorem C1e{o:Oper}{K:aK ->AS ->Prop} :oR P G ops σ0 (some o) K e σ=gW (bZ ops e o.guard) (eV P G o e σ0 σ fun r s=>K (e.upd o.dst r) s) (K (e.upd o.dst (.tup [])) σ) ⟨⟩ ⟨⟩:=nr rfl
def C6e(P:Program)(σ0 σ:AS)(t:TypeId)(p x:AV)(K:AV ->AS ->Prop)(_:Dum σ0)(_:Dum σ)(_:Dum K):Prop:=
 (∃ b off z0 z,p= .ptr b off /\ σ0.box b=none /\ σ.box b=some z0 /\ fG P σ t (.ptr b off) x=some (σ.setBox b z) /\ K .undef (σ.setBox b z)) \/ (nN P σ0 t p x /\ K .undef σ)
theorem B2h{t:TypeId}{p x:Operand}{K:AV ->AS ->Prop} :eV P G ⟨d, .store t p x,ty,pos,af,g⟩ e σ0 σ K=C6e P σ0 σ t (ev G e p) (ev G e x) K ⟨⟩ ⟨⟩ ⟨⟩:=nr rfl
theorem B8k{x:Operand}{K:AV ->AS ->Prop} :eV P G ⟨d, .move x,ty,pos,af,g⟩ e σ0 σ K=hop P G ⟨d, .move x,ty,pos,af,g⟩ e σ0 σ K:=nr rfl
theorem A7i{x:Operand}{K:AV ->AS ->Prop} :eV P G ⟨d, .assign x,ty,pos,af,g⟩ e σ0 σ K=hop P G ⟨d, .assign x,ty,pos,af,g⟩ e σ0 σ K:=nr rfl
theorem B8l{a b c:Operand}{K:AV ->AS ->Prop} :eV P G ⟨d, .pick a b c,ty,pos,af,g⟩ e σ0 σ K=hop P G ⟨d, .pick a b c,ty,pos,af,g⟩ e σ0 σ K:=nr rfl
theorem B2b{E:TypeId}{K:AV ->AS ->Prop} :eV P G ⟨d, .alloc E,ty,pos,af,g⟩ e σ0 σ K=hop P G ⟨d, .alloc E,ty,pos,af,g⟩ e σ0 σ K:=nr rfl
theorem C3r{E:TypeId}{x:Operand}{K:AV ->AS ->Prop} :eV P G ⟨d, .box E x,ty,pos,af,g⟩ e σ0 σ K=hop P G ⟨d, .box E x,ty,pos,af,g⟩ e σ0 σ K:=nr rfl
theorem B2d{t:TypeId}{ps:Array (Nat × Operand)}{K:AV ->AS ->Prop} :eV P G ⟨d, .build t ps,ty,pos,af,g⟩ e σ0 σ K=hop P G ⟨d, .build t ps,ty,pos,af,g⟩ e σ0 σ K:=nr rfl
theorem uE{t n:Nat}{ps:Array (Nat × Operand)}{K:AV ->AS ->Prop} :eV P G ⟨d, .buildSlice t n ps,ty,pos,af,g⟩ e σ0 σ K=hop P G ⟨d, .buildSlice t n ps,ty,pos,af,g⟩ e σ0 σ K:=nr rfl
theorem B8j{t:TypeId}{x:Operand}{K:AV ->AS ->Prop} :eV P G ⟨d, .load t x,ty,pos,af,g⟩ e σ0 σ K=hop P G ⟨d, .load t x,ty,pos,af,g⟩ e σ0 σ K:=nr rfl
theorem zP{x:Operand}{K:AV ->AS ->Prop} :eV P G ⟨d, .nilCheck x,ty,pos,af,g⟩ e σ0 σ K=hop P G ⟨d, .nilCheck x,ty,pos,af,g⟩ e σ0 σ K:=nr rfl
theorem B2c{op:BinOp}{t yt:TypeId}{x y:Operand}{K:AV ->AS ->Prop} :eV P G ⟨d, .binOp op t x y yt,ty,pos,af,g⟩ e σ0 σ K=hop P G ⟨d, .binOp op t x y yt,ty,pos,af,g⟩ e σ0 σ K:=nr rfl
theorem B8m{op:UnOp}{t:TypeId}{x:Operand}{K:AV ->AS ->Prop} :eV P G ⟨d, .unOp op t x,ty,pos,af,g⟩ e σ0 σ K=hop P G ⟨d, .unOp op t x,ty,pos,af,g⟩ e σ0 σ K:=nr rfl
theorem A2w{s t:TypeId}{x:Operand}{K:AV ->AS ->Prop} :eV P G ⟨d, .convert s t x,ty,pos,af,g⟩ e σ0 σ K=hop P G ⟨d, .convert s t x,ty,pos,af,g⟩ e σ0 σ K:=nr rfl
theorem zO{f:FuncId}{caps:Array Operand}{K:AV ->AS ->Prop} :eV P G ⟨d, .makeFunc (.func f) #[] caps,ty,pos,af,g⟩ e σ0 σ K=hop P G ⟨d, .makeFunc (.func f) #[] caps,ty,pos,af,g⟩ e σ0 σ K:=nr rfl
theorem C3v{f:FuncId}{x:Operand}{K:AV ->AS ->Prop} :eV P G ⟨d, .makeFunc (.func f) #[x] #[],ty,pos,af,g⟩ e σ0 σ K=hop P G ⟨d, .makeFunc (.func f) #[x] #[],ty,pos,af,g⟩ e σ0 σ K:=nr rfl
theorem B2g{t:TypeId}{x:Operand}{lo hi:Option Operand}{K:AV ->AS ->Prop} :eV P G ⟨d, .slice t x lo hi none,ty,pos,af,g⟩ e σ0 σ K=hop P G ⟨d, .slice t x lo hi none,ty,pos,af,g⟩ e σ0 σ K:=nr rfl
theorem xA{t:TypeId}{x:Operand}{i:Nat}{K:AV ->AS ->Prop} :eV P G ⟨d, .fieldAddr t x i,ty,pos,af,g⟩ e σ0 σ K=hop P G ⟨d, .fieldAddr t x i,ty,pos,af,g⟩ e σ0 σ K:=nr rfl
theorem B2e{t:TypeId}{x:Operand}{i:Nat}{K:AV ->AS ->Prop} :eV P G ⟨d, .field t x i,ty,pos,af,g⟩ e σ0 σ K=hop P G ⟨d, .field t x i,ty,pos,af,g⟩ e σ0 σ K:=nr rfl
theorem xB{t:TypeId}{x i:Operand}{K:AV ->AS ->Prop} :eV P G ⟨d, .indexAddr t x i,ty,pos,af,g⟩ e σ0 σ K=hop P G ⟨d, .indexAddr t x i,ty,pos,af,g⟩ e σ0 σ K:=nr rfl
theorem B2f{t:TypeId}{x i:Operand}{K:AV ->AS ->Prop} :eV P G ⟨d, .index t x i,ty,pos,af,g⟩ e σ0 σ K=hop P G ⟨d, .index t x i,ty,pos,af,g⟩ e σ0 σ K:=nr rfl
theorem A2x{x:Operand}{i:Nat}{K:AV ->AS ->Prop} :eV P G ⟨d, .extract x i,ty,pos,af,g⟩ e σ0 σ K=hop P G ⟨d, .extract x i,ty,pos,af,g⟩ e σ0 σ K:=nr rfl
theorem B8i{f:Operand}{args:Array Operand}{ts:Array TypeId}{K:AV ->AS ->Prop} :eV P G ⟨d, .call ⟨.value f,args,ts⟩,ty,pos,af,g⟩ e σ0 σ K=hop P G ⟨d, .call ⟨.value f,args,ts⟩,ty,pos,af,g⟩ e σ0 σ K:=nr rfl
theorem C3t{args:Array Operand}{ts:Array TypeId}{K:AV ->AS ->Prop} :eV P G ⟨d, .call ⟨.builtin .len,args,ts⟩,ty,pos,af,g⟩ e σ0 σ K=hop P G ⟨d, .call ⟨.builtin .len,args,ts⟩,ty,pos,af,g⟩ e σ0 σ K:=nr rfl
theorem C3s{args:Array Operand}{ts:Array TypeId}{K:AV ->AS ->Prop} :eV P G ⟨d, .call ⟨.builtin .cap,args,ts⟩,ty,pos,af,g⟩ e σ0 σ K=hop P G ⟨d, .call ⟨.builtin .cap,args,ts⟩,ty,pos,af,g⟩ e σ0 σ K:=nr rfl
theorem C3x{args:Array Operand}{ts:Array TypeId}{K:AV ->AS ->Prop} :eV P G ⟨d, .call ⟨.builtin .unsafeSliceData,args,ts⟩,ty,pos,af,g⟩ e σ0 σ K=hop P G ⟨d, .call ⟨.builtin .unsafeSliceData,args,ts⟩,ty,pos,af,g⟩ e σ0 σ K:=nr rfl
theorem C3u{args:Array Operand}{ts:Array TypeId}{K:AV ->AS ->Prop} :eV P G ⟨d, .call ⟨.builtin .max,args,ts⟩,ty,pos,af,g⟩ e σ0 σ K=hop P G ⟨d, .call ⟨.builtin .max,args,ts⟩,ty,pos,af,g⟩ e σ0 σ K:=nr rfl
theorem C3w{args:Array Operand}{ts:Array TypeId}{K:AV ->AS ->Prop} :eV P G ⟨d, .call ⟨.builtin .min,args,ts⟩,ty,pos,af,g⟩ e σ0 σ K=hop P G ⟨d, .call ⟨.builtin .min,args,ts⟩,ty,pos,af,g⟩ e σ0 σ K:=nr rfl
theorem xC{t:TypeId}{x y:Operand}{K:AV ->AS ->Prop} :eV P G ⟨d, .makeSlice t x y,ty,pos,af,g⟩ e σ0 σ K=hop P G ⟨d, .makeSlice t x y,ty,pos,af,g⟩ e σ0 σ K:=nr rfl
theorem B0y {l:List Oper} {d:Dum l.toArray} {d':Dum R} {d2:Dum e} {d3:Dum σ} (n:Nat) (I:(Nat ->Bool) ->aK ->AS ->Prop) (hn:A0m l.toArray n=true) {hd tl:List Oper} (h1:l.take n=hd) (h2:l.drop n=tl)
  (h0:yA σ ->I (fun _=>false) e σ) (hs:mE P G I 0 hd) (hq:∀ D e σ,(∀ j,j < n ->D j=true) ->I D e σ ->cI P G l R tl e σ):uT P G l.toArray R e σ d d' d2 d3:=
 .inr (.inr (.inr (.inr ⟨n,I,hn,h0,by subst h1;simpa using hs,by subst h2;simpa using hq⟩)))
end pl
end Go.Av
namespace Go.Av
open Go Go.RowKit
inductive Frz(b n s:Nat)(y:AV):AV ->AV ->Prop
 |C5x (a:AV):Frz b n s y a a
 |here (E:TypeId):Frz b n s y (.bs b n s E) y
 |tup (l l':List AV) (hl:l.length=l'.length) (h:∀ j (h1:j < l.length) (h2:j < l'.length),Frz b n s y l[j] l'[j]):Frz b n s y (.tup l) (.tup l')
 |agg (l l':List AV) (hl:l.length=l'.length) (h1:∀ c,c ∈ l' ->one c=true) (h:∀ j (h1:j < l.length) (h2:j < l'.length),Frz b n s y l[j] l'[j]):Frz b n s y (.agg l) (.agg l')
def Has(b n s:Nat)(r:AV):Prop:=∀ K v,VR K r v ->∃ cap E,K.row b=some (cap,s,E) /\ n <=cap /\ cap <=maxLen
theorem Has.bs{b n s:Nat}{E:TypeId} :Has b n s (.bs b n s E):=fun K v h=>by
 cases h with
 |bs _ _ _ cap E hr hn hm=>exact⟨cap,E,hr,hn,hm⟩
theorem Has.tup{b n s:Nat}{l:List AV}(j:Nat)(hj:j < l.length)(h:Has b n s l[j]):Has b n s (.tup l):=fun K v hv=>by
 cases hv with
 |tup _ vs hl hvv=>exact h K _ (hvv j hj)
theorem Has.agg{b n s:Nat}{l:List AV}(j:Nat)(hj:j < l.length)(h:Has b n s l[j]):Has b n s (.agg l):=fun K v hv=>by
 cases hv with
 |agg _ vs hl h1 hvv=>exact h K _ (hvv j hj)
structure A8w(n s:Nat)(xs cs:List AV):Prop where
 len:xs.length=n
 flat:xs.flatMap flat=cs
 item:∀ a,a ∈ xs -> (Av.flat a).length=s /\ isv a=true
theorem A8w.size{n s:Nat}{xs cs:List AV}(h:A8w n s xs cs):cs.length=n*s:=by
 rw[<- h.flat,aS (sz:=s) xs (fun a ha=> (h.item a ha).1),h.len]
def AS.froze(σ:AS)(b n s:Nat):AS:=(σ.delBox b).setTip b (n,s)
theorem wU{G:Nat ->AV}{K:aJ}{σ:AS}{w:World}(hr:aZ G K σ w){b n s:Nat}{xs cs:List AV}(hb:σ.box b=some cs)(hi:A8w n s xs cs){cap:Nat}{E:TypeId}(hrow:K.row b=some (cap,s,E))(hn:n <=cap)(hm:cap <=maxLen):
  ∃ K',K.le K' /\ aZ G K' (σ.froze b n s) w /\ ∀ r r' v,Frz b n s (.sl (.own b) xs []) r r' ->VR K r v ->VR K' r' v:=by
 obtain⟨K',h1,h2,h3,f,h4,h5,h6⟩:=hr.frozen hb hrow hi.size hn
 refine⟨K',h1,h2,fun r r' v hf=> ?_⟩
 induction hf generalizing v with
 |C5x a=>exact fun hv=>hv.mono h1
 | here E0=>
  intro hv
  cases hv with
  | bs _ _ _ cap2 E2 hr2 hn2 hm2=>
   rw[hrow]at hr2
   simp only[Option.some.injEq,Prod.mk.injEq]at hr2
   obtain⟨rfl,_,rfl⟩:=hr2
   have hfl:((xs++[]).flatMap flat)=cs:=by rw[List.append_nil,hi.flat]
   have:=VR.sl (K:=K') (.own b) xs [] s b 0 cap f
    (fun e he=>by
      rw[List.append_nil]at he
      refine⟨(hi.item e he).1,(hi.item e he).2,fun c hc=>h6 c ?_⟩
      rw[<- hi.flat];exact List.mem_flatMap.2 ⟨e,he,hc⟩)
    (by rw[hi.len];simp;exact hn) hm
    (fun j hj=>by rw[hfl]at hj;rw[Nat.zero_add];exact h4 j hj)
    (fun j hj=>by
      have hj':j < cs.length:=by rw[hfl]at hj;exact hj
      have e1:((xs++[]).flatMap flat)[j]=cs[j]:=by congr 1
      rw[e1];exact h5 j hj')
    ⟨rfl,rfl,E,s,h3⟩
   rw[hi.len]at this
   exact this
 | tup l l' hl h ih=>
  intro hv
  cases hv with
  |tup _ vs hvl hvv=>exact .tup l' vs (by omega) fun j hj=>ih j (by omega) hj _ (hvv j (by omega))
 | agg l l' hl h1' h ih=>
  intro hv
  cases hv with
  |agg _ vs hvl ho hvv=>exact .agg l' vs (by omega) h1' fun j hj=>ih j (by omega) hj _ (hvv j (by omega))
inductive C2l(b n s:Nat)(y:AV):List AV ->List AV ->Prop
 |nil:C2l b n s y [] []
 |cons {a a':AV} {l l':List AV} (h:Frz b n s y a a') (t:C2l b n s y l l'):C2l b n s y (a::l) (a'::l')
def C2m(b n s:Nat)(l:List AV):Prop:=∃ a,a ∈ l /\ Has b n s a
theorem C2m.row{b n s:Nat}{K:aJ} :∀ {l:List AV} {vs:List Value},iL K l vs ->C2m b n s l ->∃ cap E,K.row b=some (cap,s,E) /\ n <=cap /\ cap <=maxLen
 | a::l,v::vs,⟨h1,h2⟩,⟨x,hx,hh⟩=>by
  rcases List.mem_cons.1 hx with rfl|hx
  ·exact hh K v h1
  ·exact C2m.row h2 ⟨x,hx,hh⟩
 |[],_,_,⟨x,hx,_⟩=>by cases hx
 |_::_,[],h,_=>h.elim
theorem aH.nil_or{P:Program}{G:Nat ->AV}{f:FuncId}{σ:AS}{Q:AV ->AS ->Prop}(h1:aH P G f [.nil] σ Q)(h2:∀ a c,aH P G f [.raw (.slice (some a) 0 c)] σ Q):aH P G f [.sl .none [] []] σ Q:=
 ⟨h1.1,fun K w vals hr hv=>by
   match vals,hv with
   | [v],⟨hv,_⟩=>
    have raw:∀ a c,v= .slice (some a) 0 c ->_:=fun a c e=> (h2 a c).2 K w [v] hr ⟨e ▸ .raw _,trivial⟩
    cases hv with
    | sl0 a=>
     cases a with
     |none=>exact h1.2 K w _ hr ⟨.nil,trivial⟩
     |some a=>exact raw a 0 rfl
    |sl _ _ _ sz b off cap f hsz hcap hml himm hvv hg=>exact raw _ _ rfl⟩
theorem AS.froze_le{σ0 σ:AS}(h:σ0.le σ){b n s:Nat}(hb:σ0.box b=none)(ht:σ0.tip b=none):σ0.le (σ.froze b n s):=by
 have h1:σ0.le (σ.delBox b):=⟨fun i cs hi=>by
  show(if i=b then none else σ.box i)=some cs
  have hne:i ≠ b:=fun e=>by subst e;rw[hb]at hi;cases hi
  rw[if_neg hne];exact h.box _ _ hi,fun i m hi=>h.tip _ _ hi,h.ty⟩
 exact h1.setTip ht _
end Go.Av
namespace Go.Av
open Go
theorem B7n:bO .skip=[]:=nr rfl
theorem B7m{i:Nat} :bO (.exit i)=[]:=nr rfl
theorem C3b:bO .ret=[]:=nr rfl
theorem A6t{w:String} :bO (.refuse w)=[]:=nr rfl
theorem B0t{f:Operand}{ps:Array Tmp}{a b:Code} :bO (.rangeFunc f ps a b)=[]:=nr rfl
theorem A5r:tS []= .tup []:=nr rfl
theorem A9h{a b:AV}{l:List AV} :tS (a::b::l)= .tup (a::b::l):=nr rfl
def bp0:=And.intro (And.intro (And.intro (And.intro @D0h @B6c) (And.intro @C6l @C6j)) (And.intro (And.intro @C1n @C6n) (And.intro @C6m @D0g))) (And.intro (And.intro (And.intro @C6o @D0f) (And.intro @C6k @C7w)) (And.intro (And.intro @C3j @C0b) (And.intro @B4b @A2q)))
def bp1:=And.intro (And.intro (And.intro (And.intro @B7s @B1g) (And.intro @C3d @B1d)) (And.intro (And.intro @A7a @B7q) (And.intro @B5z @B5y))) (And.intro (And.intro (And.intro @C5f @A5v) (And.intro @A4k @A4l)) (And.intro (And.intro @B7b @A5b) (And.intro @A5c @C1g)))
def bp2:=And.intro (And.intro (And.intro (And.intro @C5j @B4c) (And.intro @C5l @B9u)) (And.intro (And.intro @C9e @B9w) (And.intro @xO @A0e))) (And.intro (And.intro (And.intro @C5i @A3s) (And.intro @B9v @C5m)) (And.intro (And.intro @A7x @A3r) (And.intro @C0a @A0c)))
def bp3:=And.intro (And.intro (And.intro (And.intro @B9x @A0d) (And.intro @B9y @A7y)) (And.intro (And.intro @C9g @C9h) (And.intro @C9j @C5g))) (And.intro (And.intro (And.intro @C3l @B1z) (And.intro @C3m @B8a)) (And.intro (And.intro @C7q @B8c) (And.intro @wW @C3k)))
def bp4:=And.intro (And.intro (And.intro (And.intro @A2v @B8b) (And.intro @C3n @A7f)) (And.intro (And.intro @A2u @B8f) (And.intro @zM @B8d))) (And.intro (And.intro (And.intro @zN @B8e) (And.intro @A7g @C7s)) (And.intro (And.intro @C7t @C7v) (And.intro @C3i @C4h)))
def bp5:=And.intro (And.intro (And.intro (And.intro @B8t @B9d) (And.intro @A7p @B9e)) (And.intro (And.intro @B2v @C4r) (And.intro @B2x @uG))) (And.intro (And.intro (And.intro @xJ @B9c) (And.intro @zU @B2w)) (And.intro (And.intro @B9f @A3f) (And.intro @zT @B3a)))
def bp6:=And.intro (And.intro (And.intro (And.intro @xH @B2y) (And.intro @xI @B2z)) (And.intro (And.intro @A3g @C4t) (And.intro @C4u @C4w))) (And.intro (And.intro (And.intro @B9b @B3b) (And.intro @A7o @A7z)) (And.intro (And.intro @B4d @A0f) (And.intro @C5h @A1a)))
def bp7:=And.intro (And.intro (And.intro (And.intro @B4e @C9i) (And.intro @C7u @C4v)) (And.intro (And.intro @C4c @C3v) (And.intro @B5u @B5w))) (And.intro (And.intro (And.intro @C6h @B5v) (And.intro @B0g @B5q)) (And.intro (And.intro @B0f @B5p) (And.intro @C1k @B9z)))
def bp8:=And.intro (And.intro (And.intro (And.intro @C5k @A8q) (And.intro @C9f @C9k)) (And.intro (And.intro @C5n @C7r) (And.intro @C7x @C4s))) (And.intro (And.intro (And.intro @C4x @B9g) (And.intro @C4e @B8o)) (And.intro (And.intro @B2o @B8g) (And.intro @B8q @A7j)))
def bp9:=And.intro (And.intro (And.intro (And.intro @B8r @B2i) (And.intro @C3y @B2k)) (And.intro (And.intro @uF @xF) (And.intro @B8p @zR))) (And.intro (And.intro (And.intro @B2j @B8s) (And.intro @A2y @zQ)) (And.intro (And.intro @B2n @xD) (And.intro @B2l @xE)))
def D0y:=And.intro (And.intro (And.intro (And.intro @B2m @A2z) (And.intro @C4a @C4b)) (And.intro (And.intro @C4d @B8n) (And.intro @C3z @C4f))) (And.intro (And.intro (And.intro @C0g @C5p) (And.intro @C0i @C0h)) (And.intro (And.intro @C1e @B2h) (And.intro @B8k @A7i)))
def D0z:=And.intro (And.intro (And.intro (And.intro @B8l @B2b) (And.intro @C3r @B2d)) (And.intro (And.intro @uE @xC) (And.intro @B8j @zP))) (And.intro (And.intro (And.intro @B2c @B8m) (And.intro @A2w @zO)) (And.intro (And.intro @B2g @xA) (And.intro @B2e @xB)))
def D1a:=And.intro (And.intro (And.intro @B2f @A2x) (And.intro @C3t @C3u)) (And.intro (And.intro @C3w @B8i) (And.intro @C3s @C3x))
def bp:=And.intro (And.intro (And.intro (@bp0) (And.intro @bp1 @bp2)) (And.intro (@bp3) (And.intro @bp4 @bp5))) (And.intro (And.intro (@bp6) (And.intro @bp7 @bp8)) (And.intro (And.intro @bp9 @D0y) (And.intro @D0z @D1a)))
def bq0:=And.intro (And.intro (And.intro (And.intro @B2p @A7k) (And.intro @B6u @B6v)) (And.intro (And.intro @A9t @A9s) (And.intro @A6a @A9r))) (And.intro (And.intro (And.intro @B7y @B1t) (And.intro @C3g @A6q)) (And.intro (And.intro @B6z @B6y) (And.intro @C2t @B6x)))
def bq1:=And.intro (And.intro (And.intro (And.intro @C9x @A2n) (And.intro @zD @A3x)) (And.intro (And.intro @A0h @B7a) (And.intro @B4a @B9r))) (And.intro (And.intro (And.intro @B9q @wO) (And.intro @B0k @C2w)) (And.intro (And.intro @C7a @C7d) (And.intro @C7c @B0j)))
def bq2:=And.intro (And.intro (And.intro (And.intro @B7d @B7e) (And.intro @A5s @B3h)) (And.intro (And.intro @A9i @B3i) (And.intro @C0l @B4q))) (And.intro (And.intro (And.intro @A5p @B7r) (And.intro @C3e @yO)) (And.intro (And.intro @B1q @fE) (And.intro @B3c @A1u)))
def bq3:=And.intro (And.intro (And.intro (And.intro @vW @A8z) (And.intro @A9a @A5j)) (And.intro (And.intro @vO @yI) (And.intro @yJ @yG))) (And.intro (And.intro (And.intro @A3c @A7l) (And.intro @A3b @C8a)) (And.intro (And.intro @C8n @C8h) (And.intro @C8j @C8k)))
def bq4:=And.intro (And.intro (And.intro (And.intro @C8c @C8i) (And.intro @C8g @C8f)) (And.intro (And.intro @C8e @C8d) (And.intro @C8b @D1i))) (And.intro (And.intro (And.intro @C8o @C8l) (And.intro @C8m @C9r)) (And.intro (And.intro @C9t @C9q) (And.intro @C9s @B6n)))
def bq5:=And.intro (And.intro (And.intro (And.intro @B6o @B6t) (And.intro @B6s @B7k)) (And.intro (And.intro @B7l @A6s) (And.intro @qZ @A1s))) (And.intro (And.intro (And.intro @yP @B2q) (And.intro @A5l @A9x)) (And.intro (And.intro @A5q @A1q) (And.intro @B1o @C8u)))
def bq6:=And.intro (And.intro (And.intro (And.intro @A4q @A7q) (And.intro @C8s @C8t)) (And.intro (And.intro @nD @B5h) (And.intro @A8d @A3v))) (And.intro (And.intro (And.intro @A9l @A9m) (And.intro @A5u @A9n)) (And.intro (And.intro @A5k @A9b) (And.intro @A2a @A8k)))
def bq7:=And.intro (And.intro (And.intro (And.intro @B1h @A7b) (And.intro @B1i @B1m)) (And.intro (And.intro @B1j @B7w) (And.intro @B1k @B7v))) (And.intro (And.intro (And.intro @B7u @zK) (And.intro @A2r @B8w)) (And.intro (And.intro @B2s @B8x) (And.intro @B9a @B8y)))
def bq8:=And.intro (And.intro (And.intro (And.intro @C4p @B8z) (And.intro @C4o @C4n)) (And.intro (And.intro @A3e @A7m) (And.intro @A1m @A1o))) (And.intro (And.intro (And.intro @A1n @A5n) (And.intro @A5m @B0r)) (And.intro (And.intro @B0s @C8r) (And.intro @C8q @A7r)))
def bq9:=And.intro (And.intro (And.intro (And.intro @C8v @C4m) (And.intro @B7t @B2u)) (And.intro (And.intro @B1l @nV) (And.intro @yH @yF))) (And.intro (And.intro (And.intro @A1r @B2r) (And.intro @uO @B5c)) (And.intro (And.intro @A1z @B3x) (And.intro @A5w @A8r)))
def D1b:=And.intro (And.intro (And.intro (And.intro @A8l @B5k) (And.intro @B0e @A6f)) (And.intro (And.intro @A6e @A9z) (And.intro @B0d @A6d))) (And.intro (And.intro (And.intro @B6w @B0c) (And.intro @A6g @A9y)) (And.intro (And.intro @B0b @A5i) (And.intro @A8y @A1t)))
def D1c:=And.intro (And.intro (And.intro (And.intro @A9u @C7b) (And.intro @B2t @B0a)) (And.intro (And.intro @mG @A3l) (And.intro @C4z @B5x))) (And.intro (And.intro (And.intro @B9l @B9m) (And.intro @B3e @B3d)) (And.intro (And.intro @yQ @B3t) (And.intro @A6j @A8j)))
def D1d:=And.intro (And.intro (And.intro @C6b @B5b) (And.intro (@B5d) (And.intro @B7h @B7i))) (And.intro (And.intro @C2z @C2y) (And.intro (@B0q) (And.intro @B7j @B0p)))
def bq:=And.intro (And.intro (And.intro (@bq0) (And.intro @bq1 @bq2)) (And.intro (@bq3) (And.intro @bq4 @bq5))) (And.intro (And.intro (@bq6) (And.intro @bq7 @bq8)) (And.intro (And.intro @bq9 @D1b) (And.intro @D1c @D1d)))
def br0:=And.intro (And.intro (And.intro (And.intro @List.getD_cons_zero.{0} @List.getD_cons_succ.{0}) (And.intro @List.getD_nil.{0} @List.map_cons.{0,0})) (And.intro (And.intro @List.map_nil.{0,0} @List.getElem?_cons_zero.{0}) (And.intro @List.getElem?_cons_succ.{0} @List.getElem?_nil.{0}))) (And.intro (And.intro (And.intro @List.take_zero.{0} @List.take_length.{0}) (And.intro @List.take_succ_cons.{0} @List.take_nil.{0})) (And.intro (And.intro @List.drop_zero.{0} @List.drop_succ_cons.{0}) (And.intro @List.drop_nil.{0} @List.length_cons.{0})))
def br1:=And.intro (And.intro (And.intro (And.intro @List.length_nil.{0} @List.head?_cons.{0}) (And.intro @List.head?_nil.{0} @List.cons_append.{0})) (And.intro (And.intro @List.nil_append.{0} @List.append_nil.{0}) (And.intro @List.all_cons.{0} @List.all_nil.{0}))) (And.intro (And.intro (And.intro @List.range_zero @List.length_map.{0,0}) (And.intro @List.getElem?_map.{0,0} @List.size_toArray.{0})) (And.intro (And.intro @List.getElem?_toArray.{0} @List.toList_toArray.{0}) (And.intro @Option.map_some.{0,0} @Option.map_none.{0,0})))
def br2:=And.intro (And.intro (And.intro (And.intro @Option.bind_some.{0,0} @Option.bind_none.{0,0}) (And.intro @Option.isSome_some.{0} @Option.isSome_none.{0})) (And.intro (And.intro @Option.some.injEq.{0} @Nat.zero_add) (And.intro @Nat.add_zero @Nat.le_refl))) (And.intro (And.intro (And.intro @Nat.add_one_ne_zero @Int.toNat_natCast) (And.intro @Int.natCast_nonneg @not_true_eq_false)) (And.intro (And.intro @not_false_eq_true @and_true) (And.intro @true_and @and_false)))
def br3:=And.intro (And.intro (And.intro (And.intro @false_and @or_true) (And.intro @true_or @or_false)) (And.intro (And.intro @false_or @Bool.and_true) (And.intro @Bool.true_and @Bool.and_false))) (And.intro (And.intro (And.intro @Bool.false_and @Bool.false_eq_true) (And.intro @Bool.true_eq_false @Bool.not_true)) (And.intro (And.intro @Bool.not_false @beq_self_eq_true.{0}) (And.intro @decide_true @decide_false)))
def br4:=And.intro (And.intro (And.intro (And.intro @decide_eq_true_eq @List.contains_cons.{0}) (And.intro @List.contains_nil.{0} @Bool.or_true)) (And.intro (And.intro @Bool.true_or @Bool.or_false) (And.intro @Bool.false_or @List.filterMap_cons.{0,0}))) (And.intro (And.intro (And.intro @List.filterMap_nil.{0,0} @List.range_succ) (And.intro @List.append_eq.{0} @List.mem_cons.{0})) (And.intro (And.intro @List.not_mem_nil.{0} @List.filter_cons.{0}) (And.intro @List.filter_nil.{0} @tS.eq_1)))
def br5:=And.intro (And.intro (And.intro (And.intro @A5r @A9h) (And.intro @bsk.eq_1 @bsk.eq_2)) (And.intro (And.intro @bO.eq_1 @bO.eq_2) (And.intro @bO.eq_3 @bO.eq_4))) (And.intro (And.intro (And.intro @bO.eq_5 @B7n) (And.intro @B7m @C3b)) (And.intro (And.intro @A6t @B0t) (And.intro @bC.eq_1 @gN.eq_1)))
def br6:=And.intro (And.intro (And.intro (@gN.eq_2) (And.intro @gN.eq_3 @rsk.eq_1)) (And.intro (@ne_eq.{1}) (And.intro @if_true.{1} @if_false.{1}))) (And.intro (And.intro (@exists_eq_left'.{1}) (And.intro @forall_const.{0} @forall_const.{1})) (And.intro (And.intro @forall_eq.{1} @ne_eq.{0}) (And.intro @if_true.{0} @if_false.{0})))
def br:=And.intro (And.intro (@br0) (And.intro @br1 @br2)) (And.intro (And.intro @br3 @br4) (And.intro @br5 @br6))
class Spl (X:Prop) (A B:outParam Prop):Prop where
 go:A ->B ->X
instance (priority:=2000) {p:Prop} [Decidable p] {A B:Prop} {d:Dum A} {d':Dum B} :Spl (jY (.bool (decide p)) A B d d') (decide p=true -> ¬ ¬ p ->A) (decide p=false -> ¬ p ->B):=⟨A2m⟩
instance (priority:=2000) {p:Prop} [Decidable p] {A B:Prop} {d:Dum A} {d':Dum B} :Spl (gW (some (decide p)) A B d d') (decide p=true -> ¬ ¬ p ->A) (decide p=false -> ¬ p ->B):=⟨B7x⟩
instance {t:Bool} {A B:Prop} {d:Dum A} {d':Dum B} :Spl (jY (.bool t) A B d d') (t=true ->A) (t=false ->B):=⟨zE⟩
instance {t:Bool} {A B:Prop} {d:Dum A} {d':Dum B} :Spl (gW (some t) A B d d') (t=true ->A) (t=false ->B):=⟨B1u⟩
instance {t:Bool} {a b:AV} {F:AV ->Prop} {d:Dum a} {d':Dum b} {d2:Dum F} :Spl (qI (.bool t) a b F d d' d2) (t=true ->F a) (t=false ->F b):=⟨A0i⟩
theorem xs{X A B:Prop}[h:Spl X A B](a:A)(b:B):X:=h.go a b
def lr:= @AS.le.refl
def bD:= @aI
def q8h:= @dY
def q8i:= @bQ
def bE:= @B5j
def bG:= @B0w
def ls:= @bH
def lt:= @C8w
def lf:= @AS.le.fresh
def fb:=And.intro @cK (And.intro @A7c @B1p)
structure Hid(Q:Prop):Prop where
 out:Q
theorem wj{P Q:Prop}(k:Q)(h:Hid Q ->P:=by(intro hq;first|refine bE ?_|refine aD ?_|((with_reducible refine And.intro ?_ ?_);omega)|refine aA (d':=⟨⟩) ?_|refine bG (by kernel_rfl) ?_|refine bD ?_ (by repeat' first|exact lr _|assumption|refine ls ?_ ?_|refine lt ?_ ?_|simp only[*];done|simp only[fb, *,not_false_eq_true,and_self];done|exact lf ‹_› (by simp only[*]))|refine aC ?_ (by repeat' first|exact lr _|assumption|refine ls ?_ ?_|refine lt ?_ ?_|simp only[*];done|simp only[fb, *,not_false_eq_true,and_self];done|exact lf ‹_› (by simp only[*]))|fail);exact hq.out):P:=h ⟨k⟩
theorem wi{P Q:Prop}(k:Q)(h:Hid Q ->P:=by(intro hq;first|refine bE ?_|refine aD ?_|((with_reducible refine And.intro ?_ ?_);omega)|refine aA (d':=⟨⟩) ?_|refine bD ?_ (by repeat' first|exact lr _|assumption|refine ls ?_ ?_|refine lt ?_ ?_|simp only[*];done|simp only[fb, *,not_false_eq_true,and_self];done|exact lf ‹_› (by simp only[*]))|refine aC ?_ (by repeat' first|exact lr _|assumption|refine ls ?_ ?_|refine lt ?_ ?_|simp only[*];done|simp only[fb, *,not_false_eq_true,and_self];done|exact lf ‹_› (by simp only[*]))|fail);exact hq.out):P:=h ⟨k⟩
theorem wn{P Q:Prop}(k:Q)(h:Hid Q ->P:=by(intro hq;first|refine q8h ?_|refine q8i ?_|fail);exact hq.out):P:=h ⟨k⟩
theorem wz{P Q:Prop}(k:Q)(h:Hid Q ->P:=by(intro hq;first|refine C6a ?_|refine C3a ?_|fail);exact hq.out):P:=h ⟨k⟩
theorem wp{A P Q:Prop}(c:A)(k:Q)(h:A ->Hid Q ->P:=by(intro hc hq;first|refine aN.use hc ?_|refine aN.head hc ?_|fail);exact hq.out):P:=h c ⟨k⟩
end Go.Av
set_option maxRecDepth 100000
namespace Go.Proofs.Ytinfbihcnonaoaa
open Go Go.Av
theorem rA:tk Try.prog 2=some (false,1) /\ sk Try.prog 2= .int .i64 /\ (Try.prog.underlying 2).isSome=true /\ el Try.prog 2=none /\ zc Try.prog 2=some [.int .i64 0] /\ cM Try.prog 2=some 8:=⟨by kernel_rfl,by kernel_rfl,by kernel_rfl,by kernel_rfl,by kernel_rfl,by kernel_rfl⟩
theorem jN:tk Try.prog 3=some (false,1) /\ sk Try.prog 3= .int .i64 /\ (Try.prog.underlying 3).isSome=true /\ el Try.prog 3=none /\ zc Try.prog 3=some [.int .i64 0] /\ cM Try.prog 3=some 8:=⟨by kernel_rfl,by kernel_rfl,by kernel_rfl,by kernel_rfl,by kernel_rfl,by kernel_rfl⟩
theorem kI:tk Try.prog 4=some (false,1) /\ sk Try.prog 4= .bool /\ (Try.prog.underlying 4).isSome=true /\ el Try.prog 4=none /\ zc Try.prog 4=some [.bool false] /\ cM Try.prog 4=some 1:=⟨by kernel_rfl,by kernel_rfl,by kernel_rfl,by kernel_rfl,by kernel_rfl,by kernel_rfl⟩
theorem kJ:tk Try.prog 5=some (false,1) /\ sk Try.prog 5= .int .u8 /\ (Try.prog.underlying 5).isSome=true /\ el Try.prog 5=none /\ zc Try.prog 5=some [.int .u8 0] /\ cM Try.prog 5=some 1:=⟨by kernel_rfl,by kernel_rfl,by kernel_rfl,by kernel_rfl,by kernel_rfl,by kernel_rfl⟩
theorem jO:tk Try.prog 9=some (false,1) /\ sk Try.prog 9= .str /\ (Try.prog.underlying 9).isSome=true /\ el Try.prog 9=none /\ zc Try.prog 9=some [.str []] /\ cM Try.prog 9=some 16:=⟨by kernel_rfl,by kernel_rfl,by kernel_rfl,by kernel_rfl,by kernel_rfl,by kernel_rfl⟩
theorem jC:tk Try.prog 25=some (false,1) /\ sk Try.prog 25= .ptr 73 /\ (Try.prog.underlying 25).isSome=true /\ el Try.prog 25=none /\ zc Try.prog 25=some [.nilptr] /\ cM Try.prog 25=some 8:=⟨by kernel_rfl,by kernel_rfl,by kernel_rfl,by kernel_rfl,by kernel_rfl,by kernel_rfl⟩
theorem jD:tk Try.prog 27=some (false,1) /\ sk Try.prog 27= .ptr 67 /\ (Try.prog.underlying 27).isSome=true /\ el Try.prog 27=none /\ zc Try.prog 27=some [.nilptr] /\ cM Try.prog 27=some 8:=⟨by kernel_rfl,by kernel_rfl,by kernel_rfl,by kernel_rfl,by kernel_rfl,by kernel_rfl⟩
theorem eY:tk Try.prog 30=some (false,1) /\ sk Try.prog 30= .int .u8 /\ (Try.prog.underlying 30).isSome=true /\ el Try.prog 30=none /\ zc Try.prog 30=some [.int .u8 0] /\ cM Try.prog 30=some 1:=⟨by kernel_rfl,by kernel_rfl,by kernel_rfl,by kernel_rfl,by kernel_rfl,by kernel_rfl⟩
theorem eJ:tk Try.prog 31=some (false,1) /\ sk Try.prog 31= .sl 87 /\ (Try.prog.underlying 31).isSome=true /\ el Try.prog 31=some 87 /\ zc Try.prog 31=some [.nil] /\ cM Try.prog 31=some 24 /\ eI Try.prog 31=some (87,1,4):=⟨by kernel_rfl,by kernel_rfl,by kernel_rfl,by kernel_rfl,by kernel_rfl,by kernel_rfl,by kernel_rfl⟩
theorem eQ:tk Try.prog 32=some (false,1) /\ sk Try.prog 32= .sl 34 /\ (Try.prog.underlying 32).isSome=true /\ el Try.prog 32=some 34 /\ zc Try.prog 32=some [.nil] /\ cM Try.prog 32=some 24 /\ eI Try.prog 32=some (34,7,104):=⟨by kernel_rfl,by kernel_rfl,by kernel_rfl,by kernel_rfl,by kernel_rfl,by kernel_rfl,by kernel_rfl⟩
theorem eZ:tk Try.prog 34=some (true,7) /\ sk Try.prog 34= .st /\ (Try.prog.underlying 34).isSome=true /\ el Try.prog 34=none /\ zc Try.prog 34=some [.int .u8 0, .bool false, .nil, .str [], .int .i64 0, .nil, .nil] /\ cM Try.prog 34=some 104 /\ jR Try.prog 34=some [(0,1),(1,1),(2,1),(3,1),(4,1),(5,1),(6,1)] /\ qE Try.prog 34 0=some (0,false,1) /\ qE Try.prog 34 1=some (1,false,1) /\ qE Try.prog 34 2=some (2,false,1) /\ qE Try.prog 34 3=some (3,false,1) /\ qE Try.prog 34 4=some (4,false,1) /\ qE Try.prog 34 5=some (5,false,1) /\ qE Try.prog 34 6=some (6,false,1):=⟨by kernel_rfl,by kernel_rfl,by kernel_rfl,by kernel_rfl,by kernel_rfl,by kernel_rfl,by kernel_rfl,by kernel_rfl,by kernel_rfl,by kernel_rfl,by kernel_rfl,by kernel_rfl,by kernel_rfl,by kernel_rfl⟩
theorem gC:tk Try.prog 35=some (false,1) /\ sk Try.prog 35= .sl 3 /\ (Try.prog.underlying 35).isSome=true /\ el Try.prog 35=some 3 /\ zc Try.prog 35=some [.nil] /\ cM Try.prog 35=some 24 /\ eI Try.prog 35=some (3,1,8):=⟨by kernel_rfl,by kernel_rfl,by kernel_rfl,by kernel_rfl,by kernel_rfl,by kernel_rfl,by kernel_rfl⟩
theorem gT:tk Try.prog 39=some (false,1) /\ sk Try.prog 39= .int .u64 /\ (Try.prog.underlying 39).isSome=true /\ el Try.prog 39=none /\ zc Try.prog 39=some [.int .u64 0] /\ cM Try.prog 39=some 8:=⟨by kernel_rfl,by kernel_rfl,by kernel_rfl,by kernel_rfl,by kernel_rfl,by kernel_rfl⟩
theorem D0d:tk Try.prog 43=some (false,1) /\ sk Try.prog 43= .int .i64 /\ (Try.prog.underlying 43).isSome=true /\ el Try.prog 43=none /\ zc Try.prog 43=some [.int .i64 0] /\ cM Try.prog 43=some 8:=⟨by kernel_rfl,by kernel_rfl,by kernel_rfl,by kernel_rfl,by kernel_rfl,by kernel_rfl⟩
theorem gX:tk Try.prog 50=some (false,1) /\ sk Try.prog 50= .sl 39 /\ (Try.prog.underlying 50).isSome=true /\ el Try.prog 50=some 39 /\ zc Try.prog 50=some [.nil] /\ cM Try.prog 50=some 24 /\ eI Try.prog 50=some (39,1,8):=⟨by kernel_rfl,by kernel_rfl,by kernel_rfl,by kernel_rfl,by kernel_rfl,by kernel_rfl,by kernel_rfl⟩
theorem jE:tk Try.prog 67=some (true,5) /\ sk Try.prog 67= .st /\ (Try.prog.underlying 67).isSome=true /\ el Try.prog 67=none /\ zc Try.prog 67=some [.nilptr, .nil, .nil, .int .i64 0, .int .i64 0] /\ cM Try.prog 67=some 72 /\ jR Try.prog 67=some [(0,1),(1,1),(2,1),(3,1),(4,1)] /\ qE Try.prog 67 0=some (0,false,1) /\ qE Try.prog 67 1=some (1,false,1) /\ qE Try.prog 67 2=some (2,false,1) /\ qE Try.prog 67 3=some (3,false,1) /\ qE Try.prog 67 4=some (4,false,1):=⟨by kernel_rfl,by kernel_rfl,by kernel_rfl,by kernel_rfl,by kernel_rfl,by kernel_rfl,by kernel_rfl,by kernel_rfl,by kernel_rfl,by kernel_rfl,by kernel_rfl,by kernel_rfl⟩
theorem fP:tk Try.prog 70=some (false,1) /\ sk Try.prog 70= .map 9 3 /\ (Try.prog.underlying 70).isSome=true /\ el Try.prog 70=none /\ zc Try.prog 70=some [.raw (.map none)] /\ cM Try.prog 70=some 8 /\ zv Try.prog 3=some (.int .i64 0):=⟨by kernel_rfl,by kernel_rfl,by kernel_rfl,by kernel_rfl,by kernel_rfl,by kernel_rfl,by kernel_rfl⟩
theorem gY:tk Try.prog 71=some (false,1) /\ sk Try.prog 71= .sl 9 /\ (Try.prog.underlying 71).isSome=true /\ el Try.prog 71=some 9 /\ zc Try.prog 71=some [.nil] /\ cM Try.prog 71=some 24 /\ eI Try.prog 71=some (9,1,16):=⟨by kernel_rfl,by kernel_rfl,by kernel_rfl,by kernel_rfl,by kernel_rfl,by kernel_rfl,by kernel_rfl⟩
theorem jF:tk Try.prog 73=some (true,2) /\ sk Try.prog 73= .st /\ (Try.prog.underlying 73).isSome=true /\ el Try.prog 73=none /\ zc Try.prog 73=some [.raw (.map none), .nil] /\ cM Try.prog 73=some 32 /\ jR Try.prog 73=some [(0,1),(1,1)] /\ qE Try.prog 73 0=some (0,false,1) /\ qE Try.prog 73 1=some (1,false,1):=⟨by kernel_rfl,by kernel_rfl,by kernel_rfl,by kernel_rfl,by kernel_rfl,by kernel_rfl,by kernel_rfl,by kernel_rfl,by kernel_rfl⟩
theorem eW:tk Try.prog 87=some (false,1) /\ sk Try.prog 87= .int .u32 /\ (Try.prog.underlying 87).isSome=true /\ el Try.prog 87=none /\ zc Try.prog 87=some [.int .u32 0] /\ cM Try.prog 87=some 4:=⟨by kernel_rfl,by kernel_rfl,by kernel_rfl,by kernel_rfl,by kernel_rfl,by kernel_rfl⟩
theorem eC:tk Try.prog 119=some (false,1) /\ sk Try.prog 119= .int .u64 /\ (Try.prog.underlying 119).isSome=true /\ el Try.prog 119=none /\ zc Try.prog 119=some [.int .u64 0] /\ cM Try.prog 119=some 8:=⟨by kernel_rfl,by kernel_rfl,by kernel_rfl,by kernel_rfl,by kernel_rfl,by kernel_rfl⟩
theorem jM:tk Try.prog 125=some (false,1) /\ sk Try.prog 125= .sl 32 /\ (Try.prog.underlying 125).isSome=true /\ el Try.prog 125=some 32 /\ zc Try.prog 125=some [.nil] /\ cM Try.prog 125=some 24 /\ eI Try.prog 125=some (32,1,24):=⟨by kernel_rfl,by kernel_rfl,by kernel_rfl,by kernel_rfl,by kernel_rfl,by kernel_rfl,by kernel_rfl⟩
theorem aG:Try.prog.follows .mixedOrders=true:=by kernel_rfl
end Go.Proofs.Ytinfbihcnonaoaa
namespace Go.Proofs.Ytinfbihcnonaoaa
open Go Go.Av
inductive aE where
 |mk (kind:UInt8) (neg:Bool) (limbs:List UInt32) (text:List UInt8) (num:Int) (items tail:List aE)
instance:Inhabited aE:=⟨.mk 0 false [] [] 0 [] []⟩
def aE.kind:aE ->UInt8| .mk k _ _ _ _ _ _=>k
def aE.neg:aE ->Bool| .mk _ g _ _ _ _ _=>g
def aE.limbs:aE ->List UInt32| .mk _ _ l _ _ _ _=>l
def aE.text:aE ->List UInt8| .mk _ _ _ s _ _ _=>s
def aE.num:aE ->Int| .mk _ _ _ _ n _ _=>n
def aE.items:aE ->List aE| .mk _ _ _ _ _ ks _=>ks
def aE.tail:aE ->List aE| .mk _ _ _ _ _ _ ts=>ts
def aE.knd(t:aE):Int:=t.kind.toNat
theorem aE.knd_nn(t:aE):0 <=t.knd:=Int.natCast_nonneg _
def kV(x:UInt32):AV:= .int .u32 x.toNat
def cO(l:List UInt32):AV:= .sl .none (l.map kV) []
instance {l:List UInt32} :NotBs (cO l):=⟨fun _ _ _ _ h=>by unfold cO at h;cases h⟩
def aE.enc:aE ->AV
 | .mk k g l s n ks ts=> .agg [.int .u8 k.toNat, .bool g,cO l, .str s, .int .i64 n, .sl .none (ks.map aE.enc) [], .sl .none (ts.map aE.enc) []]
def bR(l:List aE):AV:= .sl .none (l.map aE.enc) []
instance {l:List aE} :NotBs (bR l):=⟨fun _ _ _ _ h=>by unfold bR at h;cases h⟩
theorem aE.flat_enc(t:aE):flat t.enc=[.int .u8 t.knd, .bool t.neg,cO t.limbs, .str t.text, .int .i64 t.num,bR t.items,bR t.tail]:=by
 cases t;simp[aE.enc,flat,aE.knd,aE.kind,aE.neg,aE.limbs,aE.text,aE.num,aE.items,aE.tail,bR]
theorem aE.isv_enc(t:aE):isv t.enc=true:=by cases t;simp[aE.enc,isv]
theorem aE.fold_enc(t:aE):AV.agg [.int .u8 t.knd, .bool t.neg,cO t.limbs, .str t.text, .int .i64 t.num,bR t.items,bR t.tail]=t.enc:=by
 cases t;simp[aE.enc,aE.knd,aE.kind,aE.neg,aE.limbs,aE.text,aE.num,aE.items,aE.tail,bR]
theorem aW(l:List aE):isv (bR l)=true:=rfl
theorem aO(l:List aE):flat (bR l)=[bR l]:=rfl
theorem aP(l:List UInt32):isv (cO l)=true:=rfl
theorem aM(l:List UInt32):flat (cO l)=[cO l]:=rfl
theorem aX{P:Program}{t:TypeId}(l:List aE):eK P .len #[t] [bR l]=if(el P t).isSome then some (.int .i64 l.length)else none:=by
 simp[bR,A7q]
theorem aQ{P:Program}{t:TypeId}(l:List UInt32):eK P .len #[t] [cO l]=if(el P t).isSome then some (.int .i64 l.length)else none:=by
 simp[cO,A7q]
theorem bP{P:Program}{t:TypeId}{k:IntKind}(l:List aE)(i:Nat):cR P t (bR l) (.int k (i:Int))=ixk ((el P t).bind (tk P)) ((l[i]?).map aE.enc):=by
 simp[bR,fE]
theorem dN{P:Program}{t:TypeId}{k:IntKind}(l:List aE)(i:Int)(h:0 <=i):cR P t (bR l) (.int k i)=ixk ((el P t).bind (tk P)) ((l[i.toNat]?).map aE.enc):=by
 simp[bR,fE,h]
theorem bJ{P:Program}{t:TypeId}{k:IntKind}(l:List UInt32)(i:Nat):cR P t (cO l) (.int k (i:Int))=ixk ((el P t).bind (tk P)) ((l[i]?).map kV):=by
 simp[cO,fE]
theorem dD{P:Program}{t:TypeId}{k:IntKind}(l:List UInt32)(i:Int)(h:0 <=i):cR P t (cO l) (.int k i)=ixk ((el P t).bind (tk P)) ((l[i.toNat]?).map kV):=by
 simp[cO,fE,h]
theorem cJ(x:UInt32):flat (kV x)=[kV x]:=rfl
theorem aE.ind{P:aE ->Prop}(h:∀ t,(∀ k,k ∈ t.items ->P k) -> (∀ k,k ∈ t.tail ->P k) ->P t):∀ t,P t:=by
 have key:∀ n,∀ t:aE,SizeOf.sizeOf t <=n ->P t:=by
  intro n
  induction n with
  |zero=>intro t ht;cases t;simp at ht
  | succ n ih=>
   intro t ht
   cases t with
   | mk a b c d e ks ts=>
    refine h _ (fun k hk=>ih k ?_) (fun k hk=>ih k ?_)
    ·have:=List.sizeOf_lt_of_mem (show k ∈ ks from hk)
     simp at ht
     omega
    ·have:=List.sizeOf_lt_of_mem (show k ∈ ts from hk)
     simp at ht
     omega
 exact fun t=>key _ t (Nat.le_refl _)
mutual
def aE.bulk:aE ->Nat
 | .mk _ _ l s _ ks ts=>l.length+s.length+aL ks+aL ts+1
def aL:List aE ->Nat
 |[]=>0
 |k::ks=>k.bulk+aL ks
end
theorem aE.bulk_eq(t:aE):t.bulk=t.limbs.length+t.text.length+aL t.items+aL t.tail+1:=by cases t;simp[aE.bulk,aE.limbs,aE.text,aE.items,aE.tail]
theorem iO{l:List aE}{k:aE}(h:k ∈ l):k.bulk <=aL l:=by
 induction l with
 |nil=>cases h
 | cons x l ih=>
  simp only[aL]
  rcases List.mem_cons.1 h with rfl|h
  ·omega
  ·have:=ih h;omega
theorem fU(l r:List aE):aL (l++r)=aL l+aL r:=by
 induction l with
 |nil=>simp[aL]
 |cons x l ih=>simp only[List.cons_append,aL,ih];omega
theorem iG(l:List aE):l.length <=aL l:=by
 induction l with
 |nil=>simp[aL]
 |cons x l ih=>have:=x.bulk_eq;simp only[List.length_cons,aL];omega
theorem pJ{k t:aE}(h:k ∈ t.items):k.bulk < t.bulk:=by
 have:=iO h;have:=t.bulk_eq;omega
theorem pK{k t:aE}(h:k ∈ t.tail):k.bulk < t.bulk:=by
 have:=iO h;have:=t.bulk_eq;omega
theorem cV(t:aE):t.items.length < t.bulk:=by
 have:=iG t.items;have:=t.bulk_eq;omega
theorem dR(t:aE):t.tail.length < t.bulk:=by
 have:=iG t.tail;have:=t.bulk_eq;omega
theorem eD(t:aE):t.limbs.length < t.bulk:=by
 have:=t.bulk_eq;omega
theorem aF{x:Int}(h0: -9223372036854775808 <=x)(h1:x <=9223372036854775807):IntKind.i64.wrap x=x:=by
 rw[IntKind.wrap_i64];omega
theorem bV{α:Type}(l:List α)(i:Nat)(x:α)(h:l[i]? =some x):l.take (i+1)=l.take i++[x]:=by
 rw[List.take_add_one,h];rfl
theorem iQ{α:Type}(l:List α)(i:Nat)(x:α)(h:l[i]? =some x):l.drop i=x::l.drop (i+1):=by
 obtain⟨hi,rfl⟩:=List.getElem?_eq_some_iff.1 h
 exact List.drop_eq_getElem_cons hi
theorem C7p{l:List aE} :∀ a,a ∈ l.map aE.enc -> (flat a).length=7:=fun a ha=>by
 obtain⟨x,_,rfl⟩:=List.mem_map.1 ha
 rw[x.flat_enc];rfl
theorem C1v{l:List UInt32} :∀ a,a ∈ l.map kV -> (flat a).length=1:=fun a ha=>by
 obtain⟨x,_,rfl⟩:=List.mem_map.1 ha
 rfl
theorem C9m(t:aE):∀ d,d ∈ flat t.enc ->Av.one d=true:=fun d hd=>by rw[t.flat_enc]at hd;simp at hd;rcases hd with rfl|rfl|rfl|rfl|rfl|rfl|rfl <;>rfl
theorem C1c{P:Program}{t:TypeId}(l:List aE)(lo hi:Option AV)(ht:((el P t).bind (tk P))=some (true,7)):eN P t (bR l) lo hi=match cG lo 0,cG hi l.length with
  |some a,some b=>if a <=b /\ b <=l.length then some (bR ((l.take b).drop a))else none
  |_,_=>none:=by
 unfold bR
 rw[uP,ht,List.length_map]
 cases cG lo 0 with
 |none=>cases cG hi l.length <;>rfl
 | some a=>
  cases cG hi l.length with
  |none=>rfl
  | some b=>
   rw[vG C7p]
   simp only[List.length_map,List.map_drop,List.map_take]
theorem xS{P:Program}{t:TypeId}(l:List UInt32)(lo hi:Option AV)(ht:((el P t).bind (tk P))=some (false,1)):eN P t (cO l) lo hi=match cG lo 0,cG hi l.length with
  |some a,some b=>if a <=b /\ b <=l.length then some (cO ((l.take b).drop a))else none
  |_,_=>none:=by
 unfold cO
 rw[uP,ht,List.length_map]
 cases cG lo 0 with
 |none=>cases cG hi l.length <;>rfl
 | some a=>
  cases cG hi l.length with
  |none=>rfl
  | some b=>
   rw[vG C1v]
   simp only[List.length_map,List.map_drop,List.map_take]
end Go.Proofs.Ytinfbihcnonaoaa
set_option maxRecDepth 20000
namespace Go.Proofs.Ytinfbihcnonaoaa
open Go Go.Av
def iA:=And.intro (And.intro @jN (And.intro @rA @kI)) (And.intro (And.intro @gT @eC) (And.intro @kJ @jO))
variable {G:Nat ->AV}
def xX(tag n:Int):Int:=(n*8+tag) % 18446744073709551616
def iH(tag n:Int):Bool:=if tag=1 then decide (-1152921504606846976 <=n /\ n < 1152921504606846976)else if tag=3 then decide (n=0)else decide (1 <=tag /\ tag <=7 /\ 0 <=n /\ n < 1152921504606846976)
def wZ(kind size:Int):Int:=size*256+kind*8
theorem lC(x:Int):IntKind.u64.wrap x=x % 18446744073709551616:=by first|rfl|simp[IntKind.wrap]
theorem C9n(a b:Nat)(i:Nat)(h:b < 2 ^ i):a*2 ^ i|||b=a*2 ^ i+b:=by
 have:=Nat.two_pow_add_eq_or_of_lt h a
 rw[Nat.mul_comm]at this
 exact this.symm
theorem xP(X b:Int)(i:Nat)(hi:(2:Nat) ^ i ∣ 18446744073709551616)(hb0:0 <=b)(hb:b < (2:Int) ^ i)(hb2:b < 18446744073709551616)(hX:∃ a:Nat,X=((a*2 ^ i:Nat):Int) /\ a*2 ^ i < 18446744073709551616):
  IntKind.u64.wrap ↑(BitVec.ofInt IntKind.u64.bits X|||BitVec.ofInt IntKind.u64.bits b).toNat=X+b:=by
 obtain⟨a,rfl,ha⟩:=hX
 obtain⟨c,rfl⟩:∃ c:Nat,b=(c:Int):=⟨b.toNat,by omega⟩
 have hbits:IntKind.u64.bits=64:=rfl
 have hc:c < 2 ^ i:=by exact_mod_cast hb
 have hsum:a*2 ^ i+c < 18446744073709551616:=by
  obtain⟨m,hm⟩:=hi
  have h1:a < m:=by
   refine Nat.lt_of_mul_lt_mul_right (a:=2 ^ i) ?_
   rw[Nat.mul_comm m];omega
  have h2:(a+1)*2 ^ i <=m*2 ^ i:=Nat.mul_le_mul_right _ h1
  rw[Nat.add_mul,Nat.one_mul,Nat.mul_comm m]at h2
  omega
 rw[BitVec.ofInt_natCast,BitVec.ofInt_natCast,BitVec.toNat_or,BitVec.toNat_ofNat,BitVec.toNat_ofNat,hbits,Nat.mod_eq_of_lt ha,Nat.mod_eq_of_lt (by omega),C9n a c i hc,lC]
 have h3:((a*2 ^ i+c:Nat):Int) < 18446744073709551616:=Int.ofNat_lt.2 hsum
 rw[Int.emod_eq_of_lt (Int.natCast_nonneg _) h3,Int.natCast_add]
theorem C8z(n:Int)(tag:Int)(h0:0 <=tag)(h1:tag < 8):IntKind.u64.wrap ↑(BitVec.ofInt IntKind.u64.bits (IntKind.u64.wrap (IntKind.u64.wrap n*2 ^ min 3 IntKind.u64.bits))|||BitVec.ofInt IntKind.u64.bits (IntKind.u64.wrap tag)).toNat=xX tag n:=by
 have e0:(2:Int) ^ min 3 IntKind.u64.bits=8:=rfl
 rw[e0]
 have e:IntKind.u64.wrap (IntKind.u64.wrap n*8)=(((n*8) % 18446744073709551616).toNat:Int):=by rw[lC,lC];omega
 have ht:IntKind.u64.wrap tag=tag:=by rw[lC];omega
 rw[e,ht,xP _ tag 3 (by decide) h0 (by omega) (by omega) ⟨((n % 2305843009213693952)).toNat,by omega,by omega⟩]
 unfold xX
 omega
def mkV(tag n:Int):AV:=if iH tag n=true then .tup [.int .u64 (xX tag n), .bool true]else .tup [.int .u64 0, .bool false]
theorem xN{tag n:Int}(h:iH tag n=true):mkV tag n= .tup [.int .u64 (xX tag n), .bool true]:=if_pos h
theorem nI{tag n:Int}(h:iH tag n=false):mkV tag n= .tup [.int .u64 0, .bool false]:=if_neg (by rw[h];decide)
theorem xM(n:Int):iH 1 n=decide (-1152921504606846976 <=n /\ n < 1152921504606846976):=rfl
theorem B3u(n:Int):iH 3 n=decide (n=0):=rfl
theorem mA{tag:Int}(n:Int)(h1:tag ≠ 1)(h3:tag ≠ 3):iH tag n=decide (1 <=tag /\ tag <=7 /\ 0 <=n /\ n < 1152921504606846976):=by unfold iH;rw[if_neg h1,if_neg h3]
set_option maxHeartbeats 1000000 in
theorem uX(tag n:Int)(h0:0 <=tag)(h1:tag < 8):aN Try.prog G 84 [.int .i64 tag, .int .i64 n] (mkV tag n):=by
 intro σ
 have hor:=C8z n tag h0 h1
 by_cases t1:tag=1
 ·subst t1
  by_cases hn: -1152921504606846976 <=n
  ·by_cases hm:n < 1152921504606846976
   ·rw[xN (by rw[xM];simp;omega)]
    have c1:(n < -1152921504606846976)=False:=eq_false (by omega)
    have c2:(1152921504606846976 <=n)=False:=eq_false (by omega)
    clear hn hm h0 h1
    refine aH.of_awp aG Try.func84 rfl (by kernel_rfl) (by kernel_rfl) (by simp[Try.ntmps84]) Try.results84 ?_
    repeat'(first|refine xs ?_ ?_ <;>intros|(refine wn ?_;intro bx hbx;try simp only[fb]at hbx)|refine bE ?_|(refine aB ?_;intro bx hbx;(try simp only[fb]at hbx))|refine aD ?_|((with_reducible refine And.intro ?_ ?_);omega)|refine aA (d':=⟨⟩) ?_|refine bG (by kernel_rfl) ?_|refine bD ?_ (by repeat' first|exact lr _|assumption|refine ls ?_ ?_|refine lt ?_ ?_|simp only[*];done|simp only[fb, *,not_false_eq_true,and_self];done|exact lf ‹_› (by simp only[*]))|refine aC ?_ (by repeat' first|exact lr _|assumption|refine ls ?_ ?_|refine lt ?_ ?_|simp only[*];done|simp only[fb, *,not_false_eq_true,and_self];done|exact lf ‹_› (by simp only[*]))|simp -dsimp only[↓bp,bq,br,seval,iA,hor, *]|refine wz ?_|fail)
    all_goals skip
   ·rw[nI (by rw[xM];simp;omega)]
    have c1:(n < -1152921504606846976)=False:=eq_false (by omega)
    have c2:(1152921504606846976 <=n)=True:=eq_true (by omega)
    clear hn hm h0 h1 hor
    refine aH.of_awp aG Try.func84 rfl (by kernel_rfl) (by kernel_rfl) (by simp[Try.ntmps84]) Try.results84 ?_
    repeat'(first|refine xs ?_ ?_ <;>intros|(refine wn ?_;intro bx hbx;try simp only[fb]at hbx)|refine bE ?_|(refine aB ?_;intro bx hbx;(try simp only[fb]at hbx))|refine aD ?_|((with_reducible refine And.intro ?_ ?_);omega)|refine aA (d':=⟨⟩) ?_|refine bG (by kernel_rfl) ?_|refine bD ?_ (by repeat' first|exact lr _|assumption|refine ls ?_ ?_|refine lt ?_ ?_|simp only[*];done|simp only[fb, *,not_false_eq_true,and_self];done|exact lf ‹_› (by simp only[*]))|refine aC ?_ (by repeat' first|exact lr _|assumption|refine ls ?_ ?_|refine lt ?_ ?_|simp only[*];done|simp only[fb, *,not_false_eq_true,and_self];done|exact lf ‹_› (by simp only[*]))|simp -dsimp only[↓bp,bq,br,seval,iA, *]|refine wz ?_|fail)
    all_goals skip
  ·rw[nI (by rw[xM];simp;omega)]
   have c1:(n < -1152921504606846976)=True:=eq_true (by omega)
   clear hn h0 h1 hor
   refine aH.of_awp aG Try.func84 rfl (by kernel_rfl) (by kernel_rfl) (by simp[Try.ntmps84]) Try.results84 ?_
   repeat'(first|refine xs ?_ ?_ <;>intros|(refine wn ?_;intro bx hbx;try simp only[fb]at hbx)|refine bE ?_|(refine aB ?_;intro bx hbx;(try simp only[fb]at hbx))|refine aD ?_|((with_reducible refine And.intro ?_ ?_);omega)|refine aA (d':=⟨⟩) ?_|refine bG (by kernel_rfl) ?_|refine bD ?_ (by repeat' first|exact lr _|assumption|refine ls ?_ ?_|refine lt ?_ ?_|simp only[*];done|simp only[fb, *,not_false_eq_true,and_self];done|exact lf ‹_› (by simp only[*]))|refine aC ?_ (by repeat' first|exact lr _|assumption|refine ls ?_ ?_|refine lt ?_ ?_|simp only[*];done|simp only[fb, *,not_false_eq_true,and_self];done|exact lf ‹_› (by simp only[*]))|simp -dsimp only[↓bp,bq,br,seval,iA, *]|refine wz ?_|fail)
   all_goals skip
 ·by_cases t3:tag=3
  ·subst t3
   by_cases hn:n=0
   ·subst hn
    rw[xN (by rw[B3u];rfl)]
    clear h0 h1 t1
    refine aH.of_awp aG Try.func84 rfl (by kernel_rfl) (by kernel_rfl) (by simp[Try.ntmps84]) Try.results84 ?_
    repeat'(first|refine xs ?_ ?_ <;>intros|(refine wn ?_;intro bx hbx;try simp only[fb]at hbx)|refine bE ?_|(refine aB ?_;intro bx hbx;(try simp only[fb]at hbx))|refine aD ?_|((with_reducible refine And.intro ?_ ?_);omega)|refine aA (d':=⟨⟩) ?_|refine bG (by kernel_rfl) ?_|refine bD ?_ (by repeat' first|exact lr _|assumption|refine ls ?_ ?_|refine lt ?_ ?_|simp only[*];done|simp only[fb, *,not_false_eq_true,and_self];done|exact lf ‹_› (by simp only[*]))|refine aC ?_ (by repeat' first|exact lr _|assumption|refine ls ?_ ?_|refine lt ?_ ?_|simp only[*];done|simp only[fb, *,not_false_eq_true,and_self];done|exact lf ‹_› (by simp only[*]))|simp -dsimp only[↓bp,bq,br,seval,iA,hor, *]|refine wz ?_|fail)
    all_goals skip
   ·rw[nI (by rw[B3u];simpa using hn)]
    by_cases hm:n < 0
    ·have c1:(n < 0)=True:=eq_true hm
     clear hn hm h0 h1 t1 hor
     refine aH.of_awp aG Try.func84 rfl (by kernel_rfl) (by kernel_rfl) (by simp[Try.ntmps84]) Try.results84 ?_
     repeat'(first|refine xs ?_ ?_ <;>intros|(refine wn ?_;intro bx hbx;try simp only[fb]at hbx)|refine bE ?_|(refine aB ?_;intro bx hbx;(try simp only[fb]at hbx))|refine aD ?_|((with_reducible refine And.intro ?_ ?_);omega)|refine aA (d':=⟨⟩) ?_|refine bG (by kernel_rfl) ?_|refine bD ?_ (by repeat' first|exact lr _|assumption|refine ls ?_ ?_|refine lt ?_ ?_|simp only[*];done|simp only[fb, *,not_false_eq_true,and_self];done|exact lf ‹_› (by simp only[*]))|refine aC ?_ (by repeat' first|exact lr _|assumption|refine ls ?_ ?_|refine lt ?_ ?_|simp only[*];done|simp only[fb, *,not_false_eq_true,and_self];done|exact lf ‹_› (by simp only[*]))|simp -dsimp only[↓bp,bq,br,seval,iA, *]|refine wz ?_|fail)
     all_goals skip
    ·have c1:(n < 0)=False:=eq_false hm
     have c2:(1 <=n)=True:=eq_true (by omega)
     clear hn hm h0 h1 t1 hor
     refine aH.of_awp aG Try.func84 rfl (by kernel_rfl) (by kernel_rfl) (by simp[Try.ntmps84]) Try.results84 ?_
     repeat'(first|refine xs ?_ ?_ <;>intros|(refine wn ?_;intro bx hbx;try simp only[fb]at hbx)|refine bE ?_|(refine aB ?_;intro bx hbx;(try simp only[fb]at hbx))|refine aD ?_|((with_reducible refine And.intro ?_ ?_);omega)|refine aA (d':=⟨⟩) ?_|refine bG (by kernel_rfl) ?_|refine bD ?_ (by repeat' first|exact lr _|assumption|refine ls ?_ ?_|refine lt ?_ ?_|simp only[*];done|simp only[fb, *,not_false_eq_true,and_self];done|exact lf ‹_› (by simp only[*]))|refine aC ?_ (by repeat' first|exact lr _|assumption|refine ls ?_ ?_|refine lt ?_ ?_|simp only[*];done|simp only[fb, *,not_false_eq_true,and_self];done|exact lf ‹_› (by simp only[*]))|simp -dsimp only[↓bp,bq,br,seval,iA, *]|refine wz ?_|fail)
     all_goals skip
  ·have e1:(tag=1)=False:=eq_false t1
   have e3:(tag=3)=False:=eq_false t3
   have e4:(7 < tag)=False:=eq_false (by omega)
   by_cases t0:tag < 1
   ·rw[nI (by rw[mA n t1 t3];simp;omega)]
    have e2:(tag < 1)=True:=eq_true t0
    clear t0 h0 h1 t1 t3 hor
    refine aH.of_awp aG Try.func84 rfl (by kernel_rfl) (by kernel_rfl) (by simp[Try.ntmps84]) Try.results84 ?_
    repeat'(first|refine xs ?_ ?_ <;>intros|(refine wn ?_;intro bx hbx;try simp only[fb]at hbx)|refine bE ?_|(refine aB ?_;intro bx hbx;(try simp only[fb]at hbx))|refine aD ?_|((with_reducible refine And.intro ?_ ?_);omega)|refine aA (d':=⟨⟩) ?_|refine bG (by kernel_rfl) ?_|refine bD ?_ (by repeat' first|exact lr _|assumption|refine ls ?_ ?_|refine lt ?_ ?_|simp only[*];done|simp only[fb, *,not_false_eq_true,and_self];done|exact lf ‹_› (by simp only[*]))|refine aC ?_ (by repeat' first|exact lr _|assumption|refine ls ?_ ?_|refine lt ?_ ?_|simp only[*];done|simp only[fb, *,not_false_eq_true,and_self];done|exact lf ‹_› (by simp only[*]))|simp -dsimp only[↓bp,bq,br,seval,iA, *]|refine wz ?_|fail)
    all_goals skip
   ·have e2:(tag < 1)=False:=eq_false t0
    by_cases hn:n < 0
    ·rw[nI (by rw[mA n t1 t3];simp;omega)]
     have c1:(n < 0)=True:=eq_true hn
     clear hn t0 h0 h1 t1 t3 hor
     refine aH.of_awp aG Try.func84 rfl (by kernel_rfl) (by kernel_rfl) (by simp[Try.ntmps84]) Try.results84 ?_
     repeat'(first|refine xs ?_ ?_ <;>intros|(refine wn ?_;intro bx hbx;try simp only[fb]at hbx)|refine bE ?_|(refine aB ?_;intro bx hbx;(try simp only[fb]at hbx))|refine aD ?_|((with_reducible refine And.intro ?_ ?_);omega)|refine aA (d':=⟨⟩) ?_|refine bG (by kernel_rfl) ?_|refine bD ?_ (by repeat' first|exact lr _|assumption|refine ls ?_ ?_|refine lt ?_ ?_|simp only[*];done|simp only[fb, *,not_false_eq_true,and_self];done|exact lf ‹_› (by simp only[*]))|refine aC ?_ (by repeat' first|exact lr _|assumption|refine ls ?_ ?_|refine lt ?_ ?_|simp only[*];done|simp only[fb, *,not_false_eq_true,and_self];done|exact lf ‹_› (by simp only[*]))|simp -dsimp only[↓bp,bq,br,seval,iA, *]|refine wz ?_|fail)
     all_goals skip
    ·have c1:(n < 0)=False:=eq_false hn
     by_cases hm:n < 1152921504606846976
     ·rw[xN (by rw[mA n t1 t3];simp;omega)]
      have c2:(1152921504606846976 <=n)=False:=eq_false (by omega)
      clear hn hm t0 h0 h1 t1 t3
      refine aH.of_awp aG Try.func84 rfl (by kernel_rfl) (by kernel_rfl) (by simp[Try.ntmps84]) Try.results84 ?_
      repeat'(first|refine xs ?_ ?_ <;>intros|(refine wn ?_;intro bx hbx;try simp only[fb]at hbx)|refine bE ?_|(refine aB ?_;intro bx hbx;(try simp only[fb]at hbx))|refine aD ?_|((with_reducible refine And.intro ?_ ?_);omega)|refine aA (d':=⟨⟩) ?_|refine bG (by kernel_rfl) ?_|refine bD ?_ (by repeat' first|exact lr _|assumption|refine ls ?_ ?_|refine lt ?_ ?_|simp only[*];done|simp only[fb, *,not_false_eq_true,and_self];done|exact lf ‹_› (by simp only[*]))|refine aC ?_ (by repeat' first|exact lr _|assumption|refine ls ?_ ?_|refine lt ?_ ?_|simp only[*];done|simp only[fb, *,not_false_eq_true,and_self];done|exact lf ‹_› (by simp only[*]))|simp -dsimp only[↓bp,bq,br,seval,iA,hor, *]|refine wz ?_|fail)
      all_goals skip
     ·rw[nI (by rw[mA n t1 t3];simp;omega)]
      have c2:(1152921504606846976 <=n)=True:=eq_true (by omega)
      clear hn hm t0 h0 h1 t1 t3 hor
      refine aH.of_awp aG Try.func84 rfl (by kernel_rfl) (by kernel_rfl) (by simp[Try.ntmps84]) Try.results84 ?_
      repeat'(first|refine xs ?_ ?_ <;>intros|(refine wn ?_;intro bx hbx;try simp only[fb]at hbx)|refine bE ?_|(refine aB ?_;intro bx hbx;(try simp only[fb]at hbx))|refine aD ?_|((with_reducible refine And.intro ?_ ?_);omega)|refine aA (d':=⟨⟩) ?_|refine bG (by kernel_rfl) ?_|refine bD ?_ (by repeat' first|exact lr _|assumption|refine ls ?_ ?_|refine lt ?_ ?_|simp only[*];done|simp only[fb, *,not_false_eq_true,and_self];done|exact lf ‹_› (by simp only[*]))|refine aC ?_ (by repeat' first|exact lr _|assumption|refine ls ?_ ?_|refine lt ?_ ?_|simp only[*];done|simp only[fb, *,not_false_eq_true,and_self];done|exact lf ‹_› (by simp only[*]))|simp -dsimp only[↓bp,bq,br,seval,iA, *]|refine wz ?_|fail)
      all_goals skip
def pU(w:Int):Int:=if w < 9223372036854775808 then w else w - 18446744073709551616
def xT(w:Int):Bool:=iH (w % 8) (pU w / 8)
def C1p(w:Int):Int:=if xT w=true then w % 8 else 0
def C1o(w:Int):Int:=if xT w=true then pU w / 8 else 0
def tI(w:Int):Prop:=0 <=w /\ w < 18446744073709551616
theorem C0s{tag n:Int}(h0:0 <=tag)(h1:tag < 8)(hn: -1152921504606846976 <=n)(hm:n < 1152921504606846976):xX tag n % 8=tag /\ pU (xX tag n) / 8=n:=by
 unfold xX pU
 constructor
 ·omega
 ·split <;>omega
theorem B3v{tag n:Int}(h:iH tag n=true):1 <=tag /\ tag < 8 /\ -1152921504606846976 <=n /\ n < 1152921504606846976:=by
 unfold iH at h
 split at h
 ·simp at h;omega
 ·split at h <;>simp at h <;>omega
theorem C2k(tag n:Int):tI (xX tag n):=by unfold xX tI;omega
theorem A0w{tag n:Int}(h:iH tag n=true):xT (xX tag n)=true /\ C1p (xX tag n)=tag /\ C1o (xX tag n)=n:=by
 obtain⟨h0,h1,h2,h3⟩:=B3v h
 obtain⟨e1,e2⟩:=C0s (by omega) h1 h2 h3
 have ht:xT (xX tag n)=true:=by unfold xT;rw[e1,e2];exact h
 refine⟨ht,?_,?_⟩
 ·unfold C1p;rw[if_pos ht,e1]
 ·unfold C1o;rw[if_pos ht,e2]
theorem B6e{w:Int}(hw:tI w):xX (w % 8) (pU w / 8)=w:=by
 unfold tI at hw
 unfold xX pU
 split <;>omega
theorem C6x(w:Int)(hw:tI w):IntKind.u64.wrap ↑(BitVec.ofInt IntKind.u64.bits w &&& BitVec.ofInt IntKind.u64.bits 7).toNat=w % 8:=by
 unfold tI at hw
 obtain⟨a,rfl⟩:∃ a:Nat,w=(a:Int):=⟨w.toNat,by omega⟩
 have hbits:IntKind.u64.bits=64:=rfl
 have h7:(7:Int)=((7:Nat):Int):=rfl
 rw[h7,BitVec.ofInt_natCast,BitVec.ofInt_natCast,BitVec.toNat_and,BitVec.toNat_ofNat,BitVec.toNat_ofNat,hbits,Nat.mod_eq_of_lt (by omega:a < 2 ^ 64)]
 have h8:(7:Nat) % 2 ^ 64=2 ^ 3 - 1:=rfl
 rw[h8,Nat.and_two_pow_sub_one_eq_mod,lC]
 omega
theorem D0j(w:Int)(hw:tI w):IntKind.i64.wrap w=pU w:=by
 unfold tI at hw
 unfold pU
 rw[IntKind.wrap_i64]
 split <;>omega
set_option maxHeartbeats 1000000 in
theorem qM(w:Int)(hw:tI w):aN Try.prog G 54 [.int .u64 w] (.bool (xT w)):=by
 intro σ
 have ha:=C6x w hw
 have hs:=D0j w hw
 have h8:IntKind.i64.wrap (w % 8)=w % 8:=aF (by omega) (by omega)
 have hd:(pU w).fdiv (2 ^ min 3 IntKind.i64.bits)=pU w / 8:=by
  have e0:(2:Int) ^ min 3 IntKind.i64.bits=8:=rfl
  rw[e0,Int.fdiv_eq_ediv_of_nonneg _ (by omega)]
 have hb:=B6e hw
 have hm:=uX (G:=G) (w % 8) (pU w / 8) (by omega) (by omega)
 cases ht:xT w with
 | true=>
  rw[xN ht,hb]at hm
  clear hb hw
  refine aH.of_awp aG Try.func54 rfl (by kernel_rfl) (by kernel_rfl) (by simp[Try.ntmps54]) Try.results54 ?_
  repeat'(first|refine xs ?_ ?_ <;>intros|(refine wn ?_;intro bx hbx;try simp only[fb]at hbx)|refine wp hm ?_|refine bE ?_|(refine aB ?_;intro bx hbx;(try simp only[fb]at hbx))|refine aD ?_|((with_reducible refine And.intro ?_ ?_);omega)|refine aA (d':=⟨⟩) ?_|refine bG (by kernel_rfl) ?_|refine bD ?_ (by repeat' first|exact lr _|assumption|refine ls ?_ ?_|refine lt ?_ ?_|simp only[*];done|simp only[fb, *,not_false_eq_true,and_self];done|exact lf ‹_› (by simp only[*]))|refine aC ?_ (by repeat' first|exact lr _|assumption|refine ls ?_ ?_|refine lt ?_ ?_|simp only[*];done|simp only[fb, *,not_false_eq_true,and_self];done|exact lf ‹_› (by simp only[*]))|simp -dsimp only[↓bp,bq,br,seval,iA,ha,hs,h8,hd, *]|refine wz ?_|fail)
  all_goals skip
 | false=>
  rw[nI ht]at hm
  clear hb hw
  refine aH.of_awp aG Try.func54 rfl (by kernel_rfl) (by kernel_rfl) (by simp[Try.ntmps54]) Try.results54 ?_
  repeat'(first|refine xs ?_ ?_ <;>intros|(refine wn ?_;intro bx hbx;try simp only[fb]at hbx)|refine wp hm ?_|refine bE ?_|(refine aB ?_;intro bx hbx;(try simp only[fb]at hbx))|refine aD ?_|((with_reducible refine And.intro ?_ ?_);omega)|refine aA (d':=⟨⟩) ?_|refine bG (by kernel_rfl) ?_|refine bD ?_ (by repeat' first|exact lr _|assumption|refine ls ?_ ?_|refine lt ?_ ?_|simp only[*];done|simp only[fb, *,not_false_eq_true,and_self];done|exact lf ‹_› (by simp only[*]))|refine aC ?_ (by repeat' first|exact lr _|assumption|refine ls ?_ ?_|refine lt ?_ ?_|simp only[*];done|simp only[fb, *,not_false_eq_true,and_self];done|exact lf ‹_› (by simp only[*]))|simp -dsimp only[↓bp,bq,br,seval,iA,ha,hs,h8,hd, *]|refine wz ?_|fail)
  all_goals skip
set_option maxHeartbeats 1000000 in
theorem B5l(w:Int)(hw:tI w):aN Try.prog G 26 [.int .u64 w] (.int .i64 (C1p w)):=by
 intro σ
 have ha:=C6x w hw
 have h8:IntKind.i64.wrap (w % 8)=w % 8:=aF (by omega) (by omega)
 have hm:=qM (G:=G) w hw
 unfold C1p
 cases ht:xT w with
 | true=>
  rw[ht]at hm
  clear hw
  refine aH.of_awp aG Try.func26 rfl (by kernel_rfl) (by kernel_rfl) (by simp[Try.ntmps26]) Try.results26 ?_
  repeat'(first|refine xs ?_ ?_ <;>intros|(refine wn ?_;intro bx hbx;try simp only[fb]at hbx)|refine wp hm ?_|refine bE ?_|(refine aB ?_;intro bx hbx;(try simp only[fb]at hbx))|refine aD ?_|((with_reducible refine And.intro ?_ ?_);omega)|refine aA (d':=⟨⟩) ?_|refine bG (by kernel_rfl) ?_|refine bD ?_ (by repeat' first|exact lr _|assumption|refine ls ?_ ?_|refine lt ?_ ?_|simp only[*];done|simp only[fb, *,not_false_eq_true,and_self];done|exact lf ‹_› (by simp only[*]))|refine aC ?_ (by repeat' first|exact lr _|assumption|refine ls ?_ ?_|refine lt ?_ ?_|simp only[*];done|simp only[fb, *,not_false_eq_true,and_self];done|exact lf ‹_› (by simp only[*]))|simp -dsimp only[↓bp,bq,br,seval,iA,ha,h8, *]|refine wz ?_|fail)
  all_goals skip
 | false=>
  rw[ht]at hm
  clear hw
  refine aH.of_awp aG Try.func26 rfl (by kernel_rfl) (by kernel_rfl) (by simp[Try.ntmps26]) Try.results26 ?_
  repeat'(first|refine xs ?_ ?_ <;>intros|(refine wn ?_;intro bx hbx;try simp only[fb]at hbx)|refine wp hm ?_|refine bE ?_|(refine aB ?_;intro bx hbx;(try simp only[fb]at hbx))|refine aD ?_|((with_reducible refine And.intro ?_ ?_);omega)|refine aA (d':=⟨⟩) ?_|refine bG (by kernel_rfl) ?_|refine bD ?_ (by repeat' first|exact lr _|assumption|refine ls ?_ ?_|refine lt ?_ ?_|simp only[*];done|simp only[fb, *,not_false_eq_true,and_self];done|exact lf ‹_› (by simp only[*]))|refine aC ?_ (by repeat' first|exact lr _|assumption|refine ls ?_ ?_|refine lt ?_ ?_|simp only[*];done|simp only[fb, *,not_false_eq_true,and_self];done|exact lf ‹_› (by simp only[*]))|simp -dsimp only[↓bp,bq,br,seval,iA,ha,h8, *]|refine wz ?_|fail)
  all_goals skip
set_option maxHeartbeats 1000000 in
theorem A0b(w:Int)(hw:tI w):aN Try.prog G 46 [.int .u64 w] (.int .i64 (C1o w)):=by
 intro σ
 have hs:=D0j w hw
 have hd:(pU w).fdiv (2 ^ min 3 IntKind.i64.bits)=pU w / 8:=by
  have e0:(2:Int) ^ min 3 IntKind.i64.bits=8:=rfl
  rw[e0,Int.fdiv_eq_ediv_of_nonneg _ (by omega)]
 have hm:=qM (G:=G) w hw
 unfold C1o
 cases ht:xT w with
 | true=>
  rw[ht]at hm
  clear hw
  refine aH.of_awp aG Try.func46 rfl (by kernel_rfl) (by kernel_rfl) (by simp[Try.ntmps46]) Try.results46 ?_
  repeat'(first|refine xs ?_ ?_ <;>intros|(refine wn ?_;intro bx hbx;try simp only[fb]at hbx)|refine wp hm ?_|refine bE ?_|(refine aB ?_;intro bx hbx;(try simp only[fb]at hbx))|refine aD ?_|((with_reducible refine And.intro ?_ ?_);omega)|refine aA (d':=⟨⟩) ?_|refine bG (by kernel_rfl) ?_|refine bD ?_ (by repeat' first|exact lr _|assumption|refine ls ?_ ?_|refine lt ?_ ?_|simp only[*];done|simp only[fb, *,not_false_eq_true,and_self];done|exact lf ‹_› (by simp only[*]))|refine aC ?_ (by repeat' first|exact lr _|assumption|refine ls ?_ ?_|refine lt ?_ ?_|simp only[*];done|simp only[fb, *,not_false_eq_true,and_self];done|exact lf ‹_› (by simp only[*]))|simp -dsimp only[↓bp,bq,br,seval,iA,hs,hd, *]|refine wz ?_|fail)
  all_goals skip
 | false=>
  rw[ht]at hm
  clear hw
  refine aH.of_awp aG Try.func46 rfl (by kernel_rfl) (by kernel_rfl) (by simp[Try.ntmps46]) Try.results46 ?_
  repeat'(first|refine xs ?_ ?_ <;>intros|(refine wn ?_;intro bx hbx;try simp only[fb]at hbx)|refine wp hm ?_|refine bE ?_|(refine aB ?_;intro bx hbx;(try simp only[fb]at hbx))|refine aD ?_|((with_reducible refine And.intro ?_ ?_);omega)|refine aA (d':=⟨⟩) ?_|refine bG (by kernel_rfl) ?_|refine bD ?_ (by repeat' first|exact lr _|assumption|refine ls ?_ ?_|refine lt ?_ ?_|simp only[*];done|simp only[fb, *,not_false_eq_true,and_self];done|exact lf ‹_› (by simp only[*]))|refine aC ?_ (by repeat' first|exact lr _|assumption|refine ls ?_ ?_|refine lt ?_ ?_|simp only[*];done|simp only[fb, *,not_false_eq_true,and_self];done|exact lf ‹_› (by simp only[*]))|simp -dsimp only[↓bp,bq,br,seval,iA,hs,hd, *]|refine wz ?_|fail)
  all_goals skip
end Go.Proofs.Ytinfbihcnonaoaa
set_option maxRecDepth 100000
namespace Go.Proofs.Ytinfbihcnonaoaa
open Go Go.Av
theorem D1q:tk Try.prog 22=some (false,1) /\ sk Try.prog 22= .sl 37 /\ (Try.prog.underlying 22).isSome=true /\ el Try.prog 22=some 37 /\ zc Try.prog 22=some [.nil] /\ cM Try.prog 22=some 24 /\ eI Try.prog 22=some (37,10,144):=⟨by kernel_rfl,by kernel_rfl,by kernel_rfl,by kernel_rfl,by kernel_rfl,by kernel_rfl,by kernel_rfl⟩
theorem D1r:tk Try.prog 37=some (true,10) /\ sk Try.prog 37= .st /\ (Try.prog.underlying 37).isSome=true /\ el Try.prog 37=none /\ zc Try.prog 37=some [.int .i64 0, .int .u8 0, .bool false, .nil, .str [], .int .i64 0, .nil, .nil, .int .i64 0, .nil] /\ cM Try.prog 37=some 144 /\ jR Try.prog 37=some [(0,1),(1,7),(8,1),(9,1)] /\ qE Try.prog 37 0=some (0,false,1) /\ qE Try.prog 37 1=some (1,true,7) /\ qE Try.prog 37 2=some (8,false,1) /\ qE Try.prog 37 3=some (9,false,1):=⟨by kernel_rfl,by kernel_rfl,by kernel_rfl,by kernel_rfl,by kernel_rfl,by kernel_rfl,by kernel_rfl,by kernel_rfl,by kernel_rfl,by kernel_rfl,by kernel_rfl⟩
theorem D1s:tk Try.prog 68=some (false,1) /\ sk Try.prog 68= .sl 27 /\ (Try.prog.underlying 68).isSome=true /\ el Try.prog 68=some 27 /\ zc Try.prog 68=some [.nil] /\ cM Try.prog 68=some 24 /\ eI Try.prog 68=some (27,1,8):=⟨by kernel_rfl,by kernel_rfl,by kernel_rfl,by kernel_rfl,by kernel_rfl,by kernel_rfl,by kernel_rfl⟩
theorem gF:tk Try.prog 109=some (false,1) /\ sk Try.prog 109= .fn /\ (Try.prog.underlying 109).isSome=true /\ el Try.prog 109=none /\ zc Try.prog 109=some [.nilfn] /\ cM Try.prog 109=some 8:=⟨by kernel_rfl,by kernel_rfl,by kernel_rfl,by kernel_rfl,by kernel_rfl,by kernel_rfl⟩
end Go.Proofs.Ytinfbihcnonaoaa
set_option maxRecDepth 20000
namespace Go.Proofs.Ytinfbihcnonaoaa
open Go Go.Av
variable {G:Nat ->AV}
def eR(w:Int):AV:= .int .u64 w
inductive Rw(t0 t:Nat ->Option (Nat × Nat)):Option Nat ->AV ->List AV ->Prop
 |nil:Rw t0 t none .nil []
 |own (b:Nat) (xs:List AV) (h0:t0 b=none) (ht:t b=some (xs.length,1)) (hx:∀ a,a ∈ xs -> (flat a).length=1 /\ isv a=true):Rw t0 t (some b) (.sl (.own b) xs []) xs
section
variable {t0 t t':Nat ->Option (Nat × Nat)} {o:Option Nat} {v:AV} {xs:List AV}
theorem Rw.isv(h:Rw t0 t o v xs):isv v=true:=by cases h <;>rfl
theorem Rw.flat(h:Rw t0 t o v xs):flat v=[v]:=by cases h <;>rfl
theorem Rw.one(h:Rw t0 t o v xs):one v=true:=by cases h <;>rfl
theorem Rw.len{P:Program}(h:Rw t0 t o v xs){ty:TypeId} :eK P .len #[ty] [v]=if(el P ty).isSome then some (.int .i64 xs.length)else none:=by
 cases h with
 |nil=>rw[A4q];rfl
 |own b xs _ _ _=>rw[A7q]
theorem Rw.told(h:Rw t0 t o v xs):Le v (.sl .none xs []):=by
 cases h with
 |nil=>exact Le.nil
 |own b xs _ _ _=>exact Le.gh
theorem Rw.keep(h:Rw t0 t o v xs){t0':Nat ->Option (Nat × Nat)}(h0:∀ b,o=some b ->t0' b=none)(ht:∀ b x,o=some b ->t b=some x ->t' b=some x):Rw t0' t' o v xs:=by
 cases h with
 |nil=>exact .nil
 |own b xs _ h1 hx=>exact .own b xs (h0 b rfl) (ht b _ rfl h1) hx
end
theorem Rw.ix{P:Program}{t0 t:Nat ->Option (Nat × Nat)}{o:Option Nat}{v:AV}{xs:List AV}(h:Rw t0 t o v xs){k:IntKind}{i:Int}(h0:0 <=i){x:AV}(hx:xs[i.toNat]? =some x){ty:TypeId}{ag:Bool}(he:(el P ty).bind (tk P)=some (ag,1)):
  cR P ty v (.int k i)=some (.rp (Av.flat x)):=by
 cases h with
 |nil=>simp at hx
 | own b xs _ _ hl=>
  have h1:=(hl x (List.mem_of_getElem? hx)).1
  rw[fE,he]
  simp[h0,hx,ixk,h1]
structure Chg(σ:AS)(o:Option Nat)(σ':AS)(o':Option Nat):Prop where
 box:σ'.box=σ.box
 ty:σ'.ty=σ.ty
 tip:∀ c x,o ≠ some c ->σ.tip c=some x ->σ'.tip c=some x
 new:∀ c,o'=some c ->o=some c \/ σ.fresh c
theorem wD {P:Program} {cM:Nat} {σ0 σ:AS} {o:Option Nat} {v x:AV} {xs ys:List AV} {t tx e:TypeId} {K:AV ->AS ->Prop} {d:Dum σ} {d':Dum K} {tt:Nat ->Option (Nat × Nat)} (hB:Rw σ0.tip tt o v xs) (htt:tt=σ.tip) (hle:σ0.le σ) (he:eI P t=some (e,1,cM)) (hs:nB P tx x=some ys)
  (hys:∀ a,a ∈ ys -> (Av.flat a).length=1 /\ Av.isv a=true) (hb:(xs.length+ys.length)*cM <=140737488355328) (hK:∀ v' σ' o',Rw σ0.tip σ'.tip o' v' (xs++ys) ->Chg σ o σ' o' ->K v' σ'):A1x P σ t tx v x K d d':=by
 subst htt
 refine .inl ?_
 unfold gK
 rw[he,hs]
 refine⟨fun a ha=> (hys a ha).1,?_⟩
 cases hB with
 | nil=>
  refine⟨by simpa using hb,fun hy=> ?_,fun hy b hf=> ?_⟩
  ·subst hy
   exact hK _ _ none .nil ⟨rfl,rfl,fun _ _ _ h=>h,fun c hc=>by cases hc⟩
  ·have hf0:=hle.fresh hf
   refine hK _ _ (some b) ?_ ⟨rfl,rfl,fun c x _ hc=> ?_,fun c hc=>by cases hc;exact .inr hf⟩
   ·rw[List.nil_append]
    exact .own b ys hf0.2.1 (by simp[AS.setTip]) hys
   ·have:c ≠ b:=fun e=>by subst e;rw[hf.2.1]at hc;cases hc
    simp[AS.setTip,this,hc]
 | own b xs h0 ht hx=>
  refine⟨ht,fun a ha=> (hx a ha).1,hb,fun b' hb'=> ?_⟩
  have h0':σ0.tip b'=none:=by
   rcases hb' with rfl|hf
   ·exact h0
   ·exact(hle.fresh hf).2.1
  refine hK _ _ (some b') ?_ ⟨rfl,rfl,fun c x hne hc=> ?_,fun c hc=>by
   cases hc
   rcases hb' with rfl|hf
   ·exact .inl rfl
   ·exact .inr hf⟩
  ·refine .own b' (xs++ys) h0' (by simp[AS.setTip]) fun a ha=> ?_
   rcases List.mem_append.1 ha with ha|ha
   ·exact hx a ha
   ·exact hys a ha
  ·have h1:c ≠ b:=fun e=>hne (by rw[e])
   have h2:c ≠ b':=fun e=>by
    subst e
    rcases hb' with rfl|hf
    ·exact h1 rfl
    ·rw[hf.2.1]at hc;cases hc
   simp[AS.setTip,AS.delTip,h1,h2,hc]
theorem B6r {P:Program} {cM:Nat} {σ0 σ:AS} {o:Option Nat} {v z0:AV} {xs:List AV} {t tx e:TypeId} {k k':IntKind} {m:Int} {K:AV ->AS ->Prop} {d:Dum σ} {d':Dum K} {tt:Nat ->Option (Nat × Nat)} (hB:Rw σ0.tip tt o v xs) (hne:xs ≠ []) (htt:tt=σ.tip) (hle:σ0.le σ) (he:eI P t=some (e,1,cM)) (hx:sk P tx= .int k') (hz:zc P e=some [z0]) (hz1:one z0=true)
  (hm:0 <=m) (hb:(xs.length+m.toNat)*cM <=140737488355328) (hK:∀ v' σ' o',Rw σ0.tip σ'.tip o' v' (xs++List.replicate m.toNat z0) ->Chg σ o σ' o' ->K v' σ'):A1x P σ t tx v (.int k m) K d d':=by
 subst htt
 refine .inr (.inr (.inl (.inr ?_)))
 cases hB with
 |nil=>exact absurd rfl hne
 | own b xs h0 ht hxs=>
  unfold lK
  rw[he,hx]
  refine⟨z0,hz,hm,ht,fun a ha=> (hxs a ha).1,hb,fun b' hb'=> ?_⟩
  have h0':σ0.tip b'=none:=by
   rcases hb' with rfl|hf
   ·exact h0
   ·exact(hle.fresh hf).2.1
  refine hK _ _ (some b') ?_ ⟨rfl,rfl,fun c x hne hc=> ?_,fun c hc=>by
   cases hc
   rcases hb' with rfl|hf
   ·exact .inl rfl
   ·exact .inr hf⟩
  ·refine .own b' _ h0' (by simp[AS.setTip]) fun a ha=> ?_
   rcases List.mem_append.1 ha with ha|ha
   ·exact hxs a ha
   ·obtain⟨_,rfl⟩:=List.mem_replicate.1 ha
    exact⟨by rw[(kA hz1).1];rfl,(kA hz1).2⟩
  ·have h1:c ≠ b:=fun e=>hne (by rw[e])
   have h2:c ≠ b':=fun e=>by
    subst e
    rcases hb' with rfl|hf
    ·exact h1 rfl
    ·rw[hf.2.1]at hc;cases hc
   simp[AS.setTip,AS.delTip,h1,h2,hc]
theorem Chg.le{σ0 σ σ':AS}{o o':Option Nat}(h:Chg σ o σ' o')(hle:σ0.le σ)(h0:∀ b,o=some b ->σ0.tip b=none):σ0.le σ':=
 ⟨fun b cs hb=>by rw[h.box];exact hle.box b cs hb,fun b x hb=>h.tip b x (fun e=>by rw[h0 b e]at hb;cases hb) (hle.tip b x hb),fun b x hb=>by rw[h.ty];exact hle.ty b x hb⟩
theorem Rw.free{t0 t:Nat ->Option (Nat × Nat)}{o:Option Nat}{v:AV}{xs:List AV}(h:Rw t0 t o v xs):∀ b,o=some b ->t0 b=none:=by
 cases h with
 |nil=>exact fun b e=>by cases e
 |own b xs h0 _ _=>exact fun c e=>by cases e;exact h0
theorem Rw.tip{t0 t:Nat ->Option (Nat × Nat)}{o:Option Nat}{v:AV}{xs:List AV}(h:Rw t0 t o v xs):∀ b,o=some b ->t b=some (xs.length,1):=by
 cases h with
 |nil=>exact fun b e=>by cases e
 |own b xs _ h1 _=>exact fun c e=>by cases e;exact h1
def dj(a b:Option Nat):Prop:=∀ c,a=some c ->b ≠ some c
theorem dj.symm{a b:Option Nat}(h:dj a b):dj b a:=fun c hb ha=>h c ha hb
theorem Chg.sep{σ σ':AS}{o o' o2:Option Nat}(h:Chg σ o σ' o')(hd:dj o o2){x:Nat × Nat}(h2:∀ b,o2=some b ->∃ x,σ.tip b=some x):dj o' o2:=fun c hc h2c=>by
 rcases h.new c hc with e|e
 ·exact hd c e h2c
 ·obtain⟨x,hx⟩:=h2 c h2c;rw[e.2.1]at hx;cases hx
def B4m:SK ->Option AV ->Option AV
 | .ptr _,x=>x
 |_,_=>none
theorem cD{e:TypeId}{x:Option AV} :B4m (.ptr e) x=x:=Av.nr rfl
theorem cQ{P:Program}{op:BinOp}{t:TypeId}{b o:Nat} :fQ P op t (.ptr b o) .nilptr=B4m (sk P t) (lH op false):=by simp only[fQ,B4m];cases sk P t <;>rfl
theorem cP{P:Program}{op:BinOp}{t:TypeId} :fQ P op t .nilptr .nilptr=B4m (sk P t) (lH op true):=by simp only[fQ,B4m];cases sk P t <;>rfl
def sB(l:List (List UInt8)):List (AV × AV):=(List.range l.length).map fun i=> (.str (l.getD i []), .int .i64 i)
theorem A5y(l:List (List UInt8))(s:List UInt8):sB (l++[s])=sB l++[(.str s, .int .i64 l.length)]:=by
 unfold sB
 rw[List.length_append,List.length_singleton,List.range_succ,List.map_append]
 congr 1
 ·refine List.map_congr_left fun i hi=> ?_
  have:=List.mem_range.1 hi
  simp[List.getD_eq_getElem?_getD,List.getElem?_append_left this]
 ·simp[List.getD_eq_getElem?_getD]
def oD(s:List UInt8):List (List UInt8) ->Nat ->Option Nat
 |[],_=>none
 |x::l,i=>if s=x then some i else oD s l (i+1)
theorem zJ(s:List UInt8):∀ (l:List (List UInt8)) (i k:Nat),jJ (.str s) ((List.range' i l.length).zip l|>.map fun x=> (.str x.2, .int .i64 x.1)) k=some ((oD s l i).map fun j=> (k+(j - i), .int .i64 j))
 |[],i,k=>rfl
 | x :: l,i,k=>by
  have ih:=zJ s l (i+1) (k+1)
  rw[List.length_cons,List.range'_succ,List.zip_cons_cons,List.map_cons,jJ]
  by_cases h:s=x
  ·subst h;simp[A0s,oD]
  ·have hb:(s==x)=false:=by simpa using h
   simp only[A0s,hb,oD,if_neg h]
   rw[ih]
   congr 1
   cases hx:oD s l (i+1)with
   |none=>rfl
   | some j=>
    have hj:i+1 <=j:=by
     have:∀ (l:List (List UInt8)) (i j:Nat),oD s l i=some j ->i <=j:=by
      intro l
      induction l with
      |nil=>intro i j h;cases h
      | cons y l ih=>
       intro i j h
       unfold oD at h
       split at h
       ·cases h;omega
       ·have:=ih _ _ h;omega
     exact this _ _ _ hx
    simp only[Option.map_some]
    congr 2
    omega
theorem A9p(l:List (List UInt8)):sB l=((List.range' 0 l.length).zip l).map fun x=> (.str x.2, .int .i64 x.1):=by
 refine List.ext_getElem? fun i=> ?_
 unfold sB
 by_cases h:i < l.length
 ·simp[List.getElem?_map,List.getElem?_range h,List.getElem?_zip_eq_some,h,List.getD_eq_getElem?_getD]
 ·simp[List.getElem?_eq_none (Nat.le_of_not_lt h),Nat.le_of_not_lt h]
theorem zI(s:List UInt8)(l:List (List UInt8)):jJ (.str s) (sB l) 0=some ((oD s l 0).map fun j=> (j, .int .i64 j)):=by
 rw[A9p,zJ]
 congr 1
 cases oD s l 0 <;>simp
end Go.Proofs.Ytinfbihcnonaoaa
