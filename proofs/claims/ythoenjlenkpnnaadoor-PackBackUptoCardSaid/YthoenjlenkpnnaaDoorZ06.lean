/- A drawn row whose ways meet again: what it yields is told once. -/
import Derived.Test.YthoenjlenkpnnaaDoorZ05
import Derived.Test.YthoenjlenkpnnaaDoorChecked
import Derived.KernelRfl
import Derived.Shelf.Bytes.GrowSlice
import Derived.ProofKit
import Derived.OpenShut
import Derived.Deep.DeepHandedRow
set_option linter.unusedVariables false
set_option linter.unusedSimpArgs false
namespace Go.Av
open Go Go.RowKit
section fl
variable {P:Program} {G:Nat ->AV} {ops rest:List Oper} {σ0 σ:AS} {R:aS ->AS ->Prop} {e:aS} {d:Option Tmp} {ty:TypeId} {pos:String} {af:Array Edge} {g:Option (Nat × Bool)} {av:List Nat} {K:AV ->AS ->List Nat ->Prop}
def B0x(P:Program)(σ:AS)(av:List Nat)(t:TypeId)(p x:AV)(K:AV ->AS ->List Nat ->Prop)(_:Dum σ)(_:Dum K):Prop:=
 ∃ b off z0 z,p= .ptr b off /\ b ∈ av /\ σ.box b=some z0 /\ iG P σ t (.ptr b off) x=some (σ.setBox b z) /\ K .undef (σ.setBox b z) (av.filter fun c=>decide (c ≠ b))
theorem D3a:bZ P G ops σ0 R [] e σ av=R e σ:=nr rfl
theorem C7p{o:Oper} :bZ P G ops σ0 R (o::rest) e σ av=
   gW (cO ops e o.guard) (fZ P G o e σ0 σ av fun r σ' av'=>bZ P G ops σ0 R rest (e.upd o.dst r) σ' av') (bZ P G ops σ0 R rest (e.upd o.dst (.tup [])) σ av) ⟨⟩ ⟨⟩:=nr rfl
def C4a(P:Program)(σ0 σ:AS)(av:List Nat)(t:TypeId)(p x:AV)(K:AV ->AS ->List Nat ->Prop)(_:Dum σ0)(_:Dum σ)(_:Dum K):Prop:=B0x P σ av t p x K ⟨⟩ ⟨⟩ \/ (qX P σ0 t p x /\ K .undef σ av)
theorem C1a{t:TypeId}{p x:Operand} :fZ P G ⟨d, .store t p x,ty,pos,af,g⟩ e σ0 σ av K=C4a P σ0 σ av t (ev G e p) (ev G e x) K ⟨⟩ ⟨⟩ ⟨⟩:=nr rfl
theorem C4b{σ0 σ:AS}{av:List Nat}{t:TypeId}{p x:AV}{K:AV ->AS ->List Nat ->Prop}{d:Dum σ0}{d':Dum σ}{d2:Dum K}(h:B0x P σ av t p x K ⟨⟩ ⟨⟩):C4a P σ0 σ av t p x K d d' d2:= .inl h
def D8k(P:Program)(σ0:AS)(t:TypeId)(p x:AV)(F:Prop)(_:Dum σ0)(_:Dum F):Prop:=qX P σ0 t p x /\ F
theorem C7h{K:AV ->AS ->Prop}{t:TypeId}{p x:Operand} :hop P G ⟨d, .store t p x,ty,pos,af,g⟩ e σ0 σ K=D8k P σ0 t (ev G e p) (ev G e x) (K .undef σ) ⟨⟩ ⟨⟩:=nr rfl
theorem C7r{x:Operand} :fZ P G ⟨d, .move x,ty,pos,af,g⟩ e σ0 σ av K=hop P G ⟨d, .move x,ty,pos,af,g⟩ e σ0 σ (fun r σ'=>K r σ' av):=nr rfl
theorem B4r{x:Operand} :fZ P G ⟨d, .assign x,ty,pos,af,g⟩ e σ0 σ av K=hop P G ⟨d, .assign x,ty,pos,af,g⟩ e σ0 σ (fun r σ'=>K r σ' av):=nr rfl
theorem C7s{a b c:Operand} :fZ P G ⟨d, .pick a b c,ty,pos,af,g⟩ e σ0 σ av K=hop P G ⟨d, .pick a b c,ty,pos,af,g⟩ e σ0 σ (fun r σ'=>K r σ' av):=nr rfl
theorem C0u{E:TypeId} :fZ P G ⟨d, .alloc E,ty,pos,af,g⟩ e σ0 σ av K=hop P G ⟨d, .alloc E,ty,pos,af,g⟩ e σ0 σ (fun r σ'=>K r σ' av):=nr rfl
theorem D2u{E:TypeId}{x:Operand} :fZ P G ⟨d, .box E x,ty,pos,af,g⟩ e σ0 σ av K=hop P G ⟨d, .box E x,ty,pos,af,g⟩ e σ0 σ (fun r σ'=>K r σ' av):=nr rfl
theorem C0w{t:TypeId}{ps:Array (Nat × Operand)} :fZ P G ⟨d, .build t ps,ty,pos,af,g⟩ e σ0 σ av K=hop P G ⟨d, .build t ps,ty,pos,af,g⟩ e σ0 σ (fun r σ'=>K r σ' av):=nr rfl
theorem yY{t n:Nat}{ps:Array (Nat × Operand)} :fZ P G ⟨d, .buildSlice t n ps,ty,pos,af,g⟩ e σ0 σ av K=hop P G ⟨d, .buildSlice t n ps,ty,pos,af,g⟩ e σ0 σ (fun r σ'=>K r σ' av):=nr rfl
theorem C7q{t:TypeId}{x:Operand} :fZ P G ⟨d, .load t x,ty,pos,af,g⟩ e σ0 σ av K=hop P G ⟨d, .load t x,ty,pos,af,g⟩ e σ0 σ (fun r σ'=>K r σ' av):=nr rfl
theorem A5w{x:Operand} :fZ P G ⟨d, .nilCheck x,ty,pos,af,g⟩ e σ0 σ av K=hop P G ⟨d, .nilCheck x,ty,pos,af,g⟩ e σ0 σ (fun r σ'=>K r σ' av):=nr rfl
theorem C0v{op:BinOp}{t yt:TypeId}{x y:Operand} :fZ P G ⟨d, .binOp op t x y yt,ty,pos,af,g⟩ e σ0 σ av K=hop P G ⟨d, .binOp op t x y yt,ty,pos,af,g⟩ e σ0 σ (fun r σ'=>K r σ' av):=nr rfl
theorem C7t{op:UnOp}{t:TypeId}{x:Operand} :fZ P G ⟨d, .unOp op t x,ty,pos,af,g⟩ e σ0 σ av K=hop P G ⟨d, .unOp op t x,ty,pos,af,g⟩ e σ0 σ (fun r σ'=>K r σ' av):=nr rfl
theorem A9w{s t:TypeId}{x:Operand} :fZ P G ⟨d, .convert s t x,ty,pos,af,g⟩ e σ0 σ av K=hop P G ⟨d, .convert s t x,ty,pos,af,g⟩ e σ0 σ (fun r σ'=>K r σ' av):=nr rfl
theorem A5v{f:FuncId}{caps:Array Operand} :fZ P G ⟨d, .makeFunc (.func f) #[] caps,ty,pos,af,g⟩ e σ0 σ av K=hop P G ⟨d, .makeFunc (.func f) #[] caps,ty,pos,af,g⟩ e σ0 σ (fun r σ'=>K r σ' av):=nr rfl
theorem D2y{f:FuncId}{x:Operand} :fZ P G ⟨d, .makeFunc (.func f) #[x] #[],ty,pos,af,g⟩ e σ0 σ av K=hop P G ⟨d, .makeFunc (.func f) #[x] #[],ty,pos,af,g⟩ e σ0 σ (fun r σ'=>K r σ' av):=nr rfl
theorem C0z{t:TypeId}{x:Operand}{lo hi:Option Operand} :fZ P G ⟨d, .slice t x lo hi none,ty,pos,af,g⟩ e σ0 σ av K=hop P G ⟨d, .slice t x lo hi none,ty,pos,af,g⟩ e σ0 σ (fun r σ'=>K r σ' av):=nr rfl
theorem A2j{t:TypeId}{x:Operand}{i:Nat} :fZ P G ⟨d, .fieldAddr t x i,ty,pos,af,g⟩ e σ0 σ av K=hop P G ⟨d, .fieldAddr t x i,ty,pos,af,g⟩ e σ0 σ (fun r σ'=>K r σ' av):=nr rfl
theorem C0x{t:TypeId}{x:Operand}{i:Nat} :fZ P G ⟨d, .field t x i,ty,pos,af,g⟩ e σ0 σ av K=hop P G ⟨d, .field t x i,ty,pos,af,g⟩ e σ0 σ (fun r σ'=>K r σ' av):=nr rfl
theorem A2k{t:TypeId}{x i:Operand} :fZ P G ⟨d, .indexAddr t x i,ty,pos,af,g⟩ e σ0 σ av K=hop P G ⟨d, .indexAddr t x i,ty,pos,af,g⟩ e σ0 σ (fun r σ'=>K r σ' av):=nr rfl
theorem C0y{t:TypeId}{x i:Operand} :fZ P G ⟨d, .index t x i,ty,pos,af,g⟩ e σ0 σ av K=hop P G ⟨d, .index t x i,ty,pos,af,g⟩ e σ0 σ (fun r σ'=>K r σ' av):=nr rfl
theorem A9x{x:Operand}{i:Nat} :fZ P G ⟨d, .extract x i,ty,pos,af,g⟩ e σ0 σ av K=hop P G ⟨d, .extract x i,ty,pos,af,g⟩ e σ0 σ (fun r σ'=>K r σ' av):=nr rfl
theorem C7o{f:Operand}{args:Array Operand}{ts:Array TypeId} :fZ P G ⟨d, .call ⟨.value f,args,ts⟩,ty,pos,af,g⟩ e σ0 σ av K=hop P G ⟨d, .call ⟨.value f,args,ts⟩,ty,pos,af,g⟩ e σ0 σ (fun r σ'=>K r σ' av):=nr rfl
theorem D2w{args:Array Operand}{ts:Array TypeId} :fZ P G ⟨d, .call ⟨.builtin .len,args,ts⟩,ty,pos,af,g⟩ e σ0 σ av K=hop P G ⟨d, .call ⟨.builtin .len,args,ts⟩,ty,pos,af,g⟩ e σ0 σ (fun r σ'=>K r σ' av):=nr rfl
theorem D2v{args:Array Operand}{ts:Array TypeId} :fZ P G ⟨d, .call ⟨.builtin .cap,args,ts⟩,ty,pos,af,g⟩ e σ0 σ av K=hop P G ⟨d, .call ⟨.builtin .cap,args,ts⟩,ty,pos,af,g⟩ e σ0 σ (fun r σ'=>K r σ' av):=nr rfl
theorem D3b{args:Array Operand}{ts:Array TypeId} :fZ P G ⟨d, .call ⟨.builtin .unsafeSliceData,args,ts⟩,ty,pos,af,g⟩ e σ0 σ av K=hop P G ⟨d, .call ⟨.builtin .unsafeSliceData,args,ts⟩,ty,pos,af,g⟩ e σ0 σ (fun r σ'=>K r σ' av):=nr rfl
theorem D2x{args:Array Operand}{ts:Array TypeId} :fZ P G ⟨d, .call ⟨.builtin .max,args,ts⟩,ty,pos,af,g⟩ e σ0 σ av K=hop P G ⟨d, .call ⟨.builtin .max,args,ts⟩,ty,pos,af,g⟩ e σ0 σ (fun r σ'=>K r σ' av):=nr rfl
theorem D2z{args:Array Operand}{ts:Array TypeId} :fZ P G ⟨d, .call ⟨.builtin .min,args,ts⟩,ty,pos,af,g⟩ e σ0 σ av K=hop P G ⟨d, .call ⟨.builtin .min,args,ts⟩,ty,pos,af,g⟩ e σ0 σ (fun r σ'=>K r σ' av):=nr rfl
theorem A2l{t:TypeId}{x y:Operand} :fZ P G ⟨d, .makeSlice t x y,ty,pos,af,g⟩ e σ0 σ av K=hop P G ⟨d, .makeSlice t x y,ty,pos,af,g⟩ e σ0 σ (fun r σ'=>K r σ' av):=nr rfl
def stw(m:Bool)(k:Option (Bool × Nat))(σ:AS)(bx:Option (List AV))(b off:Nat)(x:AV)(K:AS ->Prop):Prop:=match m,k,bx with
 |true,some (_,n),some cs=>isv x=true /\ (flat x).length=n /\ off+n <=cs.length /\ K (σ.setBox b (cs.take off++flat x++cs.drop (off+n)))
 |_,_,_=>False
theorem C4c{ag:Bool}{n:Nat}{cs:List AV}{b off:Nat}{x:AV}{F:AS ->Prop} :stw true (some (ag,n)) σ (some cs) b off x F=(isv x=true /\ (flat x).length=n /\ off+n <=cs.length /\ F (σ.setBox b (cs.take off++flat x++cs.drop (off+n)))):=nr rfl
theorem B5y{t:TypeId}{b off:Nat}{x:AV}{d:Dum σ}{d':Dum K} :B0x P σ av t (.ptr b off) x K d d'=stw (decide (b ∈ av)) (tk P t) σ (σ.box b) b off x (fun s=>K .undef s (av.filter fun c=>decide (c ≠ b))):=by
 apply propext
 constructor
 ·rintro⟨b',off',z0,z,h1,h2,h3,h4,h5⟩
  simp only[AV.ptr.injEq]at h1
  obtain⟨rfl,rfl⟩:=h1
  have h0:decide (b ∈ av)=true:=by simpa using h2
  rw[h0,h3]
  rw[qR,h3]at h4
  unfold stw
  unfold stk at h4
  cases hk:tk P t with
  |none=>rw[hk]at h4;cases h4
  | some y=>
   obtain⟨ag,n⟩:=y
   rw[hk]at h4
   simp only at h4 ⊢
   split at h4
   ·rename_i hc
    simp only[Option.some.injEq]at h4
    have:=qY h4
    rw[this]
    exact⟨hc.1,hc.2.1,hc.2.2,h5⟩
   ·cases h4
 ·intro h
  unfold stw at h
  split at h
  ·rename_i ag n cs hm hk hb
   obtain⟨g1,g2,g3,g4⟩:=h
   refine⟨b,off,cs,_,rfl,by simpa using hm,hb,?_,g4⟩
   rw[qR,hb,hk]
   unfold stk
   exact if_pos ⟨g1,g2,g3⟩
  ·exact h.elim
theorem AS.delBox_le(σ:AS)(b:Nat):(σ.delBox b).le σ:=⟨fun i cs hi=>by
 have hi':(if i=b then none else σ.box i)=some cs:=hi
 split at hi'
 ·cases hi'
 ·exact hi',fun _ _ h=>h,fun _ _ h=>h⟩
theorem fM {l:List Oper} {d:Dum l.toArray} {d':Dum R} {d2:Dum e} {d3:Dum σ} (n b:Nat) {z:List AV} (hn:wR l.toArray n=true) (hb:σ.box b=some z)
  (h:bZ P G l (σ.delBox b) (fun e' σ'=>cP P G l R (l.drop n) e' σ') (l.take n) e σ [b]):rN P G l.toArray R e σ d d' d2 d3:=
 .inl ⟨[],n,σ.delBox b,[b],rfl,hn,AS.delBox_le σ b,fun c hc=>by
  have:c=b:=by simpa using hc
  subst this
  exact⟨by rw[hb];rfl,by simp[AS.delBox]⟩,h⟩
theorem pG {l:List Oper} {d:Dum l.toArray} {d':Dum R} {d2:Dum e} {d3:Dum σ} (n b b':Nat) {z z':List AV} (hn:wR l.toArray n=true) (hb:σ.box b=some z) (hb':σ.box b'=some z')
  (h:bZ P G l ((σ.delBox b).delBox b') (fun e' σ'=>cP P G l R (l.drop n) e' σ') (l.take n) e σ [b,b']):rN P G l.toArray R e σ d d' d2 d3:=
 .inl ⟨[],n,(σ.delBox b).delBox b',[b,b'],rfl,hn,(AS.delBox_le _ b').trans (AS.delBox_le σ b),fun c hc=>by
  have:c=b \/ c=b':=by simpa using hc
  rcases this with rfl|rfl
  ·exact⟨by rw[hb];rfl,by simp[AS.delBox]⟩
  ·exact⟨by rw[hb'];rfl,by simp[AS.delBox]⟩,h⟩
end fl
section pl
variable {P:Program} {G:Nat ->AV} {ops:List Oper} {σ0 σ:AS} {R:aS ->AS ->Prop} {e:aS} {d:Option Tmp} {ty:TypeId} {pos:String} {af:Array Edge} {g:Option (Nat × Bool)}
theorem C9j:kC P G ops σ0 R .done e σ=R e σ:=nr rfl
theorem D4h:kC P G ops σ0 R .bad e σ=False:=nr rfl
theorem C9l:kC P G ops σ0 R .none e σ=True:=nr rfl
theorem C9k{i:Nat}{t r:Pl} :kC P G ops σ0 R (.more i t r) e σ=(sG P G ops σ0 ops[i]? (fun e' s=>kC P G ops σ0 R t e' s) e σ /\ kC P G ops σ0 R r e σ):=nr rfl
theorem D0j{o:Oper}{K:aS ->AS ->Prop} :sG P G ops σ0 (some o) K e σ=gW (cO ops e o.guard) (gX P G o e σ0 σ fun r s=>K (e.upd o.dst r) s) (K (e.upd o.dst (.tup [])) σ) ⟨⟩ ⟨⟩:=nr rfl
def D4u(P:Program)(σ0 σ:AS)(t:TypeId)(p x:AV)(K:AV ->AS ->Prop)(_:Dum σ0)(_:Dum σ)(_:Dum K):Prop:=
 (∃ b off z0 z,p= .ptr b off /\ σ0.box b=none /\ σ.box b=some z0 /\ iG P σ t (.ptr b off) x=some (σ.setBox b z) /\ K .undef (σ.setBox b z)) \/ (qX P σ0 t p x /\ K .undef σ)
theorem C0t{t:TypeId}{p x:Operand}{K:AV ->AS ->Prop} :gX P G ⟨d, .store t p x,ty,pos,af,g⟩ e σ0 σ K=D4u P σ0 σ t (ev G e p) (ev G e x) K ⟨⟩ ⟨⟩ ⟨⟩:=nr rfl
theorem C7l{x:Operand}{K:AV ->AS ->Prop} :gX P G ⟨d, .move x,ty,pos,af,g⟩ e σ0 σ K=hop P G ⟨d, .move x,ty,pos,af,g⟩ e σ0 σ K:=nr rfl
theorem B4q{x:Operand}{K:AV ->AS ->Prop} :gX P G ⟨d, .assign x,ty,pos,af,g⟩ e σ0 σ K=hop P G ⟨d, .assign x,ty,pos,af,g⟩ e σ0 σ K:=nr rfl
theorem C7m{a b c:Operand}{K:AV ->AS ->Prop} :gX P G ⟨d, .pick a b c,ty,pos,af,g⟩ e σ0 σ K=hop P G ⟨d, .pick a b c,ty,pos,af,g⟩ e σ0 σ K:=nr rfl
theorem C0n{E:TypeId}{K:AV ->AS ->Prop} :gX P G ⟨d, .alloc E,ty,pos,af,g⟩ e σ0 σ K=hop P G ⟨d, .alloc E,ty,pos,af,g⟩ e σ0 σ K:=nr rfl
theorem D2n{E:TypeId}{x:Operand}{K:AV ->AS ->Prop} :gX P G ⟨d, .box E x,ty,pos,af,g⟩ e σ0 σ K=hop P G ⟨d, .box E x,ty,pos,af,g⟩ e σ0 σ K:=nr rfl
theorem C0p{t:TypeId}{ps:Array (Nat × Operand)}{K:AV ->AS ->Prop} :gX P G ⟨d, .build t ps,ty,pos,af,g⟩ e σ0 σ K=hop P G ⟨d, .build t ps,ty,pos,af,g⟩ e σ0 σ K:=nr rfl
theorem yX{t n:Nat}{ps:Array (Nat × Operand)}{K:AV ->AS ->Prop} :gX P G ⟨d, .buildSlice t n ps,ty,pos,af,g⟩ e σ0 σ K=hop P G ⟨d, .buildSlice t n ps,ty,pos,af,g⟩ e σ0 σ K:=nr rfl
theorem C7k{t:TypeId}{x:Operand}{K:AV ->AS ->Prop} :gX P G ⟨d, .load t x,ty,pos,af,g⟩ e σ0 σ K=hop P G ⟨d, .load t x,ty,pos,af,g⟩ e σ0 σ K:=nr rfl
theorem A5u{x:Operand}{K:AV ->AS ->Prop} :gX P G ⟨d, .nilCheck x,ty,pos,af,g⟩ e σ0 σ K=hop P G ⟨d, .nilCheck x,ty,pos,af,g⟩ e σ0 σ K:=nr rfl
theorem C0o{op:BinOp}{t yt:TypeId}{x y:Operand}{K:AV ->AS ->Prop} :gX P G ⟨d, .binOp op t x y yt,ty,pos,af,g⟩ e σ0 σ K=hop P G ⟨d, .binOp op t x y yt,ty,pos,af,g⟩ e σ0 σ K:=nr rfl
theorem C7n{op:UnOp}{t:TypeId}{x:Operand}{K:AV ->AS ->Prop} :gX P G ⟨d, .unOp op t x,ty,pos,af,g⟩ e σ0 σ K=hop P G ⟨d, .unOp op t x,ty,pos,af,g⟩ e σ0 σ K:=nr rfl
theorem A9u{s t:TypeId}{x:Operand}{K:AV ->AS ->Prop} :gX P G ⟨d, .convert s t x,ty,pos,af,g⟩ e σ0 σ K=hop P G ⟨d, .convert s t x,ty,pos,af,g⟩ e σ0 σ K:=nr rfl
theorem A5t{f:FuncId}{caps:Array Operand}{K:AV ->AS ->Prop} :gX P G ⟨d, .makeFunc (.func f) #[] caps,ty,pos,af,g⟩ e σ0 σ K=hop P G ⟨d, .makeFunc (.func f) #[] caps,ty,pos,af,g⟩ e σ0 σ K:=nr rfl
theorem D2r{f:FuncId}{x:Operand}{K:AV ->AS ->Prop} :gX P G ⟨d, .makeFunc (.func f) #[x] #[],ty,pos,af,g⟩ e σ0 σ K=hop P G ⟨d, .makeFunc (.func f) #[x] #[],ty,pos,af,g⟩ e σ0 σ K:=nr rfl
theorem C0s{t:TypeId}{x:Operand}{lo hi:Option Operand}{K:AV ->AS ->Prop} :gX P G ⟨d, .slice t x lo hi none,ty,pos,af,g⟩ e σ0 σ K=hop P G ⟨d, .slice t x lo hi none,ty,pos,af,g⟩ e σ0 σ K:=nr rfl
theorem A2g{t:TypeId}{x:Operand}{i:Nat}{K:AV ->AS ->Prop} :gX P G ⟨d, .fieldAddr t x i,ty,pos,af,g⟩ e σ0 σ K=hop P G ⟨d, .fieldAddr t x i,ty,pos,af,g⟩ e σ0 σ K:=nr rfl
theorem C0q{t:TypeId}{x:Operand}{i:Nat}{K:AV ->AS ->Prop} :gX P G ⟨d, .field t x i,ty,pos,af,g⟩ e σ0 σ K=hop P G ⟨d, .field t x i,ty,pos,af,g⟩ e σ0 σ K:=nr rfl
theorem A2h{t:TypeId}{x i:Operand}{K:AV ->AS ->Prop} :gX P G ⟨d, .indexAddr t x i,ty,pos,af,g⟩ e σ0 σ K=hop P G ⟨d, .indexAddr t x i,ty,pos,af,g⟩ e σ0 σ K:=nr rfl
theorem C0r{t:TypeId}{x i:Operand}{K:AV ->AS ->Prop} :gX P G ⟨d, .index t x i,ty,pos,af,g⟩ e σ0 σ K=hop P G ⟨d, .index t x i,ty,pos,af,g⟩ e σ0 σ K:=nr rfl
theorem A9v{x:Operand}{i:Nat}{K:AV ->AS ->Prop} :gX P G ⟨d, .extract x i,ty,pos,af,g⟩ e σ0 σ K=hop P G ⟨d, .extract x i,ty,pos,af,g⟩ e σ0 σ K:=nr rfl
theorem C7j{f:Operand}{args:Array Operand}{ts:Array TypeId}{K:AV ->AS ->Prop} :gX P G ⟨d, .call ⟨.value f,args,ts⟩,ty,pos,af,g⟩ e σ0 σ K=hop P G ⟨d, .call ⟨.value f,args,ts⟩,ty,pos,af,g⟩ e σ0 σ K:=nr rfl
theorem D2p{args:Array Operand}{ts:Array TypeId}{K:AV ->AS ->Prop} :gX P G ⟨d, .call ⟨.builtin .len,args,ts⟩,ty,pos,af,g⟩ e σ0 σ K=hop P G ⟨d, .call ⟨.builtin .len,args,ts⟩,ty,pos,af,g⟩ e σ0 σ K:=nr rfl
theorem D2o{args:Array Operand}{ts:Array TypeId}{K:AV ->AS ->Prop} :gX P G ⟨d, .call ⟨.builtin .cap,args,ts⟩,ty,pos,af,g⟩ e σ0 σ K=hop P G ⟨d, .call ⟨.builtin .cap,args,ts⟩,ty,pos,af,g⟩ e σ0 σ K:=nr rfl
theorem D2t{args:Array Operand}{ts:Array TypeId}{K:AV ->AS ->Prop} :gX P G ⟨d, .call ⟨.builtin .unsafeSliceData,args,ts⟩,ty,pos,af,g⟩ e σ0 σ K=hop P G ⟨d, .call ⟨.builtin .unsafeSliceData,args,ts⟩,ty,pos,af,g⟩ e σ0 σ K:=nr rfl
theorem D2q{args:Array Operand}{ts:Array TypeId}{K:AV ->AS ->Prop} :gX P G ⟨d, .call ⟨.builtin .max,args,ts⟩,ty,pos,af,g⟩ e σ0 σ K=hop P G ⟨d, .call ⟨.builtin .max,args,ts⟩,ty,pos,af,g⟩ e σ0 σ K:=nr rfl
theorem D2s{args:Array Operand}{ts:Array TypeId}{K:AV ->AS ->Prop} :gX P G ⟨d, .call ⟨.builtin .min,args,ts⟩,ty,pos,af,g⟩ e σ0 σ K=hop P G ⟨d, .call ⟨.builtin .min,args,ts⟩,ty,pos,af,g⟩ e σ0 σ K:=nr rfl
theorem A2i{t:TypeId}{x y:Operand}{K:AV ->AS ->Prop} :gX P G ⟨d, .makeSlice t x y,ty,pos,af,g⟩ e σ0 σ K=hop P G ⟨d, .makeSlice t x y,ty,pos,af,g⟩ e σ0 σ K:=nr rfl
theorem A5e {l:List Oper} {d:Dum l.toArray} {d':Dum R} {d2:Dum e} {d3:Dum σ} (n:Nat) (I:(Nat ->Bool) ->aS ->AS ->Prop) (hn:uP l.toArray n=true) {hd tl:List Oper} (h1:l.take n=hd) (h2:l.drop n=tl)
  (h0:Inf σ ->I (fun _=>false) e σ) (hs:nW P G I 0 hd) (hq:∀ D e σ,(∀ j,j < n ->D j=true) ->I D e σ ->cP P G l R tl e σ):rN P G l.toArray R e σ d d' d2 d3:=
 .inr (.inr (.inr (.inr ⟨n,I,hn,h0,by subst h1;simpa using hs,by subst h2;simpa using hq⟩)))
end pl
end Go.Av
namespace Go.Av
open Go Go.RowKit
inductive Frz(b n s:Nat)(y:AV):AV ->AV ->Prop
 |same (a:AV):Frz b n s y a a
 |here (E:TypeId):Frz b n s y (.bs b n s E) y
 |tup (l l':List AV) (hl:l.length=l'.length) (h:∀ j (h1:j < l.length) (h2:j < l'.length),Frz b n s y l[j] l'[j]):Frz b n s y (.tup l) (.tup l')
 |agg (l l':List AV) (hl:l.length=l'.length) (h1:∀ c,c ∈ l' ->one c=true) (h:∀ j (h1:j < l.length) (h2:j < l'.length),Frz b n s y l[j] l'[j]):Frz b n s y (.agg l) (.agg l')
def Has(b n s:Nat)(r:AV):Prop:=∀ K v,VR K r v ->∃ cap E,K.row b=some (cap,s,E) /\ n <=cap /\ cap <=maxLen
theorem Has.bs{b n s:Nat}{E:TypeId} :Has b n s (.bs b n s E):=fun K v h=>by
 cases h with
 |bs _ _ _ cap E hr hn hm=>exact⟨cap,E,hr,hn,hm⟩
theorem Has.tup{b n s:Nat}{l:List AV}(j:Nat)(hj:j < l.length)(h:Has b n s l[j]):Has b n s (.tup l):=fun K v hv=>by
 cases hv with
 |tup _ vs hl hvv=>exact h K _ (hvv j hj)
theorem Has.agg{b n s:Nat}{l:List AV}(j:Nat)(hj:j < l.length)(h:Has b n s l[j]):Has b n s (.agg l):=fun K v hv=>by
 cases hv with
 |agg _ vs hl h1 hvv=>exact h K _ (hvv j hj)
structure A3u(n s:Nat)(xs cs:List AV):Prop where
 len:xs.length=n
 flat:xs.flatMap flat=cs
 item:∀ a,a ∈ xs -> (Av.flat a).length=s /\ isv a=true
theorem A3u.size{n s:Nat}{xs cs:List AV}(h:A3u n s xs cs):cs.length=n*s:=by
 rw[<- h.flat,bE (sz:=s) xs (fun a ha=> (h.item a ha).1),h.len]
def AS.froze(σ:AS)(b n s:Nat):AS:=(σ.delBox b).setTip b (n,s)
theorem kI{G:Nat ->AV}{K:aW}{σ:AS}{w:World}(hr:bR G K σ w){b n s:Nat}{xs cs:List AV}(hb:σ.box b=some cs)(hi:A3u n s xs cs){cap:Nat}{E:TypeId}(hrow:K.row b=some (cap,s,E))(hn:n <=cap)(hm:cap <=maxLen):
  ∃ K',K.le K' /\ bR G K' (σ.froze b n s) w /\ ∀ r r' v,Frz b n s (.sl (.own b) xs []) r r' ->VR K r v ->VR K' r' v:=by
 obtain⟨K',h1,h2,h3,f,h4,h5,h6⟩:=hr.frozen hb hrow hi.size hn
 refine⟨K',h1,h2,fun r r' v hf=> ?_⟩
 induction hf generalizing v with
 |same a=>exact fun hv=>hv.mono h1
 | here E0=>
  intro hv
  cases hv with
  | bs _ _ _ cap2 E2 hr2 hn2 hm2=>
   rw[hrow]at hr2
   simp only[Option.some.injEq,Prod.mk.injEq]at hr2
   obtain⟨rfl,_,rfl⟩:=hr2
   have hfl:((xs++[]).flatMap flat)=cs:=by rw[List.append_nil,hi.flat]
   have:=VR.sl (K:=K') (.own b) xs [] s b 0 cap f
    (fun e he=>by
      rw[List.append_nil]at he
      refine⟨(hi.item e he).1,(hi.item e he).2,fun c hc=>h6 c ?_⟩
      rw[<- hi.flat];exact List.mem_flatMap.2 ⟨e,he,hc⟩)
    (by rw[hi.len];simp;exact hn) hm
    (fun j hj=>by rw[hfl]at hj;rw[Nat.zero_add];exact h4 j hj)
    (fun j hj=>by
      have hj':j < cs.length:=by rw[hfl]at hj;exact hj
      have e1:((xs++[]).flatMap flat)[j]=cs[j]:=by congr 1
      rw[e1];exact h5 j hj')
    ⟨rfl,rfl,E,s,h3⟩
   rw[hi.len]at this
   exact this
 | tup l l' hl h ih=>
  intro hv
  cases hv with
  |tup _ vs hvl hvv=>exact .tup l' vs (by omega) fun j hj=>ih j (by omega) hj _ (hvv j (by omega))
 | agg l l' hl h1' h ih=>
  intro hv
  cases hv with
  |agg _ vs hvl ho hvv=>exact .agg l' vs (by omega) h1' fun j hj=>ih j (by omega) hj _ (hvv j (by omega))
inductive vQ(b n s:Nat)(y:AV):List AV ->List AV ->Prop
 |nil:vQ b n s y [] []
 |cons {a a':AV} {l l':List AV} (h:Frz b n s y a a') (t:vQ b n s y l l'):vQ b n s y (a::l) (a'::l')
theorem vQ.refl{b n s:Nat}{y:AV} :∀ (l:List AV),vQ b n s y l l
 |[]=> .nil
 |a::l=> .cons (.same a) (vQ.refl l)
def B6w(b n s:Nat)(l:List AV):Prop:=∃ a,a ∈ l /\ Has b n s a
theorem B6w.row{b n s:Nat}{K:aW} :∀ {l:List AV} {vs:List Value},lK K l vs ->B6w b n s l ->∃ cap E,K.row b=some (cap,s,E) /\ n <=cap /\ cap <=maxLen
 | a::l,v::vs,⟨h1,h2⟩,⟨x,hx,hh⟩=>by
  rcases List.mem_cons.1 hx with rfl|hx
  ·exact hh K v h1
  ·exact B6w.row h2 ⟨x,hx,hh⟩
 |[],_,_,⟨x,hx,_⟩=>by cases hx
 |_::_,[],h,_=>h.elim
theorem vQ.vrl{b n s:Nat}{y:AV}{K K':aW}(hk:∀ r r' v,Frz b n s y r r' ->VR K r v ->VR K' r' v):∀ {l l':List AV} {vs:List Value},vQ b n s y l l' ->lK K l vs ->lK K' l' vs
 |[],_,[], .nil,_=>trivial
 |a::l,_,v::vs, .cons h t,⟨h1,h2⟩=> ⟨hk _ _ _ h h1,vQ.vrl hk t h2⟩
 |[],_,_::_, .nil,h=>h.elim
 |_::_,_,[],_,h=>h.elim
theorem aJ.freeze {P:Program} {G:Nat ->AV} {f:FuncId} {args args':List AV} {σ:AS} {Q:AV ->AS ->Prop} (b n s:Nat) (xs cs:List AV) (hb:σ.box b=some cs) (hi:A3u n s xs cs) (hh:B6w b n s args)
  (hf:vQ b n s (.sl (.own b) xs []) args args') (h:aJ P G f args' (σ.froze b n s) Q):aJ P G f args σ Q:=
 ⟨h.1,fun K w vals hr hv=>by
   obtain⟨cap,E,g1,g2,g3⟩:=B6w.row hv hh
   obtain⟨K',k1,k2,k3⟩:=kI hr hb hi g1 g2 g3
   exact(h.2 K' w vals k2 (vQ.vrl k3 hf hv)).mono fun e w' ⟨v,r,σ',K2,he,hQ,h1,h2,h3⟩=> ⟨v,r,σ',K2,he,hQ,h1,h2,k1.trans h3⟩⟩
theorem AS.froze_le{σ0 σ:AS}(h:σ0.le σ){b n s:Nat}(hb:σ0.box b=none)(ht:σ0.tip b=none):σ0.le (σ.froze b n s):=by
 have h1:σ0.le (σ.delBox b):=⟨fun i cs hi=>by
  show(if i=b then none else σ.box i)=some cs
  have hne:i ≠ b:=fun e=>by subst e;rw[hb]at hi;cases hi
  rw[if_neg hne];exact h.box _ _ hi,fun i m hi=>h.tip _ _ hi,h.ty⟩
 exact h1.setTip ht _
end Go.Av
set_option linter.defProp false
namespace Go.Av
open Go
theorem C6h:bV .skip=[]:=nr rfl
theorem C6g{i:Nat} :bV (.exit i)=[]:=nr rfl
theorem D1z:bV .ret=[]:=nr rfl
theorem B4a{w:String} :bV (.refuse w)=[]:=nr rfl
theorem B8t{f:Operand}{ps:Array Tmp}{a b:Code} :bV (.rangeFunc f ps a b)=[]:=nr rfl
theorem B2r:qG []= .tup []:=nr rfl
theorem B7i{a b:AV}{l:List AV} :qG (a::b::l)= .tup (a::b::l):=nr rfl
def bp0:=And.intro (And.intro (And.intro (And.intro @D9b @C4y) (And.intro @D5h @D5f)) (And.intro (And.intro @D0s @D5j) (And.intro @D5i @D9a))) (And.intro (And.intro (And.intro @D5k @D8z) (And.intro @D5g @D6u)) (And.intro (And.intro @D2i @C9c) (And.intro @C2r @A9m)))
def bp1:=And.intro (And.intro (And.intro (And.intro @C6p @B9k) (And.intro @D2b @B9h)) (And.intro (And.intro @B4g @C6n) (And.intro @C4u @C4t))) (And.intro (And.intro (And.intro @D3v @B2v) (And.intro @rK @B1l)) (And.intro (And.intro @C5v @B2f) (And.intro @B2g @D0p)))
def bp2:=And.intro (And.intro (And.intro (And.intro @D4b @C2s) (And.intro @D4d @C8v)) (And.intro (And.intro @D7x @C8x) (And.intro @A2x @A6k))) (And.intro (And.intro (And.intro @D4a @B0h) (And.intro @C8w @D4e)) (And.intro (And.intro @B5j @B0g) (And.intro @C9b @A6i)))
def bp3:=And.intro (And.intro (And.intro (And.intro @C8y @A6j) (And.intro @C8z @B5k)) (And.intro (And.intro @D7z @D8a) (And.intro @D8c @D3y))) (And.intro (And.intro (And.intro @D2k @C0l) (And.intro @D2l @C7b)) (And.intro (And.intro @D6o @C7d) (And.intro @A2f @D2j)))
def bp4:=And.intro (And.intro (And.intro (And.intro @A9t @C7c) (And.intro @D2m @B4n)) (And.intro (And.intro @A9s @C7g) (And.intro @A5q @C7e))) (And.intro (And.intro (And.intro @A5r @C7f) (And.intro @B4o @D6q)) (And.intro (And.intro @D6r @D6t) (And.intro @D2h @D3d)))
def bp5:=And.intro (And.intro (And.intro (And.intro @C7u @C8e) (And.intro @B4y @C8f)) (And.intro (And.intro @C1m @D3k) (And.intro @C1o @zA))) (And.intro (And.intro (And.intro @A2s @C8d) (And.intro @A6a @C1n)) (And.intro (And.intro @C8g @B0b) (And.intro @A5z @C1r)))
def bp6:=And.intro (And.intro (And.intro (And.intro @A2q @C1p) (And.intro @A2r @C1q)) (And.intro (And.intro @B0c @D3m) (And.intro @D3n @D3p))) (And.intro (And.intro (And.intro @C8c @C1s) (And.intro @B4x @B5l)) (And.intro (And.intro @C2t @A6l) (And.intro @D3z @D8b)))
def bp7:=And.intro (And.intro (And.intro (And.intro @D6s @D3o) (And.intro @D2y @D2r)) (And.intro (And.intro @C4p @C4r) (And.intro @D5c @C4q))) (And.intro (And.intro (And.intro @B8f @C4l) (And.intro @B8e @C4k)) (And.intro (And.intro @D0r @C9a) (And.intro @D4c @A0o)))
def bp8:=And.intro (And.intro (And.intro (And.intro @D7y @D8d) (And.intro @D4f @D6p)) (And.intro (And.intro @D6v @D3l) (And.intro @D3q @C8h))) (And.intro (And.intro (And.intro @D3a @C7p) (And.intro @C1a @C7h)) (And.intro (And.intro @C7r @B4r) (And.intro @C7s @C0u)))
def bp9:=And.intro (And.intro (And.intro (And.intro @D2u @C0w) (And.intro @yY @A2l)) (And.intro (And.intro @C7q @A5w) (And.intro @C0v @C7t))) (And.intro (And.intro (And.intro @A9w @A5v) (And.intro @C0z @A2j)) (And.intro (And.intro @C0x @A2k) (And.intro @C0y @A9x)))
def D9s:=And.intro (And.intro (And.intro (And.intro @D2w @D2x) (And.intro @D2z @C7o)) (And.intro (And.intro @D2v @D3b) (And.intro @C9j @D4h))) (And.intro (And.intro (And.intro @C9l @C9k) (And.intro @D0j @C0t)) (And.intro (And.intro @C7l @B4q) (And.intro @C7m @C0n)))
def D9t:=And.intro (And.intro (And.intro (And.intro @D2n @C0p) (And.intro @yX @A2i)) (And.intro (And.intro @C7k @A5u) (And.intro @C0o @C7n))) (And.intro (And.intro (And.intro @A9u @A5t) (And.intro @C0s @A2g)) (And.intro (And.intro @C0q @A2h) (And.intro @C0r @A9v)))
def D9u:=And.intro (And.intro (@D2p) (And.intro @D2q @D2s)) (And.intro (@C7j) (And.intro @D2o @D2t))
def bp:=And.intro (And.intro (And.intro (@bp0) (And.intro @bp1 @bp2)) (And.intro (@bp3) (And.intro @bp4 @bp5))) (And.intro (And.intro (@bp6) (And.intro @bp7 @bp8)) (And.intro (And.intro @bp9 @D9s) (And.intro @D9t @D9u)))
def bq0:=And.intro (And.intro (And.intro (And.intro @C1b @B4s) (And.intro @C5m @C5n)) (And.intro (And.intro @B7q @B7p) (And.intro @B3c @B7o))) (And.intro (And.intro (And.intro @C6x @C0e) (And.intro @D2f @B3x)) (And.intro (And.intro @C5t @C5s) (And.intro @D1s @C5r)))
def bq1:=And.intro (And.intro (And.intro (And.intro @D8o @A9a) (And.intro @A5b @B0l)) (And.intro (And.intro @A6q @C5u) (And.intro @C2p @C8u))) (And.intro (And.intro (And.intro @C8t @A1t) (And.intro @B8i @D1v)) (And.intro (And.intro @D5v @D5y) (And.intro @D5x @B8h)))
def bq2:=And.intro (And.intro (And.intro (And.intro @C5y @C5z) (And.intro @B2s @C2b)) (And.intro (And.intro @B7j @C2c) (And.intro @C9n @C2z))) (And.intro (And.intro (And.intro @B2p @C6o) (And.intro @D2c @A4h)) (And.intro (And.intro @C0d @jJ) (And.intro @C1t @A8i)))
def bq3:=And.intro (And.intro (And.intro (And.intro @A1b @B7a) (And.intro @B7b @B2j)) (And.intro (And.intro @A0s @A4b) (And.intro @A4c @A3z))) (And.intro (And.intro (And.intro @A9z @B4v) (And.intro @A9y @D6x)) (And.intro (And.intro @D7k @D7e) (And.intro @D7g @D7h)))
def bq4:=And.intro (And.intro (And.intro (And.intro @D6z @D7f) (And.intro @D7d @D7c)) (And.intro (And.intro @D7b @D7a) (And.intro @D6y @E0d))) (And.intro (And.intro (And.intro @D7l @D7i) (And.intro @D7j @D8g)) (And.intro (And.intro @D8i @D8f) (And.intro @D8h @C5h)))
def bq5:=And.intro (And.intro (And.intro (And.intro @C5i @C5l) (And.intro @C5k @C6e)) (And.intro (And.intro @C6f @B3z) (And.intro @B2a @A8g))) (And.intro (And.intro (And.intro @A4i @C1c) (And.intro @B2l @B7w)) (And.intro (And.intro @B2q @A8e) (And.intro @B9t @D7r)))
def bq6:=And.intro (And.intro (And.intro (And.intro @C1v @C1y) (And.intro @D7p @D7q)) (And.intro (And.intro @qR @C3z) (And.intro @B5m @B0j))) (And.intro (And.intro (And.intro @B7k @B7l) (And.intro @B2u @B7m)) (And.intro (And.intro @B2k @B7c) (And.intro @A8o @B5x)))
def bq7:=And.intro (And.intro (And.intro (And.intro @B9l @B4i) (And.intro @B9n @B9r)) (And.intro (And.intro @B9o @C6t) (And.intro @B9p @C6s))) (And.intro (And.intro (And.intro @C6r @A5k) (And.intro @A9n @C7x)) (And.intro (And.intro @C1j @C7y) (And.intro @C8b @C7z)))
def bq8:=And.intro (And.intro (And.intro (And.intro @D3i @C8a) (And.intro @D3h @D3g)) (And.intro (And.intro @B0a @B4w) (And.intro @A8a @A8c))) (And.intro (And.intro (And.intro @A8b @B2n) (And.intro @B2m @B8r)) (And.intro (And.intro @B8s @D7o) (And.intro @D7n @B5b)))
def bq9:=And.intro (And.intro (And.intro (And.intro @D7s @D3f) (And.intro @C6q @C1l)) (And.intro (And.intro @B9q @A0t) (And.intro @A4a @A3y))) (And.intro (And.intro (And.intro @A8f @C1d) (And.intro @zN @C3q)) (And.intro (And.intro @A8n @C2o) (And.intro @B2x @B6e)))
def D9v:=And.intro (And.intro (And.intro (And.intro @B5y @C4c) (And.intro @B8d @B3r)) (And.intro (And.intro @B3q @B7y) (And.intro @B8c @B3p))) (And.intro (And.intro (And.intro @C5q @B8b) (And.intro @B3s @B7x)) (And.intro (And.intro @B8a @B2i) (And.intro @B6y @A8h)))
def D9w:=And.intro (And.intro (And.intro (And.intro @B7r @D5w) (And.intro @C1k @B7z)) (And.intro (And.intro @B2h @D3s) (And.intro @D3r @D5e))) (And.intro (And.intro (And.intro @C8o @C8p) (And.intro @C1x @C1w)) (And.intro (And.intro @A4j @C2k) (And.intro @B3w @B5v)))
def D9x:=And.intro (And.intro (And.intro @D4r @C3p) (And.intro (@C3r) (And.intro @C6a @C6b))) (And.intro (And.intro @D1x @D1w) (And.intro (@B8q) (And.intro @C6c @B8p)))
def bq:=And.intro (And.intro (And.intro (@bq0) (And.intro @bq1 @bq2)) (And.intro (@bq3) (And.intro @bq4 @bq5))) (And.intro (And.intro (@bq6) (And.intro @bq7 @bq8)) (And.intro (And.intro @bq9 @D9v) (And.intro @D9w @D9x)))
def br0:=And.intro (And.intro (And.intro (And.intro @List.getD_cons_zero.{0} @List.getD_cons_succ.{0}) (And.intro @List.getD_nil.{0} @List.map_cons.{0,0})) (And.intro (And.intro @List.map_nil.{0,0} @List.getElem?_cons_zero.{0}) (And.intro @List.getElem?_cons_succ.{0} @List.getElem?_nil.{0}))) (And.intro (And.intro (And.intro @List.take_zero.{0} @List.take_length.{0}) (And.intro @List.take_succ_cons.{0} @List.take_nil.{0})) (And.intro (And.intro @List.drop_zero.{0} @List.drop_succ_cons.{0}) (And.intro @List.drop_nil.{0} @List.length_cons.{0})))
def br1:=And.intro (And.intro (And.intro (And.intro @List.length_nil.{0} @List.head?_cons.{0}) (And.intro @List.head?_nil.{0} @List.cons_append.{0})) (And.intro (And.intro @List.nil_append.{0} @List.append_nil.{0}) (And.intro @List.all_cons.{0} @List.all_nil.{0}))) (And.intro (And.intro (And.intro @List.range_zero @List.length_map.{0,0}) (And.intro @List.getElem?_map.{0,0} @List.size_toArray.{0})) (And.intro (And.intro @List.getElem?_toArray.{0} @List.toList_toArray.{0}) (And.intro @Option.map_some.{0,0} @Option.map_none.{0,0})))
def br2:=And.intro (And.intro (And.intro (And.intro @Option.bind_some.{0,0} @Option.bind_none.{0,0}) (And.intro @Option.isSome_some.{0} @Option.isSome_none.{0})) (And.intro (And.intro @Option.some.injEq.{0} @Nat.zero_add) (And.intro @Nat.add_zero @Nat.le_refl))) (And.intro (And.intro (And.intro @Nat.add_one_ne_zero @Int.toNat_natCast) (And.intro @Int.natCast_nonneg @not_true_eq_false)) (And.intro (And.intro @not_false_eq_true @and_true) (And.intro @true_and @and_false)))
def br3:=And.intro (And.intro (And.intro (And.intro @false_and @or_true) (And.intro @true_or @or_false)) (And.intro (And.intro @false_or @Bool.and_true) (And.intro @Bool.true_and @Bool.and_false))) (And.intro (And.intro (And.intro @Bool.false_and @Bool.false_eq_true) (And.intro @Bool.true_eq_false @Bool.not_true)) (And.intro (And.intro @Bool.not_false @beq_self_eq_true.{0}) (And.intro @decide_true @decide_false)))
def br4:=And.intro (And.intro (And.intro (And.intro @decide_eq_true_eq @List.contains_cons.{0}) (And.intro @List.contains_nil.{0} @Bool.or_true)) (And.intro (And.intro @Bool.true_or @Bool.or_false) (And.intro @Bool.false_or @List.filterMap_cons.{0,0}))) (And.intro (And.intro (And.intro @List.filterMap_nil.{0,0} @List.range_succ) (And.intro @List.append_eq.{0} @List.mem_cons.{0})) (And.intro (And.intro @List.not_mem_nil.{0} @List.filter_cons.{0}) (And.intro @List.filter_nil.{0} @qG.eq_1)))
def br5:=And.intro (And.intro (And.intro (And.intro @B2r @B7i) (And.intro @bsk.eq_1 @bsk.eq_2)) (And.intro (And.intro @bV.eq_1 @bV.eq_2) (And.intro @bV.eq_3 @bV.eq_4))) (And.intro (And.intro (And.intro @bV.eq_5 @C6h) (And.intro @C6g @D1z)) (And.intro (And.intro @B4a @B8t) (And.intro @bM.eq_1 @kK.eq_1)))
def br6:=And.intro (And.intro (And.intro (@kK.eq_2) (And.intro @kK.eq_3 @rsk.eq_1)) (And.intro (@ne_eq.{1}) (And.intro @if_true.{1} @if_false.{1}))) (And.intro (And.intro (@exists_eq_left'.{1}) (And.intro @forall_const.{0} @forall_const.{1})) (And.intro (And.intro @forall_eq.{1} @ne_eq.{0}) (And.intro @if_true.{0} @if_false.{0})))
def br:=And.intro (And.intro (@br0) (And.intro @br1 @br2)) (And.intro (And.intro @br3 @br4) (And.intro @br5 @br6))
class Spl (X:Prop) (A B:outParam Prop):Prop where
 go:A ->B ->X
instance (priority:=2000) {p:Prop} [Decidable p] {A B:Prop} {d:Dum A} {d':Dum B} :Spl (mL (.bool (decide p)) A B d d') (decide p=true -> ¬ ¬ p ->A) (decide p=false -> ¬ p ->B):=⟨A8z⟩
instance (priority:=2000) {p:Prop} [Decidable p] {A B:Prop} {d:Dum A} {d':Dum B} :Spl (gW (some (decide p)) A B d d') (decide p=true -> ¬ ¬ p ->A) (decide p=false -> ¬ p ->B):=⟨C6w⟩
instance {t:Bool} {A B:Prop} {d:Dum A} {d':Dum B} :Spl (mL (.bool t) A B d d') (t=true ->A) (t=false ->B):=⟨A5c⟩
instance {t:Bool} {A B:Prop} {d:Dum A} {d':Dum B} :Spl (gW (some t) A B d d') (t=true ->A) (t=false ->B):=⟨C0f⟩
instance {t:Bool} {a b:AV} {F:AV ->Prop} {d:Dum a} {d':Dum b} {d2:Dum F} :Spl (uO (.bool t) a b F d d' d2) (t=true ->F a) (t=false ->F b):=⟨A6r⟩
theorem xs{X A B:Prop}[h:Spl X A B](a:A)(b:B):X:=h.go a b
def lr:= @AS.le.refl
def aO:= @aL
def q8h:= @fA
def q8i:= @bU
def aP:= @C4b
def aR:= @B8v
def ls:= @bO
def lt:= @D7t
def lf:= @AS.le.fresh
def fb:=And.intro @dI (And.intro @B4j @C0b)
structure Hid(Q:Prop):Prop where
 out:Q
theorem wj{P Q:Prop}(k:Q)(h:Hid Q ->P:=by(intro hq;first|refine aP ?_|refine aD ?_|((with_reducible refine And.intro ?_ ?_);omega)|refine aA (d':=⟨⟩) ?_|refine aR (by kernel_rfl) ?_|refine aO ?_ (by repeat' first|exact lr _|assumption|refine ls ?_ ?_|refine lt ?_ ?_|simp only[*];done|simp only[fb, *,not_false_eq_true,and_self];done|exact lf ‹_› (by simp only[*]))|refine aC ?_ (by repeat' first|exact lr _|assumption|refine ls ?_ ?_|refine lt ?_ ?_|simp only[*];done|simp only[fb, *,not_false_eq_true,and_self];done|exact lf ‹_› (by simp only[*]))|fail);exact hq.out):P:=h ⟨k⟩
theorem wi{P Q:Prop}(k:Q)(h:Hid Q ->P:=by(intro hq;first|refine aP ?_|refine aD ?_|((with_reducible refine And.intro ?_ ?_);omega)|refine aA (d':=⟨⟩) ?_|refine aO ?_ (by repeat' first|exact lr _|assumption|refine ls ?_ ?_|refine lt ?_ ?_|simp only[*];done|simp only[fb, *,not_false_eq_true,and_self];done|exact lf ‹_› (by simp only[*]))|refine aC ?_ (by repeat' first|exact lr _|assumption|refine ls ?_ ?_|refine lt ?_ ?_|simp only[*];done|simp only[fb, *,not_false_eq_true,and_self];done|exact lf ‹_› (by simp only[*]))|fail);exact hq.out):P:=h ⟨k⟩
theorem wn{P Q:Prop}(k:Q)(h:Hid Q ->P:=by(intro hq;first|refine q8h ?_|refine q8i ?_|fail);exact hq.out):P:=h ⟨k⟩
theorem wz{P Q:Prop}(k:Q)(h:Hid Q ->P:=by(intro hq;first|refine D4q ?_|refine D1y ?_|fail);exact hq.out):P:=h ⟨k⟩
theorem wp{A P Q:Prop}(c:A)(k:Q)(h:A ->Hid Q ->P:=by(intro hc hq;first|refine aN.use hc ?_|refine aN.head hc ?_|fail);exact hq.out):P:=h c ⟨k⟩
end Go.Av
set_option maxRecDepth 100000
namespace Go.Proofs.YthoenjlenkpnnaaDoor
open Go Go.Av
theorem mD:tk Tryd.prog 3=some (false,1) /\ sk Tryd.prog 3= .int .i64 /\ (Tryd.prog.underlying 3).isSome=true /\ el Tryd.prog 3=none /\ zc Tryd.prog 3=some [.int .i64 0] /\ dL Tryd.prog 3=some 8:=⟨by kernel_rfl,by kernel_rfl,by kernel_rfl,by kernel_rfl,by kernel_rfl,by kernel_rfl⟩
theorem mE:tk Tryd.prog 4=some (false,1) /\ sk Tryd.prog 4= .bool /\ (Tryd.prog.underlying 4).isSome=true /\ el Tryd.prog 4=none /\ zc Tryd.prog 4=some [.bool false] /\ dL Tryd.prog 4=some 1:=⟨by kernel_rfl,by kernel_rfl,by kernel_rfl,by kernel_rfl,by kernel_rfl,by kernel_rfl⟩
theorem mA:tk Tryd.prog 5=some (false,1) /\ sk Tryd.prog 5= .int .u8 /\ (Tryd.prog.underlying 5).isSome=true /\ el Tryd.prog 5=none /\ zc Tryd.prog 5=some [.int .u8 0] /\ dL Tryd.prog 5=some 1:=⟨by kernel_rfl,by kernel_rfl,by kernel_rfl,by kernel_rfl,by kernel_rfl,by kernel_rfl⟩
theorem lG:tk Tryd.prog 9=some (false,1) /\ sk Tryd.prog 9= .str /\ (Tryd.prog.underlying 9).isSome=true /\ el Tryd.prog 9=none /\ zc Tryd.prog 9=some [.str []] /\ dL Tryd.prog 9=some 16:=⟨by kernel_rfl,by kernel_rfl,by kernel_rfl,by kernel_rfl,by kernel_rfl,by kernel_rfl⟩
theorem C4g:tk Tryd.prog 21=some (false,1) /\ sk Tryd.prog 21= .int .i32 /\ (Tryd.prog.underlying 21).isSome=true /\ el Tryd.prog 21=none /\ zc Tryd.prog 21=some [.int .i32 0] /\ dL Tryd.prog 21=some 4:=⟨by kernel_rfl,by kernel_rfl,by kernel_rfl,by kernel_rfl,by kernel_rfl,by kernel_rfl⟩
theorem sJ:tk Tryd.prog 22=some (false,1) /\ sk Tryd.prog 22= .sl 48 /\ (Tryd.prog.underlying 22).isSome=true /\ el Tryd.prog 22=some 48 /\ zc Tryd.prog 22=some [.nil] /\ dL Tryd.prog 22=some 24 /\ gK Tryd.prog 22=some (48,5,48):=⟨by kernel_rfl,by kernel_rfl,by kernel_rfl,by kernel_rfl,by kernel_rfl,by kernel_rfl,by kernel_rfl⟩
theorem oA:tk Tryd.prog 23=some (false,1) /\ sk Tryd.prog 23= .sl 46 /\ (Tryd.prog.underlying 23).isSome=true /\ el Tryd.prog 23=some 46 /\ zc Tryd.prog 23=some [.nil] /\ dL Tryd.prog 23=some 24 /\ gK Tryd.prog 23=some (46,8,88):=⟨by kernel_rfl,by kernel_rfl,by kernel_rfl,by kernel_rfl,by kernel_rfl,by kernel_rfl,by kernel_rfl⟩
theorem iB:tk Tryd.prog 24=some (false,1) /\ sk Tryd.prog 24= .sl 53 /\ (Tryd.prog.underlying 24).isSome=true /\ el Tryd.prog 24=some 53 /\ zc Tryd.prog 24=some [.nil] /\ dL Tryd.prog 24=some 24 /\ gK Tryd.prog 24=some (53,7,104):=⟨by kernel_rfl,by kernel_rfl,by kernel_rfl,by kernel_rfl,by kernel_rfl,by kernel_rfl,by kernel_rfl⟩
theorem xY:tk Tryd.prog 26=some (true,3) /\ sk Tryd.prog 26= .st /\ (Tryd.prog.underlying 26).isSome=true /\ el Tryd.prog 26=none /\ zc Tryd.prog 26=some [.nil, .nil, .nil] /\ dL Tryd.prog 26=some 72 /\ iN Tryd.prog 26=some [(0,1),(1,1),(2,1)] /\ lS Tryd.prog 26 0=some (0,false,1) /\ lS Tryd.prog 26 1=some (1,false,1) /\ lS Tryd.prog 26 2=some (2,false,1):=⟨by kernel_rfl,by kernel_rfl,by kernel_rfl,by kernel_rfl,by kernel_rfl,by kernel_rfl,by kernel_rfl,by kernel_rfl,by kernel_rfl,by kernel_rfl⟩
theorem lJ:tk Tryd.prog 27=some (false,1) /\ sk Tryd.prog 27= .sl 5 /\ (Tryd.prog.underlying 27).isSome=true /\ el Tryd.prog 27=some 5 /\ zc Tryd.prog 27=some [.nil] /\ dL Tryd.prog 27=some 24 /\ gK Tryd.prog 27=some (5,1,1):=⟨by kernel_rfl,by kernel_rfl,by kernel_rfl,by kernel_rfl,by kernel_rfl,by kernel_rfl,by kernel_rfl⟩
theorem B6d:tk Tryd.prog 30=some (false,1) /\ sk Tryd.prog 30= .int .i64 /\ (Tryd.prog.underlying 30).isSome=true /\ el Tryd.prog 30=none /\ zc Tryd.prog 30=some [.int .i64 0] /\ dL Tryd.prog 30=some 8:=⟨by kernel_rfl,by kernel_rfl,by kernel_rfl,by kernel_rfl,by kernel_rfl,by kernel_rfl⟩
theorem tR:tk Tryd.prog 43=some (false,1) /\ sk Tryd.prog 43= .int .u8 /\ (Tryd.prog.underlying 43).isSome=true /\ el Tryd.prog 43=none /\ zc Tryd.prog 43=some [.int .u8 0] /\ dL Tryd.prog 43=some 1:=⟨by kernel_rfl,by kernel_rfl,by kernel_rfl,by kernel_rfl,by kernel_rfl,by kernel_rfl⟩
theorem kN:tk Tryd.prog 44=some (false,1) /\ sk Tryd.prog 44= .sl 3 /\ (Tryd.prog.underlying 44).isSome=true /\ el Tryd.prog 44=some 3 /\ zc Tryd.prog 44=some [.nil] /\ dL Tryd.prog 44=some 24 /\ gK Tryd.prog 44=some (3,1,8):=⟨by kernel_rfl,by kernel_rfl,by kernel_rfl,by kernel_rfl,by kernel_rfl,by kernel_rfl,by kernel_rfl⟩
theorem oO:tk Tryd.prog 46=some (true,8) /\ sk Tryd.prog 46= .st /\ (Tryd.prog.underlying 46).isSome=true /\ el Tryd.prog 46=none /\ zc Tryd.prog 46=some [.int .u8 0, .int .i64 0, .int .i64 0, .int .i64 0, .int .i64 0, .int .i64 0, .str [], .nil] /\ dL Tryd.prog 46=some 88 /\ iN Tryd.prog 46=some [(0,1),(1,1),(2,1),(3,1),(4,1),(5,1),(6,1),(7,1)] /\ lS Tryd.prog 46 0=some (0,false,1) /\ lS Tryd.prog 46 1=some (1,false,1) /\ lS Tryd.prog 46 2=some (2,false,1) /\ lS Tryd.prog 46 3=some (3,false,1) /\ lS Tryd.prog 46 4=some (4,false,1) /\ lS Tryd.prog 46 5=some (5,false,1) /\ lS Tryd.prog 46 6=some (6,false,1) /\ lS Tryd.prog 46 7=some (7,false,1):=⟨by kernel_rfl,by kernel_rfl,by kernel_rfl,by kernel_rfl,by kernel_rfl,by kernel_rfl,by kernel_rfl,by kernel_rfl,by kernel_rfl,by kernel_rfl,by kernel_rfl,by kernel_rfl,by kernel_rfl,by kernel_rfl,by kernel_rfl⟩
theorem tS:tk Tryd.prog 48=some (true,5) /\ sk Tryd.prog 48= .st /\ (Tryd.prog.underlying 48).isSome=true /\ el Tryd.prog 48=none /\ zc Tryd.prog 48=some [.str [], .int .i64 0, .int .i64 0, .int .i64 0, .int .i64 0] /\ dL Tryd.prog 48=some 48 /\ iN Tryd.prog 48=some [(0,1),(1,1),(2,1),(3,1),(4,1)] /\ lS Tryd.prog 48 0=some (0,false,1) /\ lS Tryd.prog 48 1=some (1,false,1) /\ lS Tryd.prog 48 2=some (2,false,1) /\ lS Tryd.prog 48 3=some (3,false,1) /\ lS Tryd.prog 48 4=some (4,false,1):=⟨by kernel_rfl,by kernel_rfl,by kernel_rfl,by kernel_rfl,by kernel_rfl,by kernel_rfl,by kernel_rfl,by kernel_rfl,by kernel_rfl,by kernel_rfl,by kernel_rfl,by kernel_rfl⟩
theorem oB:tk Tryd.prog 50=some (false,1) /\ sk Tryd.prog 50= .int .u8 /\ (Tryd.prog.underlying 50).isSome=true /\ el Tryd.prog 50=none /\ zc Tryd.prog 50=some [.int .u8 0] /\ dL Tryd.prog 50=some 1:=⟨by kernel_rfl,by kernel_rfl,by kernel_rfl,by kernel_rfl,by kernel_rfl,by kernel_rfl⟩
theorem lF:tk Tryd.prog 51=some (false,1) /\ sk Tryd.prog 51= .sl 88 /\ (Tryd.prog.underlying 51).isSome=true /\ el Tryd.prog 51=some 88 /\ zc Tryd.prog 51=some [.nil] /\ dL Tryd.prog 51=some 24 /\ gK Tryd.prog 51=some (88,1,4):=⟨by kernel_rfl,by kernel_rfl,by kernel_rfl,by kernel_rfl,by kernel_rfl,by kernel_rfl,by kernel_rfl⟩
theorem jF:tk Tryd.prog 53=some (true,7) /\ sk Tryd.prog 53= .st /\ (Tryd.prog.underlying 53).isSome=true /\ el Tryd.prog 53=none /\ zc Tryd.prog 53=some [.int .u8 0, .bool false, .nil, .str [], .int .i64 0, .nil, .nil] /\ dL Tryd.prog 53=some 104 /\ iN Tryd.prog 53=some [(0,1),(1,1),(2,1),(3,1),(4,1),(5,1),(6,1)] /\ lS Tryd.prog 53 0=some (0,false,1) /\ lS Tryd.prog 53 1=some (1,false,1) /\ lS Tryd.prog 53 2=some (2,false,1) /\ lS Tryd.prog 53 3=some (3,false,1) /\ lS Tryd.prog 53 4=some (4,false,1) /\ lS Tryd.prog 53 5=some (5,false,1) /\ lS Tryd.prog 53 6=some (6,false,1):=⟨by kernel_rfl,by kernel_rfl,by kernel_rfl,by kernel_rfl,by kernel_rfl,by kernel_rfl,by kernel_rfl,by kernel_rfl,by kernel_rfl,by kernel_rfl,by kernel_rfl,by kernel_rfl,by kernel_rfl,by kernel_rfl⟩
theorem D5a:tk Tryd.prog 54=some (false,1) /\ sk Tryd.prog 54= .int .i8 /\ (Tryd.prog.underlying 54).isSome=true /\ el Tryd.prog 54=none /\ zc Tryd.prog 54=some [.int .i8 0] /\ dL Tryd.prog 54=some 1:=⟨by kernel_rfl,by kernel_rfl,by kernel_rfl,by kernel_rfl,by kernel_rfl,by kernel_rfl⟩
theorem D8v:tk Tryd.prog 55=some (false,1) /\ sk Tryd.prog 55= .int .i8 /\ (Tryd.prog.underlying 55).isSome=true /\ el Tryd.prog 55=none /\ zc Tryd.prog 55=some [.int .i8 0] /\ dL Tryd.prog 55=some 1:=⟨by kernel_rfl,by kernel_rfl,by kernel_rfl,by kernel_rfl,by kernel_rfl,by kernel_rfl⟩
theorem A7j:tk Tryd.prog 57=some (true,3) /\ sk Tryd.prog 57= .st /\ (Tryd.prog.underlying 57).isSome=true /\ el Tryd.prog 57=none /\ zc Tryd.prog 57=some [.nil, .int .i64 0, .int .i8 0] /\ dL Tryd.prog 57=some 40 /\ iN Tryd.prog 57=some [(0,1),(1,1),(2,1)] /\ lS Tryd.prog 57 0=some (0,false,1) /\ lS Tryd.prog 57 1=some (1,false,1) /\ lS Tryd.prog 57 2=some (2,false,1):=⟨by kernel_rfl,by kernel_rfl,by kernel_rfl,by kernel_rfl,by kernel_rfl,by kernel_rfl,by kernel_rfl,by kernel_rfl,by kernel_rfl,by kernel_rfl⟩
theorem C4h:tk Tryd.prog 59=some (true,3) /\ sk Tryd.prog 59= .st /\ (Tryd.prog.underlying 59).isSome=true /\ el Tryd.prog 59=none /\ zc Tryd.prog 59=some [.nil, .int .i64 0, .int .i8 0] /\ dL Tryd.prog 59=some 40 /\ iN Tryd.prog 59=some [(0,3)] /\ lS Tryd.prog 59 0=some (0,true,3):=⟨by kernel_rfl,by kernel_rfl,by kernel_rfl,by kernel_rfl,by kernel_rfl,by kernel_rfl,by kernel_rfl,by kernel_rfl⟩
theorem D5b:tk Tryd.prog 71=some (true,10) /\ sk Tryd.prog 71= .st /\ (Tryd.prog.underlying 71).isSome=true /\ el Tryd.prog 71=none /\ zc Tryd.prog 71=some [.nil, .nil, .nil, .str [], .int .i64 0, .int .i64 0, .int .i64 0, .int .i64 0, .int .i64 0, .int .i64 0] /\ dL Tryd.prog 71=some 136 /\ iN Tryd.prog 71=some [(0,3),(3,5),(8,1),(9,1)] /\ lS Tryd.prog 71 0=some (0,true,3) /\ lS Tryd.prog 71 1=some (3,true,5) /\ lS Tryd.prog 71 2=some (8,false,1) /\ lS Tryd.prog 71 3=some (9,false,1):=⟨by kernel_rfl,by kernel_rfl,by kernel_rfl,by kernel_rfl,by kernel_rfl,by kernel_rfl,by kernel_rfl,by kernel_rfl,by kernel_rfl,by kernel_rfl,by kernel_rfl⟩
theorem A7l:tk Tryd.prog 74=some (false,1) /\ sk Tryd.prog 74= .ptr 76 /\ (Tryd.prog.underlying 74).isSome=true /\ el Tryd.prog 74=none /\ zc Tryd.prog 74=some [.nilptr] /\ dL Tryd.prog 74=some 8:=⟨by kernel_rfl,by kernel_rfl,by kernel_rfl,by kernel_rfl,by kernel_rfl,by kernel_rfl⟩
theorem A7m:tk Tryd.prog 76=some (true,2) /\ sk Tryd.prog 76= .st /\ (Tryd.prog.underlying 76).isSome=true /\ el Tryd.prog 76=none /\ zc Tryd.prog 76=some [.nil, .bool false] /\ dL Tryd.prog 76=some 32 /\ iN Tryd.prog 76=some [(0,1),(1,1)] /\ lS Tryd.prog 76 0=some (0,false,1) /\ lS Tryd.prog 76 1=some (1,false,1):=⟨by kernel_rfl,by kernel_rfl,by kernel_rfl,by kernel_rfl,by kernel_rfl,by kernel_rfl,by kernel_rfl,by kernel_rfl,by kernel_rfl⟩
theorem mB:tk Tryd.prog 88=some (false,1) /\ sk Tryd.prog 88= .int .u32 /\ (Tryd.prog.underlying 88).isSome=true /\ el Tryd.prog 88=none /\ zc Tryd.prog 88=some [.int .u32 0] /\ dL Tryd.prog 88=some 4:=⟨by kernel_rfl,by kernel_rfl,by kernel_rfl,by kernel_rfl,by kernel_rfl,by kernel_rfl⟩
theorem A7n:tk Tryd.prog 89=some (false,1) /\ sk Tryd.prog 89= .ptr 57 /\ (Tryd.prog.underlying 89).isSome=true /\ el Tryd.prog 89=none /\ zc Tryd.prog 89=some [.nilptr] /\ dL Tryd.prog 89=some 8:=⟨by kernel_rfl,by kernel_rfl,by kernel_rfl,by kernel_rfl,by kernel_rfl,by kernel_rfl⟩
theorem C4i:tk Tryd.prog 93=some (false,1) /\ sk Tryd.prog 93= .ptr 59 /\ (Tryd.prog.underlying 93).isSome=true /\ el Tryd.prog 93=none /\ zc Tryd.prog 93=some [.nilptr] /\ dL Tryd.prog 93=some 8:=⟨by kernel_rfl,by kernel_rfl,by kernel_rfl,by kernel_rfl,by kernel_rfl,by kernel_rfl⟩
theorem D8w:tk Tryd.prog 95=some (true,30) /\ sk Tryd.prog 95= .arr 30 9 /\ (Tryd.prog.underlying 95).isSome=true /\ el Tryd.prog 95=none /\ zc Tryd.prog 95=some [.str [], .str [], .str [], .str [], .str [], .str [], .str [], .str [], .str [], .str [], .str [], .str [], .str [], .str [], .str [], .str [], .str [], .str [], .str [], .str [], .str [], .str [], .str [], .str [], .str [], .str [], .str [], .str [], .str [], .str []] /\ dL Tryd.prog 95=some 480 /\ oY Tryd.prog 95=some (30,1) /\ A8l Tryd.prog 95=some (30,false,1):=⟨by kernel_rfl,by kernel_rfl,by kernel_rfl,by kernel_rfl,by kernel_rfl,by kernel_rfl,by kernel_rfl,by kernel_rfl⟩
theorem C4f:tk Tryd.prog 101=some (true,3) /\ sk Tryd.prog 101= .st /\ (Tryd.prog.underlying 101).isSome=true /\ el Tryd.prog 101=none /\ zc Tryd.prog 101=some [.str [], .str [], .bool false] /\ dL Tryd.prog 101=some 40 /\ iN Tryd.prog 101=some [(0,1),(1,1),(2,1)] /\ lS Tryd.prog 101 0=some (0,false,1) /\ lS Tryd.prog 101 1=some (1,false,1) /\ lS Tryd.prog 101 2=some (2,false,1):=⟨by kernel_rfl,by kernel_rfl,by kernel_rfl,by kernel_rfl,by kernel_rfl,by kernel_rfl,by kernel_rfl,by kernel_rfl,by kernel_rfl,by kernel_rfl⟩
theorem D1l:tk Tryd.prog 103=some (false,1) /\ sk Tryd.prog 103= .fn /\ (Tryd.prog.underlying 103).isSome=true /\ el Tryd.prog 103=none /\ zc Tryd.prog 103=some [.nilfn] /\ dL Tryd.prog 103=some 8:=⟨by kernel_rfl,by kernel_rfl,by kernel_rfl,by kernel_rfl,by kernel_rfl,by kernel_rfl⟩
theorem D8s:tk Tryd.prog 114=some (true,90) /\ sk Tryd.prog 114= .arr 30 101 /\ (Tryd.prog.underlying 114).isSome=true /\ el Tryd.prog 114=none /\ dL Tryd.prog 114=some 1200 /\ oY Tryd.prog 114=some (30,3) /\ A8l Tryd.prog 114=some (30,true,3):=⟨by kernel_rfl,by kernel_rfl,by kernel_rfl,by kernel_rfl,by kernel_rfl,by kernel_rfl,by kernel_rfl⟩
theorem D8t:tk Tryd.prog 121=some (true,4) /\ sk Tryd.prog 121= .arr 4 9 /\ (Tryd.prog.underlying 121).isSome=true /\ el Tryd.prog 121=none /\ zc Tryd.prog 121=some [.str [], .str [], .str [], .str []] /\ dL Tryd.prog 121=some 64 /\ oY Tryd.prog 121=some (4,1) /\ A8l Tryd.prog 121=some (4,false,1):=⟨by kernel_rfl,by kernel_rfl,by kernel_rfl,by kernel_rfl,by kernel_rfl,by kernel_rfl,by kernel_rfl,by kernel_rfl⟩
theorem D8u:tk Tryd.prog 122=some (true,16) /\ sk Tryd.prog 122= .arr 4 121 /\ (Tryd.prog.underlying 122).isSome=true /\ el Tryd.prog 122=none /\ zc Tryd.prog 122=some [.str [], .str [], .str [], .str [], .str [], .str [], .str [], .str [], .str [], .str [], .str [], .str [], .str [], .str [], .str [], .str []] /\ dL Tryd.prog 122=some 256 /\ oY Tryd.prog 122=some (4,4) /\ A8l Tryd.prog 122=some (4,true,4):=⟨by kernel_rfl,by kernel_rfl,by kernel_rfl,by kernel_rfl,by kernel_rfl,by kernel_rfl,by kernel_rfl,by kernel_rfl⟩
theorem mixed:Tryd.prog.follows .mixedOrders=true:=by kernel_rfl
end Go.Proofs.YthoenjlenkpnnaaDoor
namespace Go.Proofs.YthoenjlenkpnnaaDoor
open Go Go.Shelf Go.RowKit Go.Proofs
variable {P:Program} {ρ:Ren}
theorem D1n(n:Nat):(Builtin.zeroCells (Value.int .u8 0).cells n).toList=List.replicate n (.int .u8 0):=by
 rw[List.eq_replicate_iff]
 refine⟨by simp[Builtin.zeroCells,Value.cells],fun x hx=> ?_⟩
 simp only[Builtin.zeroCells,Array.toList_map,List.mem_map]at hx
 obtain⟨i,_,rfl⟩:=hx
 have:i % (Value.int IntKind.u8 0).cells.size=0:=Nat.mod_one i
 rw[this];rfl
set_option maxHeartbeats 6400000 in
set_option maxRecDepth 100000 in
theorem B4l (L:LaysM.n290 P ρ) (g l c n:Nat) (cur:Array Value) (w:World) (hg:w.heap[g]? =some (.cells cur (ρ.t 5) (0,0))) (hcs:cur.size=c) (hlc:l <=c) (hn:1 <=n)
  (hlim:l+n <=140737488355328) (hc2:c <=140737488355328) (h1:∀ v ∈ cur.toList.take l,v.oneCell'=true):
  Calls P (ρ.f 290) #[.slice (some ⟨g,0,none⟩) l c, .int .i64 n] w fun e w'=>∃ cap2 cells,e= .returned (.slice (some ⟨w.heap.size,0,none⟩) l cap2) /\ w'.heap[w.heap.size]? =some (.cells cells (ρ.t 5) (0,0)) /\
   cells.toList=cur.toList.take l++List.replicate (cap2 - l) (.int .u8 0) /\ l+n <=cap2 /\ cap2 <=maxLen /\ w'.heap.size=w.heap.size+1 /\ Below w.heap.size w w':=by
 have mixed:=L.mixed
 have t5:=L.t5;have a5:=L.a5;have z5:=L.z5;have v5:=L.v5
 have t37:=L.t37;have a37:=L.a37;have z37:=L.z37;have v37:=L.v37
 have t3:=L.t3;have a3:=L.a3;have z3:=L.z3;have v3:=L.v3
 have t0:=L.t0;have a0:=L.a0;have z0:=L.z0;have v0:=L.v0
 have t4:=L.t4;have a4:=L.a4;have z4:=L.z4;have v4:=L.v4
 obtain⟨i0,hi,hz0,hz1,hz2⟩:=info_parts L.i5
 have hsz1:(P.info? (ρ.t 5)).map (·.size)=some 1:=by rw[hi];simp[hz1]
 have hxl:(cur.toList.take l).length=l:=by rw[List.length_take,Array.length_toList];omega
 have hgl:=Lib.lt_of_heap hg
 obtain⟨C,hC⟩:∃ C:Nat,C=if l+n < 2*c then 2*c else l+n:=⟨_,rfl⟩
 have hCn:l+n <=C:=by rw[hC];split <;>omega
 have hCm:C <=281474976710656:=by rw[hC];split <;>omega
 have happ:=Lib.run_append_nil_zeros (P:=P) w (ρ.t 37) (ρ.t 3) (ρ.t 37) (ρ.t 5) i0 (.int .u8 0) .i64 .i64 L.t37 L.t3 hi hz0 C (by omega) (by omega) (by omega) (by rw[hz2];omega)
 generalize hcap:grownCap w C 0 (ρ.t 5)=cap2 at happ
 have hcapge:C <=cap2:=by rw[<- hcap];exact grownCap_ge w _ 0 (ρ.t 5)
 have hcaple:cap2 <=maxLen:=by rw[<- hcap];exact grownCap_le_maxLen w _ 0 (ρ.t 5) (by unfold maxLen;omega)
 generalize hZ:(Builtin.zeroCells (Value.int .u8 0).cells C++Builtin.zeroCells (Value.int .u8 0).cells (cap2 - C))=Z at happ
 have hZl:Z.toList=List.replicate cap2 (.int .u8 0):=by
  rw[<- hZ,Array.toList_append,D1n,D1n,List.replicate_append_replicate]
  congr 1;omega
 have hZs:Z.size=cap2:=by rw[<- Array.length_toList,hZl,List.length_replicate]
 clear hcap hZ
 have hg1:(w.alloc (.cells Z (ρ.t 5))).drew.heap[g]? =some (.cells cur (ρ.t 5) (0,0)):=by show(w.alloc (.cells Z (ρ.t 5))).heap[g]? =_;rw[RowKit.Below.heap_alloc w _ g hgl];exact hg
 have hcopy:=run_copy_row (P:=P) (w.alloc (.cells Z (ρ.t 5))).drew (ρ.t 37) (ρ.t 37) (ρ.t 3) (ρ.t 5) w.heap.size 0 C cap2 ⟨g,0,none⟩ l c Z (ρ.t 5) (cur.toList.take l) L.t37 hsz1 (heap_alloc_new w _) (by rw[hxl];exact(Nat.min_eq_left (by omega)).symm) (Lib.cells_of_row hg1 l) (by rw[hxl];omega) h1
 rw[hxl]at hcopy
 generalize hY:(Z.toList.take 0++cur.toList.take l++Z.toList.drop (0+l)).toArray=Y at hcopy
 have hYl:Y.toList=cur.toList.take l++List.replicate (cap2 - l) (.int .u8 0):=by rw[<- hY,hZl];simp
 have fin:∀ K:Prop,True:=fun _=>trivial
 by_cases h2:l+n < 2*c
 ·rw[if_pos h2]at hC
  rw[hC,show(((2*c:Nat)):Int)=2*(c:Int)by omega]at happ
  rw[hC]at hcopy
  clear hCm hCn
  go_enter_defers L.f290,Body.n290_ntmps ρ
  go_wp2_with (at_builtin;refine Lib.wpList_append_run _ rfl _ _ _ _ rfl _ _ rfl rfl _ _ happ ?_)
  refine leaves_cons (f:=(ρ.f 324)) (args:= #[]) (by simp) (enters_of L.f324 (by kernel_rfl) rfl _ _) ?_
  refine(Any.growSlice_catch_idle {L with} _).mono ?_
  rintro e u' w'' ⟨rfl,rfl,rfl⟩
  refine⟨_,results_tmp rfl _ _ _,?_⟩
  exact⟨cap2,Y,rfl,setRow_heap _ _ Z Y (ρ.t 5) (0,0) (heap_alloc_new w _),hYl,by omega,hcaple,by simp[World.setRow],⟨rfl,rfl,rfl,by simp,fun k hk=>by rw[setRow_other _ _ _ _ (by omega)];exact Below.heap_alloc w _ k hk⟩⟩
 ·rw[if_neg h2]at hC
  rw[hC,show(((l+n:Nat)):Int)=(l:Int)+(n:Int)by omega]at happ
  rw[hC]at hcopy
  clear hCm hCn
  go_enter_defers L.f290,Body.n290_ntmps ρ
  go_wp2_with (at_builtin;refine Lib.wpList_append_run _ rfl _ _ _ _ rfl _ _ rfl rfl _ _ happ ?_)
  refine leaves_cons (f:=(ρ.f 324)) (args:= #[]) (by simp) (enters_of L.f324 (by kernel_rfl) rfl _ _) ?_
  refine(Any.growSlice_catch_idle {L with} _).mono ?_
  rintro e u' w'' ⟨rfl,rfl,rfl⟩
  refine⟨_,results_tmp rfl _ _ _,?_⟩
  exact⟨cap2,Y,rfl,setRow_heap _ _ Z Y (ρ.t 5) (0,0) (heap_alloc_new w _),hYl,by omega,hcaple,by simp[World.setRow],⟨rfl,rfl,rfl,by simp,fun k hk=>by rw[setRow_other _ _ _ _ (by omega)];exact Below.heap_alloc w _ k hk⟩⟩
end Go.Proofs.YthoenjlenkpnnaaDoor
namespace Go.Av
open Go Go.RowKit
theorem fresh_ne{σ:AS}{b c:Nat}{z:List AV}(h:σ.box b=some z)(hc:σ.fresh c): ¬ b=c /\ ¬ c=b:=by
 have: ¬ b=c:=fun e=>by subst e;rw[hc.1]at h;cases h
 exact⟨this,fun e=>this e.symm⟩
theorem aJ.back{P:Program}{G:Nat ->AV}{f:FuncId}{args:List AV}{σ:AS}{Q:AV ->Prop}(h:aJ P G f args σ fun r σ'=>Q r /\ σ.le σ'):aJ P G f args σ fun r σ'=>Q r /\ σ'=σ:=
 ⟨h.1,fun K w vals hr hv=> (h.2 K w vals hr hv).mono fun e w' ⟨v,r,σ',K',he,⟨hQ,hl⟩,h1,h2,h3⟩=> ⟨v,r,σ,K',he,⟨hQ,rfl⟩,h1,h2.weaken hl,h3⟩⟩
inductive fN(n:Nat)(E:TypeId)(σ0 σ:AS):AV ->List AV ->Prop
 |nil (h:σ0.le σ):fN n E σ0 σ .nil []
 |row (b:Nat) (xs:List AV) (h:σ0.le σ) (h0:σ0.box b=none) (h1:σ0.tip b=none) (hb:σ.box b=some (xs.flatMap flat)) (hx:∀ a,a ∈ xs -> (flat a).length=n /\ isv a=true):fN n E σ0 σ (.bs b xs.length n E) xs
theorem fN.le{n:Nat}{E:TypeId}{σ0 σ:AS}{v:AV}{xs:List AV}(h:fN n E σ0 σ v xs):σ0.le σ:=by cases h <;>assumption
theorem uI{n:Nat} :∀ (xs:List AV),(∀ a,a ∈ xs -> (flat a).length=n) -> (xs.flatMap flat).length=xs.length*n
 |[],_=>by simp
 | x::xs,h=>by
  rw[List.flatMap_cons,List.length_append,h x (by simp),uI xs fun a ha=>h a (by simp[ha]),List.length_cons,Nat.succ_mul,Nat.add_comm]
theorem AS.le.delSet{σ0 σ:AS}(h:σ0.le σ){b b':Nat}(hb:σ0.box b=none)(hb':σ0.box b'=none)(z:List AV):σ0.le ((σ.delBox b).setBox b' z):=by
 refine⟨fun i cs hi=> ?_,fun i m hi=>h.tip _ _ hi,h.ty⟩
 have h1:i ≠ b:=fun e=>by subst e;rw[hb]at hi;cases hi
 have h2:i ≠ b':=fun e=>by subst e;rw[hb']at hi;cases hi
 show(if i=b' then _ else if i=b then none else σ.box i)=some cs
 rw[if_neg h2,if_neg h1];exact h.box _ _ hi
end Go.Av
namespace Go.Av
open Go Go.RowKit
variable {P:Program} {e:aS} {σ:AS}
end Go.Av
namespace Go.Av
open Go Go.RowKit
def eS:AV ->Nat ->Prop
 | .bs r _ _ _,c=>c ≠ r
 |_,_=>True
structure D9q(n:Nat)(E:TypeId)(σ0 σ:AS)(v:AV)(xs:List AV)(v':AV)(σ':AS):Prop where
 buf:fN n E σ0 σ' v' xs
 keep:∀ c z,σ.box c=some z ->eS v c ->σ'.box c=some z /\ eS v' c
 ty:σ'.ty=σ.ty
 ne:v' ≠ .nil ->v= .nil ->xs ≠ []
theorem nF {P:Program} {n dL:Nat} {σ0 σ:AS} {v x:AV} {xs ys:List AV} {t tx E:TypeId} {K:AV ->AS ->Prop} {d:Dum σ} {d':Dum K} (hB:fN n E σ0 σ v xs) (he:gK P t=some (E,n,dL)) (hs:yP P tx x=some ys)
  (hys:∀ a,a ∈ ys -> (Av.flat a).length=n /\ isv a=true) (hb:(xs.length+ys.length)*dL <=140737488355328) (hK:∀ v' σ',D9q n E σ0 σ v (xs++ys) v' σ' ->K v' σ'):D1p P σ t tx v x K d d':=by
 cases hB with
 | nil h=>
  by_cases hy:ys=[]
  ·subst hy
   refine .inl ?_
   unfold mZ
   rw[he,hs]
   refine⟨fun a ha=> (by cases ha),by simp,fun _=>hK _ _ ⟨.nil h,fun c z hc _=> ⟨hc,trivial⟩,rfl,fun hn=>absurd rfl hn⟩,fun hy=>absurd rfl hy⟩
  ·refine .inr (.inl ?_)
   unfold mH
   rw[he,hs]
   refine⟨fun a ha=> (hys a ha).1,hy,by simpa using hb,fun b hf=>hK _ _ ⟨?_,fun c z hc _=> ?_,rfl,fun _ _=>by simpa using hy⟩⟩
   ·have hf0:=h.fresh hf
    exact .row b ys (h.setBox hf0.1 _) hf0.1 hf0.2.1 (by simp[AS.setBox]) hys
   ·have:=fresh_ne hc hf
    exact⟨by simp only[AS.setBox,if_neg this.1];exact hc,this.1⟩
 | row b xs h h0 h1 hbx hx=>
  refine .inr (.inl ?_)
  unfold mH
  rw[he,hs]
  have hl:=uI xs fun a ha=> (hx a ha).1
  refine⟨fun a ha=> (hys a ha).1,⟨rfl,rfl⟩,_,hbx,by rw[hl];exact Nat.le_refl _,hb,fun b' hb'=> ?_⟩
  have h0':σ0.box b'=none /\ σ0.tip b'=none:=by
   rcases hb' with rfl|hf
   ·exact⟨h0,h1⟩
   ·exact⟨(h.fresh hf).1,(h.fresh hf).2.1⟩
  have e1:(xs.flatMap flat).take (xs.length*n)++ys.flatMap flat=(xs++ys).flatMap flat:=by
   rw[List.take_of_length_le (by rw[hl];exact Nat.le_refl _),List.flatMap_append]
  have hK':=hK (.bs b' (xs++ys).length n E) ((σ.delBox b).setBox b' ((xs++ys).flatMap flat)) ⟨.row b' (xs++ys) (h.delSet h0 h0'.1 _) h0'.1 h0'.2 (by simp[AS.setBox]) fun a ha=>by
   rcases List.mem_append.1 ha with ha|ha
   ·exact hx a ha
   ·exact hys a ha,fun c z hc hn=>by
    have h2:c ≠ b':=by
     rcases hb' with rfl|hf
     ·exact hn
     ·exact(fresh_ne hc hf).1
    refine⟨?_,h2⟩
    show(if c=b' then _ else if c=b then none else σ.box c)=some z
    rw[if_neg h2,if_neg hn];exact hc,rfl,fun _ hn=>by cases hn⟩
  rw[<- e1,List.length_append]at hK'
  exact hK'
theorem fN.setOther{n:Nat}{E:TypeId}{σ0 σ:AS}{v:AV}{xs:List AV}(h:fN n E σ0 σ v xs){b:Nat}(hb:σ0.box b=none)(hn:eS v b)(z:List AV):fN n E σ0 (σ.setBox b z) v xs:=by
 cases h with
 |nil h=>exact .nil (h.setBox hb z)
 |row r xs h h0 h1 hbx hx=>exact .row r xs (h.setBox hb z) h0 h1 (by simp only[AS.setBox,if_neg (Ne.symm hn)];exact hbx) hx
theorem fN.len{P:Program}{n:Nat}{E:TypeId}{σ0 σ:AS}{v:AV}{xs:List AV}(h:fN n E σ0 σ v xs){t:TypeId} :gH P .len #[t] [v]=if(el P t).isSome then some (.int .i64 xs.length)else none:=by
 cases h with
 |nil _=>rw[C1v];rfl
 |row r xs h h0 h1 hbx hx=>rw[D7n]
theorem fN.form{n:Nat}{E:TypeId}{σ0 σ:AS}{v:AV}{xs:List AV}(h:fN n E σ0 σ v xs)(hne:xs ≠ []):∃ r,v= .bs r xs.length n E /\ σ.box r=some (xs.flatMap flat) /\ σ0.box r=none /\ σ0.tip r=none:=by
 cases h with
 |nil _=>exact absurd rfl hne
 |row r xs h h0 h1 hbx hx=>exact⟨r,rfl,hbx,h0,h1⟩
def gB(c:UInt8):AV:= .int .u8 c.toNat
def aI(s:List UInt8):List AV:=s.map gB
theorem A5j(s:List UInt8):(aI s).flatMap flat=aI s:=by
 induction s with
 |nil=>rfl
 |cons c s ih=>simp only[aI,List.map_cons,List.flatMap_cons]at ih ⊢;rw[ih];rfl
theorem mK(s:List UInt8):∀ a,a ∈ aI s -> (flat a).length=1 /\ isv a=true:=fun a ha=>by
 obtain⟨c,_,rfl⟩:=List.mem_map.1 ha
 exact⟨rfl,rfl⟩
structure Bld(T E:TypeId)(σ0 σ:AS)(b:Nat)(xs:List UInt8):Prop where
 le:σ0.le σ
 out:σ0.box b=none
 ty:σ.ty b=some ((T:sQ),2)
 box:∃ p v,σ.box b=some [p,v] /\ (p= .nilptr \/ p= .ptr b 0) /\ fN 1 E σ0 σ v (aI xs) /\ eS v b /\ (v ≠ .nil ->xs ≠ [])
end Go.Av
namespace Go.Av
open Go Go.RowKit
variable {H:Type}
mutual
def fC:DataW H ->AV
 | .lit (.bool b)=> .bool b
 | .lit (.int k n)=> .int k n
 | .lit (.string s)=> .str s
 | .lit _=> .undef
 | .nil=> .sl .none [] []
 | .slice elems _=> .sl .none (qH elems) []
 | .agg parts=> .agg (lW parts)
 |_=> .undef
def qH:List (DataW H) ->List AV
 |[]=> []
 |d::r=>fC d::qH r
def lW:List (DataW H) ->List AV
 |[]=> []
 |d::r=>flat (fC d)++lW r
end
theorem B7n(l:List (DataW H)):qH l=l.map fC:=by
 induction l with
 |nil=>simp[qH]
 |cons d r ih=>simp[qH,ih]
def A7p(P:Program):Nat ->List Field ->Nat ->Bool
 |k,[],n=>decide (k=n)
 |k,f::fs,n=>decide (f.offset=k) && A7p P (k+P.cellsOf f.type) fs n
def nI(P:Program)(S:List TypeId):Bool:=
 S.all fun t=>match P.underlying t with
  |some .bool|some (.int _)|some .string=>true
  |some (.slice e)=>S.contains e && decide (0 < P.cellsOf e)
  |some (.struct fs)=> (fs.toList.all fun f=>S.contains f.type) && A7p P 0 fs.toList (P.cellsOf t)
  |some (.array n e)=>S.contains e && decide (n*P.cellsOf e=P.cellsOf t)
  |_=>false
structure CL(K:aW)(cs:List AV)(vs:List Value):Prop where
 size:vs.length=cs.length
 one:∀ c,c ∈ cs ->one c=true
 at_:∀ j (h:j < cs.length),VR K cs[j] (vs.getD j Go.undef)
theorem CL.one1{K:aW}{a:AV}{v:Value}(h:VR K a v)(h1:Av.one a=true):CL K [a] [v]:=
 ⟨rfl,fun c hc=>by simp at hc;subst hc;exact h1,fun j hj=>by
   have:j=0:=by simpa using hj
   subst this;exact h⟩
theorem CL.append{K:aW}{a b:List AV}{v u:List Value}(h:CL K a v)(k:CL K b u):CL K (a++b) (v++u):=by
 have h1:=h.size
 refine⟨by simp[h.size,k.size],fun c hc=> ?_,fun j hj=> ?_⟩
 ·rcases List.mem_append.1 hc with hc|hc
  ·exact h.one c hc
  ·exact k.one c hc
 ·by_cases hja:j < a.length
  ·rw[List.getElem_append_left hja]
   have:=h.at_ j hja
   simpa [List.getElem?_append_left (show j < v.length by omega)] using this
  ·rw[List.getElem_append_right (by omega)]
   have:=k.at_ (j - a.length) (by simp at hj;omega)
   simpa [List.getElem?_append_right (show v.length <=j by omega),h1] using this
theorem CL.nil{K:aW} :CL K [] []:=⟨rfl,(fun c hc=>by cases hc),(fun j hj=>by cases hj)⟩
theorem CL.flatMap{α:Type}{K:aW}{f:α ->List AV}{g:α ->List Value} :∀ (l:List α),(∀ x,x ∈ l ->CL K (f x) (g x)) ->CL K (l.flatMap f) (l.flatMap g)
 |[],_=>CL.nil
 | x::l,h=>by
  rw[List.flatMap_cons,List.flatMap_cons]
  exact(h x (by simp)).append (CL.flatMap l fun y hy=>h y (by simp[hy]))
theorem VR.ofCL{K:aW}{a:AV}{cs:List Value}(h:CL K (flat a) cs)(h0:flat a=[a]):∃ v,cs=[v] /\ VR K a v:=by
 rw[h0]at h
 have h1:=h.size
 match cs,h1 with
 |[v],_=>exact⟨v,rfl,h.at_ 0 (by simp)⟩
def sN(P:Program):Nat ->TypeId ->DataW H ->Prop
 |0,_,_=>False
 | n+1,t,d=>match P.underlying t with
  |some .bool=>∃ b,d= .lit (.bool b)
  |some (.int k)=>∃ m,d= .lit (.int k m) /\ (Lit.int k m).wf=true
  |some .string=>∃ s,d= .lit (.string s) /\ s.length <=maxLen
  |some (.slice e)=>d= .nil \/ ∃ xs sp,d= .slice xs sp /\ ∀ x,x ∈ xs ->sN P n e x
  |some (.struct fs)=>∃ ds,d= .agg ds /\ ds.length=fs.size /\ ∀ (i:Nat) (f:Field) x,fs[i]? =some f ->ds[i]? =some x ->sN P n f.type x
  |some (.array m e)=>∃ ds,d= .agg ds /\ ds.length=m /\ ∀ x,x ∈ ds ->sN P n e x
  |_=>False
section read
variable {enc:TypeId × Value ->H} {P:Program} {w:World} {held:Bool} {K:aW} {S:List TypeId}
theorem uH {r:TypeId ->List Value ->Option (DataW H × List MemPlace)} {total:Nat} {cs:List Value}
  (hr:∀ t cs x,t ∈ S ->r t cs=some x ->CL K (flat (fC x.1)) cs):∀ (fs:List Field) (xs:List (DataW H × List MemPlace)) (k:Nat),(∀ f,f ∈ fs ->f.type ∈ S) ->A7p P k fs total=true ->xs.length=fs.length ->
  (∀ (i:Nat) (f:Field),fs[i]? =some f ->r f.type ((cs.drop f.offset).take (P.cellsOf f.type))=xs[i]?) ->cs.length=total ->CL K (lW (xs.map (·.1))) (cs.drop k)
 | [],[],k,_,ht,_,_,hl=>by
  simp only[A7p,decide_eq_true_eq]at ht
  rw[List.drop_eq_nil_of_le (by omega)]
  exact CL.nil
 | f::fs,x::xs,k,hS,ht,hlen,hx,hl=>by
  simp only[A7p,Bool.and_eq_true,decide_eq_true_eq]at ht
  have h0:=hx 0 f rfl
  simp only[List.getElem?_cons_zero,ht.1]at h0
  have h1:=hr _ _ _ (hS f (by simp)) h0
  have h2:=uH hr fs xs (k+P.cellsOf f.type) (fun g hg=>hS g (by simp[hg])) ht.2 (by simpa using hlen) (fun i g hg=>by have:=hx (i+1) g (by simpa using hg);simpa using this) hl
  have e:cs.drop k=(cs.drop k).take (P.cellsOf f.type)++cs.drop (k+P.cellsOf f.type):=by
   rw[<- List.drop_drop,List.take_append_drop]
  rw[e]
  simp only[List.map_cons,lW]
  exact h1.append h2
 |[],_::_,_,_,_,h,_,_=>by cases h
 |_::_,[],_,_,_,h,_,_=>by cases h
theorem xC {r:List Value ->Option (DataW H × List MemPlace)} {n:Nat} {cs:List Value}
  (hr:∀ cs x,r cs=some x ->CL K (flat (fC x.1)) cs):∀ (xs:List (DataW H × List MemPlace)) (k:Nat),
  (∀ i,i < xs.length ->r ((cs.drop ((k+i)*n)).take n)=xs[i]?) ->cs.length=(k+xs.length)*n ->CL K (lW (xs.map (·.1))) (cs.drop (k*n))
 | [],k,_,hl=>by
  rw[List.drop_eq_nil_of_le (by simp only[List.length_nil,Nat.add_zero]at hl;omega)]
  exact CL.nil
 | x::xs,k,hx,hl=>by
  have h0:=hx 0 (by simp)
  simp only[List.getElem?_cons_zero,Nat.add_zero]at h0
  have h1:=hr _ _ h0
  have h2:=xC hr xs (k+1) (fun i hi=>by have:=hx (i+1) (by simpa using hi);simpa [Nat.add_assoc,Nat.add_comm 1 i] using this) (by rw[hl,List.length_cons];congr 1;omega)
  have e:cs.drop (k*n)=(cs.drop (k*n)).take n++cs.drop ((k+1)*n):=by
   rw[Nat.succ_mul,<- List.drop_drop,List.take_append_drop]
  rw[e]
  simp only[List.map_cons,lW]
  exact h1.append h2
theorem      A6v(hS:nI P S=true)(hK:∀ b o v,w.cell? ⟨b,o,none⟩=some v ->K.imm b o=some v):∀ (fuel:Nat) (t:TypeId) (cs:List Value) (x:DataW H × List MemPlace),t ∈ S ->
  DataW.trod enc P w 0 (fun _=>true) held fuel t cs=some x ->sN P fuel t x.1 /\ CL K (flat (fC x.1)) cs /\ isv (fC x.1)=true:=by
 intro fuel
 induction fuel with
 |zero=>intro t cs x _ h;simp[DataW.trod]at h
 | succ n ih=>
  intro t cs x htS h
  have hc:=List.all_eq_true.1 hS t htS
  unfold sN
  split at hc
  ·rename_i ht
   obtain⟨b,rfl,rfl⟩:=DataW.trod_bool ht h
   simp only[fC]
   exact⟨⟨b,rfl⟩,CL.one1 (.bool b) rfl,rfl⟩
  ·rename_i k ht
   obtain⟨m,rfl,rfl,hw⟩:=DataW.trod_int ht h
   simp only[fC]
   exact⟨⟨m,rfl,hw⟩,CL.one1 (.int k m) rfl,rfl⟩
  ·rename_i ht
   obtain⟨s,rfl,rfl,hw⟩:=DataW.trod_string ht h
   simp only[fC]
   exact⟨⟨_,rfl,by simpa using hw⟩,CL.one1 (.str s.data.toList) rfl,rfl⟩
  ·rename_i e ht
   simp only[Bool.and_eq_true,decide_eq_true_eq]at hc
   have heS:e ∈ S:=by simpa using hc.1
   rcases DataW.trod_slice ht h with⟨rfl,rfl⟩|⟨a,len,cap,elems,rest,m,hm,rfl,rfl,_,hlc,hml,hlen,hel,hsp,_⟩
   ·exact⟨.inl rfl,by simp only[fC];exact CL.one1 (.sl0 none) rfl,by simp only[fC];rfl⟩
   ·have hmn:m=n:=by omega
    subst hmn
    have hel2:∀ i (hi:i < elems.length),∃ cs,w.cells? 0 (a.add (i*P.cellsOf e)) (P.cellsOf e)=some cs /\ DataW.trod enc P w 0 (fun _=>true) held m e cs=some elems[i]:=fun i hi=>by
     have h1:=hel i (by omega)
     rw[List.getElem?_eq_getElem hi,Option.bind_eq_some_iff]at h1
     exact h1
    refine⟨.inr ⟨_,_,rfl,fun d hd=> ?_⟩,?_,rfl⟩
    ·obtain⟨y,hy,rfl⟩:=List.mem_map.1 hd
     obtain⟨i,hi,rfl⟩:=List.getElem_of_mem hy
     obtain⟨cs,_,h2⟩:=hel2 i hi
     exact(ih e cs _ heS h2).1
    ·simp only[fC]
     refine CL.one1 ?_ rfl
     rw[B7n,List.map_map]
     by_cases hcap:cap=0
     ·have:elems=[]:=List.eq_nil_of_length_eq_zero (by omega)
      subst this
      have hl0:len=0:=by omega
      subst hcap hl0
      exact .sl0 (some a)
     ·obtain⟨b,off,spot⟩:=a
      have hspot:spot=none:=by
       have h0:∃ c0,w.cell? ⟨b,off,spot⟩=some c0:=by
        by_cases hl0:len=0
        ·obtain⟨hrl,hr⟩:=hsp rfl
         have h1:=hr 0 (by omega)
         obtain⟨y,hy⟩:∃ y,rest[0]? =some y:=⟨_,List.getElem?_eq_getElem (by omega)⟩
         rw[hy,Option.bind_eq_some_iff]at h1
         obtain⟨cs,h2,_⟩:=h1
         obtain⟨_,hcl,hcc⟩:=World.cells?_some h2
         have h3:=hcc 0 hc.2
         obtain⟨c0,hc0⟩:∃ c0,cs[0]? =some c0:=⟨_,List.getElem?_eq_getElem (by omega)⟩
         refine⟨c0,?_⟩
         rw[hc0]at h3
         simpa [Addr.add,hl0] using h3
        ·obtain⟨cs,h2,_⟩:=hel2 0 (by omega)
         obtain⟨_,hcl,hcc⟩:=World.cells?_some h2
         have h3:=hcc 0 hc.2
         obtain⟨c0,hc0⟩:∃ c0,cs[0]? =some c0:=⟨_,List.getElem?_eq_getElem (by omega)⟩
         refine⟨c0,?_⟩
         rw[hc0]at h3
         simpa [Addr.add] using h3
       obtain⟨c0,h0⟩:=h0
       simpa using World.cell?_spot h0
      subst hspot
      have hcell:∀ i (hi:i < elems.length),∃ cs,cs.length=P.cellsOf e /\ (∀ r,r < P.cellsOf e ->w.cell? ⟨b,off+(i*P.cellsOf e+r),none⟩=cs[r]?) /\ CL K (flat (fC elems[i].1)) cs /\ isv (fC elems[i].1)=true:=fun i hi=>by
       obtain⟨cs,h2,h3⟩:=hel2 i hi
       obtain⟨_,hcl,hcc⟩:=World.cells?_some h2
       obtain⟨_,h4,h5⟩:=ih e cs _ heS h3
       refine⟨cs,hcl,fun r hr=> ?_,h4,h5⟩
       have:=hcc r hr
       rw[<- this,Addr.add_lit,Addr.add_lit,Nat.add_assoc]
      have hflen:∀ y,y ∈ elems.map (fC ∘ fun x=>x.1) -> (flat y).length=P.cellsOf e /\ isv y=true /\ ∀ c,c ∈ flat y ->one c=true:=fun y hy=>by
       obtain⟨z,hz,rfl⟩:=List.mem_map.1 hy
       obtain⟨i,hi,rfl⟩:=List.getElem_of_mem hz
       obtain⟨cs,hcl,_,h4,h5⟩:=hcell i hi
       exact⟨by have:=h4.size;simp only[Function.comp];omega,h5,h4.one⟩
      have hfl:=bE (sz:=P.cellsOf e) (elems.map (fC ∘ fun x=>x.1)) (fun y hy=> (hflen y hy).1)
      have hvals:∀ j (hj:j < ((elems.map (fC ∘ fun x=>x.1)).flatMap flat).length),∃ v,w.cell? ⟨b,off+j,none⟩=some v /\ VR K ((elems.map (fC ∘ fun x=>x.1)).flatMap flat)[j] v:=fun j hj=>by
       have hz:0 < P.cellsOf e:=hc.2
       have hj2:j < elems.length*P.cellsOf e:=by rw[hfl,List.length_map]at hj;exact hj
       have hi:j / P.cellsOf e < elems.length:=Nat.div_lt_of_lt_mul (by rw[Nat.mul_comm];exact hj2)
       have hr:j % P.cellsOf e < P.cellsOf e:=Nat.mod_lt _ hz
       have hjd:j / P.cellsOf e*P.cellsOf e+j % P.cellsOf e=j:=Nat.div_add_mod' j _
       obtain⟨cs,hcl,h3,h4,h5⟩:=hcell (j / P.cellsOf e) hi
       have h6:=h3 (j % P.cellsOf e) hr
       rw[hjd]at h6
       have hlt:j % P.cellsOf e < (flat (fC elems[j / P.cellsOf e].1)).length:=by have:=h4.size;omega
       have h7:=h4.at_ _ hlt
       have h8:=wU (sz:=P.cellsOf e) (elems.map (fC ∘ fun x=>x.1)) (fun y hy=> (hflen y hy).1) (j / P.cellsOf e) (by simpa using hi) (j % P.cellsOf e) hr
       rw[hjd,List.getElem?_eq_getElem hj]at h8
       simp only[List.getElem_map,Function.comp]at h8
       rw[List.getElem?_eq_getElem hlt]at h8
       have h9:=Option.some.inj h8
       refine⟨cs.getD (j % P.cellsOf e) Go.undef,?_,?_⟩
       ·rw[h6];simp[List.getD,show j % P.cellsOf e < cs.length by omega]
       ·rw[h9];exact h7
      have:=VR.sl (K:=K) .none (elems.map (fC ∘ fun x=>x.1)) [] (P.cellsOf e) b off cap (fun j=> (w.cell? ⟨b,off+j,none⟩).getD Go.undef)
       (fun y hy=>hflen y (by simpa using hy)) (by simp;omega) hml
       (fun j hj=>by
         simp only[List.append_nil]at hj
         obtain⟨v,h1,_⟩:=hvals j hj
         rw[h1]
         exact hK _ _ _ h1)
       (fun j hj=>by
         simp only[List.append_nil]at hj ⊢
         obtain⟨v,h1,h2⟩:=hvals j hj
         rw[h1];exact h2) trivial
      rw[List.length_map,hlen]at this
      exact this
  ·rename_i fs ht
   simp only[Bool.and_eq_true]at hc
   obtain⟨xs,m,hm,rfl,hcl,hxl,hx⟩:=DataW.trod_struct ht h
   have hmn:m=n:=by omega
   subst hmn
   have hfS:∀ f,f ∈ fs.toList ->f.type ∈ S:=fun f hf=>by have:=List.all_eq_true.1 hc.1 f hf;simpa using this
   refine⟨⟨_,rfl,by simpa using hxl,fun i f x hf hd=> ?_⟩,?_,rfl⟩
   ·rw[List.getElem?_map]at hd
    cases hy:xs[i]? with
    |none=>rw[hy]at hd;cases hd
    | some y=>
     rw[hy]at hd
     simp only[Option.map_some,Option.some.injEq]at hd
     subst hd
     have h1:=hx i f hf
     rw[hy]at h1
     exact(ih f.type _ y (hfS f (by rw[Array.mem_toList_iff];exact Array.mem_of_getElem? hf)) h1).1
   ·simp only[fC,flat]
    have:=uH (P:=P) (S:=S) (K:=K) (r:=DataW.trod enc P w 0 (fun _=>true) held m) (total:=P.cellsOf t) (cs:=cs) (fun t cs x hts hh=> (ih t cs x hts hh).2.1) fs.toList xs 0 hfS hc.2 (by simpa using hxl) (fun i f hf=>hx i f (by simpa using hf)) hcl
    simpa using this
  ·rename_i q e ht
   simp only[Bool.and_eq_true,decide_eq_true_eq]at hc
   have heS:e ∈ S:=by simpa using hc.1
   obtain⟨xs,m,hm,rfl,hcl,hxl,hx⟩:=DataW.trod_array ht h
   have hmn:m=n:=by omega
   subst hmn
   refine⟨⟨_,rfl,by simpa using hxl,fun x hd=> ?_⟩,?_,rfl⟩
   ·obtain⟨y,hy,rfl⟩:=List.mem_map.1 hd
    obtain⟨i,hi,rfl⟩:=List.getElem_of_mem hy
    have h1:=hx i (by omega)
    rw[List.getElem?_eq_getElem hi]at h1
    exact(ih e _ _ heS h1).1
   ·simp only[fC,flat]
    have:=xC (K:=K) (r:=DataW.trod enc P w 0 (fun _=>true) held m e) (n:=P.cellsOf e) (cs:=cs) (fun cs x hh=> (ih e cs x heS hh).2.1) xs 0 (fun i hi=>by have:=hx i (by omega);simpa using this) (by simp only[Nat.zero_add];rw[hcl,<- hc.2,hxl])
    simpa using this
  ·cases hc
theorem xM (hS:nI P S=true) (hK:∀ b o v,w.cell? ⟨b,o,none⟩=some v ->K.imm b o=some v) {t:TypeId} {v:Value} {d:DataW H} {ps:List MemPlace} {r:Reach} {b0:Nat} (htS:t ∈ S)
  (hval:Value.okWide P w r b0 t v) (h:DataW.Trod enc P w 0 (fun _=>true) held t v d ps):∃ n,sN P n t d /\ VR K (fC d) v:=by
 obtain⟨fuel,hf⟩:=h
 obtain⟨h1,h2,h3⟩:=A6v hS hK fuel t _ _ htS hf
 refine⟨fuel,h1,?_⟩
 have hc:=List.all_eq_true.1 hS t htS
 cases fuel with
 |zero=>exact h1.elim
 | succ n=>
  unfold sN at h1
  have single:∀ (a:AV),flat a=[a] ->fC d=a -> (∀ cs,v ≠ .agg cs) ->VR K a v:=fun a ha hd hv=>by
   simp only[hd]at h2
   obtain⟨u,h4,h5⟩:=VR.ofCL h2 ha
   have h6:v.cells= #[v]:=by cases v <;>first|rfl|exact absurd rfl (hv _)
   rw[h6]at h4
   have:v=u:=by simpa using h4
   rw[this];exact h5
  have agg:∀ ds,d= .agg ds -> (∃ cs,v= .agg cs) ->VR K (fC d) v:=fun ds hd hv=>by
   obtain⟨cs,rfl⟩:=hv
   subst hd
   simp only[fC,flat]at h2 ⊢
   refine .agg _ _ ?_ h2.one (fun j hj=> ?_)
   ·have:=h2.size;simpa [Value.cells] using this
   ·have:=h2.at_ j hj
    simpa [Value.cells,Array.getD_eq_getD_getElem?,List.getD_eq_getElem?_getD] using this
  unfold Value.okWide at hval
  split at hc
  ·rename_i ht;rw[ht]at h1 hval
   obtain⟨b,rfl⟩:=h1
   exact single _ rfl (by simp[fC]) (fun cs hv=>by subst hv;simp[Cell.okWide,ht,Cell.ok]at hval)
  ·rename_i k ht;rw[ht]at h1 hval
   obtain⟨m,rfl,_⟩:=h1
   exact single _ rfl (by simp[fC]) (fun cs hv=>by subst hv;simp[Cell.okWide,ht,Cell.ok]at hval)
  ·rename_i ht;rw[ht]at h1 hval
   obtain⟨m,rfl,_⟩:=h1
   exact single _ rfl (by simp[fC]) (fun cs hv=>by subst hv;simp[Cell.okWide,ht,Cell.ok]at hval)
  ·rename_i e ht;rw[ht]at h1 hval
   have hv:∀ cs,v ≠ .agg cs:=fun cs hv=>by subst hv;simp[Cell.okWide,ht,Cell.ok]at hval
   rcases h1 with rfl|⟨xs,sp,rfl,_⟩
   ·exact single _ rfl (by simp[fC]) hv
   ·exact single _ rfl (by simp[fC]) hv
  ·rename_i fs ht;rw[ht]at h1 hval
   obtain⟨ds,hd,_⟩:=h1
   obtain⟨cs,hv,_⟩:=hval
   exact agg ds hd ⟨cs,hv⟩
  ·rename_i q e ht;rw[ht]at h1 hval
   obtain⟨ds,hd,_⟩:=h1
   obtain⟨cs,hv,_⟩:=hval
   exact agg ds hd ⟨cs,hv⟩
  ·cases hc
end read
end Go.Av
