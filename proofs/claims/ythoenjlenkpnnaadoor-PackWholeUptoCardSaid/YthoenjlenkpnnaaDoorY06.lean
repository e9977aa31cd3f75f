/- A drawn row whose ways meet again: what it yields is told once. -/
import Derived.Test.YthoenjlenkpnnaaDoorY05
import Derived.Test.YthoenjlenkpnnaaDoorChecked
import Derived.KernelRfl
import Derived.Shelf.Bytes.GrowSlice
import Derived.ProofKit
import Derived.OpenShut
import Derived.Deep.DeepHandedRow
set_option linter.unusedVariables false
set_option linter.unusedSimpArgs false
namespace Go.Av
open Go Go.RowKit
section fl
variable {P:Program} {G:Nat ->AV} {ops rest:List Oper} {σ0 σ:AS} {R:aM ->AS ->Prop} {e:aM} {d:Option Tmp} {ty:TypeId} {pos:String} {af:Array Edge} {g:Option (Nat × Bool)} {av:List Nat} {K:AV ->AS ->List Nat ->Prop}
def A9k(P:Program)(σ:AS)(av:List Nat)(t:TypeId)(p x:AV)(K:AV ->AS ->List Nat ->Prop)(_:Dum σ)(_:Dum K):Prop:=
 ∃ b off z0 z,p= .ptr b off /\ b ∈ av /\ σ.box b=some z0 /\ gQ P σ t (.ptr b off) x=some (σ.setBox b z) /\ K .undef (σ.setBox b z) (av.filter fun c=>decide (c ≠ b))
theorem D1j:bT P G ops σ0 R [] e σ av=R e σ:=nr rfl
theorem C5v{o:Oper} :bT P G ops σ0 R (o::rest) e σ av=
   gW (cE ops e o.guard) (fL P G o e σ0 σ av fun r σ' av'=>bT P G ops σ0 R rest (e.upd o.dst r) σ' av') (bT P G ops σ0 R rest (e.upd o.dst (.tup [])) σ av) ⟨⟩ ⟨⟩:=nr rfl
def C2j(P:Program)(σ0 σ:AS)(av:List Nat)(t:TypeId)(p x:AV)(K:AV ->AS ->List Nat ->Prop)(_:Dum σ0)(_:Dum σ)(_:Dum K):Prop:=A9k P σ av t p x K ⟨⟩ ⟨⟩ \/ (qA P σ0 t p x /\ K .undef σ av)
theorem B9l{t:TypeId}{p x:Operand} :fL P G ⟨d, .store t p x,ty,pos,af,g⟩ e σ0 σ av K=C2j P σ0 σ av t (ev G e p) (ev G e x) K ⟨⟩ ⟨⟩ ⟨⟩:=nr rfl
theorem C2k{σ0 σ:AS}{av:List Nat}{t:TypeId}{p x:AV}{K:AV ->AS ->List Nat ->Prop}{d:Dum σ0}{d':Dum σ}{d2:Dum K}(h:A9k P σ av t p x K ⟨⟩ ⟨⟩):C2j P σ0 σ av t p x K d d' d2:= .inl h
def D6q(P:Program)(σ0:AS)(t:TypeId)(p x:AV)(F:Prop)(_:Dum σ0)(_:Dum F):Prop:=qA P σ0 t p x /\ F
theorem C5n{K:AV ->AS ->Prop}{t:TypeId}{p x:Operand} :hop P G ⟨d, .store t p x,ty,pos,af,g⟩ e σ0 σ K=D6q P σ0 t (ev G e p) (ev G e x) (K .undef σ) ⟨⟩ ⟨⟩:=nr rfl
theorem C5x{x:Operand} :fL P G ⟨d, .move x,ty,pos,af,g⟩ e σ0 σ av K=hop P G ⟨d, .move x,ty,pos,af,g⟩ e σ0 σ (fun r σ'=>K r σ' av):=nr rfl
theorem B3b{x:Operand} :fL P G ⟨d, .assign x,ty,pos,af,g⟩ e σ0 σ av K=hop P G ⟨d, .assign x,ty,pos,af,g⟩ e σ0 σ (fun r σ'=>K r σ' av):=nr rfl
theorem C5y{a b c:Operand} :fL P G ⟨d, .pick a b c,ty,pos,af,g⟩ e σ0 σ av K=hop P G ⟨d, .pick a b c,ty,pos,af,g⟩ e σ0 σ (fun r σ'=>K r σ' av):=nr rfl
theorem B9f{E:TypeId} :fL P G ⟨d, .alloc E,ty,pos,af,g⟩ e σ0 σ av K=hop P G ⟨d, .alloc E,ty,pos,af,g⟩ e σ0 σ (fun r σ'=>K r σ' av):=nr rfl
theorem D1d{E:TypeId}{x:Operand} :fL P G ⟨d, .box E x,ty,pos,af,g⟩ e σ0 σ av K=hop P G ⟨d, .box E x,ty,pos,af,g⟩ e σ0 σ (fun r σ'=>K r σ' av):=nr rfl
theorem B9h{t:TypeId}{ps:Array (Nat × Operand)} :fL P G ⟨d, .build t ps,ty,pos,af,g⟩ e σ0 σ av K=hop P G ⟨d, .build t ps,ty,pos,af,g⟩ e σ0 σ (fun r σ'=>K r σ' av):=nr rfl
theorem xW{t n:Nat}{ps:Array (Nat × Operand)} :fL P G ⟨d, .buildSlice t n ps,ty,pos,af,g⟩ e σ0 σ av K=hop P G ⟨d, .buildSlice t n ps,ty,pos,af,g⟩ e σ0 σ (fun r σ'=>K r σ' av):=nr rfl
theorem C5w{t:TypeId}{x:Operand} :fL P G ⟨d, .load t x,ty,pos,af,g⟩ e σ0 σ av K=hop P G ⟨d, .load t x,ty,pos,af,g⟩ e σ0 σ (fun r σ'=>K r σ' av):=nr rfl
theorem A4o{x:Operand} :fL P G ⟨d, .nilCheck x,ty,pos,af,g⟩ e σ0 σ av K=hop P G ⟨d, .nilCheck x,ty,pos,af,g⟩ e σ0 σ (fun r σ'=>K r σ' av):=nr rfl
theorem B9g{op:BinOp}{t yt:TypeId}{x y:Operand} :fL P G ⟨d, .binOp op t x y yt,ty,pos,af,g⟩ e σ0 σ av K=hop P G ⟨d, .binOp op t x y yt,ty,pos,af,g⟩ e σ0 σ (fun r σ'=>K r σ' av):=nr rfl
theorem C5z{op:UnOp}{t:TypeId}{x:Operand} :fL P G ⟨d, .unOp op t x,ty,pos,af,g⟩ e σ0 σ av K=hop P G ⟨d, .unOp op t x,ty,pos,af,g⟩ e σ0 σ (fun r σ'=>K r σ' av):=nr rfl
theorem A8j{s t:TypeId}{x:Operand} :fL P G ⟨d, .convert s t x,ty,pos,af,g⟩ e σ0 σ av K=hop P G ⟨d, .convert s t x,ty,pos,af,g⟩ e σ0 σ (fun r σ'=>K r σ' av):=nr rfl
theorem A4n{f:FuncId}{caps:Array Operand} :fL P G ⟨d, .makeFunc (.func f) #[] caps,ty,pos,af,g⟩ e σ0 σ av K=hop P G ⟨d, .makeFunc (.func f) #[] caps,ty,pos,af,g⟩ e σ0 σ (fun r σ'=>K r σ' av):=nr rfl
theorem D1h{f:FuncId}{x:Operand} :fL P G ⟨d, .makeFunc (.func f) #[x] #[],ty,pos,af,g⟩ e σ0 σ av K=hop P G ⟨d, .makeFunc (.func f) #[x] #[],ty,pos,af,g⟩ e σ0 σ (fun r σ'=>K r σ' av):=nr rfl
theorem B9k{t:TypeId}{x:Operand}{lo hi:Option Operand} :fL P G ⟨d, .slice t x lo hi none,ty,pos,af,g⟩ e σ0 σ av K=hop P G ⟨d, .slice t x lo hi none,ty,pos,af,g⟩ e σ0 σ (fun r σ'=>K r σ' av):=nr rfl
theorem A1j{t:TypeId}{x:Operand}{i:Nat} :fL P G ⟨d, .fieldAddr t x i,ty,pos,af,g⟩ e σ0 σ av K=hop P G ⟨d, .fieldAddr t x i,ty,pos,af,g⟩ e σ0 σ (fun r σ'=>K r σ' av):=nr rfl
theorem B9i{t:TypeId}{x:Operand}{i:Nat} :fL P G ⟨d, .field t x i,ty,pos,af,g⟩ e σ0 σ av K=hop P G ⟨d, .field t x i,ty,pos,af,g⟩ e σ0 σ (fun r σ'=>K r σ' av):=nr rfl
theorem A1k{t:TypeId}{x i:Operand} :fL P G ⟨d, .indexAddr t x i,ty,pos,af,g⟩ e σ0 σ av K=hop P G ⟨d, .indexAddr t x i,ty,pos,af,g⟩ e σ0 σ (fun r σ'=>K r σ' av):=nr rfl
theorem B9j{t:TypeId}{x i:Operand} :fL P G ⟨d, .index t x i,ty,pos,af,g⟩ e σ0 σ av K=hop P G ⟨d, .index t x i,ty,pos,af,g⟩ e σ0 σ (fun r σ'=>K r σ' av):=nr rfl
theorem A8k{x:Operand}{i:Nat} :fL P G ⟨d, .extract x i,ty,pos,af,g⟩ e σ0 σ av K=hop P G ⟨d, .extract x i,ty,pos,af,g⟩ e σ0 σ (fun r σ'=>K r σ' av):=nr rfl
theorem C5u{f:Operand}{args:Array Operand}{ts:Array TypeId} :fL P G ⟨d, .call ⟨.value f,args,ts⟩,ty,pos,af,g⟩ e σ0 σ av K=hop P G ⟨d, .call ⟨.value f,args,ts⟩,ty,pos,af,g⟩ e σ0 σ (fun r σ'=>K r σ' av):=nr rfl
theorem D1f{args:Array Operand}{ts:Array TypeId} :fL P G ⟨d, .call ⟨.builtin .len,args,ts⟩,ty,pos,af,g⟩ e σ0 σ av K=hop P G ⟨d, .call ⟨.builtin .len,args,ts⟩,ty,pos,af,g⟩ e σ0 σ (fun r σ'=>K r σ' av):=nr rfl
theorem D1e{args:Array Operand}{ts:Array TypeId} :fL P G ⟨d, .call ⟨.builtin .cap,args,ts⟩,ty,pos,af,g⟩ e σ0 σ av K=hop P G ⟨d, .call ⟨.builtin .cap,args,ts⟩,ty,pos,af,g⟩ e σ0 σ (fun r σ'=>K r σ' av):=nr rfl
theorem D1k{args:Array Operand}{ts:Array TypeId} :fL P G ⟨d, .call ⟨.builtin .unsafeSliceData,args,ts⟩,ty,pos,af,g⟩ e σ0 σ av K=hop P G ⟨d, .call ⟨.builtin .unsafeSliceData,args,ts⟩,ty,pos,af,g⟩ e σ0 σ (fun r σ'=>K r σ' av):=nr rfl
theorem D1g{args:Array Operand}{ts:Array TypeId} :fL P G ⟨d, .call ⟨.builtin .max,args,ts⟩,ty,pos,af,g⟩ e σ0 σ av K=hop P G ⟨d, .call ⟨.builtin .max,args,ts⟩,ty,pos,af,g⟩ e σ0 σ (fun r σ'=>K r σ' av):=nr rfl
theorem D1i{args:Array Operand}{ts:Array TypeId} :fL P G ⟨d, .call ⟨.builtin .min,args,ts⟩,ty,pos,af,g⟩ e σ0 σ av K=hop P G ⟨d, .call ⟨.builtin .min,args,ts⟩,ty,pos,af,g⟩ e σ0 σ (fun r σ'=>K r σ' av):=nr rfl
theorem A1l{t:TypeId}{x y:Operand} :fL P G ⟨d, .makeSlice t x y,ty,pos,af,g⟩ e σ0 σ av K=hop P G ⟨d, .makeSlice t x y,ty,pos,af,g⟩ e σ0 σ (fun r σ'=>K r σ' av):=nr rfl
def stw(m:Bool)(k:Option (Bool × Nat))(σ:AS)(bx:Option (List AV))(b off:Nat)(x:AV)(K:AS ->Prop):Prop:=match m,k,bx with
 |true,some (_,n),some cs=>isv x=true /\ (flat x).length=n /\ off+n <=cs.length /\ K (σ.setBox b (cs.take off++flat x++cs.drop (off+n)))
 |_,_,_=>False
theorem C2l{ag:Bool}{n:Nat}{cs:List AV}{b off:Nat}{x:AV}{F:AS ->Prop} :stw true (some (ag,n)) σ (some cs) b off x F=(isv x=true /\ (flat x).length=n /\ off+n <=cs.length /\ F (σ.setBox b (cs.take off++flat x++cs.drop (off+n)))):=nr rfl
theorem B4h{t:TypeId}{b off:Nat}{x:AV}{d:Dum σ}{d':Dum K} :A9k P σ av t (.ptr b off) x K d d'=stw (decide (b ∈ av)) (tk P t) σ (σ.box b) b off x (fun s=>K .undef s (av.filter fun c=>decide (c ≠ b))):=by
 apply propext
 constructor
 ·rintro⟨b',off',z0,z,h1,h2,h3,h4,h5⟩
  simp only[AV.ptr.injEq]at h1
  obtain⟨rfl,rfl⟩:=h1
  have h0:decide (b ∈ av)=true:=by simpa using h2
  rw[h0,h3]
  rw[pT,h3]at h4
  unfold stw
  unfold stk at h4
  cases hk:tk P t with
  |none=>rw[hk]at h4;cases h4
  | some y=>
   obtain⟨ag,n⟩:=y
   rw[hk]at h4
   simp only at h4 ⊢
   split at h4
   ·rename_i hc
    simp only[Option.some.injEq]at h4
    have:=qB h4
    rw[this]
    exact⟨hc.1,hc.2.1,hc.2.2,h5⟩
   ·cases h4
 ·intro h
  unfold stw at h
  split at h
  ·rename_i ag n cs hm hk hb
   obtain⟨g1,g2,g3,g4⟩:=h
   refine⟨b,off,cs,_,rfl,by simpa using hm,hb,?_,g4⟩
   rw[pT,hb,hk]
   unfold stk
   exact if_pos ⟨g1,g2,g3⟩
  ·exact h.elim
theorem AS.delBox_le(σ:AS)(b:Nat):(σ.delBox b).le σ:=⟨fun i cs hi=>by
 have hi':(if i=b then none else σ.box i)=some cs:=hi
 split at hi'
 ·cases hi'
 ·exact hi',fun _ _ h=>h,fun _ _ h=>h⟩
theorem fC {l:List Oper} {d:Dum l.toArray} {d':Dum R} {d2:Dum e} {d3:Dum σ} (n b:Nat) {z:List AV} (hn:vV l.toArray n=true) (hb:σ.box b=some z)
  (h:bT P G l (σ.delBox b) (fun e' σ'=>cF P G l R (l.drop n) e' σ') (l.take n) e σ [b]):qP P G l.toArray R e σ d d' d2 d3:=
 .inl ⟨[],n,σ.delBox b,[b],rfl,hn,AS.delBox_le σ b,fun c hc=>by
  have:c=b:=by simpa using hc
  subst this
  exact⟨by rw[hb];rfl,by simp[AS.delBox]⟩,h⟩
theorem oG {l:List Oper} {d:Dum l.toArray} {d':Dum R} {d2:Dum e} {d3:Dum σ} (n b b':Nat) {z z':List AV} (hn:vV l.toArray n=true) (hb:σ.box b=some z) (hb':σ.box b'=some z')
  (h:bT P G l ((σ.delBox b).delBox b') (fun e' σ'=>cF P G l R (l.drop n) e' σ') (l.take n) e σ [b,b']):qP P G l.toArray R e σ d d' d2 d3:=
 .inl ⟨[],n,(σ.delBox b).delBox b',[b,b'],rfl,hn,(AS.delBox_le _ b').trans (AS.delBox_le σ b),fun c hc=>by
  have:c=b \/ c=b':=by simpa using hc
  rcases this with rfl|rfl
  ·exact⟨by rw[hb];rfl,by simp[AS.delBox]⟩
  ·exact⟨by rw[hb'];rfl,by simp[AS.delBox]⟩,h⟩
end fl
section pl
variable {P:Program} {G:Nat ->AV} {ops:List Oper} {σ0 σ:AS} {R:aM ->AS ->Prop} {e:aM} {d:Option Tmp} {ty:TypeId} {pos:String} {af:Array Edge} {g:Option (Nat × Bool)}
theorem C7o:jH P G ops σ0 R .done e σ=R e σ:=nr rfl
theorem D2q:jH P G ops σ0 R .bad e σ=False:=nr rfl
theorem C7q:jH P G ops σ0 R .none e σ=True:=nr rfl
theorem C7p{i:Nat}{t r:Pl} :jH P G ops σ0 R (.more i t r) e σ=(rI P G ops σ0 ops[i]? (fun e' s=>jH P G ops σ0 R t e' s) e σ /\ jH P G ops σ0 R r e σ):=nr rfl
theorem C8p{o:Oper}{K:aM ->AS ->Prop} :rI P G ops σ0 (some o) K e σ=gW (cE ops e o.guard) (gF P G o e σ0 σ fun r s=>K (e.upd o.dst r) s) (K (e.upd o.dst (.tup [])) σ) ⟨⟩ ⟨⟩:=nr rfl
def D3d(P:Program)(σ0 σ:AS)(t:TypeId)(p x:AV)(K:AV ->AS ->Prop)(_:Dum σ0)(_:Dum σ)(_:Dum K):Prop:=
 (∃ b off z0 z,p= .ptr b off /\ σ0.box b=none /\ σ.box b=some z0 /\ gQ P σ t (.ptr b off) x=some (σ.setBox b z) /\ K .undef (σ.setBox b z)) \/ (qA P σ0 t p x /\ K .undef σ)
theorem B9e{t:TypeId}{p x:Operand}{K:AV ->AS ->Prop} :gF P G ⟨d, .store t p x,ty,pos,af,g⟩ e σ0 σ K=D3d P σ0 σ t (ev G e p) (ev G e x) K ⟨⟩ ⟨⟩ ⟨⟩:=nr rfl
theorem C5r{x:Operand}{K:AV ->AS ->Prop} :gF P G ⟨d, .move x,ty,pos,af,g⟩ e σ0 σ K=hop P G ⟨d, .move x,ty,pos,af,g⟩ e σ0 σ K:=nr rfl
theorem B3a{x:Operand}{K:AV ->AS ->Prop} :gF P G ⟨d, .assign x,ty,pos,af,g⟩ e σ0 σ K=hop P G ⟨d, .assign x,ty,pos,af,g⟩ e σ0 σ K:=nr rfl
theorem C5s{a b c:Operand}{K:AV ->AS ->Prop} :gF P G ⟨d, .pick a b c,ty,pos,af,g⟩ e σ0 σ K=hop P G ⟨d, .pick a b c,ty,pos,af,g⟩ e σ0 σ K:=nr rfl
theorem B8y{E:TypeId}{K:AV ->AS ->Prop} :gF P G ⟨d, .alloc E,ty,pos,af,g⟩ e σ0 σ K=hop P G ⟨d, .alloc E,ty,pos,af,g⟩ e σ0 σ K:=nr rfl
theorem D0w{E:TypeId}{x:Operand}{K:AV ->AS ->Prop} :gF P G ⟨d, .box E x,ty,pos,af,g⟩ e σ0 σ K=hop P G ⟨d, .box E x,ty,pos,af,g⟩ e σ0 σ K:=nr rfl
theorem B9a{t:TypeId}{ps:Array (Nat × Operand)}{K:AV ->AS ->Prop} :gF P G ⟨d, .build t ps,ty,pos,af,g⟩ e σ0 σ K=hop P G ⟨d, .build t ps,ty,pos,af,g⟩ e σ0 σ K:=nr rfl
theorem xV{t n:Nat}{ps:Array (Nat × Operand)}{K:AV ->AS ->Prop} :gF P G ⟨d, .buildSlice t n ps,ty,pos,af,g⟩ e σ0 σ K=hop P G ⟨d, .buildSlice t n ps,ty,pos,af,g⟩ e σ0 σ K:=nr rfl
theorem C5q{t:TypeId}{x:Operand}{K:AV ->AS ->Prop} :gF P G ⟨d, .load t x,ty,pos,af,g⟩ e σ0 σ K=hop P G ⟨d, .load t x,ty,pos,af,g⟩ e σ0 σ K:=nr rfl
theorem A4m{x:Operand}{K:AV ->AS ->Prop} :gF P G ⟨d, .nilCheck x,ty,pos,af,g⟩ e σ0 σ K=hop P G ⟨d, .nilCheck x,ty,pos,af,g⟩ e σ0 σ K:=nr rfl
theorem B8z{op:BinOp}{t yt:TypeId}{x y:Operand}{K:AV ->AS ->Prop} :gF P G ⟨d, .binOp op t x y yt,ty,pos,af,g⟩ e σ0 σ K=hop P G ⟨d, .binOp op t x y yt,ty,pos,af,g⟩ e σ0 σ K:=nr rfl
theorem C5t{op:UnOp}{t:TypeId}{x:Operand}{K:AV ->AS ->Prop} :gF P G ⟨d, .unOp op t x,ty,pos,af,g⟩ e σ0 σ K=hop P G ⟨d, .unOp op t x,ty,pos,af,g⟩ e σ0 σ K:=nr rfl
theorem A8h{s t:TypeId}{x:Operand}{K:AV ->AS ->Prop} :gF P G ⟨d, .convert s t x,ty,pos,af,g⟩ e σ0 σ K=hop P G ⟨d, .convert s t x,ty,pos,af,g⟩ e σ0 σ K:=nr rfl
theorem A4l{f:FuncId}{caps:Array Operand}{K:AV ->AS ->Prop} :gF P G ⟨d, .makeFunc (.func f) #[] caps,ty,pos,af,g⟩ e σ0 σ K=hop P G ⟨d, .makeFunc (.func f) #[] caps,ty,pos,af,g⟩ e σ0 σ K:=nr rfl
theorem D1a{f:FuncId}{x:Operand}{K:AV ->AS ->Prop} :gF P G ⟨d, .makeFunc (.func f) #[x] #[],ty,pos,af,g⟩ e σ0 σ K=hop P G ⟨d, .makeFunc (.func f) #[x] #[],ty,pos,af,g⟩ e σ0 σ K:=nr rfl
theorem B9d{t:TypeId}{x:Operand}{lo hi:Option Operand}{K:AV ->AS ->Prop} :gF P G ⟨d, .slice t x lo hi none,ty,pos,af,g⟩ e σ0 σ K=hop P G ⟨d, .slice t x lo hi none,ty,pos,af,g⟩ e σ0 σ K:=nr rfl
theorem A1g{t:TypeId}{x:Operand}{i:Nat}{K:AV ->AS ->Prop} :gF P G ⟨d, .fieldAddr t x i,ty,pos,af,g⟩ e σ0 σ K=hop P G ⟨d, .fieldAddr t x i,ty,pos,af,g⟩ e σ0 σ K:=nr rfl
theorem B9b{t:TypeId}{x:Operand}{i:Nat}{K:AV ->AS ->Prop} :gF P G ⟨d, .field t x i,ty,pos,af,g⟩ e σ0 σ K=hop P G ⟨d, .field t x i,ty,pos,af,g⟩ e σ0 σ K:=nr rfl
theorem A1h{t:TypeId}{x i:Operand}{K:AV ->AS ->Prop} :gF P G ⟨d, .indexAddr t x i,ty,pos,af,g⟩ e σ0 σ K=hop P G ⟨d, .indexAddr t x i,ty,pos,af,g⟩ e σ0 σ K:=nr rfl
theorem B9c{t:TypeId}{x i:Operand}{K:AV ->AS ->Prop} :gF P G ⟨d, .index t x i,ty,pos,af,g⟩ e σ0 σ K=hop P G ⟨d, .index t x i,ty,pos,af,g⟩ e σ0 σ K:=nr rfl
theorem A8i{x:Operand}{i:Nat}{K:AV ->AS ->Prop} :gF P G ⟨d, .extract x i,ty,pos,af,g⟩ e σ0 σ K=hop P G ⟨d, .extract x i,ty,pos,af,g⟩ e σ0 σ K:=nr rfl
theorem C5p{f:Operand}{args:Array Operand}{ts:Array TypeId}{K:AV ->AS ->Prop} :gF P G ⟨d, .call ⟨.value f,args,ts⟩,ty,pos,af,g⟩ e σ0 σ K=hop P G ⟨d, .call ⟨.value f,args,ts⟩,ty,pos,af,g⟩ e σ0 σ K:=nr rfl
theorem D0y{args:Array Operand}{ts:Array TypeId}{K:AV ->AS ->Prop} :gF P G ⟨d, .call ⟨.builtin .len,args,ts⟩,ty,pos,af,g⟩ e σ0 σ K=hop P G ⟨d, .call ⟨.builtin .len,args,ts⟩,ty,pos,af,g⟩ e σ0 σ K:=nr rfl
theorem D0x{args:Array Operand}{ts:Array TypeId}{K:AV ->AS ->Prop} :gF P G ⟨d, .call ⟨.builtin .cap,args,ts⟩,ty,pos,af,g⟩ e σ0 σ K=hop P G ⟨d, .call ⟨.builtin .cap,args,ts⟩,ty,pos,af,g⟩ e σ0 σ K:=nr rfl
theorem D1c{args:Array Operand}{ts:Array TypeId}{K:AV ->AS ->Prop} :gF P G ⟨d, .call ⟨.builtin .unsafeSliceData,args,ts⟩,ty,pos,af,g⟩ e σ0 σ K=hop P G ⟨d, .call ⟨.builtin .unsafeSliceData,args,ts⟩,ty,pos,af,g⟩ e σ0 σ K:=nr rfl
theorem D0z{args:Array Operand}{ts:Array TypeId}{K:AV ->AS ->Prop} :gF P G ⟨d, .call ⟨.builtin .max,args,ts⟩,ty,pos,af,g⟩ e σ0 σ K=hop P G ⟨d, .call ⟨.builtin .max,args,ts⟩,ty,pos,af,g⟩ e σ0 σ K:=nr rfl
theorem D1b{args:Array Operand}{ts:Array TypeId}{K:AV ->AS ->Prop} :gF P G ⟨d, .call ⟨.builtin .min,args,ts⟩,ty,pos,af,g⟩ e σ0 σ K=hop P G ⟨d, .call ⟨.builtin .min,args,ts⟩,ty,pos,af,g⟩ e σ0 σ K:=nr rfl
theorem A1i{t:TypeId}{x y:Operand}{K:AV ->AS ->Prop} :gF P G ⟨d, .makeSlice t x y,ty,pos,af,g⟩ e σ0 σ K=hop P G ⟨d, .makeSlice t x y,ty,pos,af,g⟩ e σ0 σ K:=nr rfl
theorem A3x {l:List Oper} {d:Dum l.toArray} {d':Dum R} {d2:Dum e} {d3:Dum σ} (n:Nat) (I:(Nat ->Bool) ->aM ->AS ->Prop) (hn:tR l.toArray n=true) {hd tl:List Oper} (h1:l.take n=hd) (h2:l.drop n=tl)
  (h0:Inf σ ->I (fun _=>false) e σ) (hs:mW P G I 0 hd) (hq:∀ D e σ,(∀ j,j < n ->D j=true) ->I D e σ ->cF P G l R tl e σ):qP P G l.toArray R e σ d d' d2 d3:=
 .inr (.inr (.inr (.inr ⟨n,I,hn,h0,by subst h1;simpa using hs,by subst h2;simpa using hq⟩)))
end pl
end Go.Av
namespace Go.Av
open Go Go.RowKit
inductive Frz(b n s:Nat)(y:AV):AV ->AV ->Prop
 |same (a:AV):Frz b n s y a a
 |here (E:TypeId):Frz b n s y (.bs b n s E) y
 |tup (l l':List AV) (hl:l.length=l'.length) (h:∀ j (h1:j < l.length) (h2:j < l'.length),Frz b n s y l[j] l'[j]):Frz b n s y (.tup l) (.tup l')
 |agg (l l':List AV) (hl:l.length=l'.length) (h1:∀ c,c ∈ l' ->one c=true) (h:∀ j (h1:j < l.length) (h2:j < l'.length),Frz b n s y l[j] l'[j]):Frz b n s y (.agg l) (.agg l')
def Has(b n s:Nat)(r:AV):Prop:=∀ K v,VR K r v ->∃ cap E,K.row b=some (cap,s,E) /\ n <=cap /\ cap <=maxLen
theorem Has.bs{b n s:Nat}{E:TypeId} :Has b n s (.bs b n s E):=fun K v h=>by
 cases h with
 |bs _ _ _ cap E hr hn hm=>exact⟨cap,E,hr,hn,hm⟩
theorem Has.tup{b n s:Nat}{l:List AV}(j:Nat)(hj:j < l.length)(h:Has b n s l[j]):Has b n s (.tup l):=fun K v hv=>by
 cases hv with
 |tup _ vs hl hvv=>exact h K _ (hvv j hj)
theorem Has.agg{b n s:Nat}{l:List AV}(j:Nat)(hj:j < l.length)(h:Has b n s l[j]):Has b n s (.agg l):=fun K v hv=>by
 cases hv with
 |agg _ vs hl h1 hvv=>exact h K _ (hvv j hj)
structure B5i(n s:Nat)(xs cs:List AV):Prop where
 len:xs.length=n
 flat:xs.flatMap flat=cs
 item:∀ a,a ∈ xs -> (Av.flat a).length=s /\ isv a=true
theorem B5i.size{n s:Nat}{xs cs:List AV}(h:B5i n s xs cs):cs.length=n*s:=by
 rw[<- h.flat,bD (sz:=s) xs (fun a ha=> (h.item a ha).1),h.len]
def AS.froze(σ:AS)(b n s:Nat):AS:=(σ.delBox b).setTip b (n,s)
theorem mI{G:Nat ->AV}{K:aT}{σ:AS}{w:World}(hr:bM G K σ w){b n s:Nat}{xs cs:List AV}(hb:σ.box b=some cs)(hi:B5i n s xs cs){cap:Nat}{E:TypeId}(hrow:K.row b=some (cap,s,E))(hn:n <=cap)(hm:cap <=maxLen):
  ∃ K',K.le K' /\ bM G K' (σ.froze b n s) w /\ ∀ r r' v,Frz b n s (.sl (.own b) xs []) r r' ->VR K r v ->VR K' r' v:=by
 obtain⟨K',h1,h2,h3,f,h4,h5,h6⟩:=hr.frozen hb hrow hi.size hn
 refine⟨K',h1,h2,fun r r' v hf=> ?_⟩
 induction hf generalizing v with
 |same a=>exact fun hv=>hv.mono h1
 | here E0=>
  intro hv
  cases hv with
  | bs _ _ _ cap2 E2 hr2 hn2 hm2=>
   rw[hrow]at hr2
   simp only[Option.some.injEq,Prod.mk.injEq]at hr2
   obtain⟨rfl,_,rfl⟩:=hr2
   have hfl:((xs++[]).flatMap flat)=cs:=by rw[List.append_nil,hi.flat]
   have:=VR.sl (K:=K') (.own b) xs [] s b 0 cap f
    (fun e he=>by
      rw[List.append_nil]at he
      refine⟨(hi.item e he).1,(hi.item e he).2,fun c hc=>h6 c ?_⟩
      rw[<- hi.flat];exact List.mem_flatMap.2 ⟨e,he,hc⟩)
    (by rw[hi.len];simp;exact hn) hm
    (fun j hj=>by rw[hfl]at hj;rw[Nat.zero_add];exact h4 j hj)
    (fun j hj=>by
      have hj':j < cs.length:=by rw[hfl]at hj;exact hj
      have e1:((xs++[]).flatMap flat)[j]=cs[j]:=by congr 1
      rw[e1];exact h5 j hj')
    ⟨rfl,rfl,E,s,h3⟩
   rw[hi.len]at this
   exact this
 | tup l l' hl h ih=>
  intro hv
  cases hv with
  |tup _ vs hvl hvv=>exact .tup l' vs (by omega) fun j hj=>ih j (by omega) hj _ (hvv j (by omega))
 | agg l l' hl h1' h ih=>
  intro hv
  cases hv with
  |agg _ vs hvl ho hvv=>exact .agg l' vs (by omega) h1' fun j hj=>ih j (by omega) hj _ (hvv j (by omega))
inductive B0s(b n s:Nat)(y:AV):List AV ->List AV ->Prop
 |nil:B0s b n s y [] []
 |cons {a a':AV} {l l':List AV} (h:Frz b n s y a a') (t:B0s b n s y l l'):B0s b n s y (a::l) (a'::l')
theorem B0s.refl{b n s:Nat}{y:AV} :∀ (l:List AV),B0s b n s y l l
 |[]=> .nil
 |a::l=> .cons (.same a) (B0s.refl l)
def C9w(b n s:Nat)(l:List AV):Prop:=∃ a,a ∈ l /\ Has b n s a
theorem C9w.row{b n s:Nat}{K:aT} :∀ {l:List AV} {vs:List Value},lE K l vs ->C9w b n s l ->∃ cap E,K.row b=some (cap,s,E) /\ n <=cap /\ cap <=maxLen
 | a::l,v::vs,⟨h1,h2⟩,⟨x,hx,hh⟩=>by
  rcases List.mem_cons.1 hx with rfl|hx
  ·exact hh K v h1
  ·exact C9w.row h2 ⟨x,hx,hh⟩
 |[],_,_,⟨x,hx,_⟩=>by cases hx
 |_::_,[],h,_=>h.elim
theorem AS.froze_le{σ0 σ:AS}(h:σ0.le σ){b n s:Nat}(hb:σ0.box b=none)(ht:σ0.tip b=none):σ0.le (σ.froze b n s):=by
 have h1:σ0.le (σ.delBox b):=⟨fun i cs hi=>by
  show(if i=b then none else σ.box i)=some cs
  have hne:i ≠ b:=fun e=>by subst e;rw[hb]at hi;cases hi
  rw[if_neg hne];exact h.box _ _ hi,fun i m hi=>h.tip _ _ hi,h.ty⟩
 exact h1.setTip ht _
end Go.Av
set_option linter.defProp false
namespace Go.Av
open Go
theorem C4p:bP .skip=[]:=nr rfl
theorem C4o{i:Nat} :bP (.exit i)=[]:=nr rfl
theorem D0i:bP .ret=[]:=nr rfl
theorem B2j{w:String} :bP (.refuse w)=[]:=nr rfl
theorem B7c{f:Operand}{ps:Array Tmp}{a b:Code} :bP (.rangeFunc f ps a b)=[]:=nr rfl
theorem B1d:pI []= .tup []:=nr rfl
theorem B5u{a b:AV}{l:List AV} :pI (a::b::l)= .tup (a::b::l):=nr rfl
def bp0:=And.intro (And.intro (And.intro (And.intro @D7j @C3f) (And.intro @D3p @D3n)) (And.intro (And.intro @C9a @D3r) (And.intro @D3q @D7i))) (And.intro (And.intro (And.intro @D3s @D7h) (And.intro @D3o @D5b)) (And.intro (And.intro @D0r @C7h) (And.intro @C1d @A8c)))
def bp1:=And.intro (And.intro (And.intro (And.intro @C4x @B7u) (And.intro @D0k @B7r)) (And.intro (And.intro @B2p @C4v) (And.intro @C3b @C3a))) (And.intro (And.intro (And.intro @D2e @B1h) (And.intro @qL @A9z)) (And.intro (And.intro @C4c @B0q) (And.intro @B0r @C8w)))
def bp2:=And.intro (And.intro (And.intro (And.intro @D2k @C1e) (And.intro @D2m @C7a)) (And.intro (And.intro @D6e @C7c) (And.intro @A1x @A5b))) (And.intro (And.intro (And.intro @D2j @A8u) (And.intro @C7b @D2n)) (And.intro (And.intro @B3u @A8t) (And.intro @C7g @A4z)))
def bp3:=And.intro (And.intro (And.intro (And.intro @C7d @A5a) (And.intro @C7e @B3v)) (And.intro (And.intro @D6g @D6h) (And.intro @D6j @D2h))) (And.intro (And.intro (And.intro @D0t @B8w) (And.intro @D0u @C5h)) (And.intro (And.intro @D4v @C5j) (And.intro @A1f @D0s)))
def bp4:=And.intro (And.intro (And.intro (And.intro @A8g @C5i) (And.intro @D0v @B2x)) (And.intro (And.intro @A8f @C5m) (And.intro @A4i @C5k))) (And.intro (And.intro (And.intro @A4j @C5l) (And.intro @B2y @D4x)) (And.intro (And.intro @D4y @D5a) (And.intro @D0q @D1m)))
def bp5:=And.intro (And.intro (And.intro (And.intro @C6a @C6k) (And.intro @B3i @C6l)) (And.intro (And.intro @B9y @D1t) (And.intro @C0a @xZ))) (And.intro (And.intro (And.intro @A1s @C6j) (And.intro @A4r @B9z)) (And.intro (And.intro @C6m @A8o) (And.intro @A4q @C0d)))
def bp6:=And.intro (And.intro (And.intro (And.intro @A1q @C0b) (And.intro @A1r @C0c)) (And.intro (And.intro @A8p @D1v) (And.intro @D1w @D1y))) (And.intro (And.intro (And.intro @C6i @C0e) (And.intro @B3h @B3w)) (And.intro (And.intro @C1f @A5c) (And.intro @D2i @D6i)))
def bp7:=And.intro (And.intro (And.intro (And.intro @D4z @D1x) (And.intro @D1h @D1a)) (And.intro (And.intro @C2x @C2z) (And.intro @D3l @C2y))) (And.intro (And.intro (And.intro @B6q @C2u) (And.intro @B6p @C2t)) (And.intro (And.intro @C8z @C7f) (And.intro @D2l @zO)))
def bp8:=And.intro (And.intro (And.intro (And.intro @D6f @D6k) (And.intro @D2o @D4w)) (And.intro (And.intro @D5c @D1u) (And.intro @D1z @C6n))) (And.intro (And.intro (And.intro @D1j @C5v) (And.intro @B9l @C5n)) (And.intro (And.intro @C5x @B3b) (And.intro @C5y @B9f)))
def bp9:=And.intro (And.intro (And.intro (And.intro @D1d @B9h) (And.intro @xW @A1l)) (And.intro (And.intro @C5w @A4o) (And.intro @B9g @C5z))) (And.intro (And.intro (And.intro @A8j @A4n) (And.intro @B9k @A1j)) (And.intro (And.intro @B9i @A1k) (And.intro @B9j @A8k)))
def D8a:=And.intro (And.intro (And.intro (And.intro @D1f @D1g) (And.intro @D1i @C5u)) (And.intro (And.intro @D1e @D1k) (And.intro @C7o @D2q))) (And.intro (And.intro (And.intro @C7q @C7p) (And.intro @C8p @B9e)) (And.intro (And.intro @C5r @B3a) (And.intro @C5s @B8y)))
def D8b:=And.intro (And.intro (And.intro (And.intro @D0w @B9a) (And.intro @xV @A1i)) (And.intro (And.intro @C5q @A4m) (And.intro @B8z @C5t))) (And.intro (And.intro (And.intro @A8h @A4l) (And.intro @B9d @A1g)) (And.intro (And.intro @B9b @A1h) (And.intro @B9c @A8i)))
def D8c:=And.intro (And.intro (@D0y) (And.intro @D0z @D1b)) (And.intro (@C5p) (And.intro @D0x @D1c))
def bp:=And.intro (And.intro (And.intro (@bp0) (And.intro @bp1 @bp2)) (And.intro (@bp3) (And.intro @bp4 @bp5))) (And.intro (And.intro (@bp6) (And.intro @bp7 @bp8)) (And.intro (And.intro @bp9 @D8a) (And.intro @D8b @D8c)))
def bq0:=And.intro (And.intro (And.intro (And.intro @B9m @B3c) (And.intro @C3s @C3t)) (And.intro (And.intro @B6c @B6b) (And.intro @B1o @B6a))) (And.intro (And.intro (And.intro @C5e @B8p) (And.intro @D0o @B2g)) (And.intro (And.intro @C4a @C3z) (And.intro @D0b @C3y)))
def bq1:=And.intro (And.intro (And.intro (And.intro @D6u @A7q) (And.intro @A3v @A8y)) (And.intro (And.intro @A5g @C4b) (And.intro @C1b @C6z))) (And.intro (And.intro (And.intro @C6y @A0t) (And.intro @B6u @D0e)) (And.intro (And.intro @D4c @D4f) (And.intro @D4e @B6t)))
def bq2:=And.intro (And.intro (And.intro (And.intro @C4g @C4h) (And.intro @B1e @C0n)) (And.intro (And.intro @B5v @C0o) (And.intro @C7t @C1k))) (And.intro (And.intro (And.intro @B1b @C4w) (And.intro @D0l @A3b)) (And.intro (And.intro @B8n @iM) (And.intro @C0f @A6y)))
def bq3:=And.intro (And.intro (And.intro (And.intro @A0b @B5m) (And.intro @B5n @B0v)) (And.intro (And.intro @zS @A2v) (And.intro @A2w @A2t))) (And.intro (And.intro (And.intro @A8m @B3f) (And.intro @A8l @D5e)) (And.intro (And.intro @D5r @D5l) (And.intro @D5n @D5o)))
def bq4:=And.intro (And.intro (And.intro (And.intro @D5g @D5m) (And.intro @D5k @D5j)) (And.intro (And.intro @D5i @D5h) (And.intro @D5f @D8l))) (And.intro (And.intro (And.intro @D5s @D5p) (And.intro @D5q @D6n)) (And.intro (And.intro @D6p @D6m) (And.intro @D6o @C3n)))
def bq5:=And.intro (And.intro (And.intro (And.intro @C3o @C3r) (And.intro @C3q @C4m)) (And.intro (And.intro @C4n @B2i) (And.intro @B0l @A6w))) (And.intro (And.intro (And.intro @A3c @B9n) (And.intro @B0x @B6h)) (And.intro (And.intro @B1c @A6u) (And.intro @B8d @D5y)))
def bq6:=And.intro (And.intro (And.intro (And.intro @C0h @C0k) (And.intro @D5w @D5x)) (And.intro (And.intro @pT @C2i) (And.intro @B3x @A8w))) (And.intro (And.intro (And.intro @B5w @B5x) (And.intro @B1g @B5y)) (And.intro (And.intro @B0w @B5o) (And.intro @A7e @B4g)))
def bq7:=And.intro (And.intro (And.intro (And.intro @B7v @B2r) (And.intro @B7x @B8b)) (And.intro (And.intro @B7y @C5b) (And.intro @B7z @C5a))) (And.intro (And.intro (And.intro @C4z @A4c) (And.intro @A8d @C6d)) (And.intro (And.intro @B9v @C6e) (And.intro @C6h @C6f)))
def bq8:=And.intro (And.intro (And.intro (And.intro @D1r @C6g) (And.intro @D1q @D1p)) (And.intro (And.intro @A8n @B3g) (And.intro @A6q @A6s))) (And.intro (And.intro (And.intro @A6r @B0z) (And.intro @B0y @B7a)) (And.intro (And.intro @B7b @D5v) (And.intro @D5u @B3l)))
def bq9:=And.intro (And.intro (And.intro (And.intro @D5z @D1o) (And.intro @C4y @B9x)) (And.intro (And.intro @B8a @zT) (And.intro @A2u @A2s))) (And.intro (And.intro (And.intro @A6v @B9o) (And.intro @yO @C1z)) (And.intro (And.intro @A7d @C1a) (And.intro @B1j @B4q)))
def D8d:=And.intro (And.intro (And.intro (And.intro @B4h @C2l) (And.intro @B6o @B2a)) (And.intro (And.intro @B1z @B6j) (And.intro @B6n @B1y))) (And.intro (And.intro (And.intro @C3x @B6m) (And.intro @B2b @B6i)) (And.intro (And.intro @B6l @B0u) (And.intro @B5k @A6x)))
def D8e:=And.intro (And.intro (And.intro (And.intro @B6d @D4d) (And.intro @B9w @B6k)) (And.intro (And.intro @B0t @D2b) (And.intro @D2a @D3m))) (And.intro (And.intro (And.intro @C6t @C6u) (And.intro @C0j @C0i)) (And.intro (And.intro @A3d @C0w) (And.intro @B2f @B4e)))
def D8f:=And.intro (And.intro (And.intro @D3a @C1y) (And.intro (@C2a) (And.intro @C4i @C4j))) (And.intro (And.intro @D0g @D0f) (And.intro (@B6z) (And.intro @C4k @B6y)))
def bq:=And.intro (And.intro (And.intro (@bq0) (And.intro @bq1 @bq2)) (And.intro (@bq3) (And.intro @bq4 @bq5))) (And.intro (And.intro (@bq6) (And.intro @bq7 @bq8)) (And.intro (And.intro @bq9 @D8d) (And.intro @D8e @D8f)))
def br0:=And.intro (And.intro (And.intro (And.intro @List.getD_cons_zero.{0} @List.getD_cons_succ.{0}) (And.intro @List.getD_nil.{0} @List.map_cons.{0,0})) (And.intro (And.intro @List.map_nil.{0,0} @List.getElem?_cons_zero.{0}) (And.intro @List.getElem?_cons_succ.{0} @List.getElem?_nil.{0}))) (And.intro (And.intro (And.intro @List.take_zero.{0} @List.take_length.{0}) (And.intro @List.take_succ_cons.{0} @List.take_nil.{0})) (And.intro (And.intro @List.drop_zero.{0} @List.drop_succ_cons.{0}) (And.intro @List.drop_nil.{0} @List.length_cons.{0})))
def br1:=And.intro (And.intro (And.intro (And.intro @List.length_nil.{0} @List.head?_cons.{0}) (And.intro @List.head?_nil.{0} @List.cons_append.{0})) (And.intro (And.intro @List.nil_append.{0} @List.append_nil.{0}) (And.intro @List.all_cons.{0} @List.all_nil.{0}))) (And.intro (And.intro (And.intro @List.range_zero @List.length_map.{0,0}) (And.intro @List.getElem?_map.{0,0} @List.size_toArray.{0})) (And.intro (And.intro @List.getElem?_toArray.{0} @List.toList_toArray.{0}) (And.intro @Option.map_some.{0,0} @Option.map_none.{0,0})))
def br2:=And.intro (And.intro (And.intro (And.intro @Option.bind_some.{0,0} @Option.bind_none.{0,0}) (And.intro @Option.isSome_some.{0} @Option.isSome_none.{0})) (And.intro (And.intro @Option.some.injEq.{0} @Nat.zero_add) (And.intro @Nat.add_zero @Nat.le_refl))) (And.intro (And.intro (And.intro @Nat.add_one_ne_zero @Int.toNat_natCast) (And.intro @Int.natCast_nonneg @not_true_eq_false)) (And.intro (And.intro @not_false_eq_true @and_true) (And.intro @true_and @and_false)))
def br3:=And.intro (And.intro (And.intro (And.intro @false_and @or_true) (And.intro @true_or @or_false)) (And.intro (And.intro @false_or @Bool.and_true) (And.intro @Bool.true_and @Bool.and_false))) (And.intro (And.intro (And.intro @Bool.false_and @Bool.false_eq_true) (And.intro @Bool.true_eq_false @Bool.not_true)) (And.intro (And.intro @Bool.not_false @beq_self_eq_true.{0}) (And.intro @decide_true @decide_false)))
def br4:=And.intro (And.intro (And.intro (And.intro @decide_eq_true_eq @List.contains_cons.{0}) (And.intro @List.contains_nil.{0} @Bool.or_true)) (And.intro (And.intro @Bool.true_or @Bool.or_false) (And.intro @Bool.false_or @List.filterMap_cons.{0,0}))) (And.intro (And.intro (And.intro @List.filterMap_nil.{0,0} @List.range_succ) (And.intro @List.append_eq.{0} @List.mem_cons.{0})) (And.intro (And.intro @List.not_mem_nil.{0} @List.filter_cons.{0}) (And.intro @List.filter_nil.{0} @pI.eq_1)))
def br5:=And.intro (And.intro (And.intro (And.intro @B1d @B5u) (And.intro @bsk.eq_1 @bsk.eq_2)) (And.intro (And.intro @bP.eq_1 @bP.eq_2) (And.intro @bP.eq_3 @bP.eq_4))) (And.intro (And.intro (And.intro @bP.eq_5 @C4p) (And.intro @C4o @D0i)) (And.intro (And.intro @B2j @B7c) (And.intro @bJ.eq_1 @jO.eq_1)))
def br6:=And.intro (And.intro (And.intro (@jO.eq_2) (And.intro @jO.eq_3 @rsk.eq_1)) (And.intro (@ne_eq.{1}) (And.intro @if_true.{1} @if_false.{1}))) (And.intro (And.intro (@exists_eq_left'.{1}) (And.intro @forall_const.{0} @forall_const.{1})) (And.intro (And.intro @forall_eq.{1} @ne_eq.{0}) (And.intro @if_true.{0} @if_false.{0})))
def br:=And.intro (And.intro (@br0) (And.intro @br1 @br2)) (And.intro (And.intro @br3 @br4) (And.intro @br5 @br6))
class Spl (X:Prop) (A B:outParam Prop):Prop where
 go:A ->B ->X
instance (priority:=2000) {p:Prop} [Decidable p] {A B:Prop} {d:Dum A} {d':Dum B} :Spl (lL (.bool (decide p)) A B d d') (decide p=true -> ¬ ¬ p ->A) (decide p=false -> ¬ p ->B):=⟨A7p⟩
instance (priority:=2000) {p:Prop} [Decidable p] {A B:Prop} {d:Dum A} {d':Dum B} :Spl (gW (some (decide p)) A B d d') (decide p=true -> ¬ ¬ p ->A) (decide p=false -> ¬ p ->B):=⟨C5d⟩
instance {t:Bool} {A B:Prop} {d:Dum A} {d':Dum B} :Spl (lL (.bool t) A B d d') (t=true ->A) (t=false ->B):=⟨A3w⟩
instance {t:Bool} {A B:Prop} {d:Dum A} {d':Dum B} :Spl (gW (some t) A B d d') (t=true ->A) (t=false ->B):=⟨B8q⟩
instance {t:Bool} {a b:AV} {F:AV ->Prop} {d:Dum a} {d':Dum b} {d2:Dum F} :Spl (tQ (.bool t) a b F d d' d2) (t=true ->F a) (t=false ->F b):=⟨A5h⟩
theorem xs{X A B:Prop}[h:Spl X A B](a:A)(b:B):X:=h.go a b
def lr:= @AS.le.refl
def aP:= @aL
def q8h:= @eT
def q8i:= @bO
def aQ:= @C2k
def aR:= @B7e
def ls:= @bQ
def lt:= @D6a
def lf:= @AS.le.fresh
def fb:=And.intro @cY (And.intro @B2s @B8l)
structure Hid(Q:Prop):Prop where
 out:Q
theorem wj{P Q:Prop}(k:Q)(h:Hid Q ->P:=by(intro hq;first|refine aQ ?_|refine aD ?_|((with_reducible refine And.intro ?_ ?_);omega)|refine aA (d':=⟨⟩) ?_|refine aR (by kernel_rfl) ?_|refine aP ?_ (by repeat' first|exact lr _|assumption|refine ls ?_ ?_|refine lt ?_ ?_|simp only[*];done|simp only[fb, *,not_false_eq_true,and_self];done|exact lf ‹_› (by simp only[*]))|refine aC ?_ (by repeat' first|exact lr _|assumption|refine ls ?_ ?_|refine lt ?_ ?_|simp only[*];done|simp only[fb, *,not_false_eq_true,and_self];done|exact lf ‹_› (by simp only[*]))|fail);exact hq.out):P:=h ⟨k⟩
theorem wi{P Q:Prop}(k:Q)(h:Hid Q ->P:=by(intro hq;first|refine aQ ?_|refine aD ?_|((with_reducible refine And.intro ?_ ?_);omega)|refine aA (d':=⟨⟩) ?_|refine aP ?_ (by repeat' first|exact lr _|assumption|refine ls ?_ ?_|refine lt ?_ ?_|simp only[*];done|simp only[fb, *,not_false_eq_true,and_self];done|exact lf ‹_› (by simp only[*]))|refine aC ?_ (by repeat' first|exact lr _|assumption|refine ls ?_ ?_|refine lt ?_ ?_|simp only[*];done|simp only[fb, *,not_false_eq_true,and_self];done|exact lf ‹_› (by simp only[*]))|fail);exact hq.out):P:=h ⟨k⟩
theorem wn{P Q:Prop}(k:Q)(h:Hid Q ->P:=by(intro hq;first|refine q8h ?_|refine q8i ?_|fail);exact hq.out):P:=h ⟨k⟩
theorem wz{P Q:Prop}(k:Q)(h:Hid Q ->P:=by(intro hq;first|refine D2z ?_|refine D0h ?_|fail);exact hq.out):P:=h ⟨k⟩
theorem wp{A P Q:Prop}(c:A)(k:Q)(h:A ->Hid Q ->P:=by(intro hc hq;first|refine aN.use hc ?_|refine aN.head hc ?_|fail);exact hq.out):P:=h c ⟨k⟩
end Go.Av
set_option maxRecDepth 100000
namespace Go.Proofs.YthoenjlenkpnnaaDoor
open Go Go.Av
theorem nK:tk Tryd.prog 3=some (false,1) /\ sk Tryd.prog 3= .int .i64 /\ (Tryd.prog.underlying 3).isSome=true /\ el Tryd.prog 3=none /\ zc Tryd.prog 3=some [.int .i64 0] /\ dB Tryd.prog 3=some 8:=⟨by kernel_rfl,by kernel_rfl,by kernel_rfl,by kernel_rfl,by kernel_rfl,by kernel_rfl⟩
theorem nL:tk Tryd.prog 4=some (false,1) /\ sk Tryd.prog 4= .bool /\ (Tryd.prog.underlying 4).isSome=true /\ el Tryd.prog 4=none /\ zc Tryd.prog 4=some [.bool false] /\ dB Tryd.prog 4=some 1:=⟨by kernel_rfl,by kernel_rfl,by kernel_rfl,by kernel_rfl,by kernel_rfl,by kernel_rfl⟩
theorem lY:tk Tryd.prog 5=some (false,1) /\ sk Tryd.prog 5= .int .u8 /\ (Tryd.prog.underlying 5).isSome=true /\ el Tryd.prog 5=none /\ zc Tryd.prog 5=some [.int .u8 0] /\ dB Tryd.prog 5=some 1:=⟨by kernel_rfl,by kernel_rfl,by kernel_rfl,by kernel_rfl,by kernel_rfl,by kernel_rfl⟩
theorem kW:tk Tryd.prog 9=some (false,1) /\ sk Tryd.prog 9= .str /\ (Tryd.prog.underlying 9).isSome=true /\ el Tryd.prog 9=none /\ zc Tryd.prog 9=some [.str []] /\ dB Tryd.prog 9=some 16:=⟨by kernel_rfl,by kernel_rfl,by kernel_rfl,by kernel_rfl,by kernel_rfl,by kernel_rfl⟩
theorem C2q:tk Tryd.prog 21=some (false,1) /\ sk Tryd.prog 21= .int .i32 /\ (Tryd.prog.underlying 21).isSome=true /\ el Tryd.prog 21=none /\ zc Tryd.prog 21=some [.int .i32 0] /\ dB Tryd.prog 21=some 4:=⟨by kernel_rfl,by kernel_rfl,by kernel_rfl,by kernel_rfl,by kernel_rfl,by kernel_rfl⟩
theorem sV:tk Tryd.prog 22=some (false,1) /\ sk Tryd.prog 22= .sl 48 /\ (Tryd.prog.underlying 22).isSome=true /\ el Tryd.prog 22=some 48 /\ zc Tryd.prog 22=some [.nil] /\ dB Tryd.prog 22=some 24 /\ fV Tryd.prog 22=some (48,5,48):=⟨by kernel_rfl,by kernel_rfl,by kernel_rfl,by kernel_rfl,by kernel_rfl,by kernel_rfl,by kernel_rfl⟩
theorem nP:tk Tryd.prog 23=some (false,1) /\ sk Tryd.prog 23= .sl 46 /\ (Tryd.prog.underlying 23).isSome=true /\ el Tryd.prog 23=some 46 /\ zc Tryd.prog 23=some [.nil] /\ dB Tryd.prog 23=some 24 /\ fV Tryd.prog 23=some (46,8,88):=⟨by kernel_rfl,by kernel_rfl,by kernel_rfl,by kernel_rfl,by kernel_rfl,by kernel_rfl,by kernel_rfl⟩
theorem iF:tk Tryd.prog 24=some (false,1) /\ sk Tryd.prog 24= .sl 53 /\ (Tryd.prog.underlying 24).isSome=true /\ el Tryd.prog 24=some 53 /\ zc Tryd.prog 24=some [.nil] /\ dB Tryd.prog 24=some 24 /\ fV Tryd.prog 24=some (53,7,104):=⟨by kernel_rfl,by kernel_rfl,by kernel_rfl,by kernel_rfl,by kernel_rfl,by kernel_rfl,by kernel_rfl⟩
theorem yJ:tk Tryd.prog 26=some (true,3) /\ sk Tryd.prog 26= .st /\ (Tryd.prog.underlying 26).isSome=true /\ el Tryd.prog 26=none /\ zc Tryd.prog 26=some [.nil, .nil, .nil] /\ dB Tryd.prog 26=some 72 /\ gV Tryd.prog 26=some [(0,1),(1,1),(2,1)] /\ kS Tryd.prog 26 0=some (0,false,1) /\ kS Tryd.prog 26 1=some (1,false,1) /\ kS Tryd.prog 26 2=some (2,false,1):=⟨by kernel_rfl,by kernel_rfl,by kernel_rfl,by kernel_rfl,by kernel_rfl,by kernel_rfl,by kernel_rfl,by kernel_rfl,by kernel_rfl,by kernel_rfl⟩
theorem kI:tk Tryd.prog 27=some (false,1) /\ sk Tryd.prog 27= .sl 5 /\ (Tryd.prog.underlying 27).isSome=true /\ el Tryd.prog 27=some 5 /\ zc Tryd.prog 27=some [.nil] /\ dB Tryd.prog 27=some 24 /\ fV Tryd.prog 27=some (5,1,1):=⟨by kernel_rfl,by kernel_rfl,by kernel_rfl,by kernel_rfl,by kernel_rfl,by kernel_rfl,by kernel_rfl⟩
theorem B4m:tk Tryd.prog 30=some (false,1) /\ sk Tryd.prog 30= .int .i64 /\ (Tryd.prog.underlying 30).isSome=true /\ el Tryd.prog 30=none /\ zc Tryd.prog 30=some [.int .i64 0] /\ dB Tryd.prog 30=some 8:=⟨by kernel_rfl,by kernel_rfl,by kernel_rfl,by kernel_rfl,by kernel_rfl,by kernel_rfl⟩
theorem uH:tk Tryd.prog 43=some (false,1) /\ sk Tryd.prog 43= .int .u8 /\ (Tryd.prog.underlying 43).isSome=true /\ el Tryd.prog 43=none /\ zc Tryd.prog 43=some [.int .u8 0] /\ dB Tryd.prog 43=some 1:=⟨by kernel_rfl,by kernel_rfl,by kernel_rfl,by kernel_rfl,by kernel_rfl,by kernel_rfl⟩
theorem kE:tk Tryd.prog 44=some (false,1) /\ sk Tryd.prog 44= .sl 3 /\ (Tryd.prog.underlying 44).isSome=true /\ el Tryd.prog 44=some 3 /\ zc Tryd.prog 44=some [.nil] /\ dB Tryd.prog 44=some 24 /\ fV Tryd.prog 44=some (3,1,8):=⟨by kernel_rfl,by kernel_rfl,by kernel_rfl,by kernel_rfl,by kernel_rfl,by kernel_rfl,by kernel_rfl⟩
theorem oT:tk Tryd.prog 46=some (true,8) /\ sk Tryd.prog 46= .st /\ (Tryd.prog.underlying 46).isSome=true /\ el Tryd.prog 46=none /\ zc Tryd.prog 46=some [.int .u8 0, .int .i64 0, .int .i64 0, .int .i64 0, .int .i64 0, .int .i64 0, .str [], .nil] /\ dB Tryd.prog 46=some 88 /\ gV Tryd.prog 46=some [(0,1),(1,1),(2,1),(3,1),(4,1),(5,1),(6,1),(7,1)] /\ kS Tryd.prog 46 0=some (0,false,1) /\ kS Tryd.prog 46 1=some (1,false,1) /\ kS Tryd.prog 46 2=some (2,false,1) /\ kS Tryd.prog 46 3=some (3,false,1) /\ kS Tryd.prog 46 4=some (4,false,1) /\ kS Tryd.prog 46 5=some (5,false,1) /\ kS Tryd.prog 46 6=some (6,false,1) /\ kS Tryd.prog 46 7=some (7,false,1):=⟨by kernel_rfl,by kernel_rfl,by kernel_rfl,by kernel_rfl,by kernel_rfl,by kernel_rfl,by kernel_rfl,by kernel_rfl,by kernel_rfl,by kernel_rfl,by kernel_rfl,by kernel_rfl,by kernel_rfl,by kernel_rfl,by kernel_rfl⟩
theorem uI:tk Tryd.prog 48=some (true,5) /\ sk Tryd.prog 48= .st /\ (Tryd.prog.underlying 48).isSome=true /\ el Tryd.prog 48=none /\ zc Tryd.prog 48=some [.str [], .int .i64 0, .int .i64 0, .int .i64 0, .int .i64 0] /\ dB Tryd.prog 48=some 48 /\ gV Tryd.prog 48=some [(0,1),(1,1),(2,1),(3,1),(4,1)] /\ kS Tryd.prog 48 0=some (0,false,1) /\ kS Tryd.prog 48 1=some (1,false,1) /\ kS Tryd.prog 48 2=some (2,false,1) /\ kS Tryd.prog 48 3=some (3,false,1) /\ kS Tryd.prog 48 4=some (4,false,1):=⟨by kernel_rfl,by kernel_rfl,by kernel_rfl,by kernel_rfl,by kernel_rfl,by kernel_rfl,by kernel_rfl,by kernel_rfl,by kernel_rfl,by kernel_rfl,by kernel_rfl,by kernel_rfl⟩
theorem oU:tk Tryd.prog 50=some (false,1) /\ sk Tryd.prog 50= .int .u8 /\ (Tryd.prog.underlying 50).isSome=true /\ el Tryd.prog 50=none /\ zc Tryd.prog 50=some [.int .u8 0] /\ dB Tryd.prog 50=some 1:=⟨by kernel_rfl,by kernel_rfl,by kernel_rfl,by kernel_rfl,by kernel_rfl,by kernel_rfl⟩
theorem lC:tk Tryd.prog 51=some (false,1) /\ sk Tryd.prog 51= .sl 88 /\ (Tryd.prog.underlying 51).isSome=true /\ el Tryd.prog 51=some 88 /\ zc Tryd.prog 51=some [.nil] /\ dB Tryd.prog 51=some 24 /\ fV Tryd.prog 51=some (88,1,4):=⟨by kernel_rfl,by kernel_rfl,by kernel_rfl,by kernel_rfl,by kernel_rfl,by kernel_rfl,by kernel_rfl⟩
theorem jD:tk Tryd.prog 53=some (true,7) /\ sk Tryd.prog 53= .st /\ (Tryd.prog.underlying 53).isSome=true /\ el Tryd.prog 53=none /\ zc Tryd.prog 53=some [.int .u8 0, .bool false, .nil, .str [], .int .i64 0, .nil, .nil] /\ dB Tryd.prog 53=some 104 /\ gV Tryd.prog 53=some [(0,1),(1,1),(2,1),(3,1),(4,1),(5,1),(6,1)] /\ kS Tryd.prog 53 0=some (0,false,1) /\ kS Tryd.prog 53 1=some (1,false,1) /\ kS Tryd.prog 53 2=some (2,false,1) /\ kS Tryd.prog 53 3=some (3,false,1) /\ kS Tryd.prog 53 4=some (4,false,1) /\ kS Tryd.prog 53 5=some (5,false,1) /\ kS Tryd.prog 53 6=some (6,false,1):=⟨by kernel_rfl,by kernel_rfl,by kernel_rfl,by kernel_rfl,by kernel_rfl,by kernel_rfl,by kernel_rfl,by kernel_rfl,by kernel_rfl,by kernel_rfl,by kernel_rfl,by kernel_rfl,by kernel_rfl,by kernel_rfl⟩
theorem D3j:tk Tryd.prog 54=some (false,1) /\ sk Tryd.prog 54= .int .i8 /\ (Tryd.prog.underlying 54).isSome=true /\ el Tryd.prog 54=none /\ zc Tryd.prog 54=some [.int .i8 0] /\ dB Tryd.prog 54=some 1:=⟨by kernel_rfl,by kernel_rfl,by kernel_rfl,by kernel_rfl,by kernel_rfl,by kernel_rfl⟩
theorem D7c:tk Tryd.prog 55=some (false,1) /\ sk Tryd.prog 55= .int .i8 /\ (Tryd.prog.underlying 55).isSome=true /\ el Tryd.prog 55=none /\ zc Tryd.prog 55=some [.int .i8 0] /\ dB Tryd.prog 55=some 1:=⟨by kernel_rfl,by kernel_rfl,by kernel_rfl,by kernel_rfl,by kernel_rfl,by kernel_rfl⟩
theorem A5y:tk Tryd.prog 57=some (true,3) /\ sk Tryd.prog 57= .st /\ (Tryd.prog.underlying 57).isSome=true /\ el Tryd.prog 57=none /\ zc Tryd.prog 57=some [.nil, .int .i64 0, .int .i8 0] /\ dB Tryd.prog 57=some 40 /\ gV Tryd.prog 57=some [(0,1),(1,1),(2,1)] /\ kS Tryd.prog 57 0=some (0,false,1) /\ kS Tryd.prog 57 1=some (1,false,1) /\ kS Tryd.prog 57 2=some (2,false,1):=⟨by kernel_rfl,by kernel_rfl,by kernel_rfl,by kernel_rfl,by kernel_rfl,by kernel_rfl,by kernel_rfl,by kernel_rfl,by kernel_rfl,by kernel_rfl⟩
theorem C2r:tk Tryd.prog 59=some (true,3) /\ sk Tryd.prog 59= .st /\ (Tryd.prog.underlying 59).isSome=true /\ el Tryd.prog 59=none /\ zc Tryd.prog 59=some [.nil, .int .i64 0, .int .i8 0] /\ dB Tryd.prog 59=some 40 /\ gV Tryd.prog 59=some [(0,3)] /\ kS Tryd.prog 59 0=some (0,true,3):=⟨by kernel_rfl,by kernel_rfl,by kernel_rfl,by kernel_rfl,by kernel_rfl,by kernel_rfl,by kernel_rfl,by kernel_rfl⟩
theorem D3k:tk Tryd.prog 71=some (true,10) /\ sk Tryd.prog 71= .st /\ (Tryd.prog.underlying 71).isSome=true /\ el Tryd.prog 71=none /\ zc Tryd.prog 71=some [.nil, .nil, .nil, .str [], .int .i64 0, .int .i64 0, .int .i64 0, .int .i64 0, .int .i64 0, .int .i64 0] /\ dB Tryd.prog 71=some 136 /\ gV Tryd.prog 71=some [(0,3),(3,5),(8,1),(9,1)] /\ kS Tryd.prog 71 0=some (0,true,3) /\ kS Tryd.prog 71 1=some (3,true,5) /\ kS Tryd.prog 71 2=some (8,false,1) /\ kS Tryd.prog 71 3=some (9,false,1):=⟨by kernel_rfl,by kernel_rfl,by kernel_rfl,by kernel_rfl,by kernel_rfl,by kernel_rfl,by kernel_rfl,by kernel_rfl,by kernel_rfl,by kernel_rfl,by kernel_rfl⟩
theorem A6a:tk Tryd.prog 74=some (false,1) /\ sk Tryd.prog 74= .ptr 76 /\ (Tryd.prog.underlying 74).isSome=true /\ el Tryd.prog 74=none /\ zc Tryd.prog 74=some [.nilptr] /\ dB Tryd.prog 74=some 8:=⟨by kernel_rfl,by kernel_rfl,by kernel_rfl,by kernel_rfl,by kernel_rfl,by kernel_rfl⟩
theorem A6b:tk Tryd.prog 76=some (true,2) /\ sk Tryd.prog 76= .st /\ (Tryd.prog.underlying 76).isSome=true /\ el Tryd.prog 76=none /\ zc Tryd.prog 76=some [.nil, .bool false] /\ dB Tryd.prog 76=some 32 /\ gV Tryd.prog 76=some [(0,1),(1,1)] /\ kS Tryd.prog 76 0=some (0,false,1) /\ kS Tryd.prog 76 1=some (1,false,1):=⟨by kernel_rfl,by kernel_rfl,by kernel_rfl,by kernel_rfl,by kernel_rfl,by kernel_rfl,by kernel_rfl,by kernel_rfl,by kernel_rfl⟩
theorem nA:tk Tryd.prog 88=some (false,1) /\ sk Tryd.prog 88= .int .u32 /\ (Tryd.prog.underlying 88).isSome=true /\ el Tryd.prog 88=none /\ zc Tryd.prog 88=some [.int .u32 0] /\ dB Tryd.prog 88=some 4:=⟨by kernel_rfl,by kernel_rfl,by kernel_rfl,by kernel_rfl,by kernel_rfl,by kernel_rfl⟩
theorem A6c:tk Tryd.prog 89=some (false,1) /\ sk Tryd.prog 89= .ptr 57 /\ (Tryd.prog.underlying 89).isSome=true /\ el Tryd.prog 89=none /\ zc Tryd.prog 89=some [.nilptr] /\ dB Tryd.prog 89=some 8:=⟨by kernel_rfl,by kernel_rfl,by kernel_rfl,by kernel_rfl,by kernel_rfl,by kernel_rfl⟩
theorem C2s:tk Tryd.prog 93=some (false,1) /\ sk Tryd.prog 93= .ptr 59 /\ (Tryd.prog.underlying 93).isSome=true /\ el Tryd.prog 93=none /\ zc Tryd.prog 93=some [.nilptr] /\ dB Tryd.prog 93=some 8:=⟨by kernel_rfl,by kernel_rfl,by kernel_rfl,by kernel_rfl,by kernel_rfl,by kernel_rfl⟩
theorem D7d:tk Tryd.prog 95=some (true,30) /\ sk Tryd.prog 95= .arr 30 9 /\ (Tryd.prog.underlying 95).isSome=true /\ el Tryd.prog 95=none /\ zc Tryd.prog 95=some [.str [], .str [], .str [], .str [], .str [], .str [], .str [], .str [], .str [], .str [], .str [], .str [], .str [], .str [], .str [], .str [], .str [], .str [], .str [], .str [], .str [], .str [], .str [], .str [], .str [], .str [], .str [], .str [], .str [], .str []] /\ dB Tryd.prog 95=some 480 /\ nZ Tryd.prog 95=some (30,1) /\ A7b Tryd.prog 95=some (30,false,1):=⟨by kernel_rfl,by kernel_rfl,by kernel_rfl,by kernel_rfl,by kernel_rfl,by kernel_rfl,by kernel_rfl,by kernel_rfl⟩
theorem C2p:tk Tryd.prog 101=some (true,3) /\ sk Tryd.prog 101= .st /\ (Tryd.prog.underlying 101).isSome=true /\ el Tryd.prog 101=none /\ zc Tryd.prog 101=some [.str [], .str [], .bool false] /\ dB Tryd.prog 101=some 40 /\ gV Tryd.prog 101=some [(0,1),(1,1),(2,1)] /\ kS Tryd.prog 101 0=some (0,false,1) /\ kS Tryd.prog 101 1=some (1,false,1) /\ kS Tryd.prog 101 2=some (2,false,1):=⟨by kernel_rfl,by kernel_rfl,by kernel_rfl,by kernel_rfl,by kernel_rfl,by kernel_rfl,by kernel_rfl,by kernel_rfl,by kernel_rfl,by kernel_rfl⟩
theorem C9t:tk Tryd.prog 103=some (false,1) /\ sk Tryd.prog 103= .fn /\ (Tryd.prog.underlying 103).isSome=true /\ el Tryd.prog 103=none /\ zc Tryd.prog 103=some [.nilfn] /\ dB Tryd.prog 103=some 8:=⟨by kernel_rfl,by kernel_rfl,by kernel_rfl,by kernel_rfl,by kernel_rfl,by kernel_rfl⟩
theorem D6z:tk Tryd.prog 114=some (true,90) /\ sk Tryd.prog 114= .arr 30 101 /\ (Tryd.prog.underlying 114).isSome=true /\ el Tryd.prog 114=none /\ dB Tryd.prog 114=some 1200 /\ nZ Tryd.prog 114=some (30,3) /\ A7b Tryd.prog 114=some (30,true,3):=⟨by kernel_rfl,by kernel_rfl,by kernel_rfl,by kernel_rfl,by kernel_rfl,by kernel_rfl,by kernel_rfl⟩
theorem D7a:tk Tryd.prog 121=some (true,4) /\ sk Tryd.prog 121= .arr 4 9 /\ (Tryd.prog.underlying 121).isSome=true /\ el Tryd.prog 121=none /\ zc Tryd.prog 121=some [.str [], .str [], .str [], .str []] /\ dB Tryd.prog 121=some 64 /\ nZ Tryd.prog 121=some (4,1) /\ A7b Tryd.prog 121=some (4,false,1):=⟨by kernel_rfl,by kernel_rfl,by kernel_rfl,by kernel_rfl,by kernel_rfl,by kernel_rfl,by kernel_rfl,by kernel_rfl⟩
theorem D7b:tk Tryd.prog 122=some (true,16) /\ sk Tryd.prog 122= .arr 4 121 /\ (Tryd.prog.underlying 122).isSome=true /\ el Tryd.prog 122=none /\ zc Tryd.prog 122=some [.str [], .str [], .str [], .str [], .str [], .str [], .str [], .str [], .str [], .str [], .str [], .str [], .str [], .str [], .str [], .str []] /\ dB Tryd.prog 122=some 256 /\ nZ Tryd.prog 122=some (4,4) /\ A7b Tryd.prog 122=some (4,true,4):=⟨by kernel_rfl,by kernel_rfl,by kernel_rfl,by kernel_rfl,by kernel_rfl,by kernel_rfl,by kernel_rfl,by kernel_rfl⟩
theorem mixed:Tryd.prog.follows .mixedOrders=true:=by kernel_rfl
end Go.Proofs.YthoenjlenkpnnaaDoor
namespace Go.Proofs.YthoenjlenkpnnaaDoor
open Go Go.Shelf Go.RowKit Go.Proofs
variable {P:Program} {ρ:Ren}
theorem C9v(n:Nat):(Builtin.zeroCells (Value.int .u8 0).cells n).toList=List.replicate n (.int .u8 0):=by
 rw[List.eq_replicate_iff]
 refine⟨by simp[Builtin.zeroCells,Value.cells],fun x hx=> ?_⟩
 simp only[Builtin.zeroCells,Array.toList_map,List.mem_map]at hx
 obtain⟨i,_,rfl⟩:=hx
 have:i % (Value.int IntKind.u8 0).cells.size=0:=Nat.mod_one i
 rw[this];rfl
set_option maxHeartbeats 6400000 in
set_option maxRecDepth 100000 in
theorem B2v (L:LaysM.n290 P ρ) (g l c n:Nat) (cur:Array Value) (w:World) (hg:w.heap[g]? =some (.cells cur (ρ.t 5) (0,0))) (hcs:cur.size=c) (hlc:l <=c) (hn:1 <=n)
  (hlim:l+n <=140737488355328) (hc2:c <=140737488355328) (h1:∀ v ∈ cur.toList.take l,v.oneCell'=true):
  Calls P (ρ.f 290) #[.slice (some ⟨g,0,none⟩) l c, .int .i64 n] w fun e w'=>∃ cap2 cells,e= .returned (.slice (some ⟨w.heap.size,0,none⟩) l cap2) /\ w'.heap[w.heap.size]? =some (.cells cells (ρ.t 5) (0,0)) /\
   cells.toList=cur.toList.take l++List.replicate (cap2 - l) (.int .u8 0) /\ l+n <=cap2 /\ cap2 <=maxLen /\ w'.heap.size=w.heap.size+1 /\ Below w.heap.size w w':=by
 have mixed:=L.mixed
 have t5:=L.t5;have a5:=L.a5;have z5:=L.z5;have v5:=L.v5
 have t37:=L.t37;have a37:=L.a37;have z37:=L.z37;have v37:=L.v37
 have t3:=L.t3;have a3:=L.a3;have z3:=L.z3;have v3:=L.v3
 have t0:=L.t0;have a0:=L.a0;have z0:=L.z0;have v0:=L.v0
 have t4:=L.t4;have a4:=L.a4;have z4:=L.z4;have v4:=L.v4
 obtain⟨i0,hi,hz0,hz1,hz2⟩:=info_parts L.i5
 have hsz1:(P.info? (ρ.t 5)).map (·.size)=some 1:=by rw[hi];simp[hz1]
 have hxl:(cur.toList.take l).length=l:=by rw[List.length_take,Array.length_toList];omega
 have hgl:=Lib.lt_of_heap hg
 obtain⟨C,hC⟩:∃ C:Nat,C=if l+n < 2*c then 2*c else l+n:=⟨_,rfl⟩
 have hCn:l+n <=C:=by rw[hC];split <;>omega
 have hCm:C <=281474976710656:=by rw[hC];split <;>omega
 have happ:=Lib.run_append_nil_zeros (P:=P) w (ρ.t 37) (ρ.t 3) (ρ.t 37) (ρ.t 5) i0 (.int .u8 0) .i64 .i64 L.t37 L.t3 hi hz0 C (by omega) (by omega) (by omega) (by rw[hz2];omega)
 generalize hcap:grownCap w C 0 (ρ.t 5)=cap2 at happ
 have hcapge:C <=cap2:=by rw[<- hcap];exact grownCap_ge w _ 0 (ρ.t 5)
 have hcaple:cap2 <=maxLen:=by rw[<- hcap];exact grownCap_le_maxLen w _ 0 (ρ.t 5) (by unfold maxLen;omega)
 generalize hZ:(Builtin.zeroCells (Value.int .u8 0).cells C++Builtin.zeroCells (Value.int .u8 0).cells (cap2 - C))=Z at happ
 have hZl:Z.toList=List.replicate cap2 (.int .u8 0):=by
  rw[<- hZ,Array.toList_append,C9v,C9v,List.replicate_append_replicate]
  congr 1;omega
 have hZs:Z.size=cap2:=by rw[<- Array.length_toList,hZl,List.length_replicate]
 clear hcap hZ
 have hg1:(w.alloc (.cells Z (ρ.t 5))).drew.heap[g]? =some (.cells cur (ρ.t 5) (0,0)):=by show(w.alloc (.cells Z (ρ.t 5))).heap[g]? =_;rw[RowKit.Below.heap_alloc w _ g hgl];exact hg
 have hcopy:=run_copy_row (P:=P) (w.alloc (.cells Z (ρ.t 5))).drew (ρ.t 37) (ρ.t 37) (ρ.t 3) (ρ.t 5) w.heap.size 0 C cap2 ⟨g,0,none⟩ l c Z (ρ.t 5) (cur.toList.take l) L.t37 hsz1 (heap_alloc_new w _) (by rw[hxl];exact(Nat.min_eq_left (by omega)).symm) (Lib.cells_of_row hg1 l) (by rw[hxl];omega) h1
 rw[hxl]at hcopy
 generalize hY:(Z.toList.take 0++cur.toList.take l++Z.toList.drop (0+l)).toArray=Y at hcopy
 have hYl:Y.toList=cur.toList.take l++List.replicate (cap2 - l) (.int .u8 0):=by rw[<- hY,hZl];simp
 have fin:∀ K:Prop,True:=fun _=>trivial
 by_cases h2:l+n < 2*c
 ·rw[if_pos h2]at hC
  rw[hC,show(((2*c:Nat)):Int)=2*(c:Int)by omega]at happ
  rw[hC]at hcopy
  clear hCm hCn
  go_enter_defers L.f290,Body.n290_ntmps ρ
  go_wp2_with (at_builtin;refine Lib.wpList_append_run _ rfl _ _ _ _ rfl _ _ rfl rfl _ _ happ ?_)
  refine leaves_cons (f:=(ρ.f 324)) (args:= #[]) (by simp) (enters_of L.f324 (by kernel_rfl) rfl _ _) ?_
  refine(Any.growSlice_catch_idle {L with} _).mono ?_
  rintro e u' w'' ⟨rfl,rfl,rfl⟩
  refine⟨_,results_tmp rfl _ _ _,?_⟩
  exact⟨cap2,Y,rfl,setRow_heap _ _ Z Y (ρ.t 5) (0,0) (heap_alloc_new w _),hYl,by omega,hcaple,by simp[World.setRow],⟨rfl,rfl,rfl,by simp,fun k hk=>by rw[setRow_other _ _ _ _ (by omega)];exact Below.heap_alloc w _ k hk⟩⟩
 ·rw[if_neg h2]at hC
  rw[hC,show(((l+n:Nat)):Int)=(l:Int)+(n:Int)by omega]at happ
  rw[hC]at hcopy
  clear hCm hCn
  go_enter_defers L.f290,Body.n290_ntmps ρ
  go_wp2_with (at_builtin;refine Lib.wpList_append_run _ rfl _ _ _ _ rfl _ _ rfl rfl _ _ happ ?_)
  refine leaves_cons (f:=(ρ.f 324)) (args:= #[]) (by simp) (enters_of L.f324 (by kernel_rfl) rfl _ _) ?_
  refine(Any.growSlice_catch_idle {L with} _).mono ?_
  rintro e u' w'' ⟨rfl,rfl,rfl⟩
  refine⟨_,results_tmp rfl _ _ _,?_⟩
  exact⟨cap2,Y,rfl,setRow_heap _ _ Z Y (ρ.t 5) (0,0) (heap_alloc_new w _),hYl,by omega,hcaple,by simp[World.setRow],⟨rfl,rfl,rfl,by simp,fun k hk=>by rw[setRow_other _ _ _ _ (by omega)];exact Below.heap_alloc w _ k hk⟩⟩
end Go.Proofs.YthoenjlenkpnnaaDoor
namespace Go.Av
open Go Go.RowKit
theorem fresh_ne{σ:AS}{b c:Nat}{z:List AV}(h:σ.box b=some z)(hc:σ.fresh c): ¬ b=c /\ ¬ c=b:=by
 have: ¬ b=c:=fun e=>by subst e;rw[hc.1]at h;cases h
 exact⟨this,fun e=>this e.symm⟩
theorem aJ.back{P:Program}{G:Nat ->AV}{f:FuncId}{args:List AV}{σ:AS}{Q:AV ->Prop}(h:aJ P G f args σ fun r σ'=>Q r /\ σ.le σ'):aJ P G f args σ fun r σ'=>Q r /\ σ'=σ:=
 ⟨h.1,fun K w vals hr hv=> (h.2 K w vals hr hv).mono fun e w' ⟨v,r,σ',K',he,⟨hQ,hl⟩,h1,h2,h3⟩=> ⟨v,r,σ,K',he,⟨hQ,rfl⟩,h1,h2.weaken hl,h3⟩⟩
inductive fU(n:Nat)(E:TypeId)(σ0 σ:AS):AV ->List AV ->Prop
 |nil (h:σ0.le σ):fU n E σ0 σ .nil []
 |row (b:Nat) (xs:List AV) (h:σ0.le σ) (h0:σ0.box b=none) (h1:σ0.tip b=none) (hb:σ.box b=some (xs.flatMap flat)) (hx:∀ a,a ∈ xs -> (flat a).length=n /\ isv a=true):fU n E σ0 σ (.bs b xs.length n E) xs
theorem fU.le{n:Nat}{E:TypeId}{σ0 σ:AS}{v:AV}{xs:List AV}(h:fU n E σ0 σ v xs):σ0.le σ:=by cases h <;>assumption
theorem tL{n:Nat} :∀ (xs:List AV),(∀ a,a ∈ xs -> (flat a).length=n) -> (xs.flatMap flat).length=xs.length*n
 |[],_=>by simp
 | x::xs,h=>by
  rw[List.flatMap_cons,List.length_append,h x (by simp),tL xs fun a ha=>h a (by simp[ha]),List.length_cons,Nat.succ_mul,Nat.add_comm]
theorem AS.le.delSet{σ0 σ:AS}(h:σ0.le σ){b b':Nat}(hb:σ0.box b=none)(hb':σ0.box b'=none)(z:List AV):σ0.le ((σ.delBox b).setBox b' z):=by
 refine⟨fun i cs hi=> ?_,fun i m hi=>h.tip _ _ hi,h.ty⟩
 have h1:i ≠ b:=fun e=>by subst e;rw[hb]at hi;cases hi
 have h2:i ≠ b':=fun e=>by subst e;rw[hb']at hi;cases hi
 show(if i=b' then _ else if i=b then none else σ.box i)=some cs
 rw[if_neg h2,if_neg h1];exact h.box _ _ hi
end Go.Av
namespace Go.Av
open Go Go.RowKit
variable {P:Program} {e:aM} {σ:AS}
end Go.Av
namespace Go.Av
open Go Go.RowKit
def eM:AV ->Nat ->Prop
 | .bs r _ _ _,c=>c ≠ r
 |_,_=>True
structure D7y(n:Nat)(E:TypeId)(σ0 σ:AS)(v:AV)(xs:List AV)(v':AV)(σ':AS):Prop where
 buf:fU n E σ0 σ' v' xs
 keep:∀ c z,σ.box c=some z ->eM v c ->σ'.box c=some z /\ eM v' c
 ty:σ'.ty=σ.ty
 ne:v' ≠ .nil ->v= .nil ->xs ≠ []
theorem pQ {P:Program} {n dB:Nat} {σ0 σ:AS} {v x:AV} {xs ys:List AV} {t tx E:TypeId} {K:AV ->AS ->Prop} {d:Dum σ} {d':Dum K} (hB:fU n E σ0 σ v xs) (he:fV P t=some (E,n,dB)) (hs:xO P tx x=some ys)
  (hys:∀ a,a ∈ ys -> (Av.flat a).length=n /\ isv a=true) (hb:(xs.length+ys.length)*dB <=140737488355328) (hK:∀ v' σ',D7y n E σ0 σ v (xs++ys) v' σ' ->K v' σ'):C9y P σ t tx v x K d d':=by
 cases hB with
 | nil h=>
  by_cases hy:ys=[]
  ·subst hy
   refine .inl ?_
   unfold lZ
   rw[he,hs]
   refine⟨fun a ha=> (by cases ha),by simp,fun _=>hK _ _ ⟨.nil h,fun c z hc _=> ⟨hc,trivial⟩,rfl,fun hn=>absurd rfl hn⟩,fun hy=>absurd rfl hy⟩
  ·refine .inr (.inl ?_)
   unfold lH
   rw[he,hs]
   refine⟨fun a ha=> (hys a ha).1,hy,by simpa using hb,fun b hf=>hK _ _ ⟨?_,fun c z hc _=> ?_,rfl,fun _ _=>by simpa using hy⟩⟩
   ·have hf0:=h.fresh hf
    exact .row b ys (h.setBox hf0.1 _) hf0.1 hf0.2.1 (by simp[AS.setBox]) hys
   ·have:=fresh_ne hc hf
    exact⟨by simp only[AS.setBox,if_neg this.1];exact hc,this.1⟩
 | row b xs h h0 h1 hbx hx=>
  refine .inr (.inl ?_)
  unfold lH
  rw[he,hs]
  have hl:=tL xs fun a ha=> (hx a ha).1
  refine⟨fun a ha=> (hys a ha).1,⟨rfl,rfl⟩,_,hbx,by rw[hl];exact Nat.le_refl _,hb,fun b' hb'=> ?_⟩
  have h0':σ0.box b'=none /\ σ0.tip b'=none:=by
   rcases hb' with rfl|hf
   ·exact⟨h0,h1⟩
   ·exact⟨(h.fresh hf).1,(h.fresh hf).2.1⟩
  have e1:(xs.flatMap flat).take (xs.length*n)++ys.flatMap flat=(xs++ys).flatMap flat:=by
   rw[List.take_of_length_le (by rw[hl];exact Nat.le_refl _),List.flatMap_append]
  have hK':=hK (.bs b' (xs++ys).length n E) ((σ.delBox b).setBox b' ((xs++ys).flatMap flat)) ⟨.row b' (xs++ys) (h.delSet h0 h0'.1 _) h0'.1 h0'.2 (by simp[AS.setBox]) fun a ha=>by
   rcases List.mem_append.1 ha with ha|ha
   ·exact hx a ha
   ·exact hys a ha,fun c z hc hn=>by
    have h2:c ≠ b':=by
     rcases hb' with rfl|hf
     ·exact hn
     ·exact(fresh_ne hc hf).1
    refine⟨?_,h2⟩
    show(if c=b' then _ else if c=b then none else σ.box c)=some z
    rw[if_neg h2,if_neg hn];exact hc,rfl,fun _ hn=>by cases hn⟩
  rw[<- e1,List.length_append]at hK'
  exact hK'
theorem fU.setOther{n:Nat}{E:TypeId}{σ0 σ:AS}{v:AV}{xs:List AV}(h:fU n E σ0 σ v xs){b:Nat}(hb:σ0.box b=none)(hn:eM v b)(z:List AV):fU n E σ0 (σ.setBox b z) v xs:=by
 cases h with
 |nil h=>exact .nil (h.setBox hb z)
 |row r xs h h0 h1 hbx hx=>exact .row r xs (h.setBox hb z) h0 h1 (by simp only[AS.setBox,if_neg (Ne.symm hn)];exact hbx) hx
theorem fU.len{P:Program}{n:Nat}{E:TypeId}{σ0 σ:AS}{v:AV}{xs:List AV}(h:fU n E σ0 σ v xs){t:TypeId} :fS P .len #[t] [v]=if(el P t).isSome then some (.int .i64 xs.length)else none:=by
 cases h with
 |nil _=>rw[C0h];rfl
 |row r xs h h0 h1 hbx hx=>rw[D5u]
def fN(c:UInt8):AV:= .int .u8 c.toNat
def aI(s:List UInt8):List AV:=s.map fN
theorem A4b(s:List UInt8):(aI s).flatMap flat=aI s:=by
 induction s with
 |nil=>rfl
 |cons c s ih=>simp only[aI,List.map_cons,List.flatMap_cons]at ih ⊢;rw[ih];rfl
theorem vR(s:List UInt8):∀ a,a ∈ aI s -> (flat a).length=1 /\ isv a=true:=fun a ha=>by
 obtain⟨c,_,rfl⟩:=List.mem_map.1 ha
 exact⟨rfl,rfl⟩
structure Bld(T E:TypeId)(σ0 σ:AS)(b:Nat)(xs:List UInt8):Prop where
 le:σ0.le σ
 out:σ0.box b=none
 ty:σ.ty b=some ((T:rQ),2)
 box:∃ p v,σ.box b=some [p,v] /\ (p= .nilptr \/ p= .ptr b 0) /\ fU 1 E σ0 σ v (aI xs) /\ eM v b /\ (v ≠ .nil ->xs ≠ [])
end Go.Av
namespace Go.Av
open Go Go.RowKit
variable {H:Type}
mutual
def kX:DataW H ->AV
 | .lit (.bool b)=> .bool b
 | .lit (.int k n)=> .int k n
 | .lit (.string s)=> .str s
 | .lit _=> .undef
 | .nil=> .sl .none [] []
 | .slice elems _=> .sl .none (A0l elems) []
 | .agg parts=> .agg (sA parts)
 |_=> .undef
def A0l:List (DataW H) ->List AV
 |[]=> []
 |d::r=>kX d::A0l r
def sA:List (DataW H) ->List AV
 |[]=> []
 |d::r=>flat (kX d)++sA r
end
theorem B5z(l:List (DataW H)):A0l l=l.map kX:=by
 induction l with
 |nil=>simp[A0l]
 |cons d r ih=>simp[A0l,ih]
def A6d(P:Program):Nat ->List Field ->Nat ->Bool
 |k,[],n=>decide (k=n)
 |k,f::fs,n=>decide (f.offset=k) && A6d P (k+P.cellsOf f.type) fs n
def mG(P:Program)(S:List TypeId):Bool:=
 S.all fun t=>match P.underlying t with
  |some .bool|some (.int _)|some .string=>true
  |some (.slice e)=>S.contains e && decide (0 < P.cellsOf e)
  |some (.struct fs)=> (fs.toList.all fun f=>S.contains f.type) && A6d P 0 fs.toList (P.cellsOf t)
  |some (.array n e)=>S.contains e && decide (n*P.cellsOf e=P.cellsOf t)
  |_=>false
structure CL(K:aT)(cs:List AV)(vs:List Value):Prop where
 size:vs.length=cs.length
 one:∀ c,c ∈ cs ->one c=true
 at_:∀ j (h:j < cs.length),VR K cs[j] (vs.getD j Go.undef)
theorem CL.one1{K:aT}{a:AV}{v:Value}(h:VR K a v)(h1:Av.one a=true):CL K [a] [v]:=
 ⟨rfl,fun c hc=>by simp at hc;subst hc;exact h1,fun j hj=>by
   have:j=0:=by simpa using hj
   subst this;exact h⟩
theorem CL.append{K:aT}{a b:List AV}{v u:List Value}(h:CL K a v)(k:CL K b u):CL K (a++b) (v++u):=by
 have h1:=h.size
 refine⟨by simp[h.size,k.size],fun c hc=> ?_,fun j hj=> ?_⟩
 ·rcases List.mem_append.1 hc with hc|hc
  ·exact h.one c hc
  ·exact k.one c hc
 ·by_cases hja:j < a.length
  ·rw[List.getElem_append_left hja]
   have:=h.at_ j hja
   simpa [List.getElem?_append_left (show j < v.length by omega)] using this
  ·rw[List.getElem_append_right (by omega)]
   have:=k.at_ (j - a.length) (by simp at hj;omega)
   simpa [List.getElem?_append_right (show v.length <=j by omega),h1] using this
theorem CL.nil{K:aT} :CL K [] []:=⟨rfl,(fun c hc=>by cases hc),(fun j hj=>by cases hj)⟩
theorem CL.flatMap{α:Type}{K:aT}{f:α ->List AV}{g:α ->List Value} :∀ (l:List α),(∀ x,x ∈ l ->CL K (f x) (g x)) ->CL K (l.flatMap f) (l.flatMap g)
 |[],_=>CL.nil
 | x::l,h=>by
  rw[List.flatMap_cons,List.flatMap_cons]
  exact(h x (by simp)).append (CL.flatMap l fun y hy=>h y (by simp[hy]))
theorem VR.ofCL{K:aT}{a:AV}{cs:List Value}(h:CL K (flat a) cs)(h0:flat a=[a]):∃ v,cs=[v] /\ VR K a v:=by
 rw[h0]at h
 have h1:=h.size
 match cs,h1 with
 |[v],_=>exact⟨v,rfl,h.at_ 0 (by simp)⟩
def tyW(P:Program):Nat ->TypeId ->DataW H ->Prop
 |0,_,_=>False
 | n+1,t,d=>match P.underlying t with
  |some .bool=>∃ b,d= .lit (.bool b)
  |some (.int k)=>∃ m,d= .lit (.int k m) /\ (Lit.int k m).wf=true
  |some .string=>∃ s,d= .lit (.string s) /\ s.length <=maxLen
  |some (.slice e)=>d= .nil \/ ∃ xs sp,d= .slice xs sp /\ ∀ x,x ∈ xs ->tyW P n e x
  |some (.struct fs)=>∃ ds,d= .agg ds /\ ds.length=fs.size /\ ∀ (i:Nat) (f:Field) x,fs[i]? =some f ->ds[i]? =some x ->tyW P n f.type x
  |some (.array m e)=>∃ ds,d= .agg ds /\ ds.length=m /\ ∀ x,x ∈ ds ->tyW P n e x
  |_=>False
section read
variable {enc:TypeId × Value ->H} {P:Program} {w:World} {held:Bool} {K:aT} {S:List TypeId}
theorem tK {r:TypeId ->List Value ->Option (DataW H × List MemPlace)} {total:Nat} {cs:List Value}
  (hr:∀ t cs x,t ∈ S ->r t cs=some x ->CL K (flat (kX x.1)) cs):∀ (fs:List Field) (xs:List (DataW H × List MemPlace)) (k:Nat),(∀ f,f ∈ fs ->f.type ∈ S) ->A6d P k fs total=true ->xs.length=fs.length ->
  (∀ (i:Nat) (f:Field),fs[i]? =some f ->r f.type ((cs.drop f.offset).take (P.cellsOf f.type))=xs[i]?) ->cs.length=total ->CL K (sA (xs.map (·.1))) (cs.drop k)
 | [],[],k,_,ht,_,_,hl=>by
  simp only[A6d,decide_eq_true_eq]at ht
  rw[List.drop_eq_nil_of_le (by omega)]
  exact CL.nil
 | f::fs,x::xs,k,hS,ht,hlen,hx,hl=>by
  simp only[A6d,Bool.and_eq_true,decide_eq_true_eq]at ht
  have h0:=hx 0 f rfl
  simp only[List.getElem?_cons_zero,ht.1]at h0
  have h1:=hr _ _ _ (hS f (by simp)) h0
  have h2:=tK hr fs xs (k+P.cellsOf f.type) (fun g hg=>hS g (by simp[hg])) ht.2 (by simpa using hlen) (fun i g hg=>by have:=hx (i+1) g (by simpa using hg);simpa using this) hl
  have e:cs.drop k=(cs.drop k).take (P.cellsOf f.type)++cs.drop (k+P.cellsOf f.type):=by
   rw[<- List.drop_drop,List.take_append_drop]
  rw[e]
  simp only[List.map_cons,sA]
  exact h1.append h2
 |[],_::_,_,_,_,h,_,_=>by cases h
 |_::_,[],_,_,_,h,_,_=>by cases h
theorem wE {r:List Value ->Option (DataW H × List MemPlace)} {n:Nat} {cs:List Value}
  (hr:∀ cs x,r cs=some x ->CL K (flat (kX x.1)) cs):∀ (xs:List (DataW H × List MemPlace)) (k:Nat),
  (∀ i,i < xs.length ->r ((cs.drop ((k+i)*n)).take n)=xs[i]?) ->cs.length=(k+xs.length)*n ->CL K (sA (xs.map (·.1))) (cs.drop (k*n))
 | [],k,_,hl=>by
  rw[List.drop_eq_nil_of_le (by simp only[List.length_nil,Nat.add_zero]at hl;omega)]
  exact CL.nil
 | x::xs,k,hx,hl=>by
  have h0:=hx 0 (by simp)
  simp only[List.getElem?_cons_zero,Nat.add_zero]at h0
  have h1:=hr _ _ h0
  have h2:=wE hr xs (k+1) (fun i hi=>by have:=hx (i+1) (by simpa using hi);simpa [Nat.add_assoc,Nat.add_comm 1 i] using this) (by rw[hl,List.length_cons];congr 1;omega)
  have e:cs.drop (k*n)=(cs.drop (k*n)).take n++cs.drop ((k+1)*n):=by
   rw[Nat.succ_mul,<- List.drop_drop,List.take_append_drop]
  rw[e]
  simp only[List.map_cons,sA]
  exact h1.append h2
theorem      A5l(hS:mG P S=true)(hK:∀ b o v,w.cell? ⟨b,o,none⟩=some v ->K.imm b o=some v):∀ (fuel:Nat) (t:TypeId) (cs:List Value) (x:DataW H × List MemPlace),t ∈ S ->
  DataW.trod enc P w 0 (fun _=>true) held fuel t cs=some x ->tyW P fuel t x.1 /\ CL K (flat (kX x.1)) cs /\ isv (kX x.1)=true:=by
 intro fuel
 induction fuel with
 |zero=>intro t cs x _ h;simp[DataW.trod]at h
 | succ n ih=>
  intro t cs x htS h
  have hc:=List.all_eq_true.1 hS t htS
  unfold tyW
  split at hc
  ·rename_i ht
   obtain⟨b,rfl,rfl⟩:=DataW.trod_bool ht h
   simp only[kX]
   exact⟨⟨b,rfl⟩,CL.one1 (.bool b) rfl,rfl⟩
  ·rename_i k ht
   obtain⟨m,rfl,rfl,hw⟩:=DataW.trod_int ht h
   simp only[kX]
   exact⟨⟨m,rfl,hw⟩,CL.one1 (.int k m) rfl,rfl⟩
  ·rename_i ht
   obtain⟨s,rfl,rfl,hw⟩:=DataW.trod_string ht h
   simp only[kX]
   exact⟨⟨_,rfl,by simpa using hw⟩,CL.one1 (.str s.data.toList) rfl,rfl⟩
  ·rename_i e ht
   simp only[Bool.and_eq_true,decide_eq_true_eq]at hc
   have heS:e ∈ S:=by simpa using hc.1
   rcases DataW.trod_slice ht h with⟨rfl,rfl⟩|⟨a,len,cap,elems,rest,m,hm,rfl,rfl,_,hlc,hml,hlen,hel,hsp,_⟩
   ·exact⟨.inl rfl,by simp only[kX];exact CL.one1 (.sl0 none) rfl,by simp only[kX];rfl⟩
   ·have hmn:m=n:=by omega
    subst hmn
    have hel2:∀ i (hi:i < elems.length),∃ cs,w.cells? 0 (a.add (i*P.cellsOf e)) (P.cellsOf e)=some cs /\ DataW.trod enc P w 0 (fun _=>true) held m e cs=some elems[i]:=fun i hi=>by
     have h1:=hel i (by omega)
     rw[List.getElem?_eq_getElem hi,Option.bind_eq_some_iff]at h1
     exact h1
    refine⟨.inr ⟨_,_,rfl,fun d hd=> ?_⟩,?_,rfl⟩
    ·obtain⟨y,hy,rfl⟩:=List.mem_map.1 hd
     obtain⟨i,hi,rfl⟩:=List.getElem_of_mem hy
     obtain⟨cs,_,h2⟩:=hel2 i hi
     exact(ih e cs _ heS h2).1
    ·simp only[kX]
     refine CL.one1 ?_ rfl
     rw[B5z,List.map_map]
     by_cases hcap:cap=0
     ·have:elems=[]:=List.eq_nil_of_length_eq_zero (by omega)
      subst this
      have hl0:len=0:=by omega
      subst hcap hl0
      exact .sl0 (some a)
     ·obtain⟨b,off,spot⟩:=a
      have hspot:spot=none:=by
       have h0:∃ c0,w.cell? ⟨b,off,spot⟩=some c0:=by
        by_cases hl0:len=0
        ·obtain⟨hrl,hr⟩:=hsp rfl
         have h1:=hr 0 (by omega)
         obtain⟨y,hy⟩:∃ y,rest[0]? =some y:=⟨_,List.getElem?_eq_getElem (by omega)⟩
         rw[hy,Option.bind_eq_some_iff]at h1
         obtain⟨cs,h2,_⟩:=h1
         obtain⟨_,hcl,hcc⟩:=World.cells?_some h2
         have h3:=hcc 0 hc.2
         obtain⟨c0,hc0⟩:∃ c0,cs[0]? =some c0:=⟨_,List.getElem?_eq_getElem (by omega)⟩
         refine⟨c0,?_⟩
         rw[hc0]at h3
         simpa [Addr.add,hl0] using h3
        ·obtain⟨cs,h2,_⟩:=hel2 0 (by omega)
         obtain⟨_,hcl,hcc⟩:=World.cells?_some h2
         have h3:=hcc 0 hc.2
         obtain⟨c0,hc0⟩:∃ c0,cs[0]? =some c0:=⟨_,List.getElem?_eq_getElem (by omega)⟩
         refine⟨c0,?_⟩
         rw[hc0]at h3
         simpa [Addr.add] using h3
       obtain⟨c0,h0⟩:=h0
       simpa using World.cell?_spot h0
      subst hspot
      have hcell:∀ i (hi:i < elems.length),∃ cs,cs.length=P.cellsOf e /\ (∀ r,r < P.cellsOf e ->w.cell? ⟨b,off+(i*P.cellsOf e+r),none⟩=cs[r]?) /\ CL K (flat (kX elems[i].1)) cs /\ isv (kX elems[i].1)=true:=fun i hi=>by
       obtain⟨cs,h2,h3⟩:=hel2 i hi
       obtain⟨_,hcl,hcc⟩:=World.cells?_some h2
       obtain⟨_,h4,h5⟩:=ih e cs _ heS h3
       refine⟨cs,hcl,fun r hr=> ?_,h4,h5⟩
       have:=hcc r hr
       rw[<- this,Addr.add_lit,Addr.add_lit,Nat.add_assoc]
      have hflen:∀ y,y ∈ elems.map (kX ∘ fun x=>x.1) -> (flat y).length=P.cellsOf e /\ isv y=true /\ ∀ c,c ∈ flat y ->one c=true:=fun y hy=>by
       obtain⟨z,hz,rfl⟩:=List.mem_map.1 hy
       obtain⟨i,hi,rfl⟩:=List.getElem_of_mem hz
       obtain⟨cs,hcl,_,h4,h5⟩:=hcell i hi
       exact⟨by have:=h4.size;simp only[Function.comp];omega,h5,h4.one⟩
      have hfl:=bD (sz:=P.cellsOf e) (elems.map (kX ∘ fun x=>x.1)) (fun y hy=> (hflen y hy).1)
      have hvals:∀ j (hj:j < ((elems.map (kX ∘ fun x=>x.1)).flatMap flat).length),∃ v,w.cell? ⟨b,off+j,none⟩=some v /\ VR K ((elems.map (kX ∘ fun x=>x.1)).flatMap flat)[j] v:=fun j hj=>by
       have hz:0 < P.cellsOf e:=hc.2
       have hj2:j < elems.length*P.cellsOf e:=by rw[hfl,List.length_map]at hj;exact hj
       have hi:j / P.cellsOf e < elems.length:=Nat.div_lt_of_lt_mul (by rw[Nat.mul_comm];exact hj2)
       have hr:j % P.cellsOf e < P.cellsOf e:=Nat.mod_lt _ hz
       have hjd:j / P.cellsOf e*P.cellsOf e+j % P.cellsOf e=j:=Nat.div_add_mod' j _
       obtain⟨cs,hcl,h3,h4,h5⟩:=hcell (j / P.cellsOf e) hi
       have h6:=h3 (j % P.cellsOf e) hr
       rw[hjd]at h6
       have hlt:j % P.cellsOf e < (flat (kX elems[j / P.cellsOf e].1)).length:=by have:=h4.size;omega
       have h7:=h4.at_ _ hlt
       have h8:=vY (sz:=P.cellsOf e) (elems.map (kX ∘ fun x=>x.1)) (fun y hy=> (hflen y hy).1) (j / P.cellsOf e) (by simpa using hi) (j % P.cellsOf e) hr
       rw[hjd,List.getElem?_eq_getElem hj]at h8
       simp only[List.getElem_map,Function.comp]at h8
       rw[List.getElem?_eq_getElem hlt]at h8
       have h9:=Option.some.inj h8
       refine⟨cs.getD (j % P.cellsOf e) Go.undef,?_,?_⟩
       ·rw[h6];simp[List.getD,show j % P.cellsOf e < cs.length by omega]
       ·rw[h9];exact h7
      have:=VR.sl (K:=K) .none (elems.map (kX ∘ fun x=>x.1)) [] (P.cellsOf e) b off cap (fun j=> (w.cell? ⟨b,off+j,none⟩).getD Go.undef)
       (fun y hy=>hflen y (by simpa using hy)) (by simp;omega) hml
       (fun j hj=>by
         simp only[List.append_nil]at hj
         obtain⟨v,h1,_⟩:=hvals j hj
         rw[h1]
         exact hK _ _ _ h1)
       (fun j hj=>by
         simp only[List.append_nil]at hj ⊢
         obtain⟨v,h1,h2⟩:=hvals j hj
         rw[h1];exact h2) trivial
      rw[List.length_map,hlen]at this
      exact this
  ·rename_i fs ht
   simp only[Bool.and_eq_true]at hc
   obtain⟨xs,m,hm,rfl,hcl,hxl,hx⟩:=DataW.trod_struct ht h
   have hmn:m=n:=by omega
   subst hmn
   have hfS:∀ f,f ∈ fs.toList ->f.type ∈ S:=fun f hf=>by have:=List.all_eq_true.1 hc.1 f hf;simpa using this
   refine⟨⟨_,rfl,by simpa using hxl,fun i f x hf hd=> ?_⟩,?_,rfl⟩
   ·rw[List.getElem?_map]at hd
    cases hy:xs[i]? with
    |none=>rw[hy]at hd;cases hd
    | some y=>
     rw[hy]at hd
     simp only[Option.map_some,Option.some.injEq]at hd
     subst hd
     have h1:=hx i f hf
     rw[hy]at h1
     exact(ih f.type _ y (hfS f (by rw[Array.mem_toList_iff];exact Array.mem_of_getElem? hf)) h1).1
   ·simp only[kX,flat]
    have:=tK (P:=P) (S:=S) (K:=K) (r:=DataW.trod enc P w 0 (fun _=>true) held m) (total:=P.cellsOf t) (cs:=cs) (fun t cs x hts hh=> (ih t cs x hts hh).2.1) fs.toList xs 0 hfS hc.2 (by simpa using hxl) (fun i f hf=>hx i f (by simpa using hf)) hcl
    simpa using this
  ·rename_i q e ht
   simp only[Bool.and_eq_true,decide_eq_true_eq]at hc
   have heS:e ∈ S:=by simpa using hc.1
   obtain⟨xs,m,hm,rfl,hcl,hxl,hx⟩:=DataW.trod_array ht h
   have hmn:m=n:=by omega
   subst hmn
   refine⟨⟨_,rfl,by simpa using hxl,fun x hd=> ?_⟩,?_,rfl⟩
   ·obtain⟨y,hy,rfl⟩:=List.mem_map.1 hd
    obtain⟨i,hi,rfl⟩:=List.getElem_of_mem hy
    have h1:=hx i (by omega)
    rw[List.getElem?_eq_getElem hi]at h1
    exact(ih e _ _ heS h1).1
   ·simp only[kX,flat]
    have:=wE (K:=K) (r:=DataW.trod enc P w 0 (fun _=>true) held m e) (n:=P.cellsOf e) (cs:=cs) (fun cs x hh=> (ih e cs x heS hh).2.1) xs 0 (fun i hi=>by have:=hx i (by omega);simpa using this) (by simp only[Nat.zero_add];rw[hcl,<- hc.2,hxl])
    simpa using this
  ·cases hc
theorem C1m (hS:mG P S=true) (hK:∀ b o v,w.cell? ⟨b,o,none⟩=some v ->K.imm b o=some v) {t:TypeId} {v:Value} {d:DataW H} {ps:List MemPlace} {r:Reach} {b0:Nat} (htS:t ∈ S)
  (hval:Value.okWide P w r b0 t v) (h:DataW.Trod enc P w 0 (fun _=>true) held t v d ps):∃ n,tyW P n t d /\ VR K (kX d) v:=by
 obtain⟨fuel,hf⟩:=h
 obtain⟨h1,h2,h3⟩:=A5l hS hK fuel t _ _ htS hf
 refine⟨fuel,h1,?_⟩
 have hc:=List.all_eq_true.1 hS t htS
 cases fuel with
 |zero=>exact h1.elim
 | succ n=>
  unfold tyW at h1
  have single:∀ (a:AV),flat a=[a] ->kX d=a -> (∀ cs,v ≠ .agg cs) ->VR K a v:=fun a ha hd hv=>by
   simp only[hd]at h2
   obtain⟨u,h4,h5⟩:=VR.ofCL h2 ha
   have h6:v.cells= #[v]:=by cases v <;>first|rfl|exact absurd rfl (hv _)
   rw[h6]at h4
   have:v=u:=by simpa using h4
   rw[this];exact h5
  have agg:∀ ds,d= .agg ds -> (∃ cs,v= .agg cs) ->VR K (kX d) v:=fun ds hd hv=>by
   obtain⟨cs,rfl⟩:=hv
   subst hd
   simp only[kX,flat]at h2 ⊢
   refine .agg _ _ ?_ h2.one (fun j hj=> ?_)
   ·have:=h2.size;simpa [Value.cells] using this
   ·have:=h2.at_ j hj
    simpa [Value.cells,Array.getD_eq_getD_getElem?,List.getD_eq_getElem?_getD] using this
  unfold Value.okWide at hval
  split at hc
  ·rename_i ht;rw[ht]at h1 hval
   obtain⟨b,rfl⟩:=h1
   exact single _ rfl (by simp[kX]) (fun cs hv=>by subst hv;simp[Cell.okWide,ht,Cell.ok]at hval)
  ·rename_i k ht;rw[ht]at h1 hval
   obtain⟨m,rfl,_⟩:=h1
   exact single _ rfl (by simp[kX]) (fun cs hv=>by subst hv;simp[Cell.okWide,ht,Cell.ok]at hval)
  ·rename_i ht;rw[ht]at h1 hval
   obtain⟨m,rfl,_⟩:=h1
   exact single _ rfl (by simp[kX]) (fun cs hv=>by subst hv;simp[Cell.okWide,ht,Cell.ok]at hval)
  ·rename_i e ht;rw[ht]at h1 hval
   have hv:∀ cs,v ≠ .agg cs:=fun cs hv=>by subst hv;simp[Cell.okWide,ht,Cell.ok]at hval
   rcases h1 with rfl|⟨xs,sp,rfl,_⟩
   ·exact single _ rfl (by simp[kX]) hv
   ·exact single _ rfl (by simp[kX]) hv
  ·rename_i fs ht;rw[ht]at h1 hval
   obtain⟨ds,hd,_⟩:=h1
   obtain⟨cs,hv,_⟩:=hval
   exact agg ds hd ⟨cs,hv⟩
  ·rename_i q e ht;rw[ht]at h1 hval
   obtain⟨ds,hd,_⟩:=h1
   obtain⟨cs,hv,_⟩:=hval
   exact agg ds hd ⟨cs,hv⟩
  ·cases hc
end read
end Go.Av
