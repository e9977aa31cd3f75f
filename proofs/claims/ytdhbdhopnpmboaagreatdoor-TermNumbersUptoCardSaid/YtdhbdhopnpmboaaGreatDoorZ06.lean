/- A drawn row whose ways meet again: what it yields is told once. -/
import Derived.Test.YtdhbdhopnpmboaaGreatDoorZ05
import Derived.Test.YtdhbdhopnpmboaaGreatDoorChecked
import Derived.KernelRfl
set_option linter.unusedVariables false
set_option linter.unusedSimpArgs false
set_option linter.defProp false
namespace Go.Av
open Go Go.RowKit
section fl
variable {P:Program} {G:Nat ->AV} {ops rest:List Oper} {σ0 σ:AS} {R:bF ->AS ->Prop} {e:bF} {d:Option Tmp} {ty:TypeId} {pos:String} {af:Array Edge} {g:Option (Nat × Bool)} {av:List Nat} {K:AV ->AS ->List Nat ->Prop}
def C1c(P:Program)(σ:AS)(av:List Nat)(t:TypeId)(p x:AV)(K:AV ->AS ->List Nat ->Prop)(_:Dum σ)(_:Dum K):Prop:=
 ∃ b off z0 z,p= .ptr b off /\ b ∈ av /\ σ.box b=some z0 /\ kF P σ t (.ptr b off) x=some (σ.setBox b z) /\ K .undef (σ.setBox b z) (av.filter fun c=>decide (c ≠ b))
theorem E3v:dB P G ops σ0 R [] e σ av=R e σ:=nr rfl
theorem D7x{o:Oper} :dB P G ops σ0 R (o::rest) e σ av=
   gW (dW ops e o.guard) (jP P G o e σ0 σ av fun r σ' av'=>dB P G ops σ0 R rest (e.upd o.dst r) σ' av') (dB P G ops σ0 R rest (e.upd o.dst (.tup [])) σ av) ⟨⟩ ⟨⟩:=nr rfl
def D4d(P:Program)(σ0 σ:AS)(av:List Nat)(t:TypeId)(p x:AV)(K:AV ->AS ->List Nat ->Prop)(_:Dum σ0)(_:Dum σ)(_:Dum K):Prop:=C1c P σ av t p x K ⟨⟩ ⟨⟩ \/ (xN P σ0 t p x /\ K .undef σ av)
theorem D1f{t:TypeId}{p x:Operand} :jP P G ⟨d, .store t p x,ty,pos,af,g⟩ e σ0 σ av K=D4d P σ0 σ av t (ev G e p) (ev G e x) K ⟨⟩ ⟨⟩ ⟨⟩:=nr rfl
theorem D4e{σ0 σ:AS}{av:List Nat}{t:TypeId}{p x:AV}{K:AV ->AS ->List Nat ->Prop}{d:Dum σ0}{d':Dum σ}{d2:Dum K}(h:C1c P σ av t p x K ⟨⟩ ⟨⟩):D4d P σ0 σ av t p x K d d' d2:= .inl h
def E1r(P:Program)(σ0:AS)(t:TypeId)(p x:AV)(F:Prop)(_:Dum σ0)(_:Dum F):Prop:=xN P σ0 t p x /\ F
theorem D7q{K:AV ->AS ->Prop}{t:TypeId}{p x:Operand} :hop P G ⟨d, .store t p x,ty,pos,af,g⟩ e σ0 σ K=E1r P σ0 t (ev G e p) (ev G e x) (K .undef σ) ⟨⟩ ⟨⟩:=nr rfl
theorem E0l {σ0:AS} {t:TypeId} {b off n:Nat} {ag:Bool} {x:AV} {F:Prop} {d:Dum σ0} {d':Dum F} {z:List AV} (hk:tk P t=some (ag,n)) (hb:σ0.box b=some z) (hx:isv x=true) (hl:(flat x).length=n) (ho:off+n <=z.length)
  (he:z.take off++flat x++z.drop (off+n)=z) (h:F):E1r P σ0 t (.ptr b off) x F d d':=by
 refine⟨⟨b,off,z,rfl,hb,?_⟩,h⟩
 unfold kF
 simp only[hk,hb]
 rw[if_pos ⟨hx,hl,ho⟩,he]
theorem D7z{x:Operand} :jP P G ⟨d, .move x,ty,pos,af,g⟩ e σ0 σ av K=hop P G ⟨d, .move x,ty,pos,af,g⟩ e σ0 σ (fun r σ'=>K r σ' av):=nr rfl
theorem C5g{x:Operand} :jP P G ⟨d, .assign x,ty,pos,af,g⟩ e σ0 σ av K=hop P G ⟨d, .assign x,ty,pos,af,g⟩ e σ0 σ (fun r σ'=>K r σ' av):=nr rfl
theorem D8a{a b c:Operand} :jP P G ⟨d, .pick a b c,ty,pos,af,g⟩ e σ0 σ av K=hop P G ⟨d, .pick a b c,ty,pos,af,g⟩ e σ0 σ (fun r σ'=>K r σ' av):=nr rfl
theorem D0z{E:TypeId} :jP P G ⟨d, .alloc E,ty,pos,af,g⟩ e σ0 σ av K=hop P G ⟨d, .alloc E,ty,pos,af,g⟩ e σ0 σ (fun r σ'=>K r σ' av):=nr rfl
theorem E3q{E:TypeId}{x:Operand} :jP P G ⟨d, .box E x,ty,pos,af,g⟩ e σ0 σ av K=hop P G ⟨d, .box E x,ty,pos,af,g⟩ e σ0 σ (fun r σ'=>K r σ' av):=nr rfl
theorem D1b{t:TypeId}{ps:Array (Nat × Operand)} :jP P G ⟨d, .build t ps,ty,pos,af,g⟩ e σ0 σ av K=hop P G ⟨d, .build t ps,ty,pos,af,g⟩ e σ0 σ (fun r σ'=>K r σ' av):=nr rfl
theorem A7v{t n:Nat}{ps:Array (Nat × Operand)} :jP P G ⟨d, .buildSlice t n ps,ty,pos,af,g⟩ e σ0 σ av K=hop P G ⟨d, .buildSlice t n ps,ty,pos,af,g⟩ e σ0 σ (fun r σ'=>K r σ' av):=nr rfl
theorem D7y{t:TypeId}{x:Operand} :jP P G ⟨d, .load t x,ty,pos,af,g⟩ e σ0 σ av K=hop P G ⟨d, .load t x,ty,pos,af,g⟩ e σ0 σ (fun r σ'=>K r σ' av):=nr rfl
theorem B4s{x:Operand} :jP P G ⟨d, .nilCheck x,ty,pos,af,g⟩ e σ0 σ av K=hop P G ⟨d, .nilCheck x,ty,pos,af,g⟩ e σ0 σ (fun r σ'=>K r σ' av):=nr rfl
theorem D1a{op:BinOp}{t yt:TypeId}{x y:Operand} :jP P G ⟨d, .binOp op t x y yt,ty,pos,af,g⟩ e σ0 σ av K=hop P G ⟨d, .binOp op t x y yt,ty,pos,af,g⟩ e σ0 σ (fun r σ'=>K r σ' av):=nr rfl
theorem D8b{op:UnOp}{t:TypeId}{x:Operand} :jP P G ⟨d, .unOp op t x,ty,pos,af,g⟩ e σ0 σ av K=hop P G ⟨d, .unOp op t x,ty,pos,af,g⟩ e σ0 σ (fun r σ'=>K r σ' av):=nr rfl
theorem B9n{s t:TypeId}{x:Operand} :jP P G ⟨d, .convert s t x,ty,pos,af,g⟩ e σ0 σ av K=hop P G ⟨d, .convert s t x,ty,pos,af,g⟩ e σ0 σ (fun r σ'=>K r σ' av):=nr rfl
theorem B4r{f:FuncId}{caps:Array Operand} :jP P G ⟨d, .makeFunc (.func f) #[] caps,ty,pos,af,g⟩ e σ0 σ av K=hop P G ⟨d, .makeFunc (.func f) #[] caps,ty,pos,af,g⟩ e σ0 σ (fun r σ'=>K r σ' av):=nr rfl
theorem D1e{t:TypeId}{x:Operand}{lo hi:Option Operand} :jP P G ⟨d, .slice t x lo hi none,ty,pos,af,g⟩ e σ0 σ av K=hop P G ⟨d, .slice t x lo hi none,ty,pos,af,g⟩ e σ0 σ (fun r σ'=>K r σ' av):=nr rfl
theorem B2b{t:TypeId}{x:Operand}{i:Nat} :jP P G ⟨d, .fieldAddr t x i,ty,pos,af,g⟩ e σ0 σ av K=hop P G ⟨d, .fieldAddr t x i,ty,pos,af,g⟩ e σ0 σ (fun r σ'=>K r σ' av):=nr rfl
theorem D1c{t:TypeId}{x:Operand}{i:Nat} :jP P G ⟨d, .field t x i,ty,pos,af,g⟩ e σ0 σ av K=hop P G ⟨d, .field t x i,ty,pos,af,g⟩ e σ0 σ (fun r σ'=>K r σ' av):=nr rfl
theorem B2c{t:TypeId}{x i:Operand} :jP P G ⟨d, .indexAddr t x i,ty,pos,af,g⟩ e σ0 σ av K=hop P G ⟨d, .indexAddr t x i,ty,pos,af,g⟩ e σ0 σ (fun r σ'=>K r σ' av):=nr rfl
theorem D1d{t:TypeId}{x i:Operand} :jP P G ⟨d, .index t x i,ty,pos,af,g⟩ e σ0 σ av K=hop P G ⟨d, .index t x i,ty,pos,af,g⟩ e σ0 σ (fun r σ'=>K r σ' av):=nr rfl
theorem B9o{x:Operand}{i:Nat} :jP P G ⟨d, .extract x i,ty,pos,af,g⟩ e σ0 σ av K=hop P G ⟨d, .extract x i,ty,pos,af,g⟩ e σ0 σ (fun r σ'=>K r σ' av):=nr rfl
theorem D7w{f:Operand}{args:Array Operand}{ts:Array TypeId} :jP P G ⟨d, .call ⟨.value f,args,ts⟩,ty,pos,af,g⟩ e σ0 σ av K=hop P G ⟨d, .call ⟨.value f,args,ts⟩,ty,pos,af,g⟩ e σ0 σ (fun r σ'=>K r σ' av):=nr rfl
theorem E3s{args:Array Operand}{ts:Array TypeId} :jP P G ⟨d, .call ⟨.builtin .len,args,ts⟩,ty,pos,af,g⟩ e σ0 σ av K=hop P G ⟨d, .call ⟨.builtin .len,args,ts⟩,ty,pos,af,g⟩ e σ0 σ (fun r σ'=>K r σ' av):=nr rfl
theorem E3r{args:Array Operand}{ts:Array TypeId} :jP P G ⟨d, .call ⟨.builtin .cap,args,ts⟩,ty,pos,af,g⟩ e σ0 σ av K=hop P G ⟨d, .call ⟨.builtin .cap,args,ts⟩,ty,pos,af,g⟩ e σ0 σ (fun r σ'=>K r σ' av):=nr rfl
theorem E3w{args:Array Operand}{ts:Array TypeId} :jP P G ⟨d, .call ⟨.builtin .unsafeSliceData,args,ts⟩,ty,pos,af,g⟩ e σ0 σ av K=hop P G ⟨d, .call ⟨.builtin .unsafeSliceData,args,ts⟩,ty,pos,af,g⟩ e σ0 σ (fun r σ'=>K r σ' av):=nr rfl
theorem E3t{args:Array Operand}{ts:Array TypeId} :jP P G ⟨d, .call ⟨.builtin .max,args,ts⟩,ty,pos,af,g⟩ e σ0 σ av K=hop P G ⟨d, .call ⟨.builtin .max,args,ts⟩,ty,pos,af,g⟩ e σ0 σ (fun r σ'=>K r σ' av):=nr rfl
theorem E3u{args:Array Operand}{ts:Array TypeId} :jP P G ⟨d, .call ⟨.builtin .min,args,ts⟩,ty,pos,af,g⟩ e σ0 σ av K=hop P G ⟨d, .call ⟨.builtin .min,args,ts⟩,ty,pos,af,g⟩ e σ0 σ (fun r σ'=>K r σ' av):=nr rfl
theorem B2d{t:TypeId}{x y:Operand} :jP P G ⟨d, .makeSlice t x y,ty,pos,af,g⟩ e σ0 σ av K=hop P G ⟨d, .makeSlice t x y,ty,pos,af,g⟩ e σ0 σ (fun r σ'=>K r σ' av):=nr rfl
def stw(m:Bool)(k:Option (Bool × Nat))(σ:AS)(bx:Option (List AV))(b off:Nat)(x:AV)(K:AS ->Prop):Prop:=match m,k,bx with
 |true,some (_,n),some cs=>isv x=true /\ (flat x).length=n /\ off+n <=cs.length /\ K (σ.setBox b (cs.take off++flat x++cs.drop (off+n)))
 |_,_,_=>False
theorem D4f{ag:Bool}{n:Nat}{cs:List AV}{b off:Nat}{x:AV}{F:AS ->Prop} :stw true (some (ag,n)) σ (some cs) b off x F=(isv x=true /\ (flat x).length=n /\ off+n <=cs.length /\ F (σ.setBox b (cs.take off++flat x++cs.drop (off+n)))):=nr rfl
theorem C6w{t:TypeId}{b off:Nat}{x:AV}{d:Dum σ}{d':Dum K} :C1c P σ av t (.ptr b off) x K d d'=stw (decide (b ∈ av)) (tk P t) σ (σ.box b) b off x (fun s=>K .undef s (av.filter fun c=>decide (c ≠ b))):=by
 apply propext
 constructor
 ·rintro⟨b',off',z0,z,h1,h2,h3,h4,h5⟩
  simp only[AV.ptr.injEq]at h1
  obtain⟨rfl,rfl⟩:=h1
  have h0:decide (b ∈ av)=true:=by simpa using h2
  rw[h0,h3]
  rw[wZ,h3]at h4
  unfold stw
  unfold stk at h4
  cases hk:tk P t with
  |none=>rw[hk]at h4;cases h4
  | some y=>
   obtain⟨ag,n⟩:=y
   rw[hk]at h4
   simp only at h4 ⊢
   split at h4
   ·rename_i hc
    simp only[Option.some.injEq]at h4
    have:=xO h4
    rw[this]
    exact⟨hc.1,hc.2.1,hc.2.2,h5⟩
   ·cases h4
 ·intro h
  unfold stw at h
  split at h
  ·rename_i ag n cs hm hk hb
   obtain⟨g1,g2,g3,g4⟩:=h
   refine⟨b,off,cs,_,rfl,by simpa using hm,hb,?_,g4⟩
   rw[wZ,hb,hk]
   unfold stk
   exact if_pos ⟨g1,g2,g3⟩
  ·exact h.elim
theorem AS.delBox_le(σ:AS)(b:Nat):(σ.delBox b).le σ:=⟨fun i cs hi=>by
 have hi':(if i=b then none else σ.box i)=some cs:=hi
 split at hi'
 ·cases hi'
 ·exact hi',fun _ _ h=>h,fun _ _ h=>h⟩
theorem uQ {l:List Oper} {d:Dum l.toArray} {d':Dum R} {d2:Dum e} {d3:Dum σ} (n b:Nat) {z:List AV} (hn:A1u l.toArray n=true) (hb:σ.box b=some z)
  (h:dB P G l (σ.delBox b) (fun e' σ'=>dX P G l R (l.drop n) e' σ') (l.take n) e σ [b]):tP P G l.toArray R e σ d d' d2 d3:=
 .inl ⟨[],n,σ.delBox b,[b],rfl,hn,AS.delBox_le σ b,fun c hc=>by
  have:c=b:=by simpa using hc
  subst this
  exact⟨by rw[hb];rfl,by simp[AS.delBox]⟩,h⟩
theorem uR {l:List Oper} {d:Dum l.toArray} {d':Dum R} {d2:Dum e} {d3:Dum σ} (n b b':Nat) {z z':List AV} (hn:A1u l.toArray n=true) (hb:σ.box b=some z) (hb':σ.box b'=some z')
  (h:dB P G l ((σ.delBox b).delBox b') (fun e' σ'=>dX P G l R (l.drop n) e' σ') (l.take n) e σ [b,b']):tP P G l.toArray R e σ d d' d2 d3:=
 .inl ⟨[],n,(σ.delBox b).delBox b',[b,b'],rfl,hn,(AS.delBox_le _ b').trans (AS.delBox_le σ b),fun c hc=>by
  have:c=b \/ c=b':=by simpa using hc
  rcases this with rfl|rfl
  ·exact⟨by rw[hb];rfl,by simp[AS.delBox]⟩
  ·exact⟨by rw[hb'];rfl,by simp[AS.delBox]⟩,h⟩
end fl
section pl
variable {P:Program} {G:Nat ->AV} {ops:List Oper} {σ0 σ:AS} {R:bF ->AS ->Prop} {e:bF} {d:Option Tmp} {ty:TypeId} {pos:String} {af:Array Edge} {g:Option (Nat × Bool)}
theorem D9m:nW P G ops σ0 R .done e σ=R e σ:=nr rfl
theorem E4y:nW P G ops σ0 R .bad e σ=False:=nr rfl
theorem D9o:nW P G ops σ0 R .none e σ=True:=nr rfl
theorem D9n{i:Nat}{t r:Pl} :nW P G ops σ0 R (.more i t r) e σ=(zJ P G ops σ0 ops[i]? (fun e' s=>nW P G ops σ0 R t e' s) e σ /\ nW P G ops σ0 R r e σ):=nr rfl
theorem E0w{o:Oper}{K:bF ->AS ->Prop} :zJ P G ops σ0 (some o) K e σ=gW (dW ops e o.guard) (kG P G o e σ0 σ fun r s=>K (e.upd o.dst r) s) (K (e.upd o.dst (.tup [])) σ) ⟨⟩ ⟨⟩:=nr rfl
def E5m(P:Program)(σ0 σ:AS)(t:TypeId)(p x:AV)(K:AV ->AS ->Prop)(_:Dum σ0)(_:Dum σ)(_:Dum K):Prop:=
 (∃ b off z0 z,p= .ptr b off /\ σ0.box b=none /\ σ.box b=some z0 /\ kF P σ t (.ptr b off) x=some (σ.setBox b z) /\ K .undef (σ.setBox b z)) \/ (xN P σ0 t p x /\ K .undef σ)
theorem D0y{t:TypeId}{p x:Operand}{K:AV ->AS ->Prop} :kG P G ⟨d, .store t p x,ty,pos,af,g⟩ e σ0 σ K=E5m P σ0 σ t (ev G e p) (ev G e x) K ⟨⟩ ⟨⟩ ⟨⟩:=nr rfl
theorem D7t{x:Operand}{K:AV ->AS ->Prop} :kG P G ⟨d, .move x,ty,pos,af,g⟩ e σ0 σ K=hop P G ⟨d, .move x,ty,pos,af,g⟩ e σ0 σ K:=nr rfl
theorem C5f{x:Operand}{K:AV ->AS ->Prop} :kG P G ⟨d, .assign x,ty,pos,af,g⟩ e σ0 σ K=hop P G ⟨d, .assign x,ty,pos,af,g⟩ e σ0 σ K:=nr rfl
theorem D7u{a b c:Operand}{K:AV ->AS ->Prop} :kG P G ⟨d, .pick a b c,ty,pos,af,g⟩ e σ0 σ K=hop P G ⟨d, .pick a b c,ty,pos,af,g⟩ e σ0 σ K:=nr rfl
theorem D0s{E:TypeId}{K:AV ->AS ->Prop} :kG P G ⟨d, .alloc E,ty,pos,af,g⟩ e σ0 σ K=hop P G ⟨d, .alloc E,ty,pos,af,g⟩ e σ0 σ K:=nr rfl
theorem E3k{E:TypeId}{x:Operand}{K:AV ->AS ->Prop} :kG P G ⟨d, .box E x,ty,pos,af,g⟩ e σ0 σ K=hop P G ⟨d, .box E x,ty,pos,af,g⟩ e σ0 σ K:=nr rfl
theorem D0u{t:TypeId}{ps:Array (Nat × Operand)}{K:AV ->AS ->Prop} :kG P G ⟨d, .build t ps,ty,pos,af,g⟩ e σ0 σ K=hop P G ⟨d, .build t ps,ty,pos,af,g⟩ e σ0 σ K:=nr rfl
theorem A7u{t n:Nat}{ps:Array (Nat × Operand)}{K:AV ->AS ->Prop} :kG P G ⟨d, .buildSlice t n ps,ty,pos,af,g⟩ e σ0 σ K=hop P G ⟨d, .buildSlice t n ps,ty,pos,af,g⟩ e σ0 σ K:=nr rfl
theorem D7s{t:TypeId}{x:Operand}{K:AV ->AS ->Prop} :kG P G ⟨d, .load t x,ty,pos,af,g⟩ e σ0 σ K=hop P G ⟨d, .load t x,ty,pos,af,g⟩ e σ0 σ K:=nr rfl
theorem B4q{x:Operand}{K:AV ->AS ->Prop} :kG P G ⟨d, .nilCheck x,ty,pos,af,g⟩ e σ0 σ K=hop P G ⟨d, .nilCheck x,ty,pos,af,g⟩ e σ0 σ K:=nr rfl
theorem D0t{op:BinOp}{t yt:TypeId}{x y:Operand}{K:AV ->AS ->Prop} :kG P G ⟨d, .binOp op t x y yt,ty,pos,af,g⟩ e σ0 σ K=hop P G ⟨d, .binOp op t x y yt,ty,pos,af,g⟩ e σ0 σ K:=nr rfl
theorem D7v{op:UnOp}{t:TypeId}{x:Operand}{K:AV ->AS ->Prop} :kG P G ⟨d, .unOp op t x,ty,pos,af,g⟩ e σ0 σ K=hop P G ⟨d, .unOp op t x,ty,pos,af,g⟩ e σ0 σ K:=nr rfl
theorem B9l{s t:TypeId}{x:Operand}{K:AV ->AS ->Prop} :kG P G ⟨d, .convert s t x,ty,pos,af,g⟩ e σ0 σ K=hop P G ⟨d, .convert s t x,ty,pos,af,g⟩ e σ0 σ K:=nr rfl
theorem B4p{f:FuncId}{caps:Array Operand}{K:AV ->AS ->Prop} :kG P G ⟨d, .makeFunc (.func f) #[] caps,ty,pos,af,g⟩ e σ0 σ K=hop P G ⟨d, .makeFunc (.func f) #[] caps,ty,pos,af,g⟩ e σ0 σ K:=nr rfl
theorem D0x{t:TypeId}{x:Operand}{lo hi:Option Operand}{K:AV ->AS ->Prop} :kG P G ⟨d, .slice t x lo hi none,ty,pos,af,g⟩ e σ0 σ K=hop P G ⟨d, .slice t x lo hi none,ty,pos,af,g⟩ e σ0 σ K:=nr rfl
theorem B1y{t:TypeId}{x:Operand}{i:Nat}{K:AV ->AS ->Prop} :kG P G ⟨d, .fieldAddr t x i,ty,pos,af,g⟩ e σ0 σ K=hop P G ⟨d, .fieldAddr t x i,ty,pos,af,g⟩ e σ0 σ K:=nr rfl
theorem D0v{t:TypeId}{x:Operand}{i:Nat}{K:AV ->AS ->Prop} :kG P G ⟨d, .field t x i,ty,pos,af,g⟩ e σ0 σ K=hop P G ⟨d, .field t x i,ty,pos,af,g⟩ e σ0 σ K:=nr rfl
theorem B1z{t:TypeId}{x i:Operand}{K:AV ->AS ->Prop} :kG P G ⟨d, .indexAddr t x i,ty,pos,af,g⟩ e σ0 σ K=hop P G ⟨d, .indexAddr t x i,ty,pos,af,g⟩ e σ0 σ K:=nr rfl
theorem D0w{t:TypeId}{x i:Operand}{K:AV ->AS ->Prop} :kG P G ⟨d, .index t x i,ty,pos,af,g⟩ e σ0 σ K=hop P G ⟨d, .index t x i,ty,pos,af,g⟩ e σ0 σ K:=nr rfl
theorem B9m{x:Operand}{i:Nat}{K:AV ->AS ->Prop} :kG P G ⟨d, .extract x i,ty,pos,af,g⟩ e σ0 σ K=hop P G ⟨d, .extract x i,ty,pos,af,g⟩ e σ0 σ K:=nr rfl
theorem D7r{f:Operand}{args:Array Operand}{ts:Array TypeId}{K:AV ->AS ->Prop} :kG P G ⟨d, .call ⟨.value f,args,ts⟩,ty,pos,af,g⟩ e σ0 σ K=hop P G ⟨d, .call ⟨.value f,args,ts⟩,ty,pos,af,g⟩ e σ0 σ K:=nr rfl
theorem E3m{args:Array Operand}{ts:Array TypeId}{K:AV ->AS ->Prop} :kG P G ⟨d, .call ⟨.builtin .len,args,ts⟩,ty,pos,af,g⟩ e σ0 σ K=hop P G ⟨d, .call ⟨.builtin .len,args,ts⟩,ty,pos,af,g⟩ e σ0 σ K:=nr rfl
theorem E3l{args:Array Operand}{ts:Array TypeId}{K:AV ->AS ->Prop} :kG P G ⟨d, .call ⟨.builtin .cap,args,ts⟩,ty,pos,af,g⟩ e σ0 σ K=hop P G ⟨d, .call ⟨.builtin .cap,args,ts⟩,ty,pos,af,g⟩ e σ0 σ K:=nr rfl
theorem E3p{args:Array Operand}{ts:Array TypeId}{K:AV ->AS ->Prop} :kG P G ⟨d, .call ⟨.builtin .unsafeSliceData,args,ts⟩,ty,pos,af,g⟩ e σ0 σ K=hop P G ⟨d, .call ⟨.builtin .unsafeSliceData,args,ts⟩,ty,pos,af,g⟩ e σ0 σ K:=nr rfl
theorem E3n{args:Array Operand}{ts:Array TypeId}{K:AV ->AS ->Prop} :kG P G ⟨d, .call ⟨.builtin .max,args,ts⟩,ty,pos,af,g⟩ e σ0 σ K=hop P G ⟨d, .call ⟨.builtin .max,args,ts⟩,ty,pos,af,g⟩ e σ0 σ K:=nr rfl
theorem E3o{args:Array Operand}{ts:Array TypeId}{K:AV ->AS ->Prop} :kG P G ⟨d, .call ⟨.builtin .min,args,ts⟩,ty,pos,af,g⟩ e σ0 σ K=hop P G ⟨d, .call ⟨.builtin .min,args,ts⟩,ty,pos,af,g⟩ e σ0 σ K:=nr rfl
theorem B2a{t:TypeId}{x y:Operand}{K:AV ->AS ->Prop} :kG P G ⟨d, .makeSlice t x y,ty,pos,af,g⟩ e σ0 σ K=hop P G ⟨d, .makeSlice t x y,ty,pos,af,g⟩ e σ0 σ K:=nr rfl
theorem vZ {l:List Oper} {d:Dum l.toArray} {d':Dum R} {d2:Dum e} {d3:Dum σ} (n:Nat) (p:List Nat) (hn:C0p l.toArray n p=true) {tl:List Oper} (h2:l.drop n=tl)
  (h:Inf σ ->tY P G l.toArray σ (fun e' s=>dX P G l R tl e' s) p e σ):tP P G l.toArray R e σ d d' d2 d3:= .inr (.inr (.inr (.inl ⟨n,p,hn,by subst h2;simpa using h⟩)))
theorem C2q{l:Array Oper}{σ0:AS}{Q:bF ->AS ->Prop}(h:Q e σ):tY P G l σ0 Q [] e σ:=h
theorem fD{l:Array Oper}{σ0:AS}{Q:bF ->AS ->Prop}{k:Nat}{p:List Nat}{o:Oper}{v:AV}(h0:l[k]? =some o)(h1:kU o=true)(h2:tR P G o e σ0=some v)(h:tY P G l σ0 Q p (e.upd o.dst v) σ):tY P G l σ0 Q (k::p) e σ:=by
 unfold tY;rw[h0];exact .inl ⟨h1,v,h2,h⟩
theorem vB{l:Array Oper}{σ0:AS}{Q:bF ->AS ->Prop}{k:Nat}{p:List Nat}{o:Oper}(h0:l[k]? =some o)(h1:kU o=false)(h:gY P G o e σ (fun r s=>σ.le s /\ Inf s /\ tY P G l σ0 Q p (e.upd o.dst r) s)):tY P G l σ0 Q (k::p) e σ:=by
 unfold tY;rw[h0];exact .inr (.inr ⟨h1,rfl,h⟩)
theorem B4k {l:List Oper} {d:Dum l.toArray} {d':Dum R} {d2:Dum e} {d3:Dum σ} (n:Nat) (I:(Nat ->Bool) ->bF ->AS ->Prop) (hn:A5w l.toArray n=true) {hd tl:List Oper} (h1:l.take n=hd) (h2:l.drop n=tl)
  (h0:Inf σ ->I (fun _=>false) e σ) (hs:tN P G I 0 hd) (hq:∀ D e σ,(∀ j,j < n ->D j=true) ->I D e σ ->dX P G l R tl e σ):tP P G l.toArray R e σ d d' d2 d3:=
 .inr (.inr (.inr (.inr ⟨n,I,hn,h0,by subst h1;simpa using hs,by subst h2;simpa using hq⟩)))
theorem rP (hm:P.follows .mixedOrders=true) {l:List Oper} {d:Dum l.toArray} {d':Dum R} {d2:Dum e} {d3:Dum σ} (I:bF ->AS ->Prop) (h1:tP P G l.toArray I e σ ⟨⟩ ⟨⟩ ⟨⟩ ⟨⟩)
  (h2:∀ v σ',I (mrg (cB l) v e) σ' ->R (mrg (cB l) v e) σ'):tP P G l.toArray R e σ d d' d2 d3:=by
 have h4:=(B1o hm).frame l.toArray _ e σ h1
 refine(B1o hm).mono l.toArray _ R e σ (fun e' s' ⟨h5,h7⟩=> ?_) h4
 have:e'=mrg (cB l) e' e:=by
  funext t
  unfold mrg
  by_cases ht:(cB l).contains t=true
  ·rw[if_pos ht]
  ·rw[if_neg ht]
   exact h7 t (by simpa using ht)
 rw[this]
 exact h2 e' s' (by rw[<- this];exact h5)
end pl
end Go.Av
namespace Go.Av
open Go Go.RowKit
inductive Frz(b n s:Nat)(y:AV):AV ->AV ->Prop
 |same (a:AV):Frz b n s y a a
 |here (E:TypeId):Frz b n s y (.bs b n s E) y
 |tup (l l':List AV) (hl:l.length=l'.length) (h:∀ j (h1:j < l.length) (h2:j < l'.length),Frz b n s y l[j] l'[j]):Frz b n s y (.tup l) (.tup l')
 |agg (l l':List AV) (hl:l.length=l'.length) (h1:∀ c,c ∈ l' ->one c=true) (h:∀ j (h1:j < l.length) (h2:j < l'.length),Frz b n s y l[j] l'[j]):Frz b n s y (.agg l) (.agg l')
def Has(b n s:Nat)(r:AV):Prop:=∀ K v,VR K r v ->∃ cap E,K.row b=some (cap,s,E) /\ n <=cap /\ cap <=maxLen
theorem Has.bs{b n s:Nat}{E:TypeId} :Has b n s (.bs b n s E):=fun K v h=>by
 cases h with
 |bs _ _ _ cap E hr hn hm=>exact⟨cap,E,hr,hn,hm⟩
theorem Has.tup{b n s:Nat}{l:List AV}(j:Nat)(hj:j < l.length)(h:Has b n s l[j]):Has b n s (.tup l):=fun K v hv=>by
 cases hv with
 |tup _ vs hl hvv=>exact h K _ (hvv j hj)
theorem Has.agg{b n s:Nat}{l:List AV}(j:Nat)(hj:j < l.length)(h:Has b n s l[j]):Has b n s (.agg l):=fun K v hv=>by
 cases hv with
 |agg _ vs hl h1 hvv=>exact h K _ (hvv j hj)
structure wK(n s:Nat)(xs cs:List AV):Prop where
 len:xs.length=n
 flat:xs.flatMap flat=cs
 item:∀ a,a ∈ xs -> (Av.flat a).length=s /\ isv a=true
theorem wK.size{n s:Nat}{xs cs:List AV}(h:wK n s xs cs):cs.length=n*s:=by
 rw[<- h.flat,bV (sz:=s) xs (fun a ha=> (h.item a ha).1),h.len]
theorem wK.ones{xs:List AV}(h:∀ a,a ∈ xs ->Av.flat a=[a] /\ isv a=true):wK xs.length 1 xs xs:=by
 refine⟨rfl,?_,fun a ha=> ⟨by rw[(h a ha).1];rfl,(h a ha).2⟩⟩
 induction xs with
 |nil=>rfl
 |cons x xs ih=>rw[List.flatMap_cons,(h x (by simp)).1,ih fun a ha=>h a (by simp[ha])];rfl
def AS.froze(σ:AS)(b n s:Nat):AS:=(σ.delBox b).setTip b (n,s)
theorem oJ{G:Nat ->AV}{K:bO}{σ:AS}{w:World}(hr:cV G K σ w){b n s:Nat}{xs cs:List AV}(hb:σ.box b=some cs)(hi:wK n s xs cs){cap:Nat}{E:TypeId}(hrow:K.row b=some (cap,s,E))(hn:n <=cap)(hm:cap <=maxLen):
  ∃ K',K.le K' /\ cV G K' (σ.froze b n s) w /\ ∀ r r' v,Frz b n s (.sl (.own b) xs []) r r' ->VR K r v ->VR K' r' v:=by
 obtain⟨K',h1,h2,h3,f,h4,h5,h6⟩:=hr.frozen hb hrow hi.size hn
 refine⟨K',h1,h2,fun r r' v hf=> ?_⟩
 induction hf generalizing v with
 |same a=>exact fun hv=>hv.mono h1
 | here E0=>
  intro hv
  cases hv with
  | bs _ _ _ cap2 E2 hr2 hn2 hm2=>
   rw[hrow]at hr2
   simp only[Option.some.injEq,Prod.mk.injEq]at hr2
   obtain⟨rfl,_,rfl⟩:=hr2
   have hfl:((xs++[]).flatMap flat)=cs:=by rw[List.append_nil,hi.flat]
   have:=VR.sl (K:=K') (.own b) xs [] s b 0 cap f
    (fun e he=>by
      rw[List.append_nil]at he
      refine⟨(hi.item e he).1,(hi.item e he).2,fun c hc=>h6 c ?_⟩
      rw[<- hi.flat];exact List.mem_flatMap.2 ⟨e,he,hc⟩)
    (by rw[hi.len];simp;exact hn) hm
    (fun j hj=>by rw[hfl]at hj;rw[Nat.zero_add];exact h4 j hj)
    (fun j hj=>by
      have hj':j < cs.length:=by rw[hfl]at hj;exact hj
      have e1:((xs++[]).flatMap flat)[j]=cs[j]:=by congr 1
      rw[e1];exact h5 j hj')
    ⟨rfl,rfl,E,s,h3⟩
   rw[hi.len]at this
   exact this
 | tup l l' hl h ih=>
  intro hv
  cases hv with
  |tup _ vs hvl hvv=>exact .tup l' vs (by omega) fun j hj=>ih j (by omega) hj _ (hvv j (by omega))
 | agg l l' hl h1' h ih=>
  intro hv
  cases hv with
  |agg _ vs hvl ho hvv=>exact .agg l' vs (by omega) h1' fun j hj=>ih j (by omega) hj _ (hvv j (by omega))
theorem aJ.freezeRes {P:Program} {G:Nat ->AV} {f:FuncId} {args:List AV} {σ:AS} {Q Q':AV ->AS ->Prop} (h:aJ P G f args σ Q)
  (hq:∀ r σ',Q r σ' ->∃ b n s xs cs r',σ'.box b=some cs /\ wK n s xs cs /\ Has b n s r /\ Frz b n s (.sl (.own b) xs []) r r' /\ Q' r' (σ'.froze b n s)):aJ P G f args σ Q':=
 ⟨h.1,fun K w vals hr hv=> (h.2 K w vals hr hv).mono fun e w' ⟨v,r,σ',K',he,hQ,h1,h2,h3⟩=>by
   obtain⟨b,n,s,xs,cs,r',g1,g2,g3,g4,g5⟩:=hq r σ' hQ
   obtain⟨cap,E,g6,g7,g8⟩:=g3 K' v h1
   obtain⟨K2,k1,k2,k3⟩:=oJ h2 g1 g2 g6 g7 g8
   exact⟨v,r',_,K2,he,g5,k3 r r' v g4 h1,k2,h3.trans k1⟩⟩
inductive A3f(b n s:Nat)(y:AV):List AV ->List AV ->Prop
 |nil:A3f b n s y [] []
 |cons {a a':AV} {l l':List AV} (h:Frz b n s y a a') (t:A3f b n s y l l'):A3f b n s y (a::l) (a'::l')
theorem A3f.refl{b n s:Nat}{y:AV} :∀ (l:List AV),A3f b n s y l l
 |[]=> .nil
 |a::l=> .cons (.same a) (A3f.refl l)
def C7n(b n s:Nat)(l:List AV):Prop:=∃ a,a ∈ l /\ Has b n s a
theorem C7n.row{b n s:Nat}{K:bO} :∀ {l:List AV} {vs:List Value},qM K l vs ->C7n b n s l ->∃ cap E,K.row b=some (cap,s,E) /\ n <=cap /\ cap <=maxLen
 | a::l,v::vs,⟨h1,h2⟩,⟨x,hx,hh⟩=>by
  rcases List.mem_cons.1 hx with rfl|hx
  ·exact hh K v h1
  ·exact C7n.row h2 ⟨x,hx,hh⟩
 |[],_,_,⟨x,hx,_⟩=>by cases hx
 |_::_,[],h,_=>h.elim
theorem A3f.vrl{b n s:Nat}{y:AV}{K K':bO}(hk:∀ r r' v,Frz b n s y r r' ->VR K r v ->VR K' r' v):∀ {l l':List AV} {vs:List Value},A3f b n s y l l' ->qM K l vs ->qM K' l' vs
 |[],_,[], .nil,_=>trivial
 |a::l,_,v::vs, .cons h t,⟨h1,h2⟩=> ⟨hk _ _ _ h h1,A3f.vrl hk t h2⟩
 |[],_,_::_, .nil,h=>h.elim
 |_::_,_,[],_,h=>h.elim
theorem aJ.freeze {P:Program} {G:Nat ->AV} {f:FuncId} {args args':List AV} {σ:AS} {Q:AV ->AS ->Prop} (b n s:Nat) (xs cs:List AV) (hb:σ.box b=some cs) (hi:wK n s xs cs) (hh:C7n b n s args)
  (hf:A3f b n s (.sl (.own b) xs []) args args') (h:aJ P G f args' (σ.froze b n s) Q):aJ P G f args σ Q:=
 ⟨h.1,fun K w vals hr hv=>by
   obtain⟨cap,E,g1,g2,g3⟩:=C7n.row hv hh
   obtain⟨K',k1,k2,k3⟩:=oJ hr hb hi g1 g2 g3
   exact(h.2 K' w vals k2 (A3f.vrl k3 hf hv)).mono fun e w' ⟨v,r,σ',K2,he,hQ,h1,h2,h3⟩=> ⟨v,r,σ',K2,he,hQ,h1,h2,k1.trans h3⟩⟩
theorem aJ.nil_or{P:Program}{G:Nat ->AV}{f:FuncId}{σ:AS}{Q:AV ->AS ->Prop}(h1:aJ P G f [.nil] σ Q)(h2:∀ a c,aJ P G f [.raw (.slice (some a) 0 c)] σ Q):aJ P G f [.sl .none [] []] σ Q:=
 ⟨h1.1,fun K w vals hr hv=>by
   match vals,hv with
   | [v],⟨hv,_⟩=>
    have raw:∀ a c,v= .slice (some a) 0 c ->_:=fun a c e=> (h2 a c).2 K w [v] hr ⟨e ▸ .raw _,trivial⟩
    cases hv with
    | sl0 a=>
     cases a with
     |none=>exact h1.2 K w _ hr ⟨.nil,trivial⟩
     |some a=>exact raw a 0 rfl
    |sl _ _ _ sz b off cap f hsz hcap hml himm hvv hg=>exact raw _ _ rfl⟩
theorem AS.froze_le{σ0 σ:AS}(h:σ0.le σ){b n s:Nat}(hb:σ0.box b=none)(ht:σ0.tip b=none):σ0.le (σ.froze b n s):=by
 have h1:σ0.le (σ.delBox b):=⟨fun i cs hi=>by
  show(if i=b then none else σ.box i)=some cs
  have hne:i ≠ b:=fun e=>by subst e;rw[hb]at hi;cases hi
  rw[if_neg hne];exact h.box _ _ hi,fun i m hi=>h.tip _ _ hi,h.ty⟩
 exact h1.setTip ht _
end Go.Av
namespace Go.Av
open Go
theorem D6u:cY .skip=[]:=nr rfl
theorem D6t{i:Nat} :cY (.exit i)=[]:=nr rfl
theorem E2v:cY .ret=[]:=nr rfl
theorem C4r{w:String} :cY (.refuse w)=[]:=nr rfl
theorem C9l{f:Operand}{ps:Array Tmp}{a b:Code} :cY (.rangeFunc f ps a b)=[]:=nr rfl
theorem C3t:A6z []= .tup []:=nr rfl
theorem C7z{a b:AV}{l:List AV} :A6z (a::b::l)= .tup (a::b::l):=nr rfl
def bp0:=And.intro (And.intro (And.intro (And.intro @E9z @D4w) (And.intro @E6n @E6l)) (And.intro (And.intro @E1h @E6p) (And.intro @E6o @E9y))) (And.intro (And.intro (And.intro @E6q @E9x) (And.intro @E6m @E7r)) (And.intro (And.intro @E3f @D9f) (And.intro @D2l @B9b)))
def bp1:=And.intro (And.intro (And.intro (And.intro @D7e @D0b) (And.intro @E2x @C9s)) (And.intro (And.intro @C4x @D6x) (And.intro @D4u @D4t))) (And.intro (And.intro (And.intro @E4n @C3x) (And.intro @C1s @C1t)) (And.intro (And.intro @D6g @C3a) (And.intro @C3b @E1a)))
def bp2:=And.intro (And.intro (And.intro (And.intro @E4r @D2m) (And.intro @E4t @D8y)) (And.intro (And.intro @E8u @D9a) (And.intro @B2j @B5j))) (And.intro (And.intro (And.intro @E4q @C0f) (And.intro @D8z @E4u)) (And.intro (And.intro @C5x @C0e) (And.intro @D9e @B5h)))
def bp3:=And.intro (And.intro (And.intro (And.intro @D9b @B5i) (And.intro @D9c @C5y)) (And.intro (And.intro @E8w @E8x) (And.intro @E8y @E4p))) (And.intro (And.intro (And.intro @E3h @D0p) (And.intro @E3i @D7k)) (And.intro (And.intro @E7m @D7m) (And.intro @B1u @E3g)))
def bp4:=And.intro (And.intro (And.intro (And.intro @B9i @D7l) (And.intro @E3j @C5c)) (And.intro (And.intro @B9h @D7p) (And.intro @B4n @D7n))) (And.intro (And.intro (And.intro @B4o @D7o) (And.intro @C5d @E7o)) (And.intro (And.intro @E7p @E7q) (And.intro @E3e @E3y)))
def bp5:=And.intro (And.intro (And.intro (And.intro @D8c @D8l) (And.intro @C5l @D8m)) (And.intro (And.intro @D1l @E4e) (And.intro @D1n @A7w))) (And.intro (And.intro (And.intro @B2g @D8k) (And.intro @B4x @D1m)) (And.intro (And.intro @D8n @B9u) (And.intro @B4w @D1q)))
def bp6:=And.intro (And.intro (And.intro (And.intro @B2e @D1o) (And.intro @B2f @D1p)) (And.intro (And.intro @B9v @E4g) (And.intro @E4h @E4i))) (And.intro (And.intro (And.intro @D8j @D1r) (And.intro @C5k @D4q)) (And.intro (And.intro @D4s @E6k) (And.intro @D4r @C8z)))
def bp7:=And.intro (And.intro (And.intro (And.intro @D4m @C8y) (And.intro @D4l @E1d)) (And.intro (And.intro @D9d @E4s) (And.intro @C7e @E8v))) (And.intro (And.intro (And.intro @E8z @E4v) (And.intro @E7n @E7s)) (And.intro (And.intro @E4f @E4j) (And.intro @D8o @E3v)))
def bp8:=And.intro (And.intro (And.intro (And.intro @D7x @D1f) (And.intro @D7q @D7z)) (And.intro (And.intro @C5g @D8a) (And.intro @D0z @E3q))) (And.intro (And.intro (And.intro @D1b @A7v) (And.intro @B2d @D7y)) (And.intro (And.intro @B4s @D1a) (And.intro @D8b @B9n)))
def bp9:=And.intro (And.intro (And.intro (And.intro @B4r @D1e) (And.intro @B2b @D1c)) (And.intro (And.intro @B2c @D1d) (And.intro @B9o @E3s))) (And.intro (And.intro (And.intro @E3t @E3u) (And.intro @D7w @E3r)) (And.intro (And.intro @E3w @D9m) (And.intro @E4y @D9o)))
def F0m:=And.intro (And.intro (And.intro (And.intro @D9n @E0w) (And.intro @D0y @D7t)) (And.intro (And.intro @C5f @D7u) (And.intro @D0s @E3k))) (And.intro (And.intro (And.intro @D0u @A7u) (And.intro @B2a @D7s)) (And.intro (And.intro @B4q @D0t) (And.intro @D7v @B9l)))
def F0n:=And.intro (And.intro (And.intro (@B4p) (And.intro @D0x @B1y)) (And.intro (@D0v) (And.intro @B1z @D0w))) (And.intro (And.intro (@B9m) (And.intro @E3m @E3n)) (And.intro (And.intro @E3o @D7r) (And.intro @E3l @E3p)))
def bp:=And.intro (And.intro (And.intro (@bp0) (And.intro @bp1 @bp2)) (And.intro (@bp3) (And.intro @bp4 @bp5))) (And.intro (And.intro (@bp6) (And.intro @bp7 @bp8)) (And.intro (@bp9) (And.intro @F0m @F0n)))
def bq0:=And.intro (And.intro (And.intro (And.intro @D1g @C5h) (And.intro @D5q @D5r)) (And.intro (And.intro @C8m @C8l) (And.intro @C3z @C8k))) (And.intro (And.intro (And.intro @D7j @D0m) (And.intro @E3c @C4n)) (And.intro (And.intro @D6e @D6d) (And.intro @E2n @D6c)))
def bq1:=And.intro (And.intro (And.intro (And.intro @E9o @B8t) (And.intro @B4c @C0l)) (And.intro (And.intro @B5v @D6f) (And.intro @D2j @D8x))) (And.intro (And.intro (And.intro @D8w @B1k) (And.intro @C9c @E2p)) (And.intro (And.intro @E7a @E7c) (And.intro @E7b @C9b)))
def bq2:=And.intro (And.intro (And.intro (And.intro @D6l @D6m) (And.intro @C3u @D1x)) (And.intro (And.intro @C8a @D1y) (And.intro @D9s @D3a))) (And.intro (And.intro (And.intro @C3r @D7d) (And.intro @E2z @B3i)) (And.intro (And.intro @D0l @jQ) (And.intro @D1s @B8b)))
def bq3:=And.intro (And.intro (And.intro (And.intro @B0t @C7r) (And.intro @C7s @C3l)) (And.intro (And.intro @B0n @B3d) (And.intro @B3e @B3b))) (And.intro (And.intro (And.intro @B9s @C5i) (And.intro @B9r @E7u)) (And.intro (And.intro @E8h @E8b) (And.intro @E8d @E8e)))
def bq4:=And.intro (And.intro (And.intro (And.intro @E7w @E8c) (And.intro @E8a @E7z)) (And.intro (And.intro @E7y @E7x) (And.intro @E7v @F0z))) (And.intro (And.intro (And.intro @E8i @E8f) (And.intro @E8g @E9k)) (And.intro (And.intro @E9m @E9j) (And.intro @E9l @D5k)))
def bq5:=And.intro (And.intro (And.intro (And.intro @D5l @D5p) (And.intro @D5o @D6r)) (And.intro (And.intro @D6s @C4q) (And.intro @C2t @B7z))) (And.intro (And.intro (And.intro @B3j @D1h) (And.intro @C3n @C8o)) (And.intro (And.intro @C3s @B7x) (And.intro @D0j @E8n)))
def bq6:=And.intro (And.intro (And.intro (And.intro @C2h @B2h) (And.intro @E8l @E8m)) (And.intro (And.intro @wZ @D4c) (And.intro @C6f @C0i))) (And.intro (And.intro (And.intro @C8c @C8d) (And.intro @C3w @C8e)) (And.intro (And.intro @C3m @C7t) (And.intro @B8h @C6r)))
def bq7:=And.intro (And.intro (And.intro (And.intro @D0c @C4y) (And.intro @D0d @D0h)) (And.intro (And.intro @D0e @D7i) (And.intro @D0f @D7h))) (And.intro (And.intro (And.intro @D7g @B4l) (And.intro @B9e @D8e)) (And.intro (And.intro @D1j @D8f) (And.intro @D8i @D8g)))
def bq8:=And.intro (And.intro (And.intro (And.intro @E4d @D8h) (And.intro @E4c @E4b)) (And.intro (And.intro @B9t @C5j) (And.intro @B7u @B7w))) (And.intro (And.intro (And.intro @B7v @C3p) (And.intro @C3o @C9k)) (And.intro (And.intro @B4i @E8k) (And.intro @E4k @C5n)))
def bq9:=And.intro (And.intro (And.intro (And.intro @E8o @E4a) (And.intro @D7f @D1k)) (And.intro (And.intro @D0g @sH) (And.intro @B3c @B3a))) (And.intro (And.intro (And.intro @B7y @D1i) (And.intro @A8p @D3t)) (And.intro (And.intro @B8g @D2i) (And.intro @A8q @C7g)))
def F0o:=And.intro (And.intro (And.intro (And.intro @C6w @D4f) (And.intro @C8w @C4e)) (And.intro (And.intro @C4d @C8s) (And.intro @C8v @C4c))) (And.intro (And.intro (And.intro @D6a @C8u) (And.intro @C4f @C8r)) (And.intro (And.intro @C8t @C3k) (And.intro @C7q @B8a)))
def F0p:=And.intro (And.intro (And.intro (@C8n) (And.intro @C6q @E5i)) (And.intro (@D3s) (And.intro @D3u @D6o))) (And.intro (And.intro (@D6p) (And.intro @E2t @E2s)) (And.intro (@C9j) (And.intro @D6q @C9h)))
def bq:=And.intro (And.intro (And.intro (@bq0) (And.intro @bq1 @bq2)) (And.intro (@bq3) (And.intro @bq4 @bq5))) (And.intro (And.intro (@bq6) (And.intro @bq7 @bq8)) (And.intro (@bq9) (And.intro @F0o @F0p)))
def br0:=And.intro (And.intro (And.intro (And.intro @List.getD_cons_zero.{0} @List.getD_cons_succ.{0}) (And.intro @List.getD_nil.{0} @List.map_cons.{0,0})) (And.intro (And.intro @List.map_nil.{0,0} @List.getElem?_cons_zero.{0}) (And.intro @List.getElem?_cons_succ.{0} @List.getElem?_nil.{0}))) (And.intro (And.intro (And.intro @List.take_zero.{0} @List.take_length.{0}) (And.intro @List.take_succ_cons.{0} @List.take_nil.{0})) (And.intro (And.intro @List.drop_zero.{0} @List.drop_succ_cons.{0}) (And.intro @List.drop_nil.{0} @List.length_cons.{0})))
def br1:=And.intro (And.intro (And.intro (And.intro @List.length_nil.{0} @List.head?_cons.{0}) (And.intro @List.head?_nil.{0} @List.cons_append.{0})) (And.intro (And.intro @List.nil_append.{0} @List.append_nil.{0}) (And.intro @List.all_cons.{0} @List.all_nil.{0}))) (And.intro (And.intro (And.intro @List.range_zero @List.length_map.{0,0}) (And.intro @List.getElem?_map.{0,0} @List.size_toArray.{0})) (And.intro (And.intro @List.getElem?_toArray.{0} @List.toList_toArray.{0}) (And.intro @Option.map_some.{0,0} @Option.map_none.{0,0})))
def br2:=And.intro (And.intro (And.intro (And.intro @Option.bind_some.{0,0} @Option.bind_none.{0,0}) (And.intro @Option.isSome_some.{0} @Option.isSome_none.{0})) (And.intro (And.intro @Option.some.injEq.{0} @Nat.zero_add) (And.intro @Nat.add_zero @Nat.le_refl))) (And.intro (And.intro (And.intro @Nat.add_one_ne_zero @Int.toNat_natCast) (And.intro @Int.natCast_nonneg @not_true_eq_false)) (And.intro (And.intro @not_false_eq_true @and_true) (And.intro @true_and @and_false)))
def br3:=And.intro (And.intro (And.intro (And.intro @false_and @or_true) (And.intro @true_or @or_false)) (And.intro (And.intro @false_or @Bool.and_true) (And.intro @Bool.true_and @Bool.and_false))) (And.intro (And.intro (And.intro @Bool.false_and @Bool.false_eq_true) (And.intro @Bool.true_eq_false @Bool.not_true)) (And.intro (And.intro @Bool.not_false @beq_self_eq_true.{0}) (And.intro @decide_true @decide_false)))
def br4:=And.intro (And.intro (And.intro (And.intro @decide_eq_true_eq @List.contains_cons.{0}) (And.intro @List.contains_nil.{0} @Bool.or_true)) (And.intro (And.intro @Bool.true_or @Bool.or_false) (And.intro @Bool.false_or @List.filterMap_cons.{0,0}))) (And.intro (And.intro (And.intro @List.filterMap_nil.{0,0} @List.range_succ) (And.intro @List.append_eq.{0} @List.mem_cons.{0})) (And.intro (And.intro @List.not_mem_nil.{0} @List.filter_cons.{0}) (And.intro @List.filter_nil.{0} @A6z.eq_1)))
def br5:=And.intro (And.intro (And.intro (And.intro @C3t @C7z) (And.intro @bsk.eq_1 @bsk.eq_2)) (And.intro (And.intro @cY.eq_1 @cY.eq_2) (And.intro @cY.eq_3 @cY.eq_4))) (And.intro (And.intro (And.intro @cY.eq_5 @D6u) (And.intro @D6t @E2v)) (And.intro (And.intro @C4r @C9l) (And.intro @cB.eq_1 @mU.eq_1)))
def br6:=And.intro (And.intro (And.intro (@mU.eq_2) (And.intro @mU.eq_3 @rsk.eq_1)) (And.intro (@ne_eq.{1}) (And.intro @if_true.{1} @if_false.{1}))) (And.intro (And.intro (@exists_eq_left'.{1}) (And.intro @forall_const.{0} @forall_const.{1})) (And.intro (And.intro @forall_eq.{1} @ne_eq.{0}) (And.intro @if_true.{0} @if_false.{0})))
def br:=And.intro (And.intro (@br0) (And.intro @br1 @br2)) (And.intro (And.intro @br3 @br4) (And.intro @br5 @br6))
class Spl (X:Prop) (A B:outParam Prop):Prop where
 go:A ->B ->X
instance (priority:=2000) {p:Prop} [Decidable p] {A B:Prop} {d:Dum A} {d':Dum B} :Spl (rN (.bool (decide p)) A B d d') (decide p=true -> ¬ ¬ p ->A) (decide p=false -> ¬ p ->B):=⟨A4g⟩
instance (priority:=2000) {p:Prop} [Decidable p] {A B:Prop} {d:Dum A} {d':Dum B} :Spl (gW (some (decide p)) A B d d') (decide p=true -> ¬ ¬ p ->A) (decide p=false -> ¬ p ->B):=⟨C2e⟩
instance {t:Bool} {A B:Prop} {d:Dum A} {d':Dum B} :Spl (rN (.bool t) A B d d') (t=true ->A) (t=false ->B):=⟨B4d⟩
instance {t:Bool} {A B:Prop} {d:Dum A} {d':Dum B} :Spl (gW (some t) A B d d') (t=true ->A) (t=false ->B):=⟨D0n⟩
instance {t:Bool} {a b:AV} {F:AV ->Prop} {d:Dum a} {d':Dum b} {d2:Dum F} :Spl (A2d (.bool t) a b F d d' d2) (t=true ->F a) (t=false ->F b):=⟨B5w⟩
theorem xs{X A B:Prop}[h:Spl X A B](a:A)(b:B):X:=h.go a b
def xa:= @A4g
def xb:= @C2e
def lr:= @AS.le.refl
def q8f:= @aP
def q8h:= @cX
def q8i:= @aY
def q8j:= @D4e
def q8k:= @A4m
def ls:= @cE
def lt:= @E8r
def lf:= @AS.le.fresh
def fb:=And.intro @eR (And.intro @C4z @D0k)
structure Hid(Q:Prop):Prop where
 out:Q
theorem wj{P Q:Prop}(k:Q)(h:Hid Q ->P:=by(intro hq;first|refine q8j ?_|refine B4h ?_|((with_reducible refine And.intro ?_ ?_);omega)|refine wO (d':=⟨⟩) ?_|refine q8k (by kernel_rfl) ?_|refine q8f ?_ (by repeat' first|exact lr _|assumption|refine ls ?_ ?_|refine lt ?_ ?_|simp only[*];done|simp only[fb, *,not_false_eq_true,and_self];done|exact lf ‹_› (by simp only[*]))|refine A4p ?_ (by repeat' first|exact lr _|assumption|refine ls ?_ ?_|refine lt ?_ ?_|simp only[*];done|simp only[fb, *,not_false_eq_true,and_self];done|exact lf ‹_› (by simp only[*]))|fail);exact hq.out):P:=h ⟨k⟩
theorem wi{P Q:Prop}(k:Q)(h:Hid Q ->P:=by(intro hq;first|refine q8j ?_|refine B4h ?_|((with_reducible refine And.intro ?_ ?_);omega)|refine wO (d':=⟨⟩) ?_|refine q8f ?_ (by repeat' first|exact lr _|assumption|refine ls ?_ ?_|refine lt ?_ ?_|simp only[*];done|simp only[fb, *,not_false_eq_true,and_self];done|exact lf ‹_› (by simp only[*]))|refine A4p ?_ (by repeat' first|exact lr _|assumption|refine ls ?_ ?_|refine lt ?_ ?_|simp only[*];done|simp only[fb, *,not_false_eq_true,and_self];done|exact lf ‹_› (by simp only[*]))|fail);exact hq.out):P:=h ⟨k⟩
theorem wn{P Q:Prop}(k:Q)(h:Hid Q ->P:=by(intro hq;first|refine q8h ?_|refine q8i ?_|fail);exact hq.out):P:=h ⟨k⟩
theorem wz{P Q:Prop}(k:Q)(h:Hid Q ->P:=by(intro hq;first|refine xQ ?_|refine E2u ?_|fail);exact hq.out):P:=h ⟨k⟩
theorem wp{A P Q:Prop}(c:A)(k:Q)(h:A ->Hid Q ->P:=by(intro hc hq;first|refine aB.use hc ?_|refine aB.head hc ?_|fail);exact hq.out):P:=h c ⟨k⟩
end Go.Av
set_option maxRecDepth 100000
namespace Go.Proofs.YtdhbdhopnpmboaaGreatDoor
open Go Go.Av
theorem tf2:tk Tryz.prog 2=some (false,1) /\ sk Tryz.prog 2= .int .i64 /\ (Tryz.prog.underlying 2).isSome=true /\ el Tryz.prog 2=none /\ zc Tryz.prog 2=some [.int .i64 0] /\ bZ Tryz.prog 2=some 8:=⟨by kernel_rfl,by kernel_rfl,by kernel_rfl,by kernel_rfl,by kernel_rfl,by kernel_rfl⟩
theorem jD:tk Tryz.prog 3=some (false,1) /\ sk Tryz.prog 3= .int .i64 /\ (Tryz.prog.underlying 3).isSome=true /\ el Tryz.prog 3=none /\ zc Tryz.prog 3=some [.int .i64 0] /\ bZ Tryz.prog 3=some 8:=⟨by kernel_rfl,by kernel_rfl,by kernel_rfl,by kernel_rfl,by kernel_rfl,by kernel_rfl⟩
theorem iZ:tk Tryz.prog 4=some (false,1) /\ sk Tryz.prog 4= .bool /\ (Tryz.prog.underlying 4).isSome=true /\ el Tryz.prog 4=none /\ zc Tryz.prog 4=some [.bool false] /\ bZ Tryz.prog 4=some 1:=⟨by kernel_rfl,by kernel_rfl,by kernel_rfl,by kernel_rfl,by kernel_rfl,by kernel_rfl⟩
theorem jJ:tk Tryz.prog 5=some (false,1) /\ sk Tryz.prog 5= .int .u8 /\ (Tryz.prog.underlying 5).isSome=true /\ el Tryz.prog 5=none /\ zc Tryz.prog 5=some [.int .u8 0] /\ bZ Tryz.prog 5=some 1:=⟨by kernel_rfl,by kernel_rfl,by kernel_rfl,by kernel_rfl,by kernel_rfl,by kernel_rfl⟩
theorem jE:tk Tryz.prog 9=some (false,1) /\ sk Tryz.prog 9= .str /\ (Tryz.prog.underlying 9).isSome=true /\ el Tryz.prog 9=none /\ zc Tryz.prog 9=some [.str []] /\ bZ Tryz.prog 9=some 16:=⟨by kernel_rfl,by kernel_rfl,by kernel_rfl,by kernel_rfl,by kernel_rfl,by kernel_rfl⟩
theorem eN:tk Tryz.prog 22=some (false,1) /\ sk Tryz.prog 22= .int .u8 /\ (Tryz.prog.underlying 22).isSome=true /\ el Tryz.prog 22=none /\ zc Tryz.prog 22=some [.int .u8 0] /\ bZ Tryz.prog 22=some 1:=⟨by kernel_rfl,by kernel_rfl,by kernel_rfl,by kernel_rfl,by kernel_rfl,by kernel_rfl⟩
theorem dL:tk Tryz.prog 23=some (false,1) /\ sk Tryz.prog 23= .sl 47 /\ (Tryz.prog.underlying 23).isSome=true /\ el Tryz.prog 23=some 47 /\ zc Tryz.prog 23=some [.nil] /\ bZ Tryz.prog 23=some 24 /\ dU Tryz.prog 23=some (47,1,4):=⟨by kernel_rfl,by kernel_rfl,by kernel_rfl,by kernel_rfl,by kernel_rfl,by kernel_rfl,by kernel_rfl⟩
theorem dV:tk Tryz.prog 24=some (false,1) /\ sk Tryz.prog 24= .sl 26 /\ (Tryz.prog.underlying 24).isSome=true /\ el Tryz.prog 24=some 26 /\ zc Tryz.prog 24=some [.nil] /\ bZ Tryz.prog 24=some 24 /\ dU Tryz.prog 24=some (26,7,104):=⟨by kernel_rfl,by kernel_rfl,by kernel_rfl,by kernel_rfl,by kernel_rfl,by kernel_rfl,by kernel_rfl⟩
theorem eD:tk Tryz.prog 26=some (true,7) /\ sk Tryz.prog 26= .st /\ (Tryz.prog.underlying 26).isSome=true /\ el Tryz.prog 26=none /\ zc Tryz.prog 26=some [.int .u8 0, .bool false, .nil, .str [], .int .i64 0, .nil, .nil] /\ bZ Tryz.prog 26=some 104 /\ tH Tryz.prog 26=some [(0,1),(1,1),(2,1),(3,1),(4,1),(5,1),(6,1)] /\ tZ Tryz.prog 26 0=some (0,false,1) /\ tZ Tryz.prog 26 1=some (1,false,1) /\ tZ Tryz.prog 26 2=some (2,false,1) /\ tZ Tryz.prog 26 3=some (3,false,1) /\ tZ Tryz.prog 26 4=some (4,false,1) /\ tZ Tryz.prog 26 5=some (5,false,1) /\ tZ Tryz.prog 26 6=some (6,false,1):=⟨by kernel_rfl,by kernel_rfl,by kernel_rfl,by kernel_rfl,by kernel_rfl,by kernel_rfl,by kernel_rfl,by kernel_rfl,by kernel_rfl,by kernel_rfl,by kernel_rfl,by kernel_rfl,by kernel_rfl,by kernel_rfl⟩
theorem E5p:tk Tryz.prog 34=some (false,1) /\ sk Tryz.prog 34= .fn /\ (Tryz.prog.underlying 34).isSome=true /\ el Tryz.prog 34=none /\ zc Tryz.prog 34=some [.nilfn] /\ bZ Tryz.prog 34=some 8:=⟨by kernel_rfl,by kernel_rfl,by kernel_rfl,by kernel_rfl,by kernel_rfl,by kernel_rfl⟩
theorem qJ:tk Tryz.prog 36=some (false,1) /\ sk Tryz.prog 36= .sl 24 /\ (Tryz.prog.underlying 36).isSome=true /\ el Tryz.prog 36=some 24 /\ zc Tryz.prog 36=some [.nil] /\ bZ Tryz.prog 36=some 24 /\ dU Tryz.prog 36=some (24,1,24):=⟨by kernel_rfl,by kernel_rfl,by kernel_rfl,by kernel_rfl,by kernel_rfl,by kernel_rfl,by kernel_rfl⟩
theorem D4k:tk Tryz.prog 44=some (false,1) /\ sk Tryz.prog 44= .sl 9 /\ (Tryz.prog.underlying 44).isSome=true /\ el Tryz.prog 44=some 9 /\ zc Tryz.prog 44=some [.nil] /\ bZ Tryz.prog 44=some 24 /\ dU Tryz.prog 44=some (9,1,16):=⟨by kernel_rfl,by kernel_rfl,by kernel_rfl,by kernel_rfl,by kernel_rfl,by kernel_rfl,by kernel_rfl⟩
theorem sE:tk Tryz.prog 45=some (false,1) /\ sk Tryz.prog 45= .sl 5 /\ (Tryz.prog.underlying 45).isSome=true /\ el Tryz.prog 45=some 5 /\ zc Tryz.prog 45=some [.nil] /\ bZ Tryz.prog 45=some 24 /\ dU Tryz.prog 45=some (5,1,1):=⟨by kernel_rfl,by kernel_rfl,by kernel_rfl,by kernel_rfl,by kernel_rfl,by kernel_rfl,by kernel_rfl⟩
theorem eG:tk Tryz.prog 47=some (false,1) /\ sk Tryz.prog 47= .int .u32 /\ (Tryz.prog.underlying 47).isSome=true /\ el Tryz.prog 47=none /\ zc Tryz.prog 47=some [.int .u32 0] /\ bZ Tryz.prog 47=some 4:=⟨by kernel_rfl,by kernel_rfl,by kernel_rfl,by kernel_rfl,by kernel_rfl,by kernel_rfl⟩
theorem C1e:tk Tryz.prog 54=some (false,1) /\ sk Tryz.prog 54= .ptr 56 /\ (Tryz.prog.underlying 54).isSome=true /\ el Tryz.prog 54=none /\ zc Tryz.prog 54=some [.nilptr] /\ bZ Tryz.prog 54=some 8:=⟨by kernel_rfl,by kernel_rfl,by kernel_rfl,by kernel_rfl,by kernel_rfl,by kernel_rfl⟩
theorem C1f:tk Tryz.prog 56=some (true,2) /\ sk Tryz.prog 56= .st /\ (Tryz.prog.underlying 56).isSome=true /\ el Tryz.prog 56=none /\ zc Tryz.prog 56=some [.nilptr, .nil] /\ bZ Tryz.prog 56=some 32 /\ tH Tryz.prog 56=some [(0,1),(1,1)] /\ tZ Tryz.prog 56 0=some (0,false,1) /\ tZ Tryz.prog 56 1=some (1,false,1):=⟨by kernel_rfl,by kernel_rfl,by kernel_rfl,by kernel_rfl,by kernel_rfl,by kernel_rfl,by kernel_rfl,by kernel_rfl,by kernel_rfl⟩
theorem E5q:tk Tryz.prog 62=some (false,1) /\ sk Tryz.prog 62= .fn /\ (Tryz.prog.underlying 62).isSome=true /\ el Tryz.prog 62=none /\ zc Tryz.prog 62=some [.nilfn] /\ bZ Tryz.prog 62=some 8:=⟨by kernel_rfl,by kernel_rfl,by kernel_rfl,by kernel_rfl,by kernel_rfl,by kernel_rfl⟩
theorem D4i:tk Tryz.prog 105=some (true,19) /\ sk Tryz.prog 105= .arr 19 9 /\ (Tryz.prog.underlying 105).isSome=true /\ el Tryz.prog 105=none /\ zc Tryz.prog 105=some [.str [], .str [], .str [], .str [], .str [], .str [], .str [], .str [], .str [], .str [], .str [], .str [], .str [], .str [], .str [], .str [], .str [], .str [], .str []] /\ bZ Tryz.prog 105=some 304 /\ wX Tryz.prog 105=some (19,1) /\ D5n Tryz.prog 105=some (19,false,1):=⟨by kernel_rfl,by kernel_rfl,by kernel_rfl,by kernel_rfl,by kernel_rfl,by kernel_rfl,by kernel_rfl,by kernel_rfl⟩
theorem lU:tk Tryz.prog 106=some (false,1) /\ sk Tryz.prog 106= .int .u64 /\ (Tryz.prog.underlying 106).isSome=true /\ el Tryz.prog 106=none /\ zc Tryz.prog 106=some [.int .u64 0] /\ bZ Tryz.prog 106=some 8:=⟨by kernel_rfl,by kernel_rfl,by kernel_rfl,by kernel_rfl,by kernel_rfl,by kernel_rfl⟩
theorem qI:tk Tryz.prog 128=some (false,1) /\ sk Tryz.prog 128= .int .u64 /\ (Tryz.prog.underlying 128).isSome=true /\ el Tryz.prog 128=none /\ zc Tryz.prog 128=some [.int .u64 0] /\ bZ Tryz.prog 128=some 8:=⟨by kernel_rfl,by kernel_rfl,by kernel_rfl,by kernel_rfl,by kernel_rfl,by kernel_rfl⟩
theorem wT:tk Tryz.prog 129=some (false,1) /\ sk Tryz.prog 129= .sl 4 /\ (Tryz.prog.underlying 129).isSome=true /\ el Tryz.prog 129=some 4 /\ zc Tryz.prog 129=some [.nil] /\ bZ Tryz.prog 129=some 24 /\ dU Tryz.prog 129=some (4,1,1):=⟨by kernel_rfl,by kernel_rfl,by kernel_rfl,by kernel_rfl,by kernel_rfl,by kernel_rfl,by kernel_rfl⟩
theorem D4j:tk Tryz.prog 147=some (false,1) /\ sk Tryz.prog 147= .sl 3 /\ (Tryz.prog.underlying 147).isSome=true /\ el Tryz.prog 147=some 3 /\ zc Tryz.prog 147=some [.nil] /\ bZ Tryz.prog 147=some 24 /\ dU Tryz.prog 147=some (3,1,8):=⟨by kernel_rfl,by kernel_rfl,by kernel_rfl,by kernel_rfl,by kernel_rfl,by kernel_rfl,by kernel_rfl⟩
theorem mixed:Tryz.prog.follows .mixedOrders=true:=by kernel_rfl
end Go.Proofs.YtdhbdhopnpmboaaGreatDoor
namespace Go.Proofs.YtdhbdhopnpmboaaGreatDoor
open Go Go.Av
inductive aA where
 |mk (kind:UInt8) (neg:Bool) (limbs:List UInt32) (text:List UInt8) (num:Int) (items tail:List aA)
instance:Inhabited aA:=⟨.mk 0 false [] [] 0 [] []⟩
def aA.kind:aA ->UInt8| .mk k _ _ _ _ _ _=>k
def aA.neg:aA ->Bool| .mk _ g _ _ _ _ _=>g
def aA.limbs:aA ->List UInt32| .mk _ _ l _ _ _ _=>l
def aA.text:aA ->List UInt8| .mk _ _ _ s _ _ _=>s
def aA.num:aA ->Int| .mk _ _ _ _ n _ _=>n
def aA.items:aA ->List aA| .mk _ _ _ _ _ ks _=>ks
def aA.tail:aA ->List aA| .mk _ _ _ _ _ _ ts=>ts
def aA.knd(t:aA):Int:=t.kind.toNat
theorem aA.knd_nn(t:aA):0 <=t.knd:=Int.natCast_nonneg _
def bC(x:UInt32):AV:= .int .u32 x.toNat
def bD(l:List UInt32):AV:= .sl .none (l.map bC) []
instance {l:List UInt32} :NotBs (bD l):=⟨fun _ _ _ _ h=>by unfold bD at h;cases h⟩
def aA.enc:aA ->AV
 | .mk k g l s n ks ts=> .agg [.int .u8 k.toNat, .bool g,bD l, .str s, .int .i64 n, .sl .none (ks.map aA.enc) [], .sl .none (ts.map aA.enc) []]
def aH(l:List aA):AV:= .sl .none (l.map aA.enc) []
instance {l:List aA} :NotBs (aH l):=⟨fun _ _ _ _ h=>by unfold aH at h;cases h⟩
theorem aA.flat_enc(t:aA):flat t.enc=[.int .u8 t.knd, .bool t.neg,bD t.limbs, .str t.text, .int .i64 t.num,aH t.items,aH t.tail]:=by
 cases t;simp[aA.enc,flat,aA.knd,aA.kind,aA.neg,aA.limbs,aA.text,aA.num,aA.items,aA.tail,aH]
theorem aA.isv_enc(t:aA):isv t.enc=true:=by cases t;simp[aA.enc,isv]
theorem aA.fold_enc(t:aA):AV.agg [.int .u8 t.knd, .bool t.neg,bD t.limbs, .str t.text, .int .i64 t.num,aH t.items,aH t.tail]=t.enc:=by
 cases t;simp[aA.enc,aA.knd,aA.kind,aA.neg,aA.limbs,aA.text,aA.num,aA.items,aA.tail,aH]
theorem aS(l:List aA):isv (aH l)=true:=rfl
theorem aN(l:List aA):flat (aH l)=[aH l]:=rfl
theorem aQ(l:List UInt32):isv (bD l)=true:=rfl
theorem aM(l:List UInt32):flat (bD l)=[bD l]:=rfl
theorem aU{P:Program}{t:TypeId}(l:List aA):jO P .len #[t] [aH l]=if(el P t).isSome then some (.int .i64 l.length)else none:=by
 simp[aH,B2h]
theorem aZ{P:Program}{t:TypeId}(l:List UInt32):jO P .len #[t] [bD l]=if(el P t).isSome then some (.int .i64 l.length)else none:=by
 simp[bD,B2h]
theorem bW{P:Program}{t:TypeId}{k:IntKind}(l:List aA)(i:Nat):fV P t (aH l) (.int k (i:Int))=ixk ((el P t).bind (tk P)) ((l[i]?).map aA.enc):=by
 simp[aH,jQ]
theorem bG{P:Program}{t:TypeId}{k:IntKind}(l:List aA)(i:Int)(h:0 <=i):fV P t (aH l) (.int k i)=ixk ((el P t).bind (tk P)) ((l[i.toNat]?).map aA.enc):=by
 simp[aH,jQ,h]
theorem cH{P:Program}{t:TypeId}{k:IntKind}(l:List UInt32)(i:Nat):fV P t (bD l) (.int k (i:Int))=ixk ((el P t).bind (tk P)) ((l[i]?).map bC):=by
 simp[bD,jQ]
theorem bQ{P:Program}{t:TypeId}{k:IntKind}(l:List UInt32)(i:Int)(h:0 <=i):fV P t (bD l) (.int k i)=ixk ((el P t).bind (tk P)) ((l[i.toNat]?).map bC):=by
 simp[bD,jQ,h]
theorem bB(x:UInt32):flat (bC x)=[bC x]:=rfl
theorem aA.ind{P:aA ->Prop}(h:∀ t,(∀ k,k ∈ t.items ->P k) -> (∀ k,k ∈ t.tail ->P k) ->P t):∀ t,P t:=by
 have key:∀ n,∀ t:aA,SizeOf.sizeOf t <=n ->P t:=by
  intro n
  induction n with
  |zero=>intro t ht;cases t;simp at ht
  | succ n ih=>
   intro t ht
   cases t with
   | mk a b c d e ks ts=>
    refine h _ (fun k hk=>ih k ?_) (fun k hk=>ih k ?_)
    ·have:=List.sizeOf_lt_of_mem (show k ∈ ks from hk)
     simp at ht
     omega
    ·have:=List.sizeOf_lt_of_mem (show k ∈ ts from hk)
     simp at ht
     omega
 exact fun t=>key _ t (Nat.le_refl _)
mutual
def aA.bulk:aA ->Nat
 | .mk _ _ l s _ ks ts=>l.length+s.length+aV ks+aV ts+1
def aV:List aA ->Nat
 |[]=>0
 |k::ks=>k.bulk+aV ks
end
theorem aA.bulk_eq(t:aA):t.bulk=t.limbs.length+t.text.length+aV t.items+aV t.tail+1:=by cases t;simp[aA.bulk,aA.limbs,aA.text,aA.items,aA.tail]
theorem eQ{l:List aA}{k:aA}(h:k ∈ l):k.bulk <=aV l:=by
 induction l with
 |nil=>cases h
 | cons x l ih=>
  simp only[aV]
  rcases List.mem_cons.1 h with rfl|h
  ·omega
  ·have:=ih h;omega
theorem iT(l r:List aA):aV (l++r)=aV l+aV r:=by
 induction l with
 |nil=>simp[aV]
 |cons x l ih=>simp only[List.cons_append,aV,ih];omega
theorem dY(l:List aA):l.length <=aV l:=by
 induction l with
 |nil=>simp[aV]
 |cons x l ih=>have:=x.bulk_eq;simp only[List.length_cons,aV];omega
theorem dJ{k t:aA}(h:k ∈ t.items):k.bulk < t.bulk:=by
 have:=eQ h;have:=t.bulk_eq;omega
theorem dK{k t:aA}(h:k ∈ t.tail):k.bulk < t.bulk:=by
 have:=eQ h;have:=t.bulk_eq;omega
theorem cA(t:aA):t.items.length < t.bulk:=by
 have:=dY t.items;have:=t.bulk_eq;omega
theorem dD(t:aA):t.tail.length < t.bulk:=by
 have:=dY t.tail;have:=t.bulk_eq;omega
theorem cQ(t:aA):t.limbs.length < t.bulk:=by
 have:=t.bulk_eq;omega
theorem D2a(t:aA):t.text.length < t.bulk:=by
 have:=t.bulk_eq;omega
theorem aC{x:Int}(h0: -9223372036854775808 <=x)(h1:x <=9223372036854775807):IntKind.i64.wrap x=x:=by
 rw[IntKind.wrap_i64];omega
theorem aW{α:Type}(l:List α)(i:Nat)(x:α)(h:l[i]? =some x):l.take (i+1)=l.take i++[x]:=by
 rw[List.take_add_one,h];rfl
theorem dC{α:Type}(l:List α)(i:Nat)(x:α)(h:l[i]? =some x):l.drop i=x::l.drop (i+1):=by
 obtain⟨hi,rfl⟩:=List.getElem?_eq_some_iff.1 h
 exact List.drop_eq_getElem_cons hi
theorem E7l{l:List aA} :∀ a,a ∈ l.map aA.enc -> (flat a).length=7:=fun a ha=>by
 obtain⟨x,_,rfl⟩:=List.mem_map.1 ha
 rw[x.flat_enc];rfl
theorem yM{l:List UInt32} :∀ a,a ∈ l.map bC -> (flat a).length=1:=fun a ha=>by
 obtain⟨x,_,rfl⟩:=List.mem_map.1 ha
 rfl
theorem ones(t:aA):∀ d,d ∈ flat t.enc ->Av.one d=true:=fun d hd=>by rw[t.flat_enc]at hd;simp at hd;rcases hd with rfl|rfl|rfl|rfl|rfl|rfl|rfl <;>rfl
theorem zG{P:Program}{t:TypeId}(l:List aA)(lo hi:Option AV)(ht:((el P t).bind (tk P))=some (true,7)):iC P t (aH l) lo hi=match eL lo 0,eL hi l.length with
  |some a,some b=>if a <=b /\ b <=l.length then some (aH ((l.take b).drop a))else none
  |_,_=>none:=by
 unfold aH
 rw[A8r,ht,List.length_map]
 cases eL lo 0 with
 |none=>cases eL hi l.length <;>rfl
 | some a=>
  cases eL hi l.length with
  |none=>rfl
  | some b=>
   rw[B0c E7l]
   simp only[List.length_map,List.map_drop,List.map_take]
theorem zH{P:Program}{t:TypeId}(l:List UInt32)(lo hi:Option AV)(ht:((el P t).bind (tk P))=some (false,1)):iC P t (bD l) lo hi=match eL lo 0,eL hi l.length with
  |some a,some b=>if a <=b /\ b <=l.length then some (bD ((l.take b).drop a))else none
  |_,_=>none:=by
 unfold bD
 rw[A8r,ht,List.length_map]
 cases eL lo 0 with
 |none=>cases eL hi l.length <;>rfl
 | some a=>
  cases eL hi l.length with
  |none=>rfl
  | some b=>
   rw[B0c yM]
   simp only[List.length_map,List.map_drop,List.map_take]
end Go.Proofs.YtdhbdhopnpmboaaGreatDoor
namespace Go.Proofs.YtdhbdhopnpmboaaGreatDoor
open Go Go.Av
def eF:=And.intro (And.intro (And.intro @jD (And.intro @iZ @jJ)) (And.intro @eG (And.intro @jE @dL))) (And.intro (And.intro @aQ (And.intro @aM @aZ)) (And.intro @cH (And.intro @bQ @bB)))
variable (G:Nat ->AV)
def nE(k i:Int):Int:=IntKind.i64.wrap (IntKind.i64.wrap (1000003*IntKind.i64.wrap (k+7))+i)
theorem dZ(k i:Int):aB Tryz.prog G 70 [.int .i64 k, .int .i64 i] (.int .i64 (nE k i)):=by
 intro σ
 refine aJ.of_awp mixed Tryz.func70 rfl (by kernel_rfl) (by kernel_rfl) (by simp[Tryz.ntmps70]) Tryz.results70 ?_
 repeat'(first|refine xs ?_ ?_ <;>intros|(refine wn ?_;intro bx hbx;try simp only[fb]at hbx)|refine wj ?_|simp -dsimp only[↓bp,bq,br,seval,eF, *]|refine wz ?_|fail)
 all_goals rfl
theorem D8r{x y:UInt32} :((x.toNat:Int)=(y.toNat:Int)) ↔ x=y:=by
 constructor
 ·intro h;exact UInt32.toNat_inj.1 (by omega)
 ·rintro rfl;rfl
theorem B0e{α:Type}{l r:List α}{i:Nat}{x:α}(h:l.take i=r.take i)(hl:l[i]? =some x)(hr:r[i]? =some x):l.take (i+1)=r.take (i+1):=by
 rw[aW _ _ _ hl,aW _ _ _ hr,h]
theorem B7c{α:Type}{l r:List α}(hl:l.length=r.length)(h:l.take l.length=r.take l.length):l=r:=by
 rw[List.take_length]at h
 rw[h,hl,List.take_length]
theorem A8d(l r:List UInt32)(hl:l.length <=1000000000)(hr:r.length <=1000000000):aB Tryz.prog G 57 [bD l,bD r] (.bool (decide (l=r))):=by
 intro σ
 refine aJ.of_awp mixed Tryz.func57 rfl (by kernel_rfl) (by kernel_rfl) (by simp[Tryz.ntmps57]) Tryz.results57 ?_
 repeat'(first|refine xs ?_ ?_ <;>intros|(refine wn ?_;intro bx hbx;try simp only[fb]at hbx)|refine wj ?_|simp -dsimp only[↓bp,bq,br,seval,eF, *]|refine wz ?_|fail)
 rotate_right
 ·skip
  refine aD mixed (fun n e=>∃ i:Nat,i <=(l).length /\ n=(l).length - i /\ e 5= .int .i64 i /\ l.take i=r.take i) (l).length
    ⟨0,by omega,by omega,by simp -dsimp only[↓bp,bq,br,seval,eF];first|done|rfl,rfl⟩ ?_
  rintro n v ⟨i,hi,rfl,h5,htk⟩
  simp -dsimp only[↓bp,bq,br,seval,eF]at h5
  simp -dsimp only[↓bp,bq,br,seval,eF,h5]
  refine cG (fun hlt=> ?_) (fun hge=> ?_)
  ·obtain⟨x,hx⟩:∃ x,l[i]? =some x:=⟨_,List.getElem?_eq_getElem (by omega)⟩
   obtain⟨y,hy⟩:∃ y,r[i]? =some y:=⟨_,List.getElem?_eq_getElem (by omega)⟩
   clear hi hlt
   repeat'(first|refine xs ?_ ?_ <;>intros|(refine wn ?_;intro bx hbx;try simp only[fb]at hbx)|refine wj ?_|simp -dsimp only[↓bp,bq,br,seval,eF,bC, *]|refine wz ?_|fail)
   ·have hxy:l ≠ r:=fun e=>by subst e;rw[hx]at hy;simp only[Option.some.injEq]at hy;subst hy;simp_all
    simp[hxy]
   ·have hxy:x=y:=D8r.1 (by simp_all)
    subst hxy
    have hlt:=(List.getElem?_eq_some_iff.1 hx).1
    exact⟨l.length - (i+1),by omega,i+1,by omega,rfl,by rw[aC (by omega) (by omega)];rfl,B0e htk hx hy⟩
  ·have:i=l.length:=by omega
   subst this
   have hlr:l=r:=B7c (by omega) htk
   clear hi hge
   repeat'(first|refine xs ?_ ?_ <;>intros|(refine wn ?_;intro bx hbx;try simp only[fb]at hbx)|refine wj ?_|simp -dsimp only[↓bp,bq,br,seval,eF, *]|refine wz ?_|fail)
   all_goals simp[hlr]
 ·have:l ≠ r:=fun e=>by subst e;simp_all
  simp[this]
def lmk(i:Int):AV:= .int .u32 (IntKind.u32.wrap (nE 1 i))
def fJ(i:Nat):List AV:=(List.range i).map fun(i:Nat)=>lmk (i:Int)
theorem qZ(i:Nat):fJ (i+1)=fJ i++[lmk (i:Int)]:=by simp[fJ,List.range_succ]
theorem fN(i:Nat):(fJ i).length=i:=by simp[fJ]
def dS:List AV:=fJ 12
def iM(l:List UInt32):AV:= .sl .none (l.map bC) dS
theorem oL(l:List UInt32):isv (iM l)=true:=rfl
theorem mT(l:List UInt32):flat (iM l)=[iM l]:=rfl
theorem B5b(l:List UInt32):Le (iM l) (bD l):=Le.spare
theorem tfL:dU Tryz.prog 23=some (47,1,4):=dL.2.2.2.2.2.2
theorem wJ:el Tryz.prog 23=some 47:=dL.2.2.2.1
theorem A7y(l:List UInt32)(hl:l.length <=1000000000):aB Tryz.prog G 37 [bD l] (iM l):=by
 refine aB.of_le fun σ=> ?_
 have hw0:IntKind.i64.wrap ((l.length:Int)+12)=l.length+12:=aC (by omega) (by omega)
 refine aJ.of_awp mixed Tryz.func37 rfl (by kernel_rfl) (by kernel_rfl) (by simp[Tryz.ntmps37]) Tryz.results37 ?_
 simp -dsimp only[↓bp,bq,br,seval,eF,hw0]
 refine eS tfL (by omega) (by omega) (AS.le.refl σ) (fun v σ1 hB1 hx1=> ?_)
 simp -dsimp only[↓bp,bq,br,seval,eF]
 refine iH (ys:=l.map bC) hB1 tfL (bJ wJ) yM (by simp;omega) (fun v σ2 hB2 hx2=> ?_)
 simp -dsimp only[↓bp,bq,br,seval,eF]
 rw[List.nil_append]at hB2
 refine aI (fun n e σ'=>∃ (i:Nat) (v:AV),i <=12 /\ n=12 - i /\ e 4= .int .i64 i /\ e 3=v /\ kL 1 σ σ' v (l.map bC++fJ i)) 12
  ⟨0,v,by omega,by omega,by simp -dsimp only[↓bp,bq,br,seval,eF];try rfl,by simp -dsimp only[↓bp,bq,br,seval,eF],by simpa [fJ] using hB2⟩ ?_
 rintro n e2 σ3 ⟨i,v3,hi2,rfl,h4,h3,hB3⟩
 simp -dsimp only[↓bp,bq,br,seval,eF]at h4 h3
 simp -dsimp only[↓bp,bq,br,seval,eF,h4,h3]
 refine cG (fun hlt=> ?_) (fun hge=> ?_)
 ·simp -dsimp only[↓bp,bq,br,seval,eF,h4,h3]
  refine aB.use (dZ G 1 i) ?_
  simp -dsimp only[↓bp,bq,br,seval,eF,h4,h3]
  refine eK tfL rfl rfl (by omega) ?_
  simp -dsimp only[↓bp,bq,br,seval,eF,h4,h3]
  refine iH (ys:=[lmk (i:Int)]) hB3 tfL (bJ wJ) (fun a ha=>by simp at ha;subst ha;rfl) (by simp[fN];omega) (fun v4 σ4 hB4 hx4=> ?_)
  simp -dsimp only[↓bp,bq,br,seval,eF,h4,h3]
  refine⟨12 - (i+1),by omega,i+1,v4,by omega,rfl,?_,rfl,?_⟩
  ·rw[aC (by omega) (by omega)];rfl
  ·rw[qZ,<- List.append_assoc];exact hB4
 ·have:i=12:=by omega
  subst this
  simp -dsimp only[↓bp,bq,br,seval,eF,h4,h3]
  rcases hB3.isNil with⟨hn,_⟩|⟨b,hb⟩
  ·have:=congrArg List.length hn;simp[fN]at this
  ·subst hb
   try refine xQ ?_
   refine A9s (l:=0) (h:=l.length) wJ eG.1 rfl (by simp[eL]) (by omega) (by simp) (fun a ha=> ?_) (fun g'=> ?_)
   ·rw[List.append_nil]at ha
    cases hB3 with
    |own _ _ _ _ _ hx=>exact hx a ha
   ·simp -dsimp only[↓bp,bq,br,seval,eF,h4,h3]
    refine aL ?_ hB3.le
    have e1:(l.map bC++fJ 12).take l.length=l.map bC:=by
     rw[List.take_append_of_le_length (by simp),List.take_of_length_le (by simp)]
    have e2:(l.map bC++fJ 12).drop l.length=dS:=by
     rw[List.drop_append_of_le_length (by simp),List.drop_eq_nil_of_le (by simp)];rfl
    rw[e1,e2]
    exact Le.gh
theorem tA{P:Program}{t:TypeId}(l:List UInt32):jO P .len #[t] [iM l]=if(el P t).isSome then some (.int .i64 l.length)else none:=by
 simp[iM,B2h]
theorem B6y{t:TypeId}(l:List UInt32)(h:Int)(hh:h=l.length+12)(ht:t=23){K:AV ->Prop}{d:Dum K}(hK:∀ g,K (.sl g (l.map bC++dS) [])):bo (iC Tryz.prog t (iM l) none (some (.int .i64 h))) K d:=by
 subst hh ht
 refine A9s (l:=0) (h:=l.length+12) wJ eG.1 rfl (by simp[eL];omega) (by omega) (by simp[dS,fN]) (fun a ha=> ?_) (fun g'=> ?_)
 ·rcases List.mem_append.1 ha with ha|ha
  ·exact yM a ha
  ·obtain⟨i,_,rfl⟩:=List.mem_map.1 ha
   rfl
 ·have e1:((l.map bC++dS).take (l.length+12)).drop 0=l.map bC++dS:=by
   rw[List.drop_zero,List.take_of_length_le (by simp[dS,fN])]
  have e2:(l.map bC++dS).drop (l.length+12)=[]:=List.drop_eq_nil_of_le (by simp[dS,fN])
  rw[e1,e2]
  have hml:dS.length=12:=by simp[dS,fN]
  unfold zI
  split
  ·rename_i heq _
   have h2:dS=[]:=by injection heq
   rw[h2]at hml
   cases hml
  ·exact hK g'
theorem A7x(l:List UInt32)(hl:l.length <=1000000000):aB Tryz.prog G 51 [iM l,bD l] (.bool true):=by
 intro σ
 have hw0:IntKind.i64.wrap ((l.length:Int)+12)=l.length+12:=aC (by omega) (by omega)
 have hml:dS.length=12:=by simp[dS,fN]
 refine aJ.of_awp mixed Tryz.func51 rfl (by kernel_rfl) (by kernel_rfl) (by simp[Tryz.ntmps51]) Tryz.results51 ?_
 simp -dsimp only[↓bp,bq,br,seval,eF,hw0,tA]
 try refine xQ ?_
 refine B6y l _ rfl rfl fun g=> ?_
 simp -dsimp only[↓bp,bq,br,seval,eF]
 refine aI (fun n e σ'=>∃ i:Nat,i <=((l.map bC++dS)).length /\ n=((l.map bC++dS)).length - i /\ e 6= .int .i64 i /\ σ.le σ') ((l.map bC++dS)).length
   ⟨0,by omega,by omega,by simp -dsimp only[↓bp,bq,br,seval,eF];first|done|rfl,AS.le.refl σ⟩ ?_
 rintro n v σ' ⟨i,hi,rfl,h6,hle⟩
 simp -dsimp only[↓bp,bq,br,seval,eF]at h6
 simp -dsimp only[↓bp,bq,br,seval,eF,h6]
 refine cG (fun hlt=> ?_) (fun hge=> ?_)
 ·have hl3:i < l.length+12:=by rw[List.length_append,List.length_map,hml]at hlt;omega
  by_cases hi2:(i:Int) < l.length
  ·obtain⟨k,hk⟩:∃ k,l[i]? =some k:=⟨_,List.getElem?_eq_getElem (by omega)⟩
   have hx:(l.map bC++dS)[i]? =some (bC k):=by rw[List.getElem?_append_left (by simp;omega),List.getElem?_map,hk];rfl
   have hge: ¬ (l.length:Int) <=i:=by omega
   clear hi hlt
   repeat'(first|refine xs ?_ ?_ <;>intros|(refine wn ?_;intro bx hbx;try simp only[fb]at hbx)|refine wj ?_|simp -dsimp only[↓bp,bq,br,seval,eF,bC,oL,mT,tA, *]|refine wz ?_|fail)
   all_goals(have hl2:(l.map bC++dS).length=l.length+12:=by simp[hml])
   all_goals exact⟨(l.map bC++dS).length - (i+1),by omega,i+1,by omega,rfl,by rw[aC (by omega) (by omega)];rfl⟩
  ·have hx:(l.map bC++dS)[i]? =some (lmk ((i - l.length:Nat):Int)):=by
    rw[List.getElem?_append_right (by simp;omega),List.length_map]
    have:i - l.length < 12:=by omega
    simp[dS,fJ,this]
   have hge:(l.length:Int) <=i:=by omega
   have hw1:IntKind.i64.wrap ((i:Int) - l.length)=((i - l.length:Nat):Int):=by rw[aC (by omega) (by omega)];omega
   clear hi hlt
   repeat'(first|refine xs ?_ ?_ <;>intros|(refine wn ?_;intro bx hbx;try simp only[fb]at hbx)|refine aB.use (dZ G 1 _) ?_|refine aB.head (dZ G 1 _) ?_|refine wj ?_|simp -dsimp only[↓bp,bq,br,seval,eF,lmk,oL,mT,tA, *]|refine wz ?_|fail)
   all_goals(have hl2:(l.map bC++dS).length=l.length+12:=by simp[hml])
   all_goals exact⟨(l.map bC++dS).length - (i+1),by omega,i+1,by omega,rfl,by rw[aC (by omega) (by omega)];rfl⟩
 ·have:i=(l.map bC++dS).length:=by omega
  subst this
  clear hi hge
  repeat'(first|refine xs ?_ ?_ <;>intros|(refine wn ?_;intro bx hbx;try simp only[fb]at hbx)|refine wj ?_|simp -dsimp only[↓bp,bq,br,seval,eF, *]|refine wz ?_|fail)
  all_goals rfl
theorem A8u(l:List UInt32)(hl:l.length <=1000000000)(σ:AS):aJ Tryz.prog G 49 [bD l] σ fun r σ'=>Le r (bD l) /\ σ'=σ:=by
 have key:∀ x,(∀ op t,(el Tryz.prog t).isSome=true ->lV Tryz.prog op t x .nil=vS op false) ->lJ Tryz.prog 23 x=some (l.map bC) ->aJ Tryz.prog G 49 [x] σ fun r σ'=>Le r (bD l) /\ σ'=σ:=by
  intro x h1 h2
  have h3:=h1 .eql 23 (by rw[wJ];rfl)
  refine aJ.of_awp mixed Tryz.func49 rfl (by kernel_rfl) (by kernel_rfl) (by simp[Tryz.ntmps49]) Tryz.results49 ?_
  simp -dsimp only[↓bp,bq,br,seval,eF,h3]
  refine B8n tfL ?_
  simp -dsimp only[↓bp,bq,br,seval,eF]
  refine A3u (σ0:=σ) (AS.le.refl σ) (fun a ha=>by cases ha) tfL h2 yM (by simp;omega) (fun he=> ?_) (fun v σ1 hB hx=> ?_)
  ·simp -dsimp only[↓bp,bq,br,seval,eF]
   have e:bD l= .sl .none [] []:=by unfold bD;rw[he]
   rw[e]
   exact aL Le.gh (AS.le.refl σ)
  ·simp -dsimp only[↓bp,bq,br,seval,eF]
   exact aL hB.told hB.le
 cases l with
 | nil=>
  refine aJ.nil_or ?_ fun a c=> ?_
  ·refine aJ.of_awp mixed Tryz.func49 rfl (by kernel_rfl) (by kernel_rfl) (by simp[Tryz.ntmps49]) Tryz.results49 ?_
   simp -dsimp only[↓bp,bq,br,seval,eF]
   exact aL Le.nil (AS.le.refl σ)
  ·exact key _ (fun op t h=>by rw[sH,if_pos h]) (by simp[lJ,wJ])
 |cons x l=>exact key _ (fun op t h=>by simp[bD,lV,isNil,h]) (bJ wJ)
end Go.Proofs.YtdhbdhopnpmboaaGreatDoor
set_option maxRecDepth 20000
namespace Go.Proofs.YtdhbdhopnpmboaaGreatDoor
open Go Go.Av
def mQ:=And.intro (And.intro (And.intro (And.intro @jD @iZ) (And.intro @jJ (And.intro @eG @jE))) (And.intro (And.intro @dL (And.intro @eN @dV)) (And.intro @eD (And.intro @aA.flat_enc @aA.isv_enc)))) (And.intro (And.intro (And.intro @aA.fold_enc (And.intro @aS @aN)) (And.intro @aU (And.intro @bW @bG))) (And.intro (And.intro @aQ (And.intro @aM @aZ)) (And.intro @cH (And.intro @bQ @bB))))
variable (G:Nat ->AV)
mutual
def same:aA ->aA ->Bool
 | .mk k g l s n ks ts,u=>decide ((k.toNat:Int)=u.knd) && (g==u.neg) && decide (l=u.limbs) && decide (s=u.text) && decide (n=u.num) && sB ks u.items && sB ts u.tail
def sB:List aA ->List aA ->Bool
 |[],[]=>true
 |a::l,b::r=>same a b && sB l r
 |_,_=>false
end
theorem A2z(t u:aA):same t u=(decide (t.knd=u.knd) && (t.neg==u.neg) && decide (t.limbs=u.limbs) && decide (t.text=u.text) && decide (t.num=u.num) && sB t.items u.items && sB t.tail u.tail):=by
 cases t;rw[same];rfl
theorem tK{l:List aA}(h:∀ t,t ∈ l ->∀ u,same t u=true ↔ t=u):∀ r,sB l r=true ↔ l=r:=by
 induction l with
 |nil=>intro r;cases r <;>simp[sB]
 | cons a l ih=>
  intro r
  cases r with
  |nil=>simp[sB]
  |cons b r=>simp only[sB,Bool.and_eq_true,h a (by simp) b,ih (fun t ht=>h t (by simp[ht])) r,List.cons.injEq]
theorem nH(t:aA):∀ u,same t u=true ↔ t=u:=by
 refine aA.ind (P:=fun t=>∀ u,same t u=true ↔ t=u) (fun t h1 h2 u=> ?_) t
 rw[A2z]
 simp only[Bool.and_eq_true,decide_eq_true_eq,beq_iff_eq,tK h1,tK h2]
 constructor
 ·rintro⟨⟨⟨⟨⟨⟨h,rfl2⟩,h3⟩,h4⟩,h5⟩,h6⟩,h7⟩
  cases t;cases u
  simp only[aA.knd,aA.kind,aA.neg,aA.limbs,aA.text,aA.num,aA.items,aA.tail]at*
  simp only[aA.mk.injEq]
  exact⟨UInt8.toNat_inj.1 (by omega),rfl2,h3,h4,h5,h6,h7⟩
 ·rintro rfl;simp
theorem A9x(l r:List aA):sB l r=true ↔ l=r:=tK (fun t _=>nH t) r
theorem A9w(l r:List aA)(h:l ≠ r):sB l r=false:=by
 cases hs:sB l r with
 |false=>rfl
 |true=>exact absurd ((A9x l r).1 hs) h
theorem A2g(l r:List aA)(hl:l.length <=1000000000)(hr:r.length <=1000000000)(hf:∀ x,x ∈ l ->∀ y,y ∈ r ->aB Tryz.prog G 18 [x.enc,y.enc] (.bool (same x y))):aB Tryz.prog G 58 [aH l,aH r] (.bool (sB l r)):=by
 intro σ
 refine aJ.of_awp mixed Tryz.func58 rfl (by kernel_rfl) (by kernel_rfl) (by simp[Tryz.ntmps58]) Tryz.results58 ?_
 repeat'(first|refine xs ?_ ?_ <;>intros|(refine wn ?_;intro bx hbx;try simp only[fb]at hbx)|refine wj ?_|simp -dsimp only[↓bp,bq,br,seval,mQ, *]|refine wz ?_|fail)
 rotate_right
 ·skip
  refine aD mixed (fun n e=>∃ i:Nat,i <=(l).length /\ n=(l).length - i /\ e 5= .int .i64 i /\ l.take i=r.take i) (l).length
    ⟨0,by omega,by omega,by simp -dsimp only[↓bp,bq,br,seval,mQ];first|done|rfl,rfl⟩ ?_
  rintro n v ⟨i,hi,rfl,h5,htk⟩
  simp -dsimp only[↓bp,bq,br,seval,mQ]at h5
  simp -dsimp only[↓bp,bq,br,seval,mQ,h5]
  refine cG (fun hlt=> ?_) (fun hge=> ?_)
  ·obtain⟨x,hx⟩:∃ x,l[i]? =some x:=⟨_,List.getElem?_eq_getElem (by omega)⟩
   obtain⟨y,hy⟩:∃ y,r[i]? =some y:=⟨_,List.getElem?_eq_getElem (by omega)⟩
   have hc:=hf x (List.mem_of_getElem? hx) y (List.mem_of_getElem? hy)
   clear hi hlt hf
   repeat'(first|refine xs ?_ ?_ <;>intros|(refine wn ?_;intro bx hbx;try simp only[fb]at hbx)|refine wp hc ?_|refine wj ?_|simp -dsimp only[↓bp,bq,br,seval,mQ, *]|refine wz ?_|fail)
   ·have hxy:same x y=true:=by assumption
    have hxy:x=y:=(nH x y).1 hxy
    subst hxy
    have hlt:=(List.getElem?_eq_some_iff.1 hx).1
    exact⟨l.length - (i+1),by omega,i+1,by omega,rfl,by rw[aC (by omega) (by omega)];rfl,B0e htk hx hy⟩
   ·have hxy:same x y=false:=by assumption
    have:l ≠ r:=fun e=>by subst e;rw[hx]at hy;simp only[Option.some.injEq]at hy;subst hy;rw[(nH x x).2 rfl]at hxy;cases hxy
    rw[A9w _ _ this]
  ·have:i=l.length:=by omega
   subst this
   have hlr:l=r:=B7c (by omega) htk
   clear hi hge hf
   repeat'(first|refine xs ?_ ?_ <;>intros|(refine wn ?_;intro bx hbx;try simp only[fb]at hbx)|refine wj ?_|simp -dsimp only[↓bp,bq,br,seval,mQ, *]|refine wz ?_|fail)
   all_goals(subst hlr;rw[(A9x l l).2 rfl])
 ·have:l ≠ r:=fun e=>by subst e;simp_all
  rw[A9w _ _ this]
theorem sA(t:aA):∀ u:aA,t.bulk <=1000000000 ->u.bulk <=1000000000 ->aB Tryz.prog G 18 [t.enc,u.enc] (.bool (same t u)):=by
 refine aA.ind (P:=fun t=>∀ u:aA,t.bulk <=1000000000 ->u.bulk <=1000000000 ->aB Tryz.prog G 18 [t.enc,u.enc] (.bool (same t u))) (fun t ih1 ih2 u ht hu=> ?_) t
 have h1:=A2g G t.items u.items (by have:=cA t;omega) (by have:=cA u;omega) (fun x hx y hy=>ih1 x hx y (by have:=dJ hx;omega) (by have:=dJ hy;omega))
 have h2:=A2g G t.tail u.tail (by have:=dD t;omega) (by have:=dD u;omega) (fun x hx y hy=>ih2 x hx y (by have:=dK hx;omega) (by have:=dK hy;omega))
 have h3:=A8d G t.limbs u.limbs (by have:=cQ t;omega) (by have:=cQ u;omega)
 clear ih1 ih2 ht hu
 intro σ
 refine aJ.of_awp mixed Tryz.func18 rfl (by kernel_rfl) (by kernel_rfl) (by simp[Tryz.ntmps18]) Tryz.results18 ?_
 repeat'(first|refine xs ?_ ?_ <;>intros|(refine wn ?_;intro bx hbx;try simp only[fb]at hbx)|refine wp h1 ?_|refine wp h2 ?_|refine wp h3 ?_|refine wj ?_|simp -dsimp only[↓bp,bq,br,seval,mQ, *]|refine wz ?_|fail)
 all_goals(first|(simp only[A2z, *,Bool.and_true,Bool.true_and,Bool.and_false,Bool.false_and,Bool.or_true,Bool.true_or,Bool.or_false,Bool.false_or,Bool.not_true,Bool.not_false,if_true,if_false,Bool.and_self,Bool.or_self];done)|(simp[A2z, *];done)|(simp_all [A2z];done))
end Go.Proofs.YtdhbdhopnpmboaaGreatDoor
