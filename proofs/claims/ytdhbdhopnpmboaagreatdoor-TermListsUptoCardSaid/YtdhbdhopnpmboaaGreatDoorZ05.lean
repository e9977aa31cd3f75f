/- Functions: from what is shown of the body to what is said of a call; and the rules by which what is to be shown is worked out. -/
import Derived.Test.YtdhbdhopnpmboaaGreatDoorZ04
import Derived.Laws.ResultCell
set_option linter.unusedVariables false
set_option linter.unusedSimpArgs false
namespace Go.Av
open Go Go.RowKit
def ares1 (P : Program) (e : Env) (σ : AS) : ResultVar -> Option AV
 | .tmp t => some (e t)
 | .cell a t => aload P σ t (e a)
def ares (P : Program) (e : Env) (σ : AS) : List ResultVar -> Option (List AV)
 | [] => some []
 | r :: rs => match ares1 P e σ r, ares P e σ rs with
  | some x, some xs => some (x :: xs)
  | _, _ => none
def afin : List AV -> AV
 | [r] => r
 | rs => .tup rs
def finW (P : Program) (rs : List ResultVar) (Q : AV -> AS -> Prop) : Exit -> Env -> AS -> Prop := fun x e σ =>
 match x with
 | .normal => ∃ l σ', ares P e σ rs = some l /\ σ'.le σ /\ Q (afin l) σ'
 | .ret => ∃ l σ', ares P e σ rs = some l /\ σ'.le σ /\ Q (afin l) σ'
 | _ => False
def argEnv (args : List AV) : Env := fun j => args.getD j .undef
theorem load_ptr {P : Program} {G : Nat -> AV} {K : Ctx} {σ : AS} {w : World} (hr : Rel G K σ w) {t : TypeId} {p r : AV} (h : aload P σ t p = some r) {v : Value} (hv : VR K p v) :
  ∃ u, (do loadVar t (<- asAddr v) : Sem Value).run P w = .ok u w /\ VR K r u := by
 obtain ⟨u, hu, hru⟩ := aload_sound hr h hv
 refine ⟨u, ?_, hru⟩
 unfold aload at h
 split at h
 ·cases h
 cases p <;> simp only at h <;> first | cases h | skip
 ·rw [VR.ptr_iff] at hv; subst hv
  simpa [Instr.loadAt, Instr.sureAddr, asAddr] using hu
 ·cases hv
  simpa [Instr.loadAt, Instr.sureAddr, asAddr] using hu
theorem ares_sound {P : Program} {G : Nat -> AV} {K : Ctx} {N : Nat} {ds : List Deferred} {e : Env} {σ : AS} {a : Act} {w : World} (hs : St P G K N ds e σ a w) : ∀ (rs : List ResultVar) (l : List AV), ares P e σ rs = some l ->
  ∃ vs, (rs.mapM fun r => (match r with | .tmp t => pure (a.tmps.getD t Go.undef) | .cell b t => do loadVar t (<- asAddr (a.tmps.getD b Go.undef)) : Sem Value)).run P w = .ok vs w /\ VRl K l vs
 | [], l, h => by simp only [ares, Option.some.injEq] at h; subst h; exact ⟨[], by simp, trivial⟩
 | r :: rs, l, h => by
  unfold ares at h
  split at h
  case h_2 => cases h
  rename_i x xs hx hxs
  simp only [Option.some.injEq] at h; subst h
  obtain ⟨vs, h1, h2⟩ := ares_sound hs rs xs hxs
  cases r with
  | tmp t =>
   simp only [ares1, Option.some.injEq] at hx; subst hx
   exact ⟨a.tmps.getD t Go.undef :: vs, by simp only [List.mapM_cons, Sem.run_bind, Sem.run_pure, Result.andThen_ok, h1], hs.er t, h2⟩
  | cell b t =>
   obtain ⟨u, h3, h4⟩ := load_ptr hs.rel (p := e b) hx (hs.er b)
   exact ⟨u :: vs, by simp only [List.mapM_cons, Sem.run_bind (x := do loadVar t (<- asAddr (a.tmps.getD b Go.undef))), h3, Sem.run_bind, Sem.run_pure, Result.andThen_ok, h1], h4, h2⟩
theorem results_sound {P : Program} {G : Nat -> AV} {K : Ctx} {N : Nat} {ds : List Deferred} {e : Env} {σ : AS} {a : Act} {w : World} (hs : St P G K N ds e σ a w) {fn : Func} {l : List AV} (h : ares P e σ fn.results.toList = some l) :
  ∃ v, (results fn a.tmps).run P w = .ok v w /\ VR K (afin l) v := by
 obtain ⟨vs, h1, h2⟩ := ares_sound hs _ l h
 have hm : (fn.results.mapM fun r => (match r with | .tmp t => pure (a.tmps.getD t Go.undef) | .cell b t => do loadVar t (<- asAddr (a.tmps.getD b Go.undef)) : Sem Value)).run P w = .ok vs.toArray w := by
  rw [Array.mapM_eq_mapM_toList]
  simp only [Sem.run_map, h1]
  rfl
 have hl := h2.length
 refine ⟨if h : vs.toArray.size = 1 then vs.toArray[0] else .tuple vs.toArray, ?_, ?_⟩
 ·unfold results
  simp only [Sem.run_bind, Sem.run_pure]
  exact (congrArg (fun r => Result.andThen r fun (a : Array Value) w' => Result.ok (if h : a.size = 1 then a[0] else Value.tuple a) w') hm)
 ·match l, vs, h2, hl with
  | [], [], _, _ => exact .tup [] #[] rfl (fun j hj => by cases hj)
  | [x], [v], hh, _ => exact hh.1
  | x :: y :: l', v :: u :: vs', hh, _ =>
   have e1 : ¬ ((v :: u :: vs').toArray.size = 1) := by simp
   rw [dif_neg e1]
   refine .tup _ _ (by have := hh.length; simp only [List.size_toArray]; omega) (fun j hj => ?_)
   have := hh.get j hj
   simpa [Array.getD_eq_getD_getElem?, List.getD_eq_getElem?_getD] using this
theorem VRl.env {K : Ctx} {l : List AV} {vs : List Value} (h : VRl K l vs) (n : Nat) : ER K (argEnv l) { tmps := vs.toArray ++ Array.replicate n Go.undef, defers := [] } := by
 intro t
 have hl := h.length
 unfold argEnv
 by_cases ht : t < l.length
 ·have h1 := h.get t ht
  have e1 : l.getD t .undef = l[t] := by simp [ht]
  have ht2 : t < vs.length := by omega
  rw [e1]
  have e2 : (vs.toArray ++ Array.replicate n Go.undef).getD t Go.undef = vs.getD t Go.undef := by
   simp only [Array.getD_eq_getD_getElem?, List.getD_eq_getElem?_getD]
   rw [Array.getElem?_append_left (by simpa using ht2)]
   simp
  rw [e2]
  exact h1
 ·have e1 : l.getD t .undef = .undef := by simp [List.getElem?_eq_none (Nat.le_of_not_lt ht)]
  rw [e1]
  exact .undef _
theorem Tri.of_awp {P : Program} {G : Nat -> AV} (hm : P.follows .mixedOrders = true) {f : FuncId} {fn : Func} {c : Code} (hf : P.funcs[f]? = some fn) (hb : fn.body = some c) (hcl : callable P f = true) (hok : cOK fn.ntmps c = true)
  {args : List AV} (hlen : args.length <= fn.ntmps) {σ : AS} {Q : AV -> AS -> Prop} {rs : Array ResultVar} (hrs : fn.results = rs) (h : awp P G (adraw P G) c (finW P rs.toList Q) (argEnv args) σ) : Tri P G f args σ Q := by
 subst hrs
 refine ⟨hcl, fun K w vals hr hv => ?_⟩
 refine calls_of_wp hf hb ?_
 have hl := hv.length
 have hs : St P G K fn.ntmps [] (argEnv args) σ { tmps := vals.toArray ++ Array.replicate (fn.ntmps - vals.toArray.size) Go.undef, defers := [] } w :=
  ⟨hv.env _, hr, by simp; omega, rfl⟩
 refine wp_mono (awp_sound (drawOK hm) fn.ntmps [] c _ _ σ K _ w hok h hs) ?_
 intro x a' w' ⟨e', σ', K', hq, hs', hk⟩
 have key : (∃ l σ'', ares P e' σ' fn.results.toList = some l /\ σ''.le σ' /\ Q (afin l) σ'') -> a'.defers = [] /\ ∃ v, (results fn a'.tmps).run P w' = .ok v w' /\
   ∃ v' r σ'' K', Ending.returned v = .returned v' /\ Q r σ'' /\ VR K' r v' /\ Rel G K' σ'' w' /\ K.le K' := by
  rintro ⟨l, σ'', h1, h2, h3⟩
  obtain ⟨v, h4, h5⟩ := results_sound hs' h1
  exact ⟨hs'.defers, v, h4, v, afin l, σ'', K', rfl, h3, h5, hs'.rel.weaken h2, hk⟩
 unfold finW at hq
 cases x <;> first | exact hq.elim | exact key hq
structure Dum.{u} {α : Sort u} (a : α) : Type where
def bo {α : Type} (x : Option α) (K : α -> Prop) (_ : Dum K) : Prop := ∃ r, x = some r /\ K r
def st (x : AV) (K : AV -> Prop) (_ : Dum K) : Prop := K x
def slW (P : Program) (σ : AS) (t : TypeId) (x : AV) (lo hi : Option AV) (K : AV -> Prop) (_ : Dum σ) (_ : Dum K) : Prop := ∃ r, asliceS P σ t x lo hi = some r /\ K r
def bmW (m : Bool) (P : Program) (σ : AS) (t : TypeId) (n : Nat) (ps : List (Nat × AV)) (K : AV -> AS -> Prop) (_ : Dum σ) (_ : Dum K) : Prop := (∃ r, abuildSlice P t n ps = some r /\ K r σ) \/ (m = true /\ abuildM P σ t n ps K)
def cvW (P : Program) (σ : AS) (s t : TypeId) (x : AV) (K : AV -> AS -> Prop) (_ : Dum σ) (_ : Dum K) : Prop := (∃ r, aconvZ P σ s t x = some r /\ K r σ) \/ aconvO P σ s t x K
def cvT (t : Option TypeId) (P : Program) (σ : AS) (s d : TypeId) (l : List UInt8) (K : AV -> AS -> Prop) (_ : Dum σ) (_ : Dum K) : Prop := match t with
 | none => ∃ r, aconvZ P σ s d (.str l) = some r /\ K r σ
 | some _ => (∃ r, aconvZ P σ s d (.str l) = some r /\ K r σ) \/ aconvO P σ s d (.str l) K
def condW (v : AV) (A B : Prop) (_ : Dum A) (_ : Dum B) : Prop := ∃ t, v = .bool t /\ (t = true -> A) /\ (t = false -> B)
def gW (v : Option Bool) (A B : Prop) (_ : Dum A) (_ : Dum B) : Prop := ∃ b, v = some b /\ (b = true -> A) /\ (b = false -> B)
def pickW (v : AV) (a b : AV) (K : AV -> Prop) (_ : Dum a) (_ : Dum b) (_ : Dum K) : Prop := ∃ t, v = .bool t /\ K (if t = true then a else b)
def newW (σ : AS) (z : List AV) (K : AV -> AS -> Prop) (_ : Dum σ) (_ : Dum K) : Prop := ∀ b, σ.fresh b -> K (.ptr b 0) (σ.setBox b z)
def newT (σ : AS) (E : TypeId) (z : List AV) (K : AV -> AS -> Prop) (_ : Dum σ) (_ : Dum K) : Prop := (∀ b, σ.fresh b -> K (.ptr b 0) (σ.setBox b z)) \/ (∀ b, σ.fresh b -> K (.ptr b 0) ((σ.setBox b z).setTy b (E, z.length)))
def boxW (σ : AS) (x : AV) (K : AV -> AS -> Prop) (_ : Dum σ) (_ : Dum K) : Prop := isv x = true /\ newW σ (flat x) K ⟨⟩ ⟨⟩
def nilW (x : AV) (K : AV -> Prop) (_ : Dum K) : Prop := (match x with | .ptr .. => True | .rp .. => True | .fn .. => True | _ => False) /\ K x
def callW (P : Program) (G : Nat -> AV) (f : AV) (args : List AV) (σ : AS) (K : AV -> AS -> Prop) (_ : Dum σ) (_ : Dum K) : Prop :=
 match f with
 | .fn k caps => Tri P G k (args ++ caps) σ K
 | _ => False
def triW (P : Program) (G : Nat -> AV) (k : FuncId) (args : List AV) (σ : AS) (K : AV -> AS -> Prop) (_ : Dum σ) (_ : Dum K) : Prop := Tri P G k args σ K
def appW (P : Program) (σ : AS) (t tx : TypeId) (s x : AV) (K : AV -> AS -> Prop) (_ : Dum σ) (_ : Dum K) : Prop := aappend P σ t tx s x K \/ aappendX P σ t tx s x K
def makeW (P : Program) (σ : AS) (t : TypeId) (l c : AV) (K : AV -> AS -> Prop) (_ : Dum σ) (_ : Dum K) : Prop := amake P σ t l c K \/ amakeM P σ t l c K
def ustrW (P : Program) (σ : AS) (pt : TypeId) (x n : AV) (K : AV -> AS -> Prop) (_ : Dum σ) (_ : Dum K) : Prop := auStr P σ pt x n K
def loopW (P : Program) (G : Nat -> AV) (c : Code) (Q : Exit -> Env -> AS -> Prop) (e : Env) (σ : AS) (_ : Dum c) (_ : Dum Q) (_ : Dum e) (_ : Dum σ) : Prop := awp P G (adraw P G) (.loop c) Q e σ
def drawW (P : Program) (G : Nat -> AV) (ops : Array Oper) (Q : Env -> AS -> Prop) (e : Env) (σ : AS) (_ : Dum ops) (_ : Dum Q) (_ : Dum e) (_ : Dum σ) : Prop := adraw P G ops Q e σ
def finishW (l : Option (List AV)) (σ : AS) (Q : AV -> AS -> Prop) (_ : Dum σ) (_ : Dum Q) : Prop := ∃ r σ', l = some r /\ σ'.le σ /\ Q (afin r) σ'
def hcallW (P : Program) (G : Nat -> AV) (f : AV) (args : List AV) (σ0 : AS) (K : AV -> Prop) (_ : Dum σ0) (_ : Dum K) : Prop :=
 match f with
 | .fn k caps => ∃ v, PureC P G k (args ++ caps) σ0 v /\ K v
 | _ => False
theorem nr {p : Prop} (h : p) : p := h
section rules
variable {P : Program} {G : Nat -> AV} {Q : Exit -> Env -> AS -> Prop} {e : Env} {σ σ0 : AS} {ops rest : List Oper} {R : Env -> AS -> Prop} {K : AV -> AS -> Prop}
theorem w_skip : awp P G (adraw P G) .skip Q e σ = Q .normal e σ := nr rfl
theorem w_region {id : Nat} {l : List Oper} : awp P G (adraw P G) (.region id l.toArray false) Q e σ = awpOps P G l (Q .normal) l e σ := nr rfl
theorem w_draw {id : Nat} {l : Array Oper} : awp P G (adraw P G) (.region id l true) Q e σ = drawW P G l (Q .normal) e σ ⟨⟩ ⟨⟩ ⟨⟩ ⟨⟩ := nr rfl
theorem w_seq {a b : Code} : awp P G (adraw P G) (.seq a b) Q e σ = awp P G (adraw P G) a (fun x e σ => match x with | .normal => awp P G (adraw P G) b Q e σ | x => Q x e σ) e σ := nr rfl
theorem w_cond {c : Operand} {a b : Code} : awp P G (adraw P G) (.cond c a b) Q e σ = condW (ev G e c) (awp P G (adraw P G) a Q e σ) (awp P G (adraw P G) b Q e σ) ⟨⟩ ⟨⟩ := nr rfl
theorem w_block {id : Nat} {c : Code} : awp P G (adraw P G) (.block id c) Q e σ = awp P G (adraw P G) c (fun x e σ => match x with | .exit i => if i = id then Q .normal e σ else Q (.exit i) e σ | x => Q x e σ) e σ := nr rfl
theorem w_loop {c : Code} : awp P G (adraw P G) (.loop c) Q e σ = loopW P G c Q e σ ⟨⟩ ⟨⟩ ⟨⟩ ⟨⟩ := nr rfl
theorem w_exit {id : Nat} : awp P G (adraw P G) (.exit id) Q e σ = Q (.exit id) e σ := nr rfl
theorem w_ret : awp P G (adraw P G) .ret Q e σ = Q .ret e σ := nr rfl
theorem w_nil : awpOps P G ops R [] e σ = R e σ := nr rfl
theorem w_cons {o : Oper} : awpOps P G ops R (o :: rest) e σ = gW (awanted ops e o.guard) (aop P G o e σ fun r σ' => awpOps P G ops R rest (e.upd o.dst r) σ') (awpOps P G ops R rest (e.upd o.dst (.tup [])) σ) ⟨⟩ ⟨⟩ := nr rfl
theorem h_nil {L : Env -> AS -> Prop} : awpHead P G ops σ0 L [] e σ = L e σ := nr rfl
theorem h_cons {L : Env -> AS -> Prop} {o : Oper} : awpHead P G ops σ0 L (o :: rest) e σ = gW (awanted ops e o.guard) (hop P G o e σ0 σ fun r σ' => awpHead P G ops σ0 L rest (e.upd o.dst r) σ') (awpHead P G ops σ0 L rest (e.upd o.dst (.tup [])) σ) ⟨⟩ ⟨⟩ := nr rfl
variable {d : Option Tmp} {ty : TypeId} {pos : String} {af : Array Edge} {g : Option (Nat × Bool)}
theorem o_move {x : Operand} : aop P G ⟨d, .move x, ty, pos, af, g⟩ e σ K = st (ev G e x) (fun r => K r σ) ⟨⟩ := nr rfl
theorem h_move {x : Operand} : hop P G ⟨d, .move x, ty, pos, af, g⟩ e σ0 σ K = st (ev G e x) (fun r => K r σ) ⟨⟩ := nr rfl
theorem o_assign {x : Operand} : aop P G ⟨d, .assign x, ty, pos, af, g⟩ e σ K = st (ev G e x) (fun r => K r σ) ⟨⟩ := nr rfl
theorem h_assign {x : Operand} : hop P G ⟨d, .assign x, ty, pos, af, g⟩ e σ0 σ K = st (ev G e x) (fun r => K r σ) ⟨⟩ := nr rfl
theorem o_pick {c x y : Operand} : aop P G ⟨d, .pick c x y, ty, pos, af, g⟩ e σ K = pickW (ev G e c) (ev G e x) (ev G e y) (fun r => K r σ) ⟨⟩ ⟨⟩ ⟨⟩ := nr rfl
theorem h_pick {c x y : Operand} : hop P G ⟨d, .pick c x y, ty, pos, af, g⟩ e σ0 σ K = pickW (ev G e c) (ev G e x) (ev G e y) (fun r => K r σ) ⟨⟩ ⟨⟩ ⟨⟩ := nr rfl
theorem o_alloc {E : TypeId} : aop P G ⟨d, .alloc E, ty, pos, af, g⟩ e σ K = bo (zc P E) (fun z => newT σ E z K ⟨⟩ ⟨⟩) ⟨⟩ := nr rfl
theorem h_alloc {E : TypeId} : hop P G ⟨d, .alloc E, ty, pos, af, g⟩ e σ0 σ K = bo (zc P E) (fun z => newW σ z K ⟨⟩ ⟨⟩) ⟨⟩ := nr rfl
theorem o_box {E : TypeId} {x : Operand} : aop P G ⟨d, .box E x, ty, pos, af, g⟩ e σ K = boxW σ (ev G e x) K ⟨⟩ ⟨⟩ := nr rfl
theorem h_box {E : TypeId} {x : Operand} : hop P G ⟨d, .box E x, ty, pos, af, g⟩ e σ0 σ K = boxW σ (ev G e x) K ⟨⟩ ⟨⟩ := nr rfl
theorem o_build {t : TypeId} {ps : Array (Nat × Operand)} : aop P G ⟨d, .build t ps, ty, pos, af, g⟩ e σ K = bo (abuild P t (pairs G e ps.toList)) (fun r => K r σ) ⟨⟩ := nr rfl
theorem h_build {t : TypeId} {ps : Array (Nat × Operand)} : hop P G ⟨d, .build t ps, ty, pos, af, g⟩ e σ0 σ K = bo (abuild P t (pairs G e ps.toList)) (fun r => K r σ) ⟨⟩ := nr rfl
theorem o_buildSlice {t n : Nat} {ps : Array (Nat × Operand)} : aop P G ⟨d, .buildSlice t n ps, ty, pos, af, g⟩ e σ K = bmW true P σ t n (pairs G e ps.toList) K ⟨⟩ ⟨⟩ := by
 unfold bmW; simp only [true_and]; rfl
theorem h_buildSlice {t n : Nat} {ps : Array (Nat × Operand)} : hop P G ⟨d, .buildSlice t n ps, ty, pos, af, g⟩ e σ0 σ K = bmW false P σ t n (pairs G e ps.toList) K ⟨⟩ ⟨⟩ := by
 unfold bmW; simp only [Bool.false_eq_true, false_and, or_false]; rfl
theorem o_load {t : TypeId} {x : Operand} : aop P G ⟨d, .load t x, ty, pos, af, g⟩ e σ K = bo (aload P σ t (ev G e x)) (fun r => K r σ) ⟨⟩ := nr rfl
theorem h_load {t : TypeId} {x : Operand} : hop P G ⟨d, .load t x, ty, pos, af, g⟩ e σ0 σ K = bo (aload P σ0 t (ev G e x)) (fun r => K r σ) ⟨⟩ := nr rfl
theorem o_nilCheck {x : Operand} : aop P G ⟨d, .nilCheck x, ty, pos, af, g⟩ e σ K = nilW (ev G e x) (fun r => K r σ) ⟨⟩ := nr rfl
theorem h_nilCheck {x : Operand} : hop P G ⟨d, .nilCheck x, ty, pos, af, g⟩ e σ0 σ K = nilW (ev G e x) (fun r => K r σ) ⟨⟩ := nr rfl
theorem o_binOp {op : BinOp} {t yt : TypeId} {x y : Operand} : aop P G ⟨d, .binOp op t x y yt, ty, pos, af, g⟩ e σ K = bo (binK P op t y (ev G e x) (ev G e y)) (fun r => K r σ) ⟨⟩ := nr rfl
theorem h_binOp {op : BinOp} {t yt : TypeId} {x y : Operand} : hop P G ⟨d, .binOp op t x y yt, ty, pos, af, g⟩ e σ0 σ K = bo (binK P op t y (ev G e x) (ev G e y)) (fun r => K r σ) ⟨⟩ := nr rfl
theorem o_unOp {op : UnOp} {t : TypeId} {x : Operand} : aop P G ⟨d, .unOp op t x, ty, pos, af, g⟩ e σ K = bo (aun op (ev G e x)) (fun r => K r σ) ⟨⟩ := nr rfl
theorem h_unOp {op : UnOp} {t : TypeId} {x : Operand} : hop P G ⟨d, .unOp op t x, ty, pos, af, g⟩ e σ0 σ K = bo (aun op (ev G e x)) (fun r => K r σ) ⟨⟩ := nr rfl
theorem o_convert {s t : TypeId} {x : Operand} : aop P G ⟨d, .convert s t x, ty, pos, af, g⟩ e σ K = cvW P σ s t (ev G e x) K ⟨⟩ ⟨⟩ := nr rfl
theorem h_convert {s t : TypeId} {x : Operand} : hop P G ⟨d, .convert s t x, ty, pos, af, g⟩ e σ0 σ K = bo (aconvZ P σ0 s t (ev G e x)) (fun r => K r σ) ⟨⟩ := nr rfl
theorem o_makeSlice {t : TypeId} {x y : Operand} : aop P G ⟨d, .makeSlice t x y, ty, pos, af, g⟩ e σ K = makeW P σ t (ev G e x) (ev G e y) K ⟨⟩ ⟨⟩ := nr rfl
theorem o_makeFunc {f : FuncId} {caps : Array Operand} : aop P G ⟨d, .makeFunc (.func f) #[] caps, ty, pos, af, g⟩ e σ K = st (.fn f (caps.toList.map (ev G e))) (fun r => K r σ) ⟨⟩ := nr rfl
theorem h_makeFunc {f : FuncId} {caps : Array Operand} : hop P G ⟨d, .makeFunc (.func f) #[] caps, ty, pos, af, g⟩ e σ0 σ K = st (.fn f (caps.toList.map (ev G e))) (fun r => K r σ) ⟨⟩ := nr rfl
theorem o_slice {t : TypeId} {x : Operand} {lo hi : Option Operand} : aop P G ⟨d, .slice t x lo hi none, ty, pos, af, g⟩ e σ K = slW P σ t (ev G e x) (lo.map (ev G e)) (hi.map (ev G e)) (fun r => K r σ) ⟨⟩ ⟨⟩ := nr rfl
theorem h_slice {t : TypeId} {x : Operand} {lo hi : Option Operand} : hop P G ⟨d, .slice t x lo hi none, ty, pos, af, g⟩ e σ0 σ K = slW P σ0 t (ev G e x) (lo.map (ev G e)) (hi.map (ev G e)) (fun r => K r σ) ⟨⟩ ⟨⟩ := nr rfl
theorem o_fieldAddr {t : TypeId} {x : Operand} {i : Nat} : aop P G ⟨d, .fieldAddr t x i, ty, pos, af, g⟩ e σ K = bo (afield P t (ev G e x) i) (fun r => K r σ) ⟨⟩ := nr rfl
theorem h_fieldAddr {t : TypeId} {x : Operand} {i : Nat} : hop P G ⟨d, .fieldAddr t x i, ty, pos, af, g⟩ e σ0 σ K = bo (afield P t (ev G e x) i) (fun r => K r σ) ⟨⟩ := nr rfl
theorem o_field {t : TypeId} {x : Operand} {i : Nat} : aop P G ⟨d, .field t x i, ty, pos, af, g⟩ e σ K = bo (afieldv P t (ev G e x) i) (fun r => K r σ) ⟨⟩ := nr rfl
theorem h_field {t : TypeId} {x : Operand} {i : Nat} : hop P G ⟨d, .field t x i, ty, pos, af, g⟩ e σ0 σ K = bo (afieldv P t (ev G e x) i) (fun r => K r σ) ⟨⟩ := nr rfl
theorem o_indexAddr {t : TypeId} {x i : Operand} : aop P G ⟨d, .indexAddr t x i, ty, pos, af, g⟩ e σ K = bo (aindexA P t (ev G e x) (ev G e i)) (fun r => K r σ) ⟨⟩ := nr rfl
theorem h_indexAddr {t : TypeId} {x i : Operand} : hop P G ⟨d, .indexAddr t x i, ty, pos, af, g⟩ e σ0 σ K = bo (aindexA P t (ev G e x) (ev G e i)) (fun r => K r σ) ⟨⟩ := nr rfl
theorem o_index {t : TypeId} {x i : Operand} : aop P G ⟨d, .index t x i, ty, pos, af, g⟩ e σ K = bo (aindex P t (ev G e x) (ev G e i)) (fun r => K r σ) ⟨⟩ := nr rfl
theorem h_index {t : TypeId} {x i : Operand} : hop P G ⟨d, .index t x i, ty, pos, af, g⟩ e σ0 σ K = bo (aindex P t (ev G e x) (ev G e i)) (fun r => K r σ) ⟨⟩ := nr rfl
theorem o_extract {x : Operand} {i : Nat} : aop P G ⟨d, .extract x i, ty, pos, af, g⟩ e σ K = bo (aextract (ev G e x) i) (fun r => K r σ) ⟨⟩ := nr rfl
theorem h_extract {x : Operand} {i : Nat} : hop P G ⟨d, .extract x i, ty, pos, af, g⟩ e σ0 σ K = bo (aextract (ev G e x) i) (fun r => K r σ) ⟨⟩ := nr rfl
theorem o_len {args : Array Operand} {ts : Array TypeId} : aop P G ⟨d, .call ⟨.builtin .len, args, ts⟩, ty, pos, af, g⟩ e σ K = bo (ablt P .len ts (args.toList.map (ev G e))) (fun r => K r σ) ⟨⟩ := nr rfl
theorem o_cap {args : Array Operand} {ts : Array TypeId} : aop P G ⟨d, .call ⟨.builtin .cap, args, ts⟩, ty, pos, af, g⟩ e σ K = bo (ablt P .cap ts (args.toList.map (ev G e))) (fun r => K r σ) ⟨⟩ := nr rfl
theorem o_usd {args : Array Operand} {ts : Array TypeId} : aop P G ⟨d, .call ⟨.builtin .unsafeSliceData, args, ts⟩, ty, pos, af, g⟩ e σ K = bo (ablt P .unsafeSliceData ts (args.toList.map (ev G e))) (fun r => K r σ) ⟨⟩ := nr rfl
theorem h_len {args : Array Operand} {ts : Array TypeId} : hop P G ⟨d, .call ⟨.builtin .len, args, ts⟩, ty, pos, af, g⟩ e σ0 σ K = bo (ablt P .len ts (args.toList.map (ev G e))) (fun r => K r σ) ⟨⟩ := nr rfl
theorem h_cap {args : Array Operand} {ts : Array TypeId} : hop P G ⟨d, .call ⟨.builtin .cap, args, ts⟩, ty, pos, af, g⟩ e σ0 σ K = bo (ablt P .cap ts (args.toList.map (ev G e))) (fun r => K r σ) ⟨⟩ := nr rfl
theorem h_usd {args : Array Operand} {ts : Array TypeId} : hop P G ⟨d, .call ⟨.builtin .unsafeSliceData, args, ts⟩, ty, pos, af, g⟩ e σ0 σ K = bo (ablt P .unsafeSliceData ts (args.toList.map (ev G e))) (fun r => K r σ) ⟨⟩ := nr rfl
theorem o_max {args : Array Operand} {ts : Array TypeId} : aop P G ⟨d, .call ⟨.builtin .max, args, ts⟩, ty, pos, af, g⟩ e σ K = bo (ablt P .max ts (args.toList.map (ev G e))) (fun r => K r σ) ⟨⟩ := nr rfl
theorem h_max {args : Array Operand} {ts : Array TypeId} : hop P G ⟨d, .call ⟨.builtin .max, args, ts⟩, ty, pos, af, g⟩ e σ0 σ K = bo (ablt P .max ts (args.toList.map (ev G e))) (fun r => K r σ) ⟨⟩ := nr rfl
theorem o_min {args : Array Operand} {ts : Array TypeId} : aop P G ⟨d, .call ⟨.builtin .min, args, ts⟩, ty, pos, af, g⟩ e σ K = bo (ablt P .min ts (args.toList.map (ev G e))) (fun r => K r σ) ⟨⟩ := nr rfl
theorem h_min {args : Array Operand} {ts : Array TypeId} : hop P G ⟨d, .call ⟨.builtin .min, args, ts⟩, ty, pos, af, g⟩ e σ0 σ K = bo (ablt P .min ts (args.toList.map (ev G e))) (fun r => K r σ) ⟨⟩ := nr rfl
theorem o_store {t : TypeId} {p x : Operand} : aop P G ⟨d, .store t p x, ty, pos, af, g⟩ e σ K = bo (astore P σ t (ev G e p) (ev G e x)) (fun s => K .undef s) ⟨⟩ := nr rfl
theorem o_call {f : Operand} {args : Array Operand} {ts : Array TypeId} : aop P G ⟨d, .call ⟨.value f, args, ts⟩, ty, pos, af, g⟩ e σ K = callW P G (ev G e f) (args.toList.map (ev G e)) σ K ⟨⟩ ⟨⟩ := nr rfl
theorem h_call {f : Operand} {args : Array Operand} {ts : Array TypeId} : hop P G ⟨d, .call ⟨.value f, args, ts⟩, ty, pos, af, g⟩ e σ0 σ K = hcallW P G (ev G e f) (args.toList.map (ev G e)) σ0 (fun r => K r σ) ⟨⟩ ⟨⟩ := nr rfl
theorem o_append {s x : Operand} {t tx : TypeId} : aop P G ⟨d, .call ⟨.builtin .append, #[s, x], #[t, tx]⟩, ty, pos, af, g⟩ e σ K = appW P σ t tx (ev G e s) (ev G e x) K ⟨⟩ ⟨⟩ := nr rfl
def rangeW (P : Program) (σ : AS) (t : TypeId) (x : AV) (K : AV -> AS -> Prop) (_ : Dum σ) (_ : Dum K) : Prop := arange P σ t x K
def nextW (σ : AS) (x : AV) (K : AV -> AS -> Prop) (_ : Dum σ) (_ : Dum K) : Prop := anext σ x K
theorem o_range {t : TypeId} {x : Operand} : aop P G ⟨d, .range t x, ty, pos, af, g⟩ e σ K = rangeW P σ t (ev G e x) K ⟨⟩ ⟨⟩ := nr rfl
theorem o_next {x : Operand} : aop P G ⟨d, .next x true, ty, pos, af, g⟩ e σ K = nextW σ (ev G e x) K ⟨⟩ ⟨⟩ := nr rfl
theorem o_ustr {x n : Operand} {pt it : TypeId} : aop P G ⟨d, .call ⟨.builtin .unsafeString, #[x, n], #[pt, it]⟩, ty, pos, af, g⟩ e σ K = ustrW P σ pt (ev G e x) (ev G e n) K ⟨⟩ ⟨⟩ := nr rfl
theorem bo_some {α : Type} {a : α} {F : α -> Prop} {d : Dum F} : bo (some a) F d = F a := by simp [bo]
theorem bo_none {α : Type} {F : α -> Prop} {d : Dum F} : bo (none : Option α) F d = False := by simp [bo]
theorem bo_ite {α : Type} {c : Prop} [Decidable c] {a : α} {F : α -> Prop} {d : Dum F} : bo (if c then some a else none) F d = (c /\ F a) := by
 unfold bo; by_cases h : c <;> simp [h]
theorem bo_ite' {α : Type} {c : Prop} [Decidable c] {a : α} {F : α -> Prop} {d : Dum F} : bo (if c then none else some a) F d = (¬ c /\ F a) := by
 unfold bo; by_cases h : c <;> simp [h]
theorem st_eq {x : AV} {F : AV -> Prop} {d : Dum F} : st x F d = F x := nr rfl
theorem condW_true {A B : Prop} {d : Dum A} {d' : Dum B} : condW (.bool true) A B d d' = A := by simp [condW]
theorem condW_false {A B : Prop} {d : Dum A} {d' : Dum B} : condW (.bool false) A B d d' = B := by simp [condW]
theorem condW_split {t : Bool} {A B : Prop} {d : Dum A} {d' : Dum B} (h1 : t = true -> A) (h2 : t = false -> B) : condW (.bool t) A B d d' := ⟨t, rfl, h1, h2⟩
theorem condW_dec {p : Prop} [Decidable p] {A B : Prop} {d : Dum A} {d' : Dum B} (h1 : p -> A) (h2 : ¬ p -> B) : condW (.bool (decide p)) A B d d' := ⟨_, rfl, fun h => h1 (of_decide_eq_true h), fun h => h2 (of_decide_eq_false h)⟩
theorem condW_both {p : Prop} [Decidable p] {A B : Prop} {d : Dum A} {d' : Dum B} (h1 : decide p = true -> ¬ ¬ p -> A) (h2 : decide p = false -> ¬ p -> B) : condW (.bool (decide p)) A B d d' := ⟨_, rfl, fun h => h1 h (fun hn => hn (of_decide_eq_true h)), fun h => h2 h (of_decide_eq_false h)⟩
theorem gW_true {A B : Prop} {d : Dum A} {d' : Dum B} : gW (some true) A B d d' = A := by simp [gW]
theorem gW_false {A B : Prop} {d : Dum A} {d' : Dum B} : gW (some false) A B d d' = B := by simp [gW]
theorem gW_not {b : Bool} {A B : Prop} {d : Dum A} {d' : Dum B} : gW (some (!b)) A B d d' = gW (some b) B A d' d := by cases b <;> simp [gW]
theorem condW_not {b : Bool} {A B : Prop} {d : Dum A} {d' : Dum B} : condW (.bool (!b)) A B d d' = condW (.bool b) B A d' d := by cases b <;> simp [condW]
theorem gW_split {t : Bool} {A B : Prop} {d : Dum A} {d' : Dum B} (h1 : t = true -> A) (h2 : t = false -> B) : gW (some t) A B d d' := ⟨t, rfl, h1, h2⟩
theorem gW_dec {p : Prop} [Decidable p] {A B : Prop} {d : Dum A} {d' : Dum B} (h1 : p -> A) (h2 : ¬ p -> B) : gW (some (decide p)) A B d d' := ⟨_, rfl, fun h => h1 (of_decide_eq_true h), fun h => h2 (of_decide_eq_false h)⟩
theorem gW_both {p : Prop} [Decidable p] {A B : Prop} {d : Dum A} {d' : Dum B} (h1 : decide p = true -> ¬ ¬ p -> A) (h2 : decide p = false -> ¬ p -> B) : gW (some (decide p)) A B d d' := ⟨_, rfl, fun h => h1 h (fun hn => hn (of_decide_eq_true h)), fun h => h2 h (of_decide_eq_false h)⟩
theorem pickW_true {a b : AV} {F : AV -> Prop} {d : Dum a} {d' : Dum b} {d2 : Dum F} : pickW (.bool true) a b F d d' d2 = st a F ⟨⟩ := by simp [pickW, st]
theorem pickW_false {a b : AV} {F : AV -> Prop} {d : Dum a} {d' : Dum b} {d2 : Dum F} : pickW (.bool false) a b F d d' d2 = st b F ⟨⟩ := by simp [pickW, st]
theorem pickW_split {t : Bool} {a b : AV} {F : AV -> Prop} {d : Dum a} {d' : Dum b} {d2 : Dum F} (h1 : t = true -> F a) (h2 : t = false -> F b) : pickW (.bool t) a b F d d' d2 := by
 refine ⟨t, rfl, ?_⟩; cases t
 ·exact h2 rfl
 ·exact h1 rfl
theorem newT_plain {E : TypeId} {z : List AV} {d : Dum σ} {d' : Dum K} (h : ∀ b, σ.fresh b -> K (.ptr b 0) (σ.setBox b z)) : newT σ E z K d d' := .inl h
theorem newT_ty {E : TypeId} {z : List AV} {d : Dum σ} {d' : Dum K} (h : ∀ b, σ.fresh b -> K (.ptr b 0) ((σ.setBox b z).setTy b (E, z.length))) : newT σ E z K d d' := .inr h
theorem newW_intro {z : List AV} {d : Dum σ} {d' : Dum K} (h : ∀ b, σ.fresh b -> K (.ptr b 0) (σ.setBox b z)) : newW σ z K d d' := h
theorem tyset_set {b : Nat} {x y : TyE × Nat} : (σ.setTy b x).setTy b y = σ.setTy b y := by
 unfold AS.setTy
 simp only [AS.mk.injEq, true_and]
 funext i
 split <;> rfl
theorem boxW_eq {x : AV} {d : Dum σ} {d' : Dum K} : boxW σ x K d d' = (isv x = true /\ newW σ (flat x) K ⟨⟩ ⟨⟩) := nr rfl
theorem nilW_ptr {b o : Nat} {F : AV -> Prop} {d : Dum F} : nilW (.ptr b o) F d = F (.ptr b o) := by simp [nilW]
theorem nilW_rp {l : List AV} {F : AV -> Prop} {d : Dum F} : nilW (.rp l) F d = F (.rp l) := by simp [nilW]
theorem nilW_fn {f : FuncId} {l : List AV} {F : AV -> Prop} {d : Dum F} : nilW (.fn f l) F d = F (.fn f l) := by simp [nilW]
theorem callW_fn {k : FuncId} {caps l : List AV} {d : Dum σ} {d' : Dum K} : callW P G (.fn k caps) l σ K d d' = triW P G k (l ++ caps) σ K ⟨⟩ ⟨⟩ := nr rfl
theorem callW_nocaps {k : FuncId} {l : List AV} {d : Dum σ} {d' : Dum K} : callW P G (.fn k []) l σ K d d' = triW P G k l σ K ⟨⟩ ⟨⟩ := by simp [callW, triW]
theorem hcallW_nocaps {k : FuncId} {l : List AV} {F : AV -> Prop} {d : Dum σ0} {d' : Dum F} {v : AV} (h : PureC P G k l σ0 v) (hk : F v) : hcallW P G (.fn k []) l σ0 F d d' := ⟨v, by simpa using h, hk⟩
theorem ev_tmp {t : Tmp} : ev G e (.tmp t) = e t := nr rfl
theorem ev_const {v : Value} : ev G e (.const v) = ofConst v := nr rfl
theorem ev_global {g : Nat} : ev G e (.global g) = G g := nr rfl
theorem ev_func {f : FuncId} : ev G e (.func f) = .fn f [] := nr rfl
theorem upd_some {t : Tmp} {r : AV} {j : Nat} : (e.upd (some t) r) j = if j = t then r else e j := nr rfl
theorem upd_none {r : AV} : (e.upd none r) = e := nr rfl
theorem mrg_at {W : List Nat} {v : Env} {j : Nat} : mrg W v e j = if W.contains j then v j else e j := nr rfl
theorem argEnv_at {l : List AV} {j : Nat} : argEnv l j = l.getD j .undef := nr rfl
theorem fin_normal {rs : List ResultVar} : finW P rs K .normal e σ = finishW (ares P e σ rs) σ K ⟨⟩ ⟨⟩ := nr rfl
theorem fin_ret {rs : List ResultVar} : finW P rs K .ret e σ = finishW (ares P e σ rs) σ K ⟨⟩ ⟨⟩ := nr rfl
theorem fin_exit {rs : List ResultVar} {i : Nat} : finW P rs K (.exit i) e σ = False := nr rfl
theorem finishW_some {l : List AV} {d : Dum σ} {d' : Dum K} (σ' : AS) (h1 : σ'.le σ) (h2 : K (afin l) σ') : finishW (some l) σ K d d' := ⟨l, σ', rfl, h1, h2⟩
theorem finish_pure {r v : AV} {σ' : AS} {d : Dum σ} {d' : Dum fun x s => x = v /\ s = σ'} (h2 : r = v) (h1 : σ'.le σ) : finishW (some [r]) σ (fun x s => x = v /\ s = σ') d d' := ⟨[r], σ', rfl, h1, h2, rfl⟩
theorem finish_two {a b v : AV} {l : List AV} {σ' : AS} {d : Dum σ} {d' : Dum fun x s => x = v /\ s = σ'} (h2 : AV.tup (a :: b :: l) = v) (h1 : σ'.le σ) : finishW (some (a :: b :: l)) σ (fun x s => x = v /\ s = σ') d d' := ⟨_, σ', rfl, h1, h2, rfl⟩
theorem draw_intro {l : List Oper} {d : Dum l.toArray} {d' : Dum R} {d2 : Dum e} {d3 : Dum σ} (n : Nat) (hn : drawB l.toArray n = true) {hd tl : List Oper} (h1 : l.take n = hd) (h2 : l.drop n = tl) (h : awpHead P G l σ (fun e' σ' => awpOps P G l R tl e' σ') hd e σ) : drawW P G l.toArray R e σ d d' d2 d3 := .inl ⟨[], n, σ, [], rfl, hn, AS.le.refl σ, fun c hc => (by cases hc), awpHead_S _ _ _ _ (by subst h1 h2; exact h)⟩
theorem c_bool {b : Bool} : ofConst (.bool b) = .bool b := nr rfl
theorem c_int {k : IntKind} {n : Int} : ofConst (.int k n) = .int k n := nr rfl
theorem c_str {l : List UInt8} : ofConst (.string ⟨⟨l⟩⟩) = .str l := nr rfl
theorem c_nil : ofConst (.slice none 0 0) = .nil := nr rfl
theorem c_nilptr : ofConst (.pointer none) = .nilptr := nr rfl
theorem c_nilfn : ofConst .nilFunc = .nilfn := nr rfl
theorem c_nilif : ofConst .nilIface = .raw .nilIface := nr rfl
theorem box_set {b i : Nat} {cs : List AV} : (σ.setBox b cs).box i = if i = b then some cs else σ.box i := nr rfl
theorem box_tip {b i : Nat} {x : Nat × Nat} : (σ.setTip b x).box i = σ.box i := nr rfl
theorem box_del {b i : Nat} : (σ.delTip b).box i = σ.box i := nr rfl
theorem tip_box {b i : Nat} {cs : List AV} : (σ.setBox b cs).tip i = σ.tip i := nr rfl
theorem tip_set {b i : Nat} {x : Nat × Nat} : (σ.setTip b x).tip i = if i = b then some x else σ.tip i := nr rfl
theorem tip_del {b i : Nat} : (σ.delTip b).tip i = if i = b then none else σ.tip i := nr rfl
theorem ty_box {b i : Nat} {cs : List AV} : (σ.setBox b cs).ty i = σ.ty i := nr rfl
theorem ty_tip {b i : Nat} {x : Nat × Nat} : (σ.setTip b x).ty i = σ.ty i := nr rfl
theorem ty_del {b i : Nat} : (σ.delTip b).ty i = σ.ty i := nr rfl
theorem ty_set {b i : Nat} {x : TyE × Nat} : (σ.setTy b x).ty i = if i = b then some x else σ.ty i := nr rfl
theorem box_ty {b i : Nat} {x : TyE × Nat} : (σ.setTy b x).box i = σ.box i := nr rfl
theorem tip_ty {b i : Nat} {x : TyE × Nat} : (σ.setTy b x).tip i = σ.tip i := nr rfl
theorem box_delB {b i : Nat} : (σ.delBox b).box i = if i = b then none else σ.box i := nr rfl
theorem tip_delB {b i : Nat} : (σ.delBox b).tip i = σ.tip i := nr rfl
theorem ty_delB {b i : Nat} : (σ.delBox b).ty i = σ.ty i := nr rfl
theorem set_set {b : Nat} {cs ds : List AV} : (σ.setBox b cs).setBox b ds = σ.setBox b ds := by
 unfold AS.setBox; congr 1; funext i; show (if i = b then some ds else if i = b then some cs else σ.box i) = _; split <;> rfl
theorem fresh_box {b c : Nat} {cs : List AV} : (σ.setBox c cs).fresh b = (σ.fresh b /\ ¬ b = c /\ ¬ c = b) := by
 unfold AS.fresh
 simp only [box_set, tip_box, ty_box, eq_iff_iff]
 by_cases h : b = c
 ·simp [h]
 ·simp [h, Ne.symm h]
theorem le_set {σ' : AS} {b : Nat} {cs : List AV} (hb : σ'.fresh b) (h : σ'.le σ) : σ'.le (σ.setBox b cs) := h.setBox hb.1 cs
theorem fresh_ty {b c : Nat} {x : TyE × Nat} : (σ.setTy c x).fresh b = (σ.fresh b /\ ¬ b = c /\ ¬ c = b) := by
 unfold AS.fresh
 simp only [box_ty, tip_ty, ty_set, eq_iff_iff]
 by_cases h : b = c
 ·subst h; simp
 ·simp [h, Ne.symm h]
theorem le_ty {σ' : AS} {b : Nat} {x : TyE × Nat} (hb : σ'.fresh b) (h : σ'.le σ) : σ'.le (σ.setTy b x) := h.setTy hb.2.2 x
theorem fresh_tip {b c : Nat} {x : Nat × Nat} : (σ.setTip c x).fresh b = (σ.fresh b /\ ¬ b = c /\ ¬ c = b) := by
 unfold AS.fresh
 simp only [box_tip, tip_set, ty_tip, eq_iff_iff]
 by_cases h : b = c
 ·subst h; simp
 ·simp [h, Ne.symm h]
theorem loop_intro {c : Code} {d : Dum c} {d' : Dum Q} {d2 : Dum e} {d3 : Dum σ} (I : Nat -> Env -> AS -> Prop) (n : Nat) (h0 : I n e σ) (h1 : ∀ n v σ', I n (mrg (cWrites c) v e) σ' ->
   awp P G (adraw P G) c (fun x e' σ' => match x with | .normal => ∃ m, m < n /\ I m e' σ' | x => Q x e' σ') (mrg (cWrites c) v e) σ') : loopW P G c Q e σ d d' d2 d3 := ⟨I, ⟨n, h0⟩, h1⟩
theorem flat_agg {l : List AV} : flat (.agg l) = l := nr rfl
theorem flat_bool {b : Bool} : flat (.bool b) = [.bool b] := nr rfl
theorem flat_int {k : IntKind} {n : Int} : flat (.int k n) = [.int k n] := nr rfl
theorem flat_str {l : List UInt8} : flat (.str l) = [.str l] := nr rfl
theorem flat_nil : flat .nil = [.nil] := nr rfl
theorem flat_sl {g : Gh} {xs sp : List AV} : flat (.sl g xs sp) = [.sl g xs sp] := nr rfl
theorem flat_ptr {b o : Nat} : flat (.ptr b o) = [.ptr b o] := nr rfl
theorem flat_rp {l : List AV} : flat (.rp l) = [.rp l] := nr rfl
theorem flat_fn {f : FuncId} {l : List AV} : flat (.fn f l) = [.fn f l] := nr rfl
theorem flat_nilptr : flat .nilptr = [.nilptr] := nr rfl
theorem flat_nilfn : flat .nilfn = [.nilfn] := nr rfl
theorem isv_agg {l : List AV} : isv (.agg l) = true := nr rfl
theorem isv_bool {b : Bool} : isv (.bool b) = true := nr rfl
theorem isv_int {k : IntKind} {n : Int} : isv (.int k n) = true := nr rfl
theorem isv_str {l : List UInt8} : isv (.str l) = true := nr rfl
theorem isv_nil : isv .nil = true := nr rfl
theorem isv_bs {b n s : Nat} {E : TypeId} : isv (.bs b n s E) = true := nr rfl
theorem flat_bs {b n s : Nat} {E : TypeId} : flat (.bs b n s E) = [.bs b n s E] := nr rfl
theorem isv_raws {a : Addr} {n c : Nat} : isv (.raw (.slice (some a) n c)) = true := nr rfl
theorem flat_raw {v : Value} : flat (.raw v) = [.raw v] := nr rfl
theorem abin_raw_nil {op : BinOp} {t : TypeId} {a : Addr} {n c : Nat} : abin P op t (.raw (.slice (some a) n c)) .nil = if (el P t).isSome = true then aeq op false else none := nr rfl
theorem abin_nil_bs {op : BinOp} {t E : TypeId} {b n s : Nat} : abin P op t .nil (.bs b n s E) = if (el P t).isSome = true then aeq op false else none := nr rfl
theorem abin_bs_nil {op : BinOp} {t E : TypeId} {b n s : Nat} : abin P op t (.bs b n s E) .nil = if (el P t).isSome = true then aeq op false else none := nr rfl
def ibk (x : Option (Bool × Nat)) (b m : Nat) (i : Int) : Option AV := match x with
 | some (_, n) => if 0 <= i /\ i < m then some (.ptr b (i.toNat * n)) else none
 | none => none
theorem aindexA_bs {t E : TypeId} {b m s : Nat} {k : IntKind} {i : Int} : aindexA P t (.bs b m s E) (.int k i) = ibk ((el P t).bind (tk P)) b m i := by
 unfold aindexA ibk
 cases el P t with
 | none => rfl
 | some e => simp only [Option.bind_some]; cases tk P e <;> rfl
theorem ibk_some {ag : Bool} {n b m : Nat} {i : Int} : ibk (some (ag, n)) b m i = if 0 <= i /\ i < m then some (.ptr b (i.toNat * n)) else none := nr rfl
def nbk (x : Option (Bool × Nat)) (l h : Option Nat) : Option AV := match x, l, h with
 | some _, some l, some h => if l <= h /\ h <= 0 then some .nil else none
 | _, _, _ => none
def sbk (x : Option (Bool × Nat)) (l h : Option Nat) (b n s : Nat) (E : TypeId) : Option AV := match x, l, h with
 | some _, some l, some h => if l = 0 /\ h <= n then some (.bs b h s E) else none
 | _, _, _ => none
theorem aslice_bs {t E : TypeId} {b n s : Nat} {lo hi : Option AV} : aslice P t (.bs b n s E) lo hi = sbk ((el P t).bind (tk P)) (abnd lo 0) (abnd hi n) b n s E := by
 unfold aslice aslice0 sbk
 cases el P t with
 | none => rfl
 | some e =>
  simp only [Option.bind_some]
  cases abnd lo 0 with
  | none => cases tk P e <;> rfl
  | some l =>
   cases abnd hi n with
   | none => cases tk P e <;> rfl
   | some h =>
    cases htk : tk P e with
    | none => simp [htk]
    | some x =>
     by_cases hc : l = 0 /\ h <= n
     ·simp [hc, slim, htk]
     ·have : ¬ (l = 0 /\ h <= n /\ True) := fun h => hc ⟨h.1, h.2.1⟩
      simp only [if_neg hc]
      simp [slim, htk]
      omega
class NotBs (x : AV) : Prop where
 no : ∀ b n s E, x ≠ .bs b n s E
instance {g : Gh} {xs sp : List AV} : NotBs (.sl g xs sp) := ⟨fun _ _ _ _ h => by cases h⟩
instance {s : List UInt8} : NotBs (.str s) := ⟨fun _ _ _ _ h => by cases h⟩
instance : NotBs .nil := ⟨fun _ _ _ _ h => by cases h⟩
instance {cs : List AV} : NotBs (.rp cs) := ⟨fun _ _ _ _ h => by cases h⟩
theorem slW_plain {σ : AS} {t : TypeId} {x : AV} [h : NotBs x] {lo hi : Option AV} {F : AV -> Prop} {d : Dum σ} {d' : Dum F} : slW P σ t x lo hi F d d' = bo (aslice P t x lo hi) F ⟨⟩ := by
 unfold slW bo asliceS asliceB
 apply propext
 constructor
 ·rintro ⟨r, h1, h2⟩
  split at h1
  ·rename_i y hy; cases h1; exact ⟨_, hy, h2⟩
  ·split at h1
   ·exact absurd rfl (h.no _ _ _ _)
   ·cases h1
 ·rintro ⟨r, h1, h2⟩
  refine ⟨r, ?_, h2⟩
  rw [h1]
theorem slW_bo {σ : AS} {t : TypeId} {x : AV} {lo hi : Option AV} {F : AV -> Prop} {d : Dum σ} {d' : Dum F} (h : bo (aslice P t x lo hi) F ⟨⟩) : slW P σ t x lo hi F d d' := by
 obtain ⟨r, h1, h2⟩ := h
 refine ⟨r, ?_, h2⟩
 unfold asliceS
 rw [h1]
def sbx (l h : Nat) (cs : Option (List AV)) (b s : Nat) (E : TypeId) : Option AV := match cs with
 | some cs => if l = 0 /\ 0 < s /\ h * s <= cs.length then some (.bs b h s E) else none
 | none => none
def sbS (x : Option (Bool × Nat)) (l h : Option Nat) (cs : Option (List AV)) (b n s : Nat) (E : TypeId) : Option AV := match x, l, h with
 | some _, some l, some h => if l = 0 /\ h <= n then some (.bs b h s E) else sbx l h cs b s E
 | _, _, _ => none
theorem sbx_some {l h : Nat} {cs : List AV} {b s : Nat} {E : TypeId} : sbx l h (some cs) b s E = if l = 0 /\ 0 < s /\ h * s <= cs.length then some (.bs b h s E) else none := nr rfl
theorem sbS_some {x : Bool × Nat} {l h : Nat} {cs : Option (List AV)} {b n s : Nat} {E : TypeId} : sbS (some x) (some l) (some h) cs b n s E = if l = 0 /\ h <= n then some (.bs b h s E) else sbx l h cs b s E := nr rfl
theorem asliceS_bs {σ : AS} {t E : TypeId} {b n s : Nat} {lo hi : Option AV} : asliceS P σ t (.bs b n s E) lo hi = sbS ((el P t).bind (tk P)) (abnd lo 0) (abnd hi n) (σ.box b) b n s E := by
 unfold asliceS
 rw [aslice_bs]
 unfold sbk sbS asliceB sbx
 cases he : el P t with
 | none => simp
 | some e =>
  simp only [Option.bind_some]
  cases htk : tk P e with
  | none => cases abnd lo 0 <;> cases abnd hi n <;> cases σ.box b <;> simp [htk]
  | some y =>
   cases abnd lo 0 with
   | none => simp
   | some l =>
    cases abnd hi n with
    | none => simp
    | some h =>
     simp only
     by_cases hc : l = 0 /\ h <= n
     ·rw [if_pos hc, if_pos hc]
     ·rw [if_neg hc, if_neg hc]
      cases hb : σ.box b with
      | none => rfl
      | some cs => simp [htk]
theorem slW_bs {σ : AS} {t E : TypeId} {b n s : Nat} {lo hi : Option AV} {F : AV -> Prop} {d : Dum σ} {d' : Dum F} : slW P σ t (.bs b n s E) lo hi F d d' = bo (sbS ((el P t).bind (tk P)) (abnd lo 0) (abnd hi n) (σ.box b) b n s E) F ⟨⟩ := by
 unfold slW bo
 rw [asliceS_bs]
theorem aslice_nil {t : TypeId} {lo hi : Option AV} : aslice P t .nil lo hi = nbk ((el P t).bind (tk P)) (abnd lo 0) (abnd hi 0) := by
 unfold aslice aslice0 nbk
 cases el P t with
 | none => rfl
 | some e =>
  simp only [Option.bind_some]
  cases abnd lo 0 with
  | none => cases tk P e <;> rfl
  | some l =>
   cases abnd hi 0 with
   | none => cases tk P e <;> rfl
   | some h =>
    cases htk : tk P e with
    | none => simp [htk]
    | some x =>
     by_cases hc : l <= h /\ h <= 0
     ·simp [hc, slim, htk]
     ·have : ¬ (l <= h /\ h <= 0 /\ True) := fun h => hc ⟨h.1, h.2.1⟩
      simp only [if_neg hc]
      simp [slim, htk]
      omega
def rsk (x : Option (Nat × Nat)) (cs : List AV) : Option AV := match x with
 | some (m, 1) => if m = cs.length /\ m <= maxLen then some (.sl .none cs []) else none
 | _ => none
theorem aslice_rp {t : TypeId} {cs : List AV} : aslice P t (.rp cs) none none = rsk (arrT P t) cs := by
 unfold aslice aslice0 rsk
 simp only
 cases h : arrT P t with
 | none => rfl
 | some x =>
  obtain ⟨m, n⟩ := x
  match n with
  | 0 => rfl
  | 1 => simp only; split <;> rfl
  | n + 2 => rfl
theorem nbk_some {x : Bool × Nat} {l h : Nat} : nbk (some x) (some l) (some h) = if l <= h /\ h <= 0 then some .nil else none := nr rfl
theorem sbk_some {x : Bool × Nat} {l h b n s : Nat} {E : TypeId} : sbk (some x) (some l) (some h) b n s E = if l = 0 /\ h <= n then some (.bs b h s E) else none := nr rfl
theorem ustrW_nil {pt : TypeId} {d : Dum σ} {d' : Dum K} : ustrW P σ pt .nilptr (.int .i64 0) K d d' = K (.str []) σ := by simp [ustrW, auStr]
theorem ustrW_row {pt E : TypeId} {b : Nat} {l : List UInt8} {n : Int} {d : Dum σ} {d' : Dum K} (h1 : sk P pt = .ptr E) (h2 : P.cellsOf E = 1) (h3 : σ.box b = some (l.map fun c => .int .u8 c.toNat)) (h4 : l ≠ []) (h5 : n = l.length) (h6 : K (.str l) (σ.delBox b)) : ustrW P σ pt (.bp b 1 E) (.int .i64 n) K d d' := ⟨rfl, rfl, h1, h2, l, h3, h4, h5, h6⟩
theorem isv_sl {g : Gh} {xs sp : List AV} : isv (.sl g xs sp) = true := nr rfl
theorem isv_ptr {b o : Nat} : isv (.ptr b o) = true := nr rfl
theorem isv_rp {l : List AV} : isv (.rp l) = true := nr rfl
theorem isv_fn {f : FuncId} {l : List AV} : isv (.fn f l) = true := nr rfl
theorem isv_nilptr : isv .nilptr = true := nr rfl
theorem isv_nilfn : isv .nilfn = true := nr rfl
def ldk (k : Option (Bool × Nat)) (c : Option (List AV)) (o : Nat) : Option AV := match k, c with | some (ag, n), some cs => rd ag n (cs.drop o) | _, _ => none
theorem aload_ptr {t : TypeId} {b o : Nat} : aload P σ t (.ptr b o) = ldk (tk P t) (σ.box b) o := by
 unfold aload ldk; cases tk P t with
 | none => rfl
 | some x => obtain ⟨ag, n⟩ := x; simp only; cases σ.box b <;> rfl
theorem ldk_some {ag : Bool} {n o : Nat} {cs : List AV} : ldk (some (ag, n)) (some cs) o = rd ag n (cs.drop o) := nr rfl
def ldr (k : Option (Bool × Nat)) (cs : List AV) : Option AV := match k with | some (ag, n) => rd ag n cs | _ => none
theorem aload_rp {t : TypeId} {cs : List AV} : aload P σ t (.rp cs) = ldr (tk P t) cs := by
 unfold aload ldr; cases tk P t with
 | none => rfl
 | some x => rfl
theorem ldr_some {ag : Bool} {n : Nat} {cs : List AV} : ldr (some (ag, n)) cs = rd ag n cs := nr rfl
theorem rd_true {n : Nat} {cs : List AV} : rd true n cs = if n <= cs.length then some (.agg (cs.take n)) else none := nr rfl
theorem rd_false {n : Nat} {cs : List AV} : rd false n cs = cs.head? := nr rfl
def fdk (k : Option (Nat × Bool × Nat)) (p : AV) : Option AV := match k with
 | some (off, _, n) => if n = 0 then none else match p with | .ptr b o => some (.ptr b (o + off)) | .rp cs => some (.rp (cs.drop off)) | _ => none
 | none => none
theorem afield_eq {t : TypeId} {p : AV} {i : Nat} : afield P t p i = fdk (fld P t i) p := by
 unfold afield fdk; cases fld P t i with
 | none => rfl
 | some x => rfl
theorem fdk_ptr {off n b o : Nat} {ag : Bool} : fdk (some (off, ag, n + 1)) (.ptr b o) = some (.ptr b (o + off)) := nr rfl
theorem fdk_rp {off n : Nat} {cs : List AV} {ag : Bool} : fdk (some (off, ag, n + 1)) (.rp cs) = some (.rp (cs.drop off)) := nr rfl
def fvk (k : Option (Nat × Bool × Nat)) (cs : List AV) : Option AV := match k with | some (off, ag, n) => rd ag n (cs.drop off) | none => none
theorem afieldv_agg {t : TypeId} {cs : List AV} {i : Nat} : afieldv P t (.agg cs) i = fvk (fld P t i) cs := by
 unfold afieldv fvk; cases fld P t i with
 | none => rfl
 | some x => rfl
theorem fvk_some {off n : Nat} {ag : Bool} {cs : List AV} : fvk (some (off, ag, n)) cs = rd ag n (cs.drop off) := nr rfl
def ixk (k : Option (Bool × Nat)) (a : Option AV) : Option AV := match k, a with
 | some (_, n), some a => if (flat a).length = n then some (.rp (flat a)) else none
 | _, _ => none
theorem aindexA_sl {t : TypeId} {g : Gh} {xs sp : List AV} {k : IntKind} {i : Int} : aindexA P t (.sl g xs sp) (.int k i) = if 0 <= i then ixk ((el P t).bind (tk P)) (xs[i.toNat]?) else none := by
 unfold aindexA ixk
 simp only
 cases el P t with
 | none => simp
 | some e =>
  simp only [Option.bind_some]
  cases tk P e with
  | none => simp
  | some x =>
   obtain ⟨ag, n⟩ := x
   simp only
   split
   ·cases xs[i.toNat]? <;> rfl
   ·rfl
def iak (a : Option (Nat × Nat)) (i : Int) (f : Nat -> AV) : Option AV := match a with
 | some (m, n) => if 0 <= i /\ i < m then some (f (i.toNat * n)) else none
 | none => none
theorem aindexA_rp {t : TypeId} {cs : List AV} {k : IntKind} {i : Int} : aindexA P t (.rp cs) (.int k i) = iak (arrT P t) i fun j => .rp (cs.drop j) := by
 unfold aindexA iak; simp only; cases arrT P t with
 | none => rfl
 | some x => rfl
theorem aindexA_ptr {t : TypeId} {b o : Nat} {k : IntKind} {i : Int} : aindexA P t (.ptr b o) (.int k i) = iak (arrT P t) i fun j => .ptr b (o + j) := by
 unfold aindexA iak; simp only; cases arrT P t with
 | none => rfl
 | some x => rfl
theorem iak_some {m n : Nat} {i : Int} {f : Nat -> AV} : iak (some (m, n)) i f = if 0 <= i /\ i < m then some (f (i.toNat * n)) else none := nr rfl
theorem ixk_some {ag : Bool} {n : Nat} {a : AV} : ixk (some (ag, n)) (some a) = if (flat a).length = n then some (.rp (flat a)) else none := nr rfl
theorem aindex_str {t : TypeId} {s : List UInt8} {k : IntKind} {i : Int} : aindex P t (.str s) (.int k i) = if sk P t = .str then (if 0 <= i then (s[i.toNat]?).map (fun c => AV.int .u8 c.toNat) else none) else none := by
 unfold aindex
 simp only
 cases s[i.toNat]? <;> rfl
theorem aextract_tup {l : List AV} {i : Nat} : aextract (.tup l) i = l[i]? := nr rfl
theorem binK_tmp {op : BinOp} {t : TypeId} {i : Tmp} {x y : AV} : binK P op t (.tmp i) x y = abin P op t x y := nr rfl
theorem binK_glob {op : BinOp} {t : TypeId} {i : Nat} {x y : AV} : binK P op t (.global i) x y = abin P op t x y := nr rfl
theorem binK_func {op : BinOp} {t : TypeId} {i : FuncId} {x y : AV} : binK P op t (.func i) x y = abin P op t x y := nr rfl
theorem binK_int {op : BinOp} {t : TypeId} {k : IntKind} {n : Int} {x y : AV} : binK P op t (.const (.int k n)) x y = abin P op t x y := nr rfl
theorem binK_str {op : BinOp} {t : TypeId} {s : ByteArray} {x y : AV} : binK P op t (.const (.string s)) x y = abin P op t x y := nr rfl
theorem binK_bool {op : BinOp} {t : TypeId} {s : Bool} {x y : AV} : binK P op t (.const (.bool s)) x y = abin P op t x y := nr rfl
theorem binK_sl {op : BinOp} {t : TypeId} {a : Option Addr} {n c : Nat} {x y : AV} : binK P op t (.const (.slice a n c)) x y = abin P op t x y := nr rfl
theorem binK_ptr {op : BinOp} {t : TypeId} {a : Option Addr} {x y : AV} : binK P op t (.const (.pointer a)) x y = abin P op t x y := nr rfl
theorem binK_nilf {op : BinOp} {t : TypeId} {x y : AV} : binK P op t (.const .nilFunc) x y = abin P op t x y := nr rfl
theorem binK_agg {op : BinOp} {t : TypeId} {cs : Array Value} {x y : AV} : binK P op t (.const (.agg cs)) x y = abin P op t x y := nr rfl
theorem binK_nil {op : BinOp} {t : TypeId} {x y : AV} : binK P op t (.const .nilIface) x y = abinN P op t x := nr rfl
theorem abinN_nil {op : BinOp} {t : TypeId} : abinN P op t (.raw .nilIface) = if ifc P t then aeq op true else none := nr rfl
theorem abinN_if {op : BinOp} {t s : TypeId} {v : Value} : abinN P op t (.raw (.iface s v)) = if ifc P t then aeq op false else none := nr rfl
def axk (l : Option (Nat × Bool × Nat)) (cs : List AV) (i : Int) : Option AV := match l with
 | some (m, ag, n) => if 0 <= i /\ i < m then rd ag n (cs.drop (i.toNat * n)) else none
 | none => none
theorem aindex_agg {t : TypeId} {cs : List AV} {k : IntKind} {i : Int} : aindex P t (.agg cs) (.int k i) = axk (arrX P t) cs i := nr rfl
theorem axk_some {m n : Nat} {ag : Bool} {cs : List AV} {i : Int} : axk (some (m, ag, n)) cs i = if 0 <= i /\ i < m then rd ag n (cs.drop (i.toNat * n)) else none := nr rfl
theorem abin_int {op : BinOp} {t : TypeId} {k k' : IntKind} {a b : Int} : abin P op t (.int k a) (.int k' b) = abinI op k a k' b := nr rfl
theorem abin_str {op : BinOp} {t : TypeId} {a b : List UInt8} : abin P op t (.str a) (.str b) = abinS op a b := nr rfl
theorem abin_bool {op : BinOp} {t : TypeId} {a b : Bool} : abin P op t (.bool a) (.bool b) = if sk P t = .bool then aeq op (a == b) else none := nr rfl
theorem abin_nil_nil {op : BinOp} {t : TypeId} : abin P op t .nil .nil = if (el P t).isSome = true then aeq op true else none := nr rfl
theorem abin_nil_sl {op : BinOp} {t : TypeId} {g : Gh} {xs sp : List AV} : abin P op t .nil (.sl g xs sp) = if (el P t).isSome = true /\ isNil g xs = false then aeq op false else none := nr rfl
theorem abin_sl_nil {op : BinOp} {t : TypeId} {g : Gh} {xs sp : List AV} : abin P op t (.sl g xs sp) .nil = if (el P t).isSome = true /\ isNil g xs = false then aeq op false else none := nr rfl
theorem abin_fn_nil {op : BinOp} {t : TypeId} {f : FuncId} {l : List AV} : abin P op t (.fn f l) .nilfn = if sk P t = .fn then aeq op false else none := nr rfl
theorem isNil_full {xs : List AV} : isNil .full xs = false := nr rfl
theorem isNil_own {b : Nat} {xs : List AV} : isNil (.own b) xs = false := nr rfl
theorem isNil_cons {g : Gh} {x : AV} {xs : List AV} : isNil g (x :: xs) = false := by cases g <;> rfl
theorem i_add {k : IntKind} {a b : Int} : abinI .add k a k b = some (.int k (k.wrap (a + b))) := by simp [abinI]
theorem i_sub {k : IntKind} {a b : Int} : abinI .sub k a k b = some (.int k (k.wrap (a - b))) := by simp [abinI]
theorem i_mul {k : IntKind} {a b : Int} : abinI .mul k a k b = some (.int k (k.wrap (a * b))) := by simp [abinI]
theorem i_quo {k : IntKind} {a b : Int} : abinI .quo k a k b = if b = 0 then none else some (.int k (k.wrap (a.tdiv b))) := by simp [abinI]
theorem i_rem {k : IntKind} {a b : Int} : abinI .rem k a k b = if b = 0 then none else some (.int k (a.tmod b)) := by simp [abinI]
theorem i_eql {k : IntKind} {a b : Int} : abinI .eql k a k b = some (.bool (decide (a = b))) := by simp [abinI]; by_cases h : a = b <;> simp [h]
theorem i_neq {k : IntKind} {a b : Int} : abinI .neq k a k b = some (.bool (decide (¬ a = b))) := by simp [abinI, bne]; by_cases h : a = b <;> simp [h]
theorem i_lss {k : IntKind} {a b : Int} : abinI .lss k a k b = some (.bool (decide (a < b))) := by simp [abinI]
theorem i_leq {k : IntKind} {a b : Int} : abinI .leq k a k b = some (.bool (decide (a <= b))) := by simp [abinI]
theorem i_gtr {k : IntKind} {a b : Int} : abinI .gtr k a k b = some (.bool (decide (b < a))) := by simp [abinI]
theorem i_geq {k : IntKind} {a b : Int} : abinI .geq k a k b = some (.bool (decide (b <= a))) := by simp [abinI]
theorem i_and {k : IntKind} {a b : Int} : abinI .and k a k b = some (.int k (k.wrap ((BitVec.ofInt k.bits a &&& BitVec.ofInt k.bits b).toNat))) := by simp only [abinI, ne_eq, not_true_eq_false, if_false]
theorem i_or {k : IntKind} {a b : Int} : abinI .or k a k b = some (.int k (k.wrap ((BitVec.ofInt k.bits a ||| BitVec.ofInt k.bits b).toNat))) := by simp only [abinI, ne_eq, not_true_eq_false, if_false]
theorem i_xor {k : IntKind} {a b : Int} : abinI .xor k a k b = some (.int k (k.wrap ((BitVec.ofInt k.bits a ^^^ BitVec.ofInt k.bits b).toNat))) := by simp only [abinI, ne_eq, not_true_eq_false, if_false]
theorem i_shl {k k' : IntKind} {a b : Int} : abinI .shl k a k' b = if b < 0 then none else some (.int k (k.wrap (a * 2 ^ (min b.toNat k.bits)))) := nr rfl
theorem i_shr {k k' : IntKind} {a b : Int} : abinI .shr k a k' b = if b < 0 then none else some (.int k (a.fdiv (2 ^ (min b.toNat k.bits)))) := nr rfl
theorem s_eql {a b : List UInt8} : abinS .eql a b = some (.bool (decide (a = b))) := by simp [abinS]; by_cases h : a = b <;> simp [h]
theorem s_neq {a b : List UInt8} : abinS .neq a b = some (.bool (decide (¬ a = b))) := by simp [abinS]; by_cases h : a = b <;> simp [h]
theorem s_add {a b : List UInt8} : abinS .add a b = if a.length + b.length <= maxLen then some (.str (a ++ b)) else none := nr rfl
theorem s_lss {a b : List UInt8} : abinS .lss a b = some (.bool (Op.bytesLess a b)) := nr rfl
theorem aeq_eql {b : Bool} : aeq .eql b = some (.bool b) := nr rfl
theorem aeq_neq {b : Bool} : aeq .neq b = some (.bool (!b)) := nr rfl
theorem aun_not {b : Bool} : aun .not (.bool b) = some (.bool (!b)) := nr rfl
theorem aun_neg {k : IntKind} {n : Int} : aun .neg (.int k n) = some (.int k (k.wrap (0 - n))) := nr rfl
def cvk (s : SK) (n : Int) (u : Bool) : Option AV := match s with | .int k => if u = true then some (.int k (k.wrap n)) else none | _ => none
theorem aconv_int {s t : TypeId} {k : IntKind} {n : Int} : aconv P s t (.int k n) = cvk (sk P t) n (P.underlying s).isSome := by
 unfold aconv cvk; cases sk P t <;> rfl
theorem cvk_int {k : IntKind} {n : Int} : cvk (.int k) n true = some (.int k (k.wrap n)) := nr rfl
theorem aconvW_int {s t : TypeId} {k : IntKind} {n : Int} : aconvW P s t (.int k n) = cvk (sk P t) n (P.underlying s).isSome := by
 show aconv P s t (.int k n) = _
 exact aconv_int
def cvw (s : SK) (e : Option TypeId) (f : TypeId -> SK) (u : Bool) (l : List UInt8) : Option AV :=
 if s = .str then (if u = true then some (.str l) else none) else if u && (e.any fun e => decide (f e = .int .u8)) && decide (l.length <= maxLen) then some (.sl .none (l.map fun c => .int .u8 c.toNat) []) else none
theorem aconvW_str {s t : TypeId} {l : List UInt8} : aconvW P s t (.str l) = cvw (sk P t) (el P t) (sk P) (P.underlying s).isSome l := by
 unfold aconvW cvw
 by_cases h : sk P t = .str
 ·simp only [if_pos h, aconv, h]
 ·simp only [if_neg h]
theorem cvw_str {e : Option TypeId} {f : TypeId -> SK} {l : List UInt8} : cvw .str e f true l = some (.str l) := nr rfl
theorem cvw_bytes {s : SK} {e : TypeId} {f : TypeId -> SK} {l : List UInt8} (h : s ≠ .str) (h2 : f e = .int .u8) (h3 : l.length <= maxLen) : cvw s (some e) f true l = some (.sl .none (l.map fun c => .int .u8 c.toNat) []) := by
 simp [cvw, h, h2, h3]
theorem cvW_no {s t : TypeId} {x : AV} {K : AV -> AS -> Prop} (h : ∀ l, x ≠ .str l) : cvW P σ s t x K ⟨⟩ ⟨⟩ = bo (aconvZ P σ s t x) (fun r => K r σ) ⟨⟩ := by
 unfold cvW bo
 refine propext ⟨fun h2 => ?_, .inl⟩
 rcases h2 with h2 | ⟨l, _, rfl, _⟩
 ·exact h2
 ·exact absurd rfl (h l)
theorem cvW_int {s t : TypeId} {k : IntKind} {n : Int} {K : AV -> AS -> Prop} : cvW P σ s t (.int k n) K ⟨⟩ ⟨⟩ = bo (aconvZ P σ s t (.int k n)) (fun r => K r σ) ⟨⟩ := cvW_no fun _ h => by cases h
theorem cvW_nil {s t : TypeId} {K : AV -> AS -> Prop} : cvW P σ s t .nil K ⟨⟩ ⟨⟩ = bo (aconvZ P σ s t .nil) (fun r => K r σ) ⟨⟩ := cvW_no fun _ h => by cases h
theorem cvW_sl {s t : TypeId} {g : Gh} {xs sp : List AV} {K : AV -> AS -> Prop} : cvW P σ s t (.sl g xs sp) K ⟨⟩ ⟨⟩ = bo (aconvZ P σ s t (.sl g xs sp)) (fun r => K r σ) ⟨⟩ := cvW_no fun _ h => by cases h
theorem cvW_bs {s t E : TypeId} {b n q : Nat} {K : AV -> AS -> Prop} : cvW P σ s t (.bs b n q E) K ⟨⟩ ⟨⟩ = bo (aconvZ P σ s t (.bs b n q E)) (fun r => K r σ) ⟨⟩ := cvW_no fun _ h => by cases h
theorem cvW_bool {s t : TypeId} {x : Bool} {K : AV -> AS -> Prop} : cvW P σ s t (.bool x) K ⟨⟩ ⟨⟩ = bo (aconvZ P σ s t (.bool x)) (fun r => K r σ) ⟨⟩ := cvW_no fun _ h => by cases h
theorem cvW_str {s t : TypeId} {l : List UInt8} {K : AV -> AS -> Prop} : cvW P σ s t (.str l) K ⟨⟩ ⟨⟩ = cvT (el P t) P σ s t l K ⟨⟩ ⟨⟩ := by
 unfold cvW cvT
 cases he : el P t with
 | none =>
  refine propext ⟨fun h2 => ?_, .inl⟩
  rcases h2 with h2 | ⟨_, e, _, _, h3, _⟩
  ·exact h2
  ·rw [he] at h3; cases h3
 | some e => rfl
theorem cvT_none {s t : TypeId} {l : List UInt8} {K : AV -> AS -> Prop} : cvT none P σ s t l K ⟨⟩ ⟨⟩ = bo (aconvZ P σ s t (.str l)) (fun r => K r σ) ⟨⟩ := nr rfl
theorem cv_any {s t : TypeId} {x : AV} {K : AV -> AS -> Prop} {d : Dum σ} {d' : Dum K} (h : bo (aconvZ P σ s t x) (fun r => K r σ) ⟨⟩) : cvW P σ s t x K d d' := .inl h
theorem cv_plain {e s t : TypeId} {l : List UInt8} {K : AV -> AS -> Prop} {d : Dum σ} {d' : Dum K} (h : bo (aconvZ P σ s t (.str l)) (fun r => K r σ) ⟨⟩) : cvT (some e) P σ s t l K d d' := .inl h
theorem aconvZ_int {s t : TypeId} {k : IntKind} {n : Int} : aconvZ P σ s t (.int k n) = cvk (sk P t) n (P.underlying s).isSome := by
 show aconvW P s t (.int k n) = _
 exact aconvW_int
theorem aconvZ_str {s t : TypeId} {l : List UInt8} : aconvZ P σ s t (.str l) = cvw (sk P t) (el P t) (sk P) (P.underlying s).isSome l := by
 show aconvW P s t (.str l) = _
 exact aconvW_str
def cvb (s : SK) (e : Option TypeId) (f : TypeId -> SK) (xs : List AV) : Option AV :=
 if decide (s = .str) && (e.any fun e => decide (f e = .int .u8)) then (bytesOf xs).map .str else none
def cvm (s : SK) (e : Option TypeId) (f : TypeId -> SK) (x : Option (List AV)) (n q : Nat) : Option AV :=
 if (decide (s = .str) && (e.any fun e => decide (f e = .int .u8))) = true /\ q = 1 then (match x with | some cs => if cs.length = n then (bytesOf cs).map .str else none | none => none) else none
theorem aconvZ_nil {s t : TypeId} : aconvZ P σ s t .nil = cvb (sk P t) (el P s) (sk P) [] := nr rfl
theorem aconvZ_sl {s t : TypeId} {g : Gh} {xs sp : List AV} : aconvZ P σ s t (.sl g xs sp) = cvb (sk P t) (el P s) (sk P) xs := nr rfl
theorem aconvZ_bs {s t E : TypeId} {b n q : Nat} : aconvZ P σ s t (.bs b n q E) = cvm (sk P t) (el P s) (sk P) (σ.box b) n q := nr rfl
theorem cvb_some {e : TypeId} {f : TypeId -> SK} {xs : List AV} (h : f e = .int .u8) : cvb .str (some e) f xs = (bytesOf xs).map .str := by simp [cvb, h]
theorem cvm_some {e : TypeId} {f : TypeId -> SK} {cs : List AV} {n : Nat} (h : f e = .int .u8) (hn : cs.length = n) : cvm .str (some e) f (some cs) n 1 = (bytesOf cs).map .str := by simp [cvm, h, hn]
def bdk (p : Option (List (Nat × Nat))) (z : Option (List AV)) (ps : List (Nat × AV)) : Option AV := match p, z with | some pl, some z => (afill (pl[·]?) z ps).map .agg | _, _ => none
theorem abuild_eq {t : TypeId} {ps : List (Nat × AV)} : abuild P t ps = bdk (places P t) (zc P t) ps := nr rfl
theorem bdk_some {p : List (Nat × Nat)} {z : List AV} {ps : List (Nat × AV)} : bdk (some p) (some z) ps = (afill (p[·]?) z ps).map .agg := nr rfl
def flk (f : Nat -> Option (Nat × Nat)) (p : Option (Nat × Nat)) (cells : List AV) (v : AV) (rest : List (Nat × AV)) : Option (List AV) := match p with
 | none => none
 | some (off, size) => if isv v = true /\ (flat v).length = size /\ off + size <= cells.length then afill f (cells.take off ++ flat v ++ cells.drop (off + size)) rest else none
theorem afill_nil {f : Nat -> Option (Nat × Nat)} {cells : List AV} : afill f cells [] = some cells := nr rfl
theorem afill_cons {f : Nat -> Option (Nat × Nat)} {cells : List AV} {i : Nat} {v : AV} {rest : List (Nat × AV)} : afill f cells ((i, v) :: rest) = flk f (f i) cells v rest := by
 conv => lhs; unfold afill
 unfold flk; cases f i <;> rfl
theorem flk_some {f : Nat -> Option (Nat × Nat)} {cells : List AV} {off size : Nat} {v : AV} {rest : List (Nat × AV)} :
  flk f (some (off, size)) cells v rest = if isv v = true /\ (flat v).length = size /\ off + size <= cells.length then afill f (cells.take off ++ flat v ++ cells.drop (off + size)) rest else none := rfl
def bsk (e : Option (TypeId × Nat × Nat)) (len : Nat) (ps : List (Nat × AV)) : Option AV := match e with
 | some (_, n, _) => if ps.map (·.1) = List.range len /\ (ps.map (·.2)).all (fun a => isv a && decide ((flat a).length = n)) = true /\ len * n <= 16777216 then some (.sl .full (ps.map (·.2)) []) else none
 | none => none
theorem abuildSlice_eq {t len : Nat} {ps : List (Nat × AV)} {r : AV} (h : bsk (aelt P t) len ps = some r) : abuildSlice P t len ps = some r := by
 unfold bsk at h
 cases ha : aelt P t with
 | none => rw [ha] at h; cases h
 | some x =>
  obtain ⟨e, n, b⟩ := x
  rw [ha] at h
  simp only at h
  split at h
  ·rename_i hc
   unfold aelt at ha
   unfold abuildSlice
   cases he : el P t with
   | none => rw [he] at ha; cases ha
   | some e' =>
    rw [he] at ha
    simp only at ha ⊢
    cases htk : tk P e' with
    | none => rw [htk] at ha; cases ha
    | some y =>
     obtain ⟨ag, n'⟩ := y
     cases hb : by_ P e' with
     | none => rw [htk, hb] at ha; cases ha
     | some b' =>
      cases hz : zc P e' with
      | none => rw [htk, hb, hz] at ha; cases ha
      | some z =>
       rw [htk, hb, hz] at ha
       simp only at ha
       split at ha
       ·rename_i hc2
        simp only [Option.some.injEq, Prod.mk.injEq] at ha
        obtain ⟨rfl, rfl, rfl⟩ := ha
        simp only [Option.map_some]
        rw [if_pos ⟨hc.1, hc.2.1, hc.2.2, hc2.1, by rw [hc2.2.2]⟩]
        exact h
       ·cases ha
  ·cases h
theorem bo_buildSlice {m : Bool} {t len : Nat} {ps : List (Nat × AV)} {K : AV -> AS -> Prop} {d : Dum σ} {d2 : Dum K} {d' : Dum fun r => K r σ} (h : bo (bsk (aelt P t) len ps) (fun r => K r σ) d') : bmW m P σ t len ps K d d2 := by
 obtain ⟨r, h1, h2⟩ := h
 exact .inl ⟨r, abuildSlice_eq h1, h2⟩
theorem abnd_none {d : Nat} : abnd none d = some d := nr rfl
theorem abnd_int {k : IntKind} {n : Int} {d : Nat} : abnd (some (.int k n)) d = if 0 <= n then some n.toNat else none := nr rfl
def slks (l h : Option Nat) (s : List UInt8) : Option AV := match l, h with
 | some l, some h => if l <= h /\ h <= s.length then some (.str ((s.take h).drop l)) else none
 | _, _ => none
theorem aslice_str {t : TypeId} {s : List UInt8} {lo hi : Option AV} : aslice P t (.str s) lo hi = if sk P t = .str then slks (abnd lo 0) (abnd hi s.length) s else none := by
 unfold aslice aslice0 slks
 simp only
 by_cases h : sk P t = .str
 ·simp only [if_pos h]
  cases abnd lo 0 <;> cases abnd hi s.length <;> try rfl
  simp only
  split <;> rfl
 ·simp only [if_neg h]; rfl
theorem slks_some {l h : Nat} {s : List UInt8} : slks (some l) (some h) s = if l <= h /\ h <= s.length then some (.str ((s.take h).drop l)) else none := nr rfl
open Classical in
noncomputable def slk (k : Option (Bool × Nat)) (l h : Option Nat) (g : Gh) (xs sp : List AV) : Option AV := match k, l, h with
 | some (_, n), some l, some h => if l <= h /\ h <= xs.length + sp.length /\ (l = 0 \/ ∀ a, a ∈ xs ++ sp -> (flat a).length = n) then
   some (slim (.sl g xs sp) (.sl (pieceGh g l h xs.length) (((xs ++ sp).take h).drop l) ((xs ++ sp).drop h))) else none
 | _, _, _ => none
theorem aslice_sl {t : TypeId} {g : Gh} {xs sp : List AV} {lo hi : Option AV} : aslice P t (.sl g xs sp) lo hi = slk ((el P t).bind (tk P)) (abnd lo 0) (abnd hi xs.length) g xs sp := by
 unfold aslice aslice0 slk
 simp only
 cases he : el P t with
 | none => cases abnd lo 0 <;> cases abnd hi xs.length <;> rfl
 | some e =>
  cases htk : tk P e with
  | none => cases abnd lo 0 <;> cases abnd hi xs.length <;> simp only [Option.bind_some, htk] <;> rfl
  | some x =>
   obtain ⟨ag, n⟩ := x
   cases abnd lo 0 <;> cases abnd hi xs.length <;> simp only [Option.bind_some, htk] <;> try rfl
   split <;> rfl
theorem slk_some {ag : Bool} {n l h : Nat} {g : Gh} {xs sp : List AV} : slk (some (ag, n)) (some l) (some h) g xs sp = if l <= h /\ h <= xs.length + sp.length /\ (l = 0 \/ ∀ a, a ∈ xs ++ sp -> (flat a).length = n) then
   some (slim (.sl g xs sp) (.sl (pieceGh g l h xs.length) (((xs ++ sp).take h).drop l) ((xs ++ sp).drop h))) else none := by
 unfold slk; simp only
theorem slk_plain {ag : Bool} {n l h : Nat} {xs : List AV} (ha : ∀ a, a ∈ xs -> (flat a).length = n) : slk (some (ag, n)) (some l) (some h) .none xs [] = if l <= h /\ h <= xs.length then some (.sl .none ((xs.take h).drop l) []) else none := by
 rw [slk_some]
 simp only [List.append_nil, List.length_nil, Nat.add_zero]
 by_cases h1 : l <= h /\ h <= xs.length
 ·rw [if_pos ⟨h1.1, h1.2, .inr ha⟩, if_pos h1]; rfl
 ·rw [if_neg h1, if_neg fun h2 => h1 ⟨h2.1, h2.2.1⟩]
theorem l_str {t : TypeId} {s : List UInt8} : ablt P .len #[t] [.str s] = if sk P t = .str then some (.int .i64 s.length) else none := nr rfl
theorem l_nil {t : TypeId} : ablt P .len #[t] [.nil] = if (el P t).isSome then some (.int .i64 0) else none := nr rfl
theorem l_cap {t : TypeId} : ablt P .cap #[t] [.nil] = if (el P t).isSome then some (.int .i64 0) else none := nr rfl
theorem l_bs {t E : TypeId} {b n s : Nat} : ablt P .len #[t] [.bs b n s E] = if (el P t).isSome then some (.int .i64 n) else none := nr rfl
theorem l_usd_nil {t : TypeId} : ablt P .unsafeSliceData #[t] [.nil] = some .nilptr := nr rfl
theorem l_usd {t E : TypeId} {b n s : Nat} : ablt P .unsafeSliceData #[t] [.bs b n s E] = if 0 < n then some (.bp b s E) else none := nr rfl
theorem l_sl {t : TypeId} {g : Gh} {xs sp : List AV} : ablt P .len #[t] [.sl g xs sp] = if (el P t).isSome then some (.int .i64 xs.length) else none := nr rfl
theorem l_max {ts : Array TypeId} {k k' : IntKind} {a b : Int} : ablt P .max ts [.int k a, .int k' b] = some (.int k (if b > a then b else a)) := by
 unfold ablt; split <;> simp_all
theorem l_min {ts : Array TypeId} {k k' : IntKind} {a b : Int} : ablt P .min ts [.int k a, .int k' b] = some (.int k (if b < a then b else a)) := by
 unfold ablt; split <;> simp_all
def stk (k : Option (Bool × Nat)) (σ : AS) (c : Option (List AV)) (b o : Nat) (x : AV) : Option AS := match k, c with
 | some (_, n), some cs => if isv x = true /\ (flat x).length = n /\ o + n <= cs.length then some (σ.setBox b (cs.take o ++ flat x ++ cs.drop (o + n))) else none
 | _, _ => none
theorem astore_ptr {t : TypeId} {b o : Nat} {x : AV} : astore P σ t (.ptr b o) x = stk (tk P t) σ (σ.box b) b o x := by
 unfold astore stk
 cases tk P t with
 | none => rfl
 | some y => obtain ⟨ag, n⟩ := y; simp only; cases σ.box b <;> rfl
theorem stk_some {ag : Bool} {n b o : Nat} {cs : List AV} {x : AV} : stk (some (ag, n)) σ (some cs) b o x = if isv x = true /\ (flat x).length = n /\ o + n <= cs.length then some (σ.setBox b (cs.take o ++ flat x ++ cs.drop (o + n))) else none := nr rfl
theorem pairs_nil : pairs G e [] = [] := nr rfl
theorem pairs_cons {i : Nat} {x : Operand} {l : List (Nat × Operand)} : pairs G e ((i, x) :: l) = (i, ev G e x) :: pairs G e l := nr rfl
theorem aw_none {l : List Oper} : awanted l e none = some true := nr rfl
def awk (v : AV) (want : Bool) : Option Bool := match v with | .bool b => some (b == want) | .tup [] => some false | _ => none
def awo (t : Option Tmp) (e : Env) (want : Bool) : Option Bool := match t with | some t => awk (e t) want | none => none
theorem aw_some {l : List Oper} {j : Nat} {want : Bool} : awanted l e (some (j, want)) = awo ((l[j]?).bind (·.dst)) e want := by
 unfold awanted awo awk
 simp only
 cases (l[j]?).bind (·.dst) <;> rfl
theorem awo_some {t : Tmp} {want : Bool} : awo (some t) e want = awk (e t) want := nr rfl
theorem awk_skip {want : Bool} : awk (.tup []) want = some false := nr rfl
theorem awk_true {b : Bool} : awk (.bool b) true = some b := by simp [awk]
theorem awk_false {b : Bool} : awk (.bool b) false = some (!b) := by simp [awk]
theorem ares_nil : ares P e σ [] = some [] := nr rfl
theorem ares_tmp {t : Tmp} : ares P e σ [.tmp t] = some [e t] := nr rfl
theorem ares_cell {t : Tmp} {ty : TypeId} : ares P e σ [.cell t ty] = (aload P σ ty (e t)).map fun x => [x] := by
 unfold ares ares1 ares; simp only; cases aload P σ ty (e t) <;> rfl
theorem ares_two {t u : Tmp} : ares P e σ [.tmp t, .tmp u] = some [e t, e u] := nr rfl
end rules
def Pure (P : Program) (G : Nat -> AV) (f : FuncId) (args : List AV) (v : AV) : Prop := ∀ σ, Tri P G f args σ fun r σ' => r = v /\ σ' = σ
theorem Pure.use {P : Program} {G : Nat -> AV} {f : FuncId} {args : List AV} {v : AV} (h : Pure P G f args v) {σ : AS} {K : AV -> AS -> Prop} {d : Dum σ} {d' : Dum K} (hk : K v σ) : triW P G f args σ K d d' :=
 (h σ).mono fun r s ⟨hr, hs⟩ => by subst hr hs; exact hk
theorem Pure.pureC {P : Program} {G : Nat -> AV} {f : FuncId} {args : List AV} {v : AV} (h : Pure P G f args v) (σ0 : AS) : PureC P G f args σ0 v := fun σ _ => h σ
theorem Pure.head {P : Program} {G : Nat -> AV} {f : FuncId} {args : List AV} {v : AV} (h : Pure P G f args v) {σ0 : AS} {F : AV -> Prop} {d : Dum σ0} {d' : Dum F} (hk : F v) : hcallW P G (.fn f []) args σ0 F d d' := hcallW_nocaps (h.pureC σ0) hk
theorem PureC.use {P : Program} {G : Nat -> AV} {f : FuncId} {args : List AV} {v : AV} {σ0 : AS} (h : PureC P G f args σ0 v) {σ : AS} (hl : σ0.le σ) {K : AV -> AS -> Prop} {d : Dum σ} {d' : Dum K} (hk : K v σ) : triW P G f args σ K d d' :=
 (h σ hl).mono fun r s ⟨hr, hs⟩ => by subst hr hs; exact hk
theorem PureC.mono {P : Program} {G : Nat -> AV} {f : FuncId} {args : List AV} {v : AV} {σ0 σ1 : AS} (h : PureC P G f args σ0 v) (hl : σ0.le σ1) : PureC P G f args σ1 v := fun σ h1 => h σ (hl.trans h1)
theorem PureC.head {P : Program} {G : Nat -> AV} {f : FuncId} {args : List AV} {v : AV} {σ0 σ1 : AS} (h : PureC P G f args σ1 v) (hl : σ1.le σ0) {F : AV -> Prop} {d : Dum σ0} {d' : Dum F} (hk : F v) : hcallW P G (.fn f []) args σ0 F d d' := hcallW_nocaps (h.mono hl) hk
theorem AS.set_get {σ : AS} {b : Nat} {cs : List AV} : (σ.setBox b cs).box b = some cs := by simp [AS.setBox]
theorem Rel.grown {G : Nat -> AV} {K : Ctx} {σ : AS} {w w' : World} (h : Rel G K σ w) (hb : Below w.heap.size w w') : Rel G K σ w' := by
 refine ⟨fun b o v hv => ?_, fun b cap s E hr => ?_, fun b cs hi => ?_, h.tip, fun b E n ht => ?_, h.glob, h.below.trans (hb.mono h.bs), Nat.le_trans h.bs hb.size⟩
 ·rw [World.cell?_of_block (w := w) (hb.block b (h.imm_lt hv))]; exact h.imm b o v hv
 ·obtain ⟨cur, fz, hc, hs⟩ := h.row b cap s E hr
  exact ⟨cur, fz, by rw [hb.block b (h.row_lt hr)]; exact hc, hs⟩
 ·obtain ⟨h1, h2, h3, h4, h5, c, E, hc, hs, hv⟩ := h.box b cs hi
  exact ⟨h1, h2, h3, h4, h5, c, E, by rw [hb.block b (Array.getElem?_eq_some_iff.1 hc).1]; exact hc, hs, hv⟩
 ·have h1 := h.ty b E n ht
  exact h1.old (hb.block b h1.lt)
theorem Pure.of_calls {P : Program} {G : Nat -> AV} {f : FuncId} {args : List AV} {v : AV} {vals : List Value} {u : Value} (hcl : callable P f = true) (hargs : ∀ K l, VRl K args l -> l = vals) (hv : ∀ K, VR K v u)
  (h : ∀ K σ w, Rel G K σ w -> Calls P f vals.toArray w fun e w' => e = .returned u /\ Below w.heap.size w w') : Pure P G f args v := by
 intro σ
 refine ⟨hcl, fun K w l hr hl => ?_⟩
 have := hargs K l hl
 subst this
 refine (h K σ w hr).mono fun e w' ⟨he, hb⟩ => ⟨u, v, σ, K, he, ⟨rfl, rfl⟩, hv K, hr.grown hb, Ctx.le.refl K⟩
end Go.Av
namespace Go.Av
open Go Go.RowKit
def Le (a b : AV) : Prop := ∀ (K : Ctx) (v : Value), VR K a v -> VR K b v
inductive Les : List AV -> List AV -> Prop
 | nil : Les [] []
 | cons {a b : AV} {l r : List AV} (h : Le a b) (t : Les l r) : Les (a :: l) (b :: r)
theorem Le.refl (a : AV) : Le a a := fun _ _ h => h
theorem Le.trans {a b c : AV} (h : Le a b) (k : Le b c) : Le a c := fun K v x => k K v (h K v x)
theorem Les.refl : ∀ (l : List AV), Les l l
 | [] => .nil
 | a :: l => .cons (Le.refl a) (Les.refl l)
theorem Les.length {l r : List AV} (h : Les l r) : l.length = r.length := by
 induction h with
 | nil => rfl
 | cons _ _ ih => simp [ih]
theorem Les.get {l r : List AV} (h : Les l r) : ∀ (j : Nat) (hj : j < l.length) (hj' : j < r.length), Le l[j] r[j] := by
 induction h with
 | nil => intro j hj; cases hj
 | cons h _ ih =>
  intro j hj hj'
  cases j with
  | zero => exact h
  | succ j => exact ih j (by simpa using hj) (by simpa using hj')
theorem Les.append {l r l' r' : List AV} (h : Les l r) (k : Les l' r') : Les (l ++ l') (r ++ r') := by
 induction h with
 | nil => exact k
 | cons h _ ih => exact .cons h ih
theorem VRl.le {K : Ctx} : ∀ {l r : List AV} {vs : List Value}, Les l r -> VRl K l vs -> VRl K r vs
 | [], _, vs, .nil, h => h
 | a :: l, _, [], .cons _ _, h => h.elim
 | a :: l, _, v :: vs, .cons h t, ⟨h1, h2⟩ => ⟨h K v h1, VRl.le t h2⟩
theorem Tri.weaken {P : Program} {G : Nat -> AV} {f : FuncId} {args args' : List AV} {σ : AS} {Q : AV -> AS -> Prop} (hl : Les args args') (h : Tri P G f args' σ Q) : Tri P G f args σ Q :=
 ⟨h.1, fun K w vals hr hv => h.2 K w vals hr (hv.le hl)⟩
theorem Tri.tell {P : Program} {G : Nat -> AV} {f : FuncId} {args : List AV} {σ : AS} {Q Q' : AV -> AS -> Prop} (h : Tri P G f args σ Q) (hq : ∀ r s, Q r s -> ∃ r', Le r r' /\ Q' r' s) : Tri P G f args σ Q' :=
 ⟨h.1, fun K w vals hr hv => (h.2 K w vals hr hv).mono fun e w' ⟨v, r, σ', K', he, hQ, h1, h2⟩ => by
   obtain ⟨r', hle, hq'⟩ := hq r σ' hQ
   exact ⟨v, r', σ', K', he, hq', hle K' v h1, h2⟩⟩
theorem Le.nil : Le .nil (.sl .none [] []) := fun K v h => by rw [VR.nil_iff] at h; subst h; exact .sl0 none
theorem Le.agg {cs ds : List AV} (h : Les cs ds) (h1 : ∀ d, d ∈ ds -> one d = true) : Le (.agg cs) (.agg ds) := fun K v hv => by
 cases hv with
 | agg _ vs hl g1 hvv =>
  have hlen := h.length
  exact .agg ds vs (by omega) h1 fun j hj => h.get j (by omega) hj K _ (hvv j (by omega))
theorem Le.tup {cs ds : List AV} (h : Les cs ds) : Le (.tup cs) (.tup ds) := fun K v hv => by
 cases hv with
 | tup _ vs hl hvv =>
  have hlen := h.length
  exact .tup ds vs (by omega) fun j hj => h.get j (by omega) hj K _ (hvv j (by omega))
structure LeE (a b : AV) : Prop where
 cells : Les (flat a) (flat b)
 isv : isv b = true
 one : ∀ c, c ∈ flat b -> one c = true
inductive LeEs : List AV -> List AV -> Prop
 | nil : LeEs [] []
 | cons {a b : AV} {l r : List AV} (h : LeE a b) (t : LeEs l r) : LeEs (a :: l) (b :: r)
theorem LeEs.length {l r : List AV} (h : LeEs l r) : l.length = r.length := by
 induction h with
 | nil => rfl
 | cons _ _ ih => simp [ih]
theorem LeEs.flat {l r : List AV} (h : LeEs l r) : Les (l.flatMap flat) (r.flatMap flat) := by
 induction h with
 | nil => exact .nil
 | cons h _ ih => rw [List.flatMap_cons, List.flatMap_cons]; exact h.cells.append ih
theorem LeEs.ok {l r : List AV} (h : LeEs l r) {n : Nat} (hn : ∀ a, a ∈ l -> (Av.flat a).length = n) : ∀ b, b ∈ r -> (Av.flat b).length = n /\ Av.isv b = true /\ ∀ c, c ∈ Av.flat b -> Av.one c = true := by
 induction h with
 | nil => intro b hb; cases hb
 | cons h _ ih =>
  intro b hb
  rcases List.mem_cons.1 hb with rfl | hb
  ·exact ⟨by rw [<- h.cells.length]; exact hn _ (by simp), h.isv, h.one⟩
  ·exact ih (fun a ha => hn a (by simp [ha])) b hb
theorem Le.sl {g : Gh} {xs ys sp : List AV} (h : LeEs xs ys) : Le (.sl g xs sp) (.sl .none ys []) := fun K v hv => by
 have hlen := h.length
 cases hv with
 | sl0 a => cases h; exact .sl0 a
 | sl _ _ _ sz b off cap f hsz hcap hml himm hvv hg =>
  have hle : (xs.flatMap Av.flat).length <= ((xs ++ sp).flatMap Av.flat).length := by simp
  have hf := h.flat
  have hfl := hf.length
  have := VR.sl (K := K) .none ys [] sz b off cap f (fun e he => h.ok (fun a ha => (hsz a (List.mem_append_left _ ha)).1) e (by simpa using he)) (by simp; omega) hml
   (fun j hj => himm j (by simp only [List.append_nil] at hj; omega))
   (fun j hj => by
     simp only [List.append_nil] at hj ⊢
     have h1 := hvv j (by omega)
     have e1 : ((xs ++ sp).flatMap Av.flat)[j]'(by omega) = (xs.flatMap Av.flat)[j]'(by omega) := by
      simp only [List.flatMap_append]; rw [List.getElem_append_left (by omega)]
     rw [e1] at h1
     exact hf.get j (by omega) hj K _ h1) trivial
  rw [hlen]
  exact this
theorem LeE.of {a b : AV} (h : Le a b) (h0 : flat a = [a]) (h1 : flat b = [b]) (hb : Av.one b = true) : LeE a b :=
 ⟨by rw [h0, h1]; exact .cons h .nil, by cases b <;> first | exact hb | rfl, fun c hc => by rw [h1] at hc; simp at hc; subst hc; exact hb⟩
theorem LeE.agg {cs ds : List AV} (h : Les cs ds) (h1 : ∀ d, d ∈ ds -> Av.one d = true) : LeE (.agg cs) (.agg ds) := ⟨h, rfl, h1⟩
theorem LeEs.map {α : Type} {f g : α -> AV} : ∀ (l : List α), (∀ x, x ∈ l -> LeE (f x) (g x)) -> LeEs (l.map f) (l.map g)
 | [], _ => .nil
 | x :: l, h => .cons (h x (by simp)) (LeEs.map l fun y hy => h y (by simp [hy]))
end Go.Av
namespace Go.Av
open Go Go.RowKit
theorem Pure.of_le {P : Program} {G : Nat -> AV} {f : FuncId} {args : List AV} {v : AV} (h : ∀ σ, Tri P G f args σ fun r σ' => Le r v /\ σ' = σ) : Pure P G f args v :=
 fun σ => Tri.tell (h σ) fun r s ⟨h1, h2⟩ => ⟨v, h1, rfl, h2⟩
theorem finish_le {r v : AV} {σ σ' : AS} {d : Dum σ} {d' : Dum fun x s => Le x v /\ s = σ'} (h2 : Le r v) (h1 : σ'.le σ) : finishW (some [r]) σ (fun x s => Le x v /\ s = σ') d d' := ⟨[r], σ', rfl, h1, h2, rfl⟩
theorem Pure.lessArgs {P : Program} {G : Nat -> AV} {f : FuncId} {args args' : List AV} {v : AV} (h : Pure P G f args' v) (hl : Les args args') : Pure P G f args v := fun σ => Tri.weaken hl (h σ)
theorem Pure.tellLess {P : Program} {G : Nat -> AV} {f : FuncId} {args : List AV} {v v' : AV} (h : Pure P G f args v) (hl : Le v v') : Pure P G f args v' :=
 Pure.of_le fun σ => (h σ).mono fun r s ⟨hr, hs⟩ => ⟨hr ▸ hl, hs⟩
theorem Le.gh {g : Gh} {xs sp : List AV} : Le (.sl g xs sp) (.sl .none xs sp) := fun K v h => by
 cases h with
 | sl0 a => exact .sl0 a
 | sl _ _ _ sz b off cap f hsz hcap hml himm hvv hg => exact .sl .none xs sp sz b off cap f hsz hcap hml himm hvv trivial
theorem Le.spare {g : Gh} {xs sp : List AV} : Le (.sl g xs sp) (.sl .none xs []) := Le.trans Le.gh (fun K v h => h.spareless)
inductive Buf (n : Nat) (σ0 σ : AS) : AV -> List AV -> Prop
 | nil (h : σ0.le σ) : Buf n σ0 σ .nil []
 | own (b : Nat) (xs : List AV) (h : σ0.le σ) (h0 : σ0.tip b = none) (ht : σ.tip b = some (xs.length, n)) (hx : ∀ a, a ∈ xs -> (flat a).length = n) : Buf n σ0 σ (.sl (.own b) xs []) xs
theorem Buf.le {n : Nat} {σ0 σ : AS} {v : AV} {xs : List AV} (h : Buf n σ0 σ v xs) : σ0.le σ := by cases h <;> assumption
theorem Buf.told {n : Nat} {σ0 σ : AS} {v : AV} {xs : List AV} (h : Buf n σ0 σ v xs) : Le v (.sl .none xs []) := by
 cases h with
 | nil _ => exact Le.nil
 | own b xs _ _ _ _ => exact Le.gh
theorem Buf.setBox {n : Nat} {σ0 σ : AS} {v : AV} {xs : List AV} (h : Buf n σ0 σ v xs) {c : Nat} (hc : σ0.box c = none) (cs : List AV) : Buf n σ0 (σ.setBox c cs) v xs := by
 cases h with
 | nil h => exact .nil (h.setBox hc cs)
 | own b xs h h0 ht hx => exact .own b xs (h.setBox hc cs) h0 ht hx
theorem Buf.newBox {n : Nat} {σ0 σ : AS} {v : AV} {xs : List AV} (h : Buf n σ0 σ v xs) {c : Nat} (hc : σ.fresh c) (cs : List AV) : Buf n σ0 (σ.setBox c cs) v xs := h.setBox (h.le.fresh hc).1 cs
theorem Buf.len {P : Program} {n : Nat} {σ0 σ : AS} {v : AV} {xs : List AV} (h : Buf n σ0 σ v xs) {t : TypeId} : ablt P .len #[t] [v] = if (el P t).isSome then some (.int .i64 xs.length) else none := by
 cases h with
 | nil _ => rw [l_nil]; rfl
 | own b xs _ _ _ _ => rw [l_sl]
theorem Buf.isv {n : Nat} {σ0 σ : AS} {v : AV} {xs : List AV} (h : Buf n σ0 σ v xs) : isv v = true := by cases h <;> rfl
theorem Buf.flat {n : Nat} {σ0 σ : AS} {v : AV} {xs : List AV} (h : Buf n σ0 σ v xs) : flat v = [v] := by cases h <;> rfl
theorem app_buf {P : Program} {n by_ : Nat} {σ0 σ : AS} {v x : AV} {xs ys : List AV} {t tx e : TypeId} {K : AV -> AS -> Prop} {d : Dum σ} {d' : Dum K} (hB : Buf n σ0 σ v xs) (he : aelt P t = some (e, n, by_)) (hs : asrc P tx x = some ys)
  (hys : ∀ a, a ∈ ys -> (Av.flat a).length = n) (hb : (xs.length + ys.length) * by_ <= 140737488355328) (hK : ∀ v' σ', Buf n σ0 σ' v' (xs ++ ys) -> σ'.box = σ.box -> K v' σ') : appW P σ t tx v x K d d' := by
 refine .inl ?_
 unfold aappend
 rw [he, hs]
 refine ⟨hys, ?_⟩
 cases hB with
 | nil h =>
  refine ⟨by simpa using hb, fun hy => ?_, fun hy b hf => ?_⟩
  ·subst hy; exact hK _ _ (.nil h) rfl
  ·have hf0 := h.fresh hf
   refine hK _ _ ?_ rfl
   rw [List.nil_append]
   exact .own b ys (h.setTip hf0.2.1 _) hf0.2.1 (by simp [AS.setTip]) hys
 | own b xs h h0 ht hx =>
  refine ⟨ht, hx, hb, fun b' hb' => ?_⟩
  have h0' : σ0.tip b' = none := by
   rcases hb' with rfl | hf
   ·exact h0
   ·exact (h.fresh hf).2.1
  refine hK _ _ ?_ rfl
  refine .own b' (xs ++ ys) ((h.delTip h0).setTip h0' _) h0' (by simp [AS.setTip]) fun a ha => ?_
  rcases List.mem_append.1 ha with ha | ha
  ·exact hx a ha
  ·exact hys a ha
theorem app_full {P : Program} {n by_ : Nat} {σ0 σ : AS} {x : AV} {xs ys : List AV} {t tx e : TypeId} {K : AV -> AS -> Prop} {d : Dum σ} {d' : Dum K} (hle : σ0.le σ) (hxs : ∀ a, a ∈ xs -> (Av.flat a).length = n) (he : aelt P t = some (e, n, by_)) (hs : asrc P tx x = some ys)
  (hys : ∀ a, a ∈ ys -> (Av.flat a).length = n) (hb : (xs.length + ys.length) * by_ <= 140737488355328) (hK1 : ys = [] -> K (.sl .full xs []) σ) (hK : ∀ v' σ', Buf n σ0 σ' v' (xs ++ ys) -> σ'.box = σ.box -> K v' σ') : appW P σ t tx (.sl .full xs []) x K d d' := by
 refine .inl ?_
 unfold aappend
 rw [he, hs]
 refine ⟨hys, hxs, hb, hK1, fun hy b hf => ?_⟩
 have hf0 := hle.fresh hf
 refine hK _ _ ?_ rfl
 refine .own b (xs ++ ys) (hle.setTip hf0.2.1 _) hf0.2.1 (by simp [AS.setTip]) fun a ha => ?_
 rcases List.mem_append.1 ha with ha | ha
 ·exact hxs a ha
 ·exact hys a ha
theorem asrc_sl {P : Program} {t e : TypeId} {g : Gh} {xs sp : List AV} (h : el P t = some e) : asrc P t (.sl g xs sp) = some xs := by simp [asrc, h]
theorem asrc_str {P : Program} {t : TypeId} {s : List UInt8} (h : sk P t = .str) : asrc P t (.str s) = some (s.map fun c => .int .u8 c.toNat) := by simp [asrc, h]
theorem make_buf {P : Program} {n by_ : Nat} {σ0 σ : AS} {t e : TypeId} {k k' : IntKind} {c : Int} {K : AV -> AS -> Prop} {d : Dum σ} {d' : Dum K} (he : aelt P t = some (e, n, by_)) (h0 : 0 <= c) (hc : c * by_ <= 140737488355328) (hle : σ0.le σ)
  (hK : ∀ v σ', Buf n σ0 σ' v [] -> σ'.box = σ.box -> K v σ') : makeW P σ t (.int k 0) (.int k' c) K d d' := by
 refine .inl ?_
 unfold amake
 rw [he]
 refine ⟨rfl, h0, hc, fun b hf => ?_⟩
 have hf0 := hle.fresh hf
 exact hK _ _ (.own b [] (hle.setTip hf0.2.1 _) hf0.2.1 (by simp [AS.setTip]) (fun a ha => by cases ha)) rfl
theorem piece {P : Program} {t e : TypeId} {ag : Bool} {n l h : Nat} {g : Gh} {xs sp : List AV} {lo hi : Option AV} {K : AV -> Prop} {d : Dum K} (he : el P t = some e) (hn : tk P e = some (ag, n)) (h1 : abnd lo 0 = some l) (h2 : abnd hi xs.length = some h)
  (hl : l <= h) (hh : h <= xs.length + sp.length) (hx : ∀ a, a ∈ xs ++ sp -> (Av.flat a).length = n) (hK : ∀ g', K (slim (.sl g xs sp) (.sl g' (((xs ++ sp).take h).drop l) ((xs ++ sp).drop h)))) : bo (aslice P t (.sl g xs sp) lo hi) K d := by
 refine ⟨slim (.sl g xs sp) (.sl (pieceGh g l h xs.length) (((xs ++ sp).take h).drop l) ((xs ++ sp).drop h)), ?_, hK _⟩
 unfold aslice aslice0
 simp only [he, h1, h2, hn]
 rw [if_pos ⟨hl, hh, .inr hx⟩]
 rfl
theorem build_one {P : Program} {m : Bool} {σ : AS} {t e : TypeId} {n by_ : Nat} {a : AV} {K : AV -> AS -> Prop} {d : Dum σ} {d' : Dum K} (he : aelt P t = some (e, n, by_)) (hi : isv a = true) (hf : (Av.flat a).length = n) (hn : n <= 16777216) (hK : K (.sl .full [a] []) σ) : bmW m P σ t 1 [(0, a)] K d d' := by
 refine .inl ⟨_, abuildSlice_eq (r := .sl .full [a] []) ?_, hK⟩
 unfold bsk
 rw [he]
 simp [List.range_succ, hi, hf, hn]
theorem build_none {P : Program} {m : Bool} {σ : AS} {t e : TypeId} {n by_ : Nat} {K : AV -> AS -> Prop} {d : Dum σ} {d' : Dum K} (he : aelt P t = some (e, n, by_)) (hK : K (.sl .full [] []) σ) : bmW m P σ t 0 [] K d d' := by
 refine .inl ⟨_, abuildSlice_eq (r := .sl .full [] []) ?_, hK⟩
 unfold bsk
 rw [he]
 simp
theorem aelt_el {P : Program} {t e : TypeId} {n b : Nat} (h : aelt P t = some (e, n, b)) : el P t = some e /\ ∃ ag, (el P t).bind (tk P) = some (ag, n) := by
 unfold aelt at h
 split at h
 case h_2 => cases h
 rename_i e' he
 split at h
 case h_2 => cases h
 rename_i ag n' b' z hn hb hz
 split at h
 case isFalse => cases h
 simp only [Option.some.injEq, Prod.mk.injEq] at h
 obtain ⟨rfl, rfl, rfl⟩ := h
 exact ⟨he, ag, by rw [he, Option.bind_some, hn]⟩
theorem build_oneM {P : Program} {σ : AS} {t e : TypeId} {n by_ : Nat} {a : AV} {K : AV -> AS -> Prop} {d : Dum σ} {d' : Dum K} (he : aelt P t = some (e, n, by_)) (hi : isv a = true) (hf : (Av.flat a).length = n) (hn : n <= 16777216) (hK : ∀ b, σ.fresh b -> K (.bs b 1 n e) (σ.setBox b (Av.flat a))) : bmW true P σ t 1 [(0, a)] K d d' := by
 refine .inr ⟨rfl, ?_⟩
 have h1 : abuildSlice P t 1 [(0, a)] = some (.sl .full [a] []) := by
  refine abuildSlice_eq ?_
  unfold bsk
  rw [he]
  simp [List.range_succ, hi, hf, hn]
 obtain ⟨h2, ag, h3⟩ := aelt_el he
 unfold abuildM
 rw [h1, h3, h2]
 simpa using hK
def wildB (o : Oper) : Bool := match o.op with | .store .. => true | .makeSlice .. => true | .call ⟨.builtin .append, _, _⟩ => true | .call ⟨.builtin .unsafeString, _, _⟩ => true | _ => false
def headLen : List Oper -> Nat
 | [] => 0
 | o :: r => if wildB o = true then 0 else headLen r + 1
def htW (w : Bool) (A B : Prop) (_ : Dum A) (_ : Dum B) : Prop := (w = true -> A) /\ (w = false -> B)
def awpHT (P : Program) (G : Nat -> AV) (ops : List Oper) (σ0 : AS) (R : Env -> AS -> Prop) : List Oper -> Env -> AS -> Prop
 | [], e, σ => R e σ
 | o :: rest, e, σ => htW (wildB o) (awpOps P G ops R (o :: rest) e σ)
   (gW (awanted ops e o.guard) (hop P G o e σ0 σ fun r σ' => awpHT P G ops σ0 R rest (e.upd o.dst r) σ') (awpHT P G ops σ0 R rest (e.upd o.dst (.tup [])) σ) ⟨⟩ ⟨⟩) ⟨⟩ ⟨⟩
theorem htW_true {A B : Prop} {d : Dum A} {d' : Dum B} : htW true A B d d' = A := by simp [htW]
theorem htW_false {A B : Prop} {d : Dum A} {d' : Dum B} : htW false A B d d' = B := by simp [htW]
section ht
variable {P : Program} {G : Nat -> AV} {ops rest : List Oper} {σ0 σ : AS} {R : Env -> AS -> Prop} {e : Env} {d : Option Tmp} {ty : TypeId} {pos : String} {af : Array Edge} {g : Option (Nat × Bool)}
theorem ht_nil : awpHT P G ops σ0 R [] e σ = R e σ := nr rfl
theorem ht_cons {o : Oper} : awpHT P G ops σ0 R (o :: rest) e σ = htW (wildB o) (awpOps P G ops R (o :: rest) e σ)
   (gW (awanted ops e o.guard) (hop P G o e σ0 σ fun r σ' => awpHT P G ops σ0 R rest (e.upd o.dst r) σ') (awpHT P G ops σ0 R rest (e.upd o.dst (.tup [])) σ) ⟨⟩ ⟨⟩) ⟨⟩ ⟨⟩ := nr rfl
theorem iw_move {x : Operand} : wildB ⟨d, .move x, ty, pos, af, g⟩ = false := nr rfl
theorem iw_assign {x : Operand} : wildB ⟨d, .assign x, ty, pos, af, g⟩ = false := nr rfl
theorem iw_pick {a b c : Operand} : wildB ⟨d, .pick a b c, ty, pos, af, g⟩ = false := nr rfl
theorem iw_alloc {E : TypeId} : wildB ⟨d, .alloc E, ty, pos, af, g⟩ = false := nr rfl
theorem iw_box {E : TypeId} {x : Operand} : wildB ⟨d, .box E x, ty, pos, af, g⟩ = false := nr rfl
theorem iw_build {t : TypeId} {ps : Array (Nat × Operand)} : wildB ⟨d, .build t ps, ty, pos, af, g⟩ = false := nr rfl
theorem iw_buildSlice {t n : Nat} {ps : Array (Nat × Operand)} : wildB ⟨d, .buildSlice t n ps, ty, pos, af, g⟩ = false := nr rfl
theorem iw_load {t : TypeId} {x : Operand} : wildB ⟨d, .load t x, ty, pos, af, g⟩ = false := nr rfl
theorem iw_nilCheck {x : Operand} : wildB ⟨d, .nilCheck x, ty, pos, af, g⟩ = false := nr rfl
theorem iw_binOp {op : BinOp} {t yt : TypeId} {x y : Operand} : wildB ⟨d, .binOp op t x y yt, ty, pos, af, g⟩ = false := nr rfl
theorem iw_unOp {op : UnOp} {t : TypeId} {x : Operand} : wildB ⟨d, .unOp op t x, ty, pos, af, g⟩ = false := nr rfl
theorem iw_convert {s t : TypeId} {x : Operand} : wildB ⟨d, .convert s t x, ty, pos, af, g⟩ = false := nr rfl
theorem iw_makeFunc {f : FuncId} {caps : Array Operand} : wildB ⟨d, .makeFunc (.func f) #[] caps, ty, pos, af, g⟩ = false := nr rfl
theorem iw_slice {t : TypeId} {x : Operand} {lo hi : Option Operand} : wildB ⟨d, .slice t x lo hi none, ty, pos, af, g⟩ = false := nr rfl
theorem iw_fieldAddr {t : TypeId} {x : Operand} {i : Nat} : wildB ⟨d, .fieldAddr t x i, ty, pos, af, g⟩ = false := nr rfl
theorem iw_field {t : TypeId} {x : Operand} {i : Nat} : wildB ⟨d, .field t x i, ty, pos, af, g⟩ = false := nr rfl
theorem iw_indexAddr {t : TypeId} {x i : Operand} : wildB ⟨d, .indexAddr t x i, ty, pos, af, g⟩ = false := nr rfl
theorem iw_index {t : TypeId} {x i : Operand} : wildB ⟨d, .index t x i, ty, pos, af, g⟩ = false := nr rfl
theorem iw_extract {x : Operand} {i : Nat} : wildB ⟨d, .extract x i, ty, pos, af, g⟩ = false := nr rfl
theorem iw_call {f : Operand} {args : Array Operand} {ts : Array TypeId} : wildB ⟨d, .call ⟨.value f, args, ts⟩, ty, pos, af, g⟩ = false := nr rfl
theorem iw_len {args : Array Operand} {ts : Array TypeId} : wildB ⟨d, .call ⟨.builtin .len, args, ts⟩, ty, pos, af, g⟩ = false := nr rfl
theorem iw_cap {args : Array Operand} {ts : Array TypeId} : wildB ⟨d, .call ⟨.builtin .cap, args, ts⟩, ty, pos, af, g⟩ = false := nr rfl
theorem iw_usd {args : Array Operand} {ts : Array TypeId} : wildB ⟨d, .call ⟨.builtin .unsafeSliceData, args, ts⟩, ty, pos, af, g⟩ = false := nr rfl
theorem iw_ustr {args : Array Operand} {ts : Array TypeId} : wildB ⟨d, .call ⟨.builtin .unsafeString, args, ts⟩, ty, pos, af, g⟩ = true := nr rfl
theorem iw_max {args : Array Operand} {ts : Array TypeId} : wildB ⟨d, .call ⟨.builtin .max, args, ts⟩, ty, pos, af, g⟩ = false := nr rfl
theorem iw_min {args : Array Operand} {ts : Array TypeId} : wildB ⟨d, .call ⟨.builtin .min, args, ts⟩, ty, pos, af, g⟩ = false := nr rfl
theorem iw_store {t : TypeId} {p x : Operand} : wildB ⟨d, .store t p x, ty, pos, af, g⟩ = true := nr rfl
theorem iw_append {args : Array Operand} {ts : Array TypeId} : wildB ⟨d, .call ⟨.builtin .append, args, ts⟩, ty, pos, af, g⟩ = true := nr rfl
theorem iw_makeSlice {t : TypeId} {x y : Operand} : wildB ⟨d, .makeSlice t x y, ty, pos, af, g⟩ = true := nr rfl
theorem ht_head : ∀ (l : List Oper) (e : Env) (σ : AS), awpHT P G ops σ0 R l e σ -> awpHead P G ops σ0 (fun e' σ' => awpOps P G ops R (l.drop (headLen l)) e' σ') (l.take (headLen l)) e σ
 | [], e, σ, h => h
 | o :: rest, e, σ, h => by
  unfold awpHT htW at h
  unfold headLen
  cases hw : wildB o with
  | true =>
   simp only [if_true]
   exact h.1 hw
  | false =>
   simp only [Bool.false_eq_true, if_false]
   obtain ⟨b, hb, h1, h2⟩ := h.2 hw
   have hl : (o :: rest).take (headLen rest + 1) = o :: rest.take (headLen rest) := rfl
   have hd : (o :: rest).drop (headLen rest + 1) = rest.drop (headLen rest) := rfl
   rw [hl, hd]
   exact ⟨b, hb, fun x => hop_mono (fun r s hh => ht_head rest _ _ hh) (h1 x), fun x => ht_head rest _ _ (h2 x)⟩
end ht
theorem draw_all {P : Program} {G : Nat -> AV} {l : List Oper} {R : Env -> AS -> Prop} {e : Env} {σ : AS} {d : Dum l.toArray} {d' : Dum R} {d2 : Dum e} {d3 : Dum σ} (hn : drawB l.toArray (headLen l) = true)
  (h : awpHT P G l σ R l e σ) : drawW P G l.toArray R e σ d d' d2 d3 := .inl ⟨[], headLen l, σ, [], rfl, hn, AS.le.refl σ, fun c hc => (by cases hc), awpHead_S _ _ _ _ (ht_head l e σ h)⟩
theorem draw_all_f {P : Program} {G : Nat -> AV} {l : List Oper} {R : Env -> AS -> Prop} {e : Env} {σ : AS} {d : Dum l.toArray} {d' : Dum R} {d2 : Dum e} {d3 : Dum σ} (fs : List (Nat × Nat)) (hf : floatsB l.toArray fs = true) (hn : drawB (edged l.toArray fs) (headLen l) = true)
  (h : awpHT P G l σ R l e σ) : drawW P G l.toArray R e σ d d' d2 d3 := .inl ⟨fs, headLen l, σ, [], hf, hn, AS.le.refl σ, fun c hc => (by cases hc), awpHead_S _ _ _ _ (ht_head l e σ h)⟩
theorem loop_keep {P : Program} (hm : P.follows .mixedOrders = true) {G : Nat -> AV} {c : Code} {Q : Exit -> Env -> AS -> Prop} {e : Env} {σ : AS} {d : Dum c} {d' : Dum Q} {d2 : Dum e} {d3 : Dum σ} (I : Nat -> Env -> Prop) (n : Nat) (h0 : I n e)
  (h1 : ∀ n v, I n (mrg (cWrites c) v e) -> awp P G (adraw P G) c (fun x e' σ' => match x with | .normal => (∃ m, m < n /\ I m e') /\ σ' = σ | x => Q x e' σ') (mrg (cWrites c) v e) σ) : loopW P G c Q e σ d d' d2 d3 :=
 loop_intro (fun n e σ' => I n e /\ σ' = σ) n ⟨h0, rfl⟩ fun n v σ' ⟨hI, hs⟩ => by
  subst hs
  refine awp_mono (drawOK hm) _ _ _ (fun x e s hx => ?_) (h1 n v hI)
  cases x with
  | normal => obtain ⟨⟨m, h1, h2⟩, h3⟩ := hx; exact ⟨m, h1, h2, h3⟩
  | _ => exact hx
end Go.Av
