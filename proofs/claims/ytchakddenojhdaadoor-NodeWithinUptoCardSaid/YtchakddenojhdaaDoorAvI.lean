/- What a call is said to do, on abstract values; one operation; a row of operations. -/
import Derived.Test.YtchakddenojhdaaDoorAvH2
set_option linter.unusedVariables false
set_option linter.unusedSimpArgs false
namespace Go.Av
open Go Go.RowKit

def callable (P : Program) (k : FuncId) : Bool :=
  match P.funcs[k]? with
  | some fn => !(fn.name == "runtime.NumGoroutine") && fn.body.isSome
  | none => false

/-- called with these, in this state, it returns, and what it returns, with the state behind it, is as Q says -/
def Tri (P : Program) (G : Nat → AV) (f : FuncId) (args : List AV) (σ : AS) (Q : AV → AS → Prop) : Prop :=
  callable P f = true ∧ ∀ (K : Ctx) (w : World) (vals : List Value), Rel G K σ w → VRl K args vals →
    Calls P f vals.toArray w fun e w' => ∃ v r σ' K', e = .returned v ∧ Q r σ' ∧ VR K' r v ∧ Rel G K' σ' w' ∧ K.le K'

theorem Tri.mono {P : Program} {G : Nat → AV} {f : FuncId} {args : List AV} {σ : AS} {Q Q' : AV → AS → Prop} (h : Tri P G f args σ Q) (hq : ∀ r σ', Q r σ' → Q' r σ') : Tri P G f args σ Q' :=
  ⟨h.1, fun K w vals hr hv => (h.2 K w vals hr hv).mono fun e w' ⟨v, r, σ', K', he, hQ, h1⟩ => ⟨v, r, σ', K', he, hq _ _ hQ, h1⟩⟩

def pairs (G : Nat → AV) (e : Env) (ps : List (Nat × Operand)) : List (Nat × AV) := ps.map fun p => (p.1, ev G e p.2)

def acall (P : Program) (G : Nat → AV) (e : Env) (σ : AS) (Kc : AV → AS → Prop) (c : Callee) (args : List Operand) (ts : List TypeId) : Prop :=
  match c with
  | .value f => (match ev G e f with
      | .fn k caps => Tri P G k (args.map (ev G e) ++ caps) σ Kc
      | _ => False)
  | .builtin b => if b = .append then (match args, ts with
      | [s, x], [t, tx] => aappend P σ t tx (ev G e s) (ev G e x) Kc
      | _, _ => False)
    else ∃ r, ablt P b ts.toArray (args.map (ev G e)) = some r ∧ Kc r σ
  | .invoke _ _ => False

def aop (P : Program) (G : Nat → AV) (o : Oper) (e : Env) (σ : AS) (Kc : AV → AS → Prop) : Prop :=
  match o.op with
  | .move x => Kc (ev G e x) σ
  | .assign x => Kc (ev G e x) σ
  | .pick c a b => ∃ t, ev G e c = .bool t ∧ Kc (if t = true then ev G e a else ev G e b) σ
  | .alloc E => ∃ z, zc P E = some z ∧ ∀ b, σ.fresh b → Kc (.ptr b 0) (σ.setBox b z)
  | .box E x => isv (ev G e x) = true ∧ ∀ b, σ.fresh b → Kc (.ptr b 0) (σ.setBox b (flat (ev G e x)))
  | .build t ps => ∃ r, abuild P t (pairs G e ps.toList) = some r ∧ Kc r σ
  | .buildSlice t n ps => ∃ r, abuildSlice P t n (pairs G e ps.toList) = some r ∧ Kc r σ
  | .load t x => ∃ r, aload P σ t (ev G e x) = some r ∧ Kc r σ
  | .store t p x => ∃ σ', astore P σ t (ev G e p) (ev G e x) = some σ' ∧ Kc .undef σ'
  | .nilCheck x => (match ev G e x with | .ptr .. => True | .rp .. => True | .fn .. => True | _ => False) ∧ Kc (ev G e x) σ
  | .binOp op t x y _ => ∃ r, abin P op t (ev G e x) (ev G e y) = some r ∧ Kc r σ
  | .unOp op _ x => ∃ r, aun op (ev G e x) = some r ∧ Kc r σ
  | .convert s d x => ∃ r, aconvW P s d (ev G e x) = some r ∧ Kc r σ
  | .makeFunc fn first caps => (match fn, first.toList with
      | .func f, [] => Kc (.fn f (caps.toList.map (ev G e))) σ
      | _, _ => False)
  | .slice t x lo hi none => ∃ r, aslice P t (ev G e x) (lo.map (ev G e)) (hi.map (ev G e)) = some r ∧ Kc r σ
  | .fieldAddr t x i => ∃ r, afield P t (ev G e x) i = some r ∧ Kc r σ
  | .field t x i => ∃ r, afieldv P t (ev G e x) i = some r ∧ Kc r σ
  | .indexAddr t x i => ∃ r, aindexA P t (ev G e x) (ev G e i) = some r ∧ Kc r σ
  | .index t x i => ∃ r, aindex P t (ev G e x) (ev G e i) = some r ∧ Kc r σ
  | .extract x i => ∃ r, aextract (ev G e x) i = some r ∧ Kc r σ
  | .call c => acall P G e σ Kc c.callee c.args.toList c.argTypes.toList
  | .makeSlice t l c => amake P σ t (ev G e l) (ev G e c) Kc
  | _ => False

/-- what came of an operation -/
def Outs (P : Program) (G : Nat → AV) (K : Ctx) (Kc : AV → AS → Prop) : Result Next → Prop
  | .ok (.value v) w' => ∃ r σ' K', Kc r σ' ∧ VR K' r v ∧ Rel G K' σ' w' ∧ K.le K'
  | .ok .skip w' => ∃ σ' K', Kc .undef σ' ∧ Rel G K' σ' w' ∧ K.le K'
  | .ok (.enter f args) w' => Calls P f args w' fun e w'' => ∃ v r σ' K', e = .returned v ∧ Kc r σ' ∧ VR K' r v ∧ Rel G K' σ' w'' ∧ K.le K'
  | _ => False

theorem Outs.value {P : Program} {G : Nat → AV} {K : Ctx} {Kc : AV → AS → Prop} {s : Sem Value} {w : World} {σ : AS} {r : AV} (hr : Rel G K σ w) (hK : Kc r σ)
    (h : ∃ z, s.run P w = .ok z w ∧ VR K r z) : Outs P G K Kc ((do pure (.value (← s)) : Sem Next).run P w) := by
  obtain ⟨z, h1, h2⟩ := h
  simp only [Sem.run_bind, h1, Result.andThen_ok, Sem.run_pure]
  exact ⟨r, σ, K, hK, h2, hr, Ctx.le.refl K⟩
theorem Outs.value' {P : Program} {G : Nat → AV} {K : Ctx} {Kc : AV → AS → Prop} {s : Sem Value} {w w' : World} {z : Value} (h1 : s.run P w = .ok z w')
    (h : ∃ r σ' K', Kc r σ' ∧ VR K' r z ∧ Rel G K' σ' w' ∧ K.le K') : Outs P G K Kc ((do pure (.value (← s)) : Sem Next).run P w) := by
  simp only [Sem.run_bind, h1, Result.andThen_ok, Sem.run_pure]
  exact h

theorem VRp.map {K : Ctx} {G : Nat → AV} {σ : AS} {w : World} {e : Env} {a : Act} (h : ER K e a) (hr : Rel G K σ w) : ∀ (l : List (Nat × Operand)), VRp K (pairs G e l) (l.map fun p => (p.1, a.eval p.2))
  | [] => trivial
  | (i, x) :: l => ⟨rfl, h.eval hr x, VRp.map h hr l⟩

theorem aop_sound {P : Program} {G : Nat → AV} {K : Ctx} {σ : AS} {w : World} {e : Env} {a : Act} {o : Oper} {Kc : AV → AS → Prop} (h : aop P G o e σ Kc) (he : ER K e a) (hr : Rel G K σ w) :
    Outs P G K Kc ((execOp a.eval o).run P w) := by
  unfold aop at h
  unfold execOp
  split at h
  · rename_i x hop; rw [hop]
    exact ⟨_, σ, K, h, he.eval hr x, hr, Ctx.le.refl K⟩
  · rename_i x hop; rw [hop]
    exact ⟨_, σ, K, h, he.eval hr x, hr, Ctx.le.refl K⟩
  · rename_i c x y hop; rw [hop]
    obtain ⟨t, ht, hK⟩ := h
    have hc := he.eval hr c
    rw [ht, VR.bool_iff] at hc
    simp only [hc, asBool, Sem.run_bind, Sem.run_pure, Result.andThen_ok]
    refine ⟨_, σ, K, hK, ?_, hr, Ctx.le.refl K⟩
    cases t
    · exact he.eval hr y
    · exact he.eval hr x
  · rename_i E hop; rw [hop]
    obtain ⟨z, hz, hK⟩ := h
    obtain ⟨h1, h2⟩ := alloc_sound hr hz
    exact Outs.value' h1 ⟨_, _, K, hK _ (hr.fresh (Nat.le_refl _)), .ptr _ _, h2, Ctx.le.refl K⟩
  · rename_i E x hop; rw [hop]
    obtain ⟨h1, hK⟩ := h
    obtain ⟨h2, h3⟩ := box_sound (P := P) hr E (he.eval hr x) h1
    exact Outs.value' h2 ⟨_, _, K, hK _ (hr.fresh (Nat.le_refl _)), .ptr _ _, h3, Ctx.le.refl K⟩
  · rename_i t ps hop; rw [hop]
    obtain ⟨r, h1, hK⟩ := h
    have := abuild_sound (w := w) h1 (VRp.map he hr ps.toList)
    have e1 : (ps.toList.map fun p => (p.1, a.eval p.2)).toArray = ps.map fun (x : Nat × Operand) => match x with | (i, x) => (i, a.eval x) := by
      apply Array.ext'; simp
    rw [e1] at this
    exact Outs.value hr hK this
  · rename_i t n ps hop; rw [hop]
    obtain ⟨r, h1, hK⟩ := h
    obtain ⟨z, w', K', h2, h3, h4, h5⟩ := abuildSlice_sound hr h1 (VRp.map he hr ps.toList)
    have e1 : (ps.toList.map fun p => (p.1, a.eval p.2)).toArray = ps.map fun (x : Nat × Operand) => match x with | (i, x) => (i, a.eval x) := by
      apply Array.ext'; simp
    rw [e1] at h2
    exact Outs.value' h2 ⟨r, σ, K', hK, h5, h4, h3⟩
  · rename_i t x hop; rw [hop]
    obtain ⟨r, h1, hK⟩ := h
    exact Outs.value hr hK (aload_sound hr h1 (he.eval hr x))
  · rename_i t p x hop; rw [hop]
    obtain ⟨σ', h1, hK⟩ := h
    obtain ⟨w', h2, h3⟩ := astore_sound hr h1 (he.eval hr p) (he.eval hr x)
    simp only [Sem.run_bind, h2, Result.andThen_ok, Sem.run_pure]
    exact ⟨σ', K, hK, h3, Ctx.le.refl K⟩
  · rename_i x hop; rw [hop]
    obtain ⟨h1, hK⟩ := h
    have hv := he.eval hr x
    have hx : ∀ v, a.eval x = v → (∃ p, v = .pointer (some p)) ∨ (∃ f vs, v = .func (.func f) #[] vs) → VR K (ev G e x) v → Outs P G K Kc (Result.ok (Next.value v) w) := fun v _ _ hv => ⟨_, σ, K, hK, hv, hr, Ctx.le.refl K⟩
    generalize hy : ev G e x = y at h1 hv
    generalize hz : a.eval x = v at hv
    cases y <;> simp only at h1
    case ptr b o =>
      rw [VR.ptr_iff] at hv; subst hv
      simp only [hz]
      exact hx _ hz (.inl ⟨_, rfl⟩) (hy ▸ .ptr b o)
    case rp cs =>
      have hv' := hv
      cases hv with
      | rp _ b off f h2 h3 h4 =>
        simp only [hz]
        exact hx _ hz (.inl ⟨_, rfl⟩) (hy ▸ hv')
    case fn f caps =>
      have hv' := hv
      cases hv with
      | fn _ _ vs h2 h3 =>
        simp only [hz]
        exact hx _ hz (.inr ⟨_, _, rfl⟩) (hy ▸ hv')
  · rename_i op t x y yt hop; rw [hop]
    obtain ⟨r, h1, hK⟩ := h
    exact Outs.value hr hK (abin_sound h1 (he.eval hr x) (he.eval hr y) x y)
  · rename_i op t x hop; rw [hop]
    obtain ⟨r, h1, hK⟩ := h
    exact Outs.value hr hK (aun_sound h1 (he.eval hr x))
  · rename_i s d x hop; rw [hop]
    obtain ⟨r, h1, hK⟩ := h
    obtain ⟨z, w', K', h2, h3, h4, h5⟩ := aconvW_sound hr h1 (he.eval hr x)
    exact Outs.value' h2 ⟨r, σ, K', hK, h5, h4, h3⟩
  · rename_i fn first caps hop; rw [hop]
    split at h
    case h_2 => exact h.elim
    rename_i f hfirst
    have hl := VRl.map he hr caps.toList
    have hf0 : first = #[] := by apply Array.ext'; simpa using hfirst
    subst hf0
    refine Outs.value' (z := .func (.func f) #[] (caps.map a.eval)) (w' := w) (by simp [Instr.makeFunc]) ⟨_, σ, K, h, .fn f _ _ (by simp) (fun j hj => ?_), hr, Ctx.le.refl K⟩
    have := hl.get j hj
    simpa [Array.getD_eq_getD_getElem?, List.getD_eq_getElem?_getD] using this
  · rename_i t x lo hi hop; rw [hop]
    obtain ⟨r, h1, hK⟩ := h
    refine Outs.value hr hK (aslice_sound h1 (he.eval hr x) (vlo := lo.map a.eval) (vhi := hi.map a.eval) ?_ ?_ ?_ ?_)
    · intro b hb; cases lo with
      | none => cases hb
      | some l => simp only [Option.map_some, Option.some.injEq] at hb; subst hb; exact ⟨_, rfl, he.eval hr l⟩
    · intro hb; cases lo with | none => rfl | some l => cases hb
    · intro b hb; cases hi with
      | none => cases hb
      | some l => simp only [Option.map_some, Option.some.injEq] at hb; subst hb; exact ⟨_, rfl, he.eval hr l⟩
    · intro hb; cases hi with | none => rfl | some l => cases hb
  · rename_i t x i hop; rw [hop]
    obtain ⟨r, h1, hK⟩ := h
    exact Outs.value hr hK (afield_sound h1 (he.eval hr x))
  · rename_i t x i hop; rw [hop]
    obtain ⟨r, h1, hK⟩ := h
    exact Outs.value hr hK (afieldv_sound h1 (he.eval hr x))
  · rename_i t x i hop; rw [hop]
    obtain ⟨r, h1, hK⟩ := h
    exact Outs.value hr hK (aindexA_sound hr.imm h1 (he.eval hr x) (he.eval hr i))
  · rename_i t x i hop; rw [hop]
    obtain ⟨r, h1, hK⟩ := h
    exact Outs.value hr hK (aindex_sound h1 (he.eval hr x) (he.eval hr i))
  · rename_i x i hop; rw [hop]
    obtain ⟨r, h1, hK⟩ := h
    exact Outs.value hr hK (aextract_sound h1 (he.eval hr x))
  · rename_i c hop; rw [hop]
    obtain ⟨callee, args, ts⟩ := c
    change Outs P G K Kc (Sem.run P (do let d ← resolve a.eval { callee := callee, args := args, argTypes := ts } o.type; invoke d.target d.args) w)
    cases callee with
    | value f =>
      simp only [acall] at h
      split at h
      case h_2 => exact h.elim
      rename_i k caps hf
      have hv := he.eval hr f
      rw [hf] at hv
      generalize hfe : a.eval f = fv at hv
      cases hv with
      | fn _ _ vs hl hvv =>
        obtain ⟨hc, hT⟩ := h
        have hargs : VRl K (args.toList.map (ev G e) ++ caps) (args.toList.map a.eval ++ vs.toList) := by
          refine VRl.append (VRl.map he hr args.toList) (VRl.of (by simpa using hl.symm) (fun j hj => ?_))
          have := hvv j hj
          simpa [Array.getD_eq_getD_getElem?, List.getD_eq_getElem?_getD] using this
        have hcall := hT K w _ hr hargs
        have e1 : (args.toList.map a.eval ++ vs.toList).toArray = args.map a.eval ++ vs := by apply Array.ext'; simp
        rw [e1] at hcall
        unfold callable at hc
        split at hc
        case h_2 => cases hc
        rename_i fn hfn
        simp only [Bool.and_eq_true, Bool.not_eq_true'] at hc
        have hb : fn.body.isNone = false := by cases hx : fn.body with | none => rw [hx] at hc; simp at hc | some _ => rfl
        have hrun : ((do let d ← resolve a.eval { callee := .value f, args := args, argTypes := ts } o.type; invoke d.target d.args : Sem Next)).run P w = .ok (.enter k (args.map a.eval ++ vs)) w := by
          have hn1 : ¬ (fn.name = "runtime.NumGoroutine") := by have := hc.1; simpa using this
          have hn2 : ¬ (fn.body = none) := by intro hx; rw [hx] at hb; cases hb
          simp [resolve, hfe, Deferred.ofValue, invoke, callFunc, hfn, hn1, hn2]
        rw [hrun]
        exact hcall
    | builtin b =>
      simp only [acall] at h
      by_cases hb : b = .append
      · rw [if_pos hb] at h
        subst hb
        split at h
        case h_2 => exact h.elim
        rename_i s x t tx hargs hts
        obtain ⟨z, w', K', r, σ', h1, h2, h3, h4, h5⟩ := aappend_sound (ty := o.type) hr h (he.eval hr s) (he.eval hr x)
        have ea : args = #[s, x] := by apply Array.ext'; simpa using hargs
        have et : ts = #[t, tx] := by apply Array.ext'; simpa using hts
        subst ea et
        have hrun : ((do let d ← resolve a.eval { callee := .builtin .append, args := #[s, x], argTypes := #[t, tx] } o.type; invoke d.target d.args : Sem Next)).run P w = .ok (.value z) w' := by
          simp [resolve, invoke, builtin, h1]
        rw [hrun]
        exact ⟨r, σ', K', h5, h4, h3, h2⟩
      · rw [if_neg hb] at h
        obtain ⟨r, h1, hK⟩ := h
        obtain ⟨z, h2, h3⟩ := ablt_sound (P := P) (w := w) (ty := o.type) (cn := args.map fun | .const _ => true | _ => false) h1 (VRl.map he hr args.toList)
        have e1 : (args.toList.map a.eval).toArray = args.map a.eval := by apply Array.ext'; simp
        have e2 : ts.toList.toArray = ts := by simp
        rw [e1, e2] at h2
        have hrun : ((do let d ← resolve a.eval { callee := .builtin b, args := args, argTypes := ts } o.type; invoke d.target d.args : Sem Next)).run P w = .ok (.value z) w := by
          simp only [resolve, invoke, Sem.run_bind, Sem.run_pure, Result.andThen_ok]
          exact h2
        rw [hrun]
        exact ⟨r, σ, K, hK, h3, hr, Ctx.le.refl K⟩
    | invoke r m => exact h.elim
  · rename_i t l c hop; rw [hop]
    obtain ⟨z, w', K', r, σ', h1, h2, h3, h4, h5⟩ := amake_sound hr h (he.eval hr l) (he.eval hr c)
    exact Outs.value' h1 ⟨r, σ', K', h5, h4, h3, h2⟩
  · exact h.elim
end Go.Av
