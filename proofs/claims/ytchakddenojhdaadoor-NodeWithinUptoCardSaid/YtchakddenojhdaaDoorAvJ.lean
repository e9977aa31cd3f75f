/- Rows of operations, code, functions: what is to be shown on abstract values, and that it is enough. -/
import Derived.Test.YtchakddenojhdaaDoorAvI
import Derived.Orders
set_option linter.unusedVariables false
set_option linter.unusedSimpArgs false
namespace Go.Av
open Go Go.RowKit

def awanted (ops : List Oper) (e : Env) (g : Option (Nat × Bool)) : Option Bool :=
  match g with
  | none => some true
  | some (j, want) => match (ops[j]?).bind (·.dst) with
    | some t => match e t with
      | .bool b => some (b == want)
      | .tup [] => some false
      | _ => none
    | none => none

theorem VR.skipped {K : Ctx} : VR K (.tup []) Go.undef := .tup [] #[] rfl (fun j h => by cases h)
theorem awanted_sound {ops : Array Oper} {K : Ctx} {e : Env} {a : Act} {o : Oper} {b : Bool} (h : awanted ops.toList e o.guard = some b) (he : ER K e a) : Region.wanted o (yielded ops a.tmps) = b := by
  unfold awanted at h
  unfold Region.wanted
  split at h
  · rename_i hg; rw [hg]; simpa using h
  · rename_i j want hg
    rw [hg]
    simp only
    split at h
    · rename_i t ht
      split at h
      · rename_i b' hb
        simp only [Option.some.injEq] at h
        have ht' : (ops[j]?).bind (·.dst) = some t := by simpa using ht
        have hv := he t
        rw [hb, VR.bool_iff] at hv
        have hget : a.tmps[t]? = some (.bool b') := by
          cases hx : a.tmps[t]? with
          | none => simp [hx] at hv; cases hv
          | some v => simp [hx] at hv; rw [hv]
        have hy : yielded ops a.tmps j = some b' := by
          unfold yielded
          rw [ht']
          simp [hget]
        rw [hy, ← h]
        simp
      · rename_i hb
        simp only [Option.some.injEq] at h; subst h
        have ht' : (ops[j]?).bind (·.dst) = some t := by simpa using ht
        have hv := he t
        rw [hb] at hv
        have hget : ∀ b', a.tmps[t]? ≠ some (.bool b') := fun b' hx => by
          have : a.tmps.getD t Go.undef = .bool b' := by simp [Array.getD_eq_getD_getElem?, hx]
          rw [this] at hv; cases hv
        have hy : yielded ops a.tmps j = none := by
          unfold yielded
          rw [ht']
          cases hx : a.tmps[t]? with
          | none => simp [hx]
          | some v => cases v <;> first | (simp [hx]; done) | exact absurd hx (hget _)
        rw [hy]
        rfl
      · cases h
    · cases h

/-- operations one behind the other -/
def awpOps (P : Program) (G : Nat → AV) (ops : List Oper) (Q : Env → AS → Prop) : List Oper → Env → AS → Prop
  | [], e, σ => Q e σ
  | o :: rest, e, σ => ∃ b, awanted ops e o.guard = some b ∧ (b = true → aop P G o e σ fun r σ' => awpOps P G ops Q rest (e.upd o.dst r) σ') ∧
      (b = false → awpOps P G ops Q rest (e.upd o.dst (.tup [])) σ)

/-- the state of a frame, seen -/
structure St (P : Program) (G : Nat → AV) (K : Ctx) (N : Nat) (ds : List Deferred) (e : Env) (σ : AS) (a : Act) (w : World) : Prop where
  er : ER K e a
  rel : Rel G K σ w
  size : N ≤ a.tmps.size
  defers : a.defers = ds
theorem St.put {P : Program} {G : Nat → AV} {K K' : Ctx} {N : Nat} {ds : List Deferred} {e : Env} {σ σ' : AS} {a : Act} {w w' : World} (h : St P G K N ds e σ a w) (hK : K.le K') {d : Option Tmp} (hd : ∀ t, d = some t → t < N)
    {r : AV} {v : Value} (hv : VR K' r v) (hr : Rel G K' σ' w') : St P G K' N ds (e.upd d r) σ' (a.put d v) w' := by
  refine ⟨(h.er.mono hK).put (fun t ht => Nat.lt_of_lt_of_le (hd t ht) h.size) hv, hr, ?_, ?_⟩
  · cases d with
    | none => exact h.size
    | some t => simpa [Act.put] using h.size
  · cases d with
    | none => exact h.defers
    | some t => exact h.defers

/-- what came of an operation, carried on -/
theorem Outs.wp {P : Program} {G : Nat → AV} {K : Ctx} {Kc : AV → AS → Prop} {o : Oper} {a : Act} {w : World} (h : Outs P G K Kc ((execOp a.eval o).run P w)) {next : Act → World → Prop} {Q : Exit → Act → World → Prop}
    (hn : ∀ r σ' K' v w', Kc r σ' → VR K' r v → Rel G K' σ' w' → K.le K' → next (a.put o.dst v) w') : o.wp P a w next Q := by
  unfold Oper.wp
  generalize (execOp a.eval o).run P w = res at h
  unfold Outs at h
  split at h
  · obtain ⟨r, σ', K', h1, h2, h3, h4⟩ := h
    exact hn r σ' K' _ _ h1 h2 h3 h4
  · obtain ⟨σ', K', h1, h2, h3⟩ := h
    exact hn .undef σ' K' _ _ h1 (.undef _) h2 h3
  · simp only [Oper.upon]
    refine h.mono ?_
    rintro e w' ⟨v, r, σ', K', rfl, h1, h2, h3, h4⟩
    exact hn r σ' K' _ _ h1 h2 h3 h4
  · exact h.elim

def dstLt (N : Nat) (o : Oper) : Bool := match o.dst with | some t => decide (t < N) | none => true
theorem dstLt_spec {N : Nat} {o : Oper} (h : dstLt N o = true) : ∀ t, o.dst = some t → t < N := by
  intro t ht
  unfold dstLt at h
  rw [ht] at h
  simpa using h

theorem awpOps_sound {P : Program} {G : Nat → AV} {N : Nat} {ds : List Deferred} {ops : Array Oper} {Q : Env → AS → Prop} {R : Exit → Act → World → Prop} {K0 : Ctx}
    (hR : ∀ e σ K a w, Q e σ → St P G K N ds e σ a w → K0.le K → R .normal a w) :
    ∀ (l : List Oper) (e : Env) (σ : AS) (K : Ctx) (a : Act) (w : World), l.all (dstLt N) = true → awpOps P G ops.toList Q l e σ → St P G K N ds e σ a w → K0.le K → wpList P ops R l a w
  | [], e, σ, K, a, w, _, h, hs, hk => hR e σ K a w h hs hk
  | o :: rest, e, σ, K, a, w, hd, h, hs, hk => by
    simp only [List.all_cons, Bool.and_eq_true] at hd
    obtain ⟨b, hb, h1, h2⟩ := h
    have hw := awanted_sound hb hs.er
    unfold wpList
    cases b with
    | true =>
      rw [if_pos hw]
      refine .inl ((aop_sound (h1 rfl) hs.er hs.rel).wp fun r σ' K' v w' hq hv hr hle => ?_)
      exact awpOps_sound hR rest _ _ K' _ _ hd.2 hq (hs.put hle (dstLt_spec hd.1) hv hr) (hk.trans hle)
    | false =>
      rw [if_neg (by rw [hw]; simp)]
      exact awpOps_sound hR rest _ _ K _ _ hd.2 (h2 rfl) (hs.put (Ctx.le.refl K) (dstLt_spec hd.1) VR.skipped hs.rel) hk

def opsWrites (l : List Oper) : List Nat := l.filterMap (·.dst)
def cWrites : Code → List Nat
  | .region _ ops _ => opsWrites ops.toList
  | .seq a b => cWrites a ++ cWrites b
  | .cond _ a b => cWrites a ++ cWrites b
  | .block _ c => cWrites c
  | .loop c => cWrites c
  | _ => []
def cOK (N : Nat) : Code → Bool
  | .region _ ops _ => ops.toList.all (dstLt N)
  | .seq a b => cOK N a && cOK N b
  | .cond _ a b => cOK N a && cOK N b
  | .block _ c => cOK N c
  | .loop c => cOK N c
  | _ => true
def mrg (W : List Nat) (v e : Env) : Env := fun t => if W.contains t then v t else e t

section awp
variable (P : Program) (G : Nat → AV) (D : Array Oper → (Env → AS → Prop) → Env → AS → Prop)
/-- what is to be shown of a piece of code. D: of a row of operations whose order is drawn. -/
def awp : Code → (Exit → Env → AS → Prop) → Env → AS → Prop
  | .skip, Q, e, σ => Q .normal e σ
  | .label _, Q, e, σ => Q .normal e σ
  | .region _ ops false, Q, e, σ => awpOps P G ops.toList (Q .normal) ops.toList e σ
  | .region _ ops true, Q, e, σ => D ops (Q .normal) e σ
  | .seq a b, Q, e, σ => awp a (fun x e σ => match x with | .normal => awp b Q e σ | x => Q x e σ) e σ
  | .cond c a b, Q, e, σ => ∃ t, ev G e c = .bool t ∧ (t = true → awp a Q e σ) ∧ (t = false → awp b Q e σ)
  | .block id c, Q, e, σ => awp c (fun x e σ => match x with | .exit i => if i = id then Q .normal e σ else Q (.exit i) e σ | x => Q x e σ) e σ
  | .loop c, Q, e, σ => ∃ I : Nat → Env → AS → Prop, (∃ n, I n e σ) ∧ ∀ n v σ', I n (mrg (cWrites c) v e) σ' →
      awp c (fun x e' σ' => match x with | .normal => ∃ m, m < n ∧ I m e' σ' | x => Q x e' σ') (mrg (cWrites c) v e) σ'
  | .exit id, Q, e, σ => Q (.exit id) e σ
  | .ret, Q, e, σ => Q .ret e σ
  | _, _, _, _ => False
end awp

theorem Env.upd_other {e : Env} {d : Option Tmp} {r : AV} {t : Nat} (h : ∀ x, d = some x → x ≠ t) : e.upd d r t = e t := by
  cases d with
  | none => rfl
  | some x =>
    show (if t = x then r else e t) = e t
    rw [if_neg (Ne.symm (h x rfl))]

theorem aop_mono {P : Program} {G : Nat → AV} {o : Oper} {e : Env} {σ : AS} {K K' : AV → AS → Prop} (hk : ∀ r s, K r s → K' r s) (h : aop P G o e σ K) : aop P G o e σ K' := by
  unfold aop at h ⊢
  generalize o.op = op at h ⊢
  cases op <;> first | exact h.elim | exact hk _ _ h | (obtain ⟨x, h1, h2⟩ := h; exact ⟨x, h1, hk _ _ h2⟩) | skip
  case alloc E => obtain ⟨z, h1, h2⟩ := h; exact ⟨z, h1, fun b hb => hk _ _ (h2 b hb)⟩
  case box E x => exact ⟨h.1, fun b hb => hk _ _ (h.2 b hb)⟩
  case nilCheck x => exact ⟨h.1, hk _ _ h.2⟩
  case makeSlice t l c =>
    simp only at h ⊢
    unfold amake at h ⊢
    split at h
    · exact ⟨h.1, h.2.1, h.2.2.1, fun b hb => hk _ _ (h.2.2.2 b hb)⟩
    · exact h.elim
  case makeFunc fn first caps =>
    simp only at h ⊢
    split at h
    · exact hk _ _ h
    · exact h.elim
  case slice t x lo hi mx =>
    cases mx with
    | none => obtain ⟨x, h1, h2⟩ := h; exact ⟨x, h1, hk _ _ h2⟩
    | some m => exact h.elim
  case call c =>
    simp only at h ⊢
    unfold acall at h ⊢
    split at h
    · split at h
      · exact h.mono hk
      · exact h.elim
    · split at h
      · rename_i hb
        simp only [if_pos hb]
        split at h
        · unfold aappend at h ⊢
          split at h
          · refine ⟨h.1, ?_⟩
            have h2 := h.2
            split at h2
            · exact ⟨h2.1, fun x => hk _ _ (h2.2.1 x), fun x b hb => hk _ _ (h2.2.2 x b hb)⟩
            · exact ⟨h2.1, h2.2.1, fun x => hk _ _ (h2.2.2.1 x), fun x b hb => hk _ _ (h2.2.2.2 x b hb)⟩
            · exact ⟨h2.1, h2.2.1, h2.2.2.1, fun b hb => hk _ _ (h2.2.2.2 b hb)⟩
            · exact h2.elim
          · exact h.elim
        · exact h.elim
      · rename_i hb
        simp only [if_neg hb]
        obtain ⟨r, h1, h2⟩ := h
        exact ⟨r, h1, hk _ _ h2⟩
    · exact h.elim

theorem awpOps_frame {P : Program} {G : Nat → AV} {ops : List Oper} {Q : Env → AS → Prop} : ∀ (l : List Oper) (e : Env) (σ : AS), awpOps P G ops Q l e σ →
    awpOps P G ops (fun e' σ' => Q e' σ' ∧ ∀ t, t ∉ opsWrites l → e' t = e t) l e σ
  | [], e, σ, h => ⟨h, fun _ _ => rfl⟩
  | o :: rest, e, σ, h => by
    obtain ⟨b, hb, h1, h2⟩ := h
    have key : ∀ r σ', awpOps P G ops Q rest (e.upd o.dst r) σ' → awpOps P G ops (fun e' σ' => Q e' σ' ∧ ∀ t, t ∉ opsWrites (o :: rest) → e' t = e t) rest (e.upd o.dst r) σ' := by
      intro r σ' hh
      have h3 := awpOps_frame rest _ _ hh
      have mono : ∀ (l : List Oper) (Q Q' : Env → AS → Prop), (∀ e s, Q e s → Q' e s) → ∀ e s, awpOps P G ops Q l e s → awpOps P G ops Q' l e s := by
        intro l
        induction l with
        | nil => intro Q Q' hq e s h; exact hq _ _ h
        | cons o' l ih =>
          intro Q Q' hq e s h
          obtain ⟨b, hb, h1, h2⟩ := h
          exact ⟨b, hb, fun x => aop_mono (fun r s' h => ih Q Q' hq _ _ h) (h1 x), fun x => ih Q Q' hq _ _ (h2 x)⟩
      refine mono rest _ _ (fun e' s' hq => ⟨hq.1, fun t ht => ?_⟩) _ _ h3
      have ht1 : t ∉ opsWrites rest := fun hm => ht (by
        unfold opsWrites at *
        rw [List.filterMap_cons]
        split
        · exact hm
        · exact List.mem_cons_of_mem _ hm)
      rw [hq.2 t ht1]
      refine Env.upd_other fun x hx hxt => ht ?_
      unfold opsWrites
      rw [List.filterMap_cons, hx]
      subst hxt
      exact List.mem_cons_self
    exact ⟨b, hb, fun x => aop_mono (fun r s' hh => key r s' hh) (h1 x), fun x => key _ _ (h2 x)⟩

/-- what a way of meeting drawn rows must bear -/
structure DrawOK (P : Program) (G : Nat → AV) (D : Array Oper → (Env → AS → Prop) → Env → AS → Prop) : Prop where
  sound : ∀ (N : Nat) (ds : List Deferred) (id : Nat) (ops : Array Oper) (Q : Env → AS → Prop) (R : Exit → Act → World → Prop) (e : Env) (σ : AS) (K : Ctx) (a : Act) (w : World),
    ops.toList.all (dstLt N) = true → D ops Q e σ → St P G K N ds e σ a w → (∀ e σ K' a w, Q e σ → St P G K' N ds e σ a w → K.le K' → R .normal a w) → (Code.region id ops true).wp P R a w
  frame : ∀ (ops : Array Oper) (Q : Env → AS → Prop) (e : Env) (σ : AS), D ops Q e σ → D ops (fun e' σ' => Q e' σ' ∧ ∀ t, t ∉ opsWrites ops.toList → e' t = e t) e σ
  mono : ∀ (ops : Array Oper) (Q Q' : Env → AS → Prop) (e : Env) (σ : AS), (∀ e s, Q e s → Q' e s) → D ops Q e σ → D ops Q' e σ

section
variable {P : Program} {G : Nat → AV} {D : Array Oper → (Env → AS → Prop) → Env → AS → Prop}

theorem awpOps_mono {ops : List Oper} : ∀ (l : List Oper) {Q Q' : Env → AS → Prop}, (∀ e s, Q e s → Q' e s) → ∀ e s, awpOps P G ops Q l e s → awpOps P G ops Q' l e s
  | [], _, _, hq, e, s, h => hq _ _ h
  | o :: l, _, _, hq, e, s, ⟨b, hb, h1, h2⟩ => ⟨b, hb, fun x => aop_mono (fun r s' h => awpOps_mono l hq _ _ h) (h1 x), fun x => awpOps_mono l hq _ _ (h2 x)⟩

theorem awp_mono (hD : DrawOK P G D) : ∀ (c : Code) {Q Q' : Exit → Env → AS → Prop} (e : Env) (σ : AS), (∀ x e s, Q x e s → Q' x e s) → awp P G D c Q e σ → awp P G D c Q' e σ := by
  intro c
  induction c with
  | skip => intro Q Q' e σ hq h; exact hq _ _ _ h
  | label l => intro Q Q' e σ hq h; exact hq _ _ _ h
  | region id ops d =>
    intro Q Q' e σ hq h
    cases d with
    | false => exact awpOps_mono _ (fun e s h => hq _ _ _ h) _ _ h
    | true => exact hD.mono _ _ _ _ _ (fun e s h => hq _ _ _ h) h
  | seq a b iha ihb =>
    intro Q Q' e σ hq h
    refine iha e σ (fun x e s hx => ?_) h
    cases x <;> first | exact ihb _ _ hq hx | exact hq _ _ _ hx
  | cond c a b iha ihb =>
    intro Q Q' e σ hq h
    obtain ⟨t, ht, h1, h2⟩ := h
    exact ⟨t, ht, fun x => iha _ _ hq (h1 x), fun x => ihb _ _ hq (h2 x)⟩
  | block id c ih =>
    intro Q Q' e σ hq h
    refine ih e σ (fun x e s hx => ?_) h
    cases x <;> first | exact hq _ _ _ hx | skip
    simp only at hx ⊢
    split at hx
    · rename_i hi; rw [if_pos hi]; exact hq _ _ _ hx
    · rename_i hi; rw [if_neg hi]; exact hq _ _ _ hx
  | loop c ih =>
    intro Q Q' e σ hq h
    obtain ⟨I, h0, h1⟩ := h
    refine ⟨I, h0, fun n v σ' hI => ih _ _ (fun x e s hx => ?_) (h1 n v σ' hI)⟩
    cases x <;> first | exact hx | exact hq _ _ _ hx
  | exit id => intro Q Q' e σ hq h; exact hq _ _ _ h
  | ret => intro Q Q' e σ hq h; exact hq _ _ _ h
  | rangeFunc f ps a b _ _ => intro Q Q' e σ hq h; exact h.elim
  | scope c _ => intro Q Q' e σ hq h; exact h.elim
  | goto l => intro Q Q' e σ hq h; exact h.elim
  | refuse w => intro Q Q' e σ hq h; exact h.elim

theorem awp_frame (hD : DrawOK P G D) : ∀ (c : Code) {Q : Exit → Env → AS → Prop} (e : Env) (σ : AS), awp P G D c Q e σ →
    awp P G D c (fun x e' σ' => Q x e' σ' ∧ ∀ t, t ∉ cWrites c → e' t = e t) e σ := by
  intro c
  induction c with
  | skip => intro Q e σ h; exact ⟨h, fun _ _ => rfl⟩
  | label l => intro Q e σ h; exact ⟨h, fun _ _ => rfl⟩
  | region id ops d =>
    intro Q e σ h
    cases d with
    | false => exact awpOps_frame _ _ _ h
    | true => exact hD.frame _ _ _ _ h
  | seq a b iha ihb =>
    intro Q e σ h
    refine awp_mono hD a e σ (fun x e' s hx => ?_) (iha e σ h)
    obtain ⟨hx, hw⟩ := hx
    cases x with
    | normal =>
      refine awp_mono hD b e' s (fun y e'' s' hy => ⟨hy.1, fun t ht => ?_⟩) (ihb e' s hx)
      simp only [cWrites, List.mem_append, not_or] at ht
      rw [hy.2 t ht.2, hw t ht.1]
    | _ => exact ⟨hx, fun t ht => hw t (fun hm => ht (by simp only [cWrites, List.mem_append]; exact .inl hm))⟩
  | cond c a b iha ihb =>
    intro Q e σ h
    obtain ⟨t, ht, h1, h2⟩ := h
    refine ⟨t, ht, fun x => awp_mono hD a e σ (fun y e' s hy => ⟨hy.1, fun t ht => hy.2 t (fun hm => ht (by simp only [cWrites, List.mem_append]; exact .inl hm))⟩) (iha _ _ (h1 x)),
      fun x => awp_mono hD b e σ (fun y e' s hy => ⟨hy.1, fun t ht => hy.2 t (fun hm => ht (by simp only [cWrites, List.mem_append]; exact .inr hm))⟩) (ihb _ _ (h2 x))⟩
  | block id c ih =>
    intro Q e σ h
    refine awp_mono hD c e σ (fun x e' s hx => ?_) (ih e σ h)
    obtain ⟨hx, hw⟩ := hx
    cases x <;> first | exact ⟨hx, hw⟩ | skip
    simp only at hx ⊢
    split at hx
    · rename_i hi; rw [if_pos hi]; exact ⟨hx, hw⟩
    · rename_i hi; rw [if_neg hi]; exact ⟨hx, hw⟩
  | loop c ih =>
    intro Q e σ h
    obtain ⟨I, h0, h1⟩ := h
    have hmrg : ∀ v t, t ∉ cWrites c → mrg (cWrites c) v e t = e t := by
      intro v t ht
      unfold mrg
      rw [if_neg (by simpa using ht)]
    refine ⟨I, h0, fun n v σ' hI => ?_⟩
    refine awp_mono hD c _ _ (fun x e' s hx => ?_) (ih _ _ (h1 n v σ' hI))
    obtain ⟨hx, hw⟩ := hx
    have hx2 : ∀ t, t ∉ cWrites (Code.loop c) → e' t = e t := fun t ht => (hw t ht).trans (hmrg v t ht)
    cases x <;> first | exact hx | exact ⟨hx, hx2⟩
  | exit id => intro Q e σ h; exact ⟨h, fun _ _ => rfl⟩
  | ret => intro Q e σ h; exact ⟨h, fun _ _ => rfl⟩
  | rangeFunc f ps a b _ _ => intro Q e σ h; exact h.elim
  | scope c _ => intro Q e σ h; exact h.elim
  | goto l => intro Q e σ h; exact h.elim
  | refuse w => intro Q e σ h; exact h.elim

/-- WHAT IS SHOWN ON ABSTRACT VALUES HOLDS ON THE MACHINE. -/
theorem awp_sound (hD : DrawOK P G D) (N : Nat) (ds : List Deferred) : ∀ (c : Code) (Q : Exit → Env → AS → Prop) (e : Env) (σ : AS) (K : Ctx) (a : Act) (w : World), cOK N c = true → awp P G D c Q e σ → St P G K N ds e σ a w →
    c.wp P (fun x a' w' => ∃ e' σ' K', Q x e' σ' ∧ St P G K' N ds e' σ' a' w' ∧ K.le K') a w := by
  intro c
  induction c with
  | skip => intro Q e σ K a w _ h hs; exact wp_skip ⟨e, σ, K, h, hs, Ctx.le.refl K⟩
  | label l => intro Q e σ K a w _ h hs; exact wp_label ⟨e, σ, K, h, hs, Ctx.le.refl K⟩
  | region id ops d =>
    intro Q e σ K a w hok h hs
    cases d with
    | false =>
      refine wp_region_list ?_
      exact awpOps_sound (K0 := K) (fun e' σ' K' a' w' hq hs' hk => ⟨e', σ', K', hq, hs', hk⟩) ops.toList e σ K a w hok h hs (Ctx.le.refl K)
    | true => exact hD.sound N ds id ops _ _ e σ K a w hok h hs (fun e' σ' K' a' w' hq hs' hk => ⟨e', σ', K', hq, hs', hk⟩)
  | seq x y ihx ihy =>
    intro Q e σ K a w hok h hs
    simp only [cOK, Bool.and_eq_true] at hok
    refine wp_seq (wp_mono (ihx _ e σ K a w hok.1 h hs) ?_)
    intro ex a' w' ⟨e', σ', K', hq, hs', hk⟩
    cases ex with
    | normal =>
      refine wp_mono (ihy Q e' σ' K' a' w' hok.2 hq hs') ?_
      intro ex2 a2 w2 ⟨e2, σ2, K2, hq2, hs2, hk2⟩
      exact ⟨e2, σ2, K2, hq2, hs2, hk.trans hk2⟩
    | _ => exact ⟨e', σ', K', hq, hs', hk⟩
  | cond c x y ihx ihy =>
    intro Q e σ K a w hok h hs
    simp only [cOK, Bool.and_eq_true] at hok
    obtain ⟨t, ht, h1, h2⟩ := h
    have hc := hs.er.eval hs.rel c
    rw [ht, VR.bool_iff] at hc
    cases t with
    | true => exact wp_cond_true hc (ihx Q e σ K a w hok.1 (h1 rfl) hs)
    | false => exact wp_cond_false hc (ihy Q e σ K a w hok.2 (h2 rfl) hs)
  | block id c ih =>
    intro Q e σ K a w hok h hs
    refine wp_block (wp_mono (ih _ e σ K a w hok h hs) ?_)
    intro ex a' w' ⟨e', σ', K', hq, hs', hk⟩
    cases ex <;> first | exact ⟨e', σ', K', hq, hs', hk⟩ | skip
    rename_i i
    simp only [Exit.inBlock] at hq ⊢
    split at hq
    · rename_i hi; rw [if_pos hi]; exact ⟨e', σ', K', hq, hs', hk⟩
    · rename_i hi; rw [if_neg hi]; exact ⟨e', σ', K', hq, hs', hk⟩
  | loop c ih =>
    intro Q e σ K a w hok h hs
    obtain ⟨I, ⟨n0, h0⟩, h1⟩ := h
    refine wp_loop_ghost (fun n a' w' => ∃ e' σ' K', I n e' σ' ∧ St P G K' N ds e' σ' a' w' ∧ K.le K' ∧ ∀ t, t ∉ cWrites c → e' t = e t) n0 ⟨e, σ, K, h0, hs, Ctx.le.refl K, fun _ _ => rfl⟩ ?_
    intro n a' w' ⟨e', σ', K', hI, hs', hk, hw⟩
    have hm : mrg (cWrites c) e' e = e' := by
      funext t
      unfold mrg
      split
      · rfl
      · rename_i ht; exact (hw t (by simpa using ht)).symm
    have h2 := h1 n e' σ' (by rw [hm]; exact hI)
    rw [hm] at h2
    refine wp_mono (ih _ e' σ' K' a' w' hok (awp_frame hD c _ _ h2) hs') ?_
    intro ex a2 w2 ⟨e2, σ2, K2, ⟨hq, hw2⟩, hs2, hk2⟩
    cases ex with
    | normal =>
      obtain ⟨m, hm, hIm⟩ := hq
      exact ⟨m, hm, e2, σ2, K2, hIm, hs2, hk.trans hk2, fun t ht => (hw2 t ht).trans (hw t ht)⟩
    | _ => exact ⟨e2, σ2, K2, hq, hs2, hk.trans hk2⟩
  | exit id => intro Q e σ K a w _ h hs; exact wp_exit ⟨e, σ, K, h, hs, Ctx.le.refl K⟩
  | ret => intro Q e σ K a w _ h hs; exact wp_ret ⟨e, σ, K, h, hs, Ctx.le.refl K⟩
  | rangeFunc f ps a b _ _ => intro Q e σ K a w _ h hs; exact h.elim
  | scope c _ => intro Q e σ K a w _ h hs; exact h.elim
  | goto l => intro Q e σ K a w _ h hs; exact h.elim
  | refuse w => intro Q e σ K a w _ h hs; exact h.elim
end
end Go.Av
