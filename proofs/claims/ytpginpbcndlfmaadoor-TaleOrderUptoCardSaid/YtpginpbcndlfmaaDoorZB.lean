/- Rows of operations whose order is drawn: one walk in the text's order serves every order. -/
import Derived.Test.YtpginpbcndlfmaaDoorZA
import Derived.StillTail
import Derived.Laws.ResultCell
import Derived.ProofKit
import Derived.OpenShut
import Derived.Deep.DeepHandedRow
import Derived.Below
import Derived.ChangeSame
import Derived.DataShut
import Derived.HandedShaped
set_option linter.unusedVariables false
set_option linter.unusedSimpArgs false
namespace Go.Av
open Go Go.RowKit

/-- called with these, whatever else stands in memory: this is told, and the state stays -/
def PureC (P : Program) (G : Nat → AV) (f : FuncId) (args : List AV) (σ0 : AS) (v : AV) : Prop :=
  ∀ σ, σ0.le σ → Tri P G f args σ fun r σ' => r = v ∧ σ' = σ

def isAlloc (o : Oper) : Bool := match o.op with | .alloc _ => true | .box _ _ => true | _ => false
def hcall (P : Program) (G : Nat → AV) (e : Env) (σ0 σ : AS) (Kc : AV → AS → Prop) (c : Callee) (args : List Operand) (ts : List TypeId) : Prop :=
  match c with
  | .value f => (match ev G e f with
      | .fn k caps => ∃ v, PureC P G k (args.map (ev G e) ++ caps) σ0 v ∧ Kc v σ
      | _ => False)
  | .builtin b => if b = .append then False else ∃ r, ablt P b ts.toArray (args.map (ev G e)) = some r ∧ Kc r σ
  | .invoke _ _ => False
/-- an operation of a drawn row's head -/
theorem astore_at {P : Program} {σ σ' : AS} {t : TypeId} {b off : Nat} {x : AV} {z : List AV} (h : astore P σ t (.ptr b off) x = some (σ.setBox b z)) (hb : σ'.box b = σ.box b) : astore P σ' t (.ptr b off) x = some (σ'.setBox b z) := by
  have inj : ∀ xs ys : List AV, σ.setBox b xs = σ.setBox b ys → xs = ys := fun xs ys h => by
    have h1 : (σ.setBox b xs).box b = (σ.setBox b ys).box b := by rw [h]
    simpa [AS.setBox] using h1
  unfold astore at h ⊢
  cases htk : tk P t with
  | none => simp only [htk] at h; cases h
  | some y =>
    obtain ⟨ag, n⟩ := y
    simp only [htk] at h ⊢
    cases hbx : σ.box b with
    | none => simp only [hbx] at h; cases h
    | some cs =>
      rw [hbx] at hb
      simp only [hbx] at h
      simp only [hb]
      split at h
      · rename_i hc
        simp only [Option.some.injEq] at h
        have := inj _ _ h
        rw [if_pos hc, this]
      · cases h

/-- a store that leaves things as they are -/
def sameSt (P : Program) (σ0 : AS) (t : TypeId) (p x : AV) : Prop := ∃ b off z, p = .ptr b off ∧ σ0.box b = some z ∧ astore P σ0 t (.ptr b off) x = some (σ0.setBox b z)
theorem setBox_id {σ : AS} {b : Nat} {z : List AV} (h : σ.box b = some z) : σ.setBox b z = σ := by
  unfold AS.setBox; cases σ with
  | mk box tip ty =>
    simp only [AS.mk.injEq, and_true]
    funext i
    split
    · rename_i e; subst e; exact h.symm
    · rfl
theorem sameSt_at {P : Program} {σ0 σ : AS} (hl : σ0.le σ) {t : TypeId} {p x : AV} (h : sameSt P σ0 t p x) : astore P σ t p x = some σ := by
  obtain ⟨b, off, z, rfl, hb, ha⟩ := h
  have hb' := hl.box _ _ hb
  rw [astore_at ha (by rw [hb, hb']), setBox_id hb']
def hop (P : Program) (G : Nat → AV) (o : Oper) (e : Env) (σ0 σ : AS) (Kc : AV → AS → Prop) : Prop :=
  match o.op with
  | .store t p x => sameSt P σ0 t (ev G e p) (ev G e x) ∧ Kc .undef σ
  | .makeSlice .. => False
  | .call c => hcall P G e σ0 σ Kc c.callee c.args.toList c.argTypes.toList
  | .alloc E => ∃ z, zc P E = some z ∧ ∀ b, σ.fresh b → Kc (.ptr b 0) (σ.setBox b z)
  | .box E x => isv (ev G e x) = true ∧ ∀ b, σ.fresh b → Kc (.ptr b 0) (σ.setBox b (flat (ev G e x)))
  | _ => aop P G o e σ0 fun r _ => Kc r σ

inductive Knd where
  | quiet (v : AV)
  | alloc (z : List AV)
  | write (b : Nat) (z0 z : List AV)
def Knd.out : Knd → AS → AV → AS → Prop
  | .quiet v, σ, r, σ' => r = v ∧ σ' = σ
  | .alloc z, σ, r, σ' => ∃ b, σ.fresh b ∧ r = .ptr b 0 ∧ σ' = σ.setBox b z
  | .write b _ z, σ, r, σ' => r = .undef ∧ σ' = σ.setBox b z
/-- what must stand there -/
def Knd.pre : Knd → AS → Prop
  | .write b z0 _, σ => σ.box b = some z0
  | _, _ => True
def Knd.isW : Knd → Bool
  | .write .. => true
  | _ => false
/-- it writes what may still be written -/
def Knd.ok (σi : AS) (av : List Nat) : Knd → Prop
  | .write b z0 _ => b ∈ av ∧ σi.box b = some z0
  | _ => True
def Knd.rest (av : List Nat) : Knd → List Nat
  | .write b _ _ => av.filter fun c => decide (c ≠ b)
  | _ => av
theorem Knd.pre_of {k : Knd} (h : k.isW = false) (σ : AS) : k.pre σ := by cases k <;> first | trivial | cases h
theorem Knd.ok_of {k : Knd} (h : k.isW = false) {σi : AS} {av : List Nat} : k.ok σi av := by cases k <;> first | trivial | cases h
theorem Knd.rest_of {k : Knd} (h : k.isW = false) {av : List Nat} : k.rest av = av := by cases k <;> first | rfl | cases h
def isStore (o : Oper) : Bool := match o.op with | .store .. => true | _ => false
def Does (P : Program) (G : Nat → AV) (o : Oper) (e : Env) (σ0 : AS) (k : Knd) : Prop :=
  ∀ σ, σ0.le σ → k.pre σ → ∀ Kc : AV → AS → Prop, (∀ r σ', k.out σ r σ' → Kc r σ') → aop P G o e σ Kc

theorem aload_mono {P : Program} {σ0 σ : AS} (h : σ0.le σ) {t : TypeId} {p r : AV} (k : aload P σ0 t p = some r) : aload P σ t p = some r := by
  unfold aload at k ⊢
  split at k
  · cases k
  · cases p <;> simp only at k ⊢ <;> first | exact k | skip
    split at k
    · rename_i cs hb; rw [h.box _ _ hb]; exact k
    · cases k

theorem aconvZ_mono {P : Program} {σ0 σ : AS} (h : σ0.le σ) {s d : TypeId} {x r : AV} (k : aconvZ P σ0 s d x = some r) : aconvZ P σ s d x = some r := by
  unfold aconvZ at k ⊢
  split at k
  · exact k
  · exact k
  · rename_i b n q F0
    split at k
    · rename_i hc
      rw [if_pos hc]
      cases hb : σ0.box b with
      | none => rw [hb] at k; cases k
      | some cs => rw [hb] at k; rw [h.box _ _ hb]; exact k
    · cases k
  · exact k

theorem hop_does {P : Program} {G : Nat → AV} {o : Oper} {e : Env} {σ0 σ : AS} {Kc : AV → AS → Prop} (h : hop P G o e σ0 σ Kc) :
    ∃ k, Does P G o e σ0 k ∧ k.isW = false ∧ (isAlloc o = false → ∃ v, k = .quiet v) ∧ ∀ r σ', k.out σ r σ' → Kc r σ' := by
  have q : ∀ v, (∀ σ', σ0.le σ' → ∀ Kc : AV → AS → Prop, Kc v σ' → aop P G o e σ' Kc) → Kc v σ → ∃ k, Does P G o e σ0 k ∧ k.isW = false ∧ (isAlloc o = false → ∃ v, k = .quiet v) ∧ ∀ r σ', k.out σ r σ' → Kc r σ' :=
    fun v h1 h2 => ⟨.quiet v, fun σ' hl _ Kc hk => h1 σ' hl Kc (hk _ _ ⟨rfl, rfl⟩), rfl, fun _ => ⟨v, rfl⟩, fun r σ' ⟨hr, hs⟩ => by subst hr hs; exact h2⟩
  unfold hop at h
  split at h
  · rename_i t p x hop
    refine q .undef (fun σ' hl Kc hK => ?_) h.2
    unfold aop; rw [hop]
    exact ⟨σ', sameSt_at hl h.1, hK⟩
  · exact h.elim
  · rename_i c hop
    unfold hcall at h
    split at h
    · rename_i f hf
      split at h
      · rename_i k caps hk
        obtain ⟨v, h1, h2⟩ := h
        refine q v (fun σ' hl Kc hK => ?_) h2
        unfold aop; rw [hop]
        simp only [acall, hf, hk]
        exact (h1 σ' hl).mono fun r s ⟨hr, hs⟩ => by subst hr hs; exact hK
      · exact h.elim
    · rename_i b hb
      split at h
      · exact h.elim
      · rename_i hne
        obtain ⟨r, h1, h2⟩ := h
        refine q r (fun σ' hl Kc hK => ?_) h2
        unfold aop; rw [hop]
        have hne2 : ¬ b = .unsafeString := fun e => by subst e; simp [ablt] at h1
        simp only [acall, hb, if_neg hne, if_neg hne2]
        exact ⟨r, h1, hK⟩
    · exact h.elim
  · rename_i E hop
    obtain ⟨z, hz, h1⟩ := h
    refine ⟨.alloc z, fun σ' hl _ Kc hk => ?_, rfl, (fun hi => by unfold isAlloc at hi; rw [hop] at hi; cases hi), fun r σ' ⟨b, hb, hr, hs⟩ => by subst hr hs; exact h1 b hb⟩
    unfold aop; rw [hop]
    exact ⟨z, hz, .inl fun b hb => hk _ _ ⟨b, hb, rfl, rfl⟩⟩
  · rename_i E x hop
    obtain ⟨hx, h1⟩ := h
    refine ⟨.alloc (flat (ev G e x)), fun σ' hl _ Kc hk => ?_, rfl, (fun hi => by unfold isAlloc at hi; rw [hop] at hi; cases hi), fun r σ' ⟨b, hb, hr, hs⟩ => by subst hr hs; exact h1 b hb⟩
    unfold aop; rw [hop]
    exact ⟨hx, fun b hb => hk _ _ ⟨b, hb, rfl, rfl⟩⟩
  · rename_i _ n1 n0 n2 n3 n4 
    unfold aop at h
    split at h
    case h_4 x hop => exact absurd hop (n3 _)
    case h_5 x y hop => exact absurd hop (n4 _ _)
    case h_9 x y z hop => exact absurd hop (n1 _ _ _)
    case h_21 x hop => exact absurd hop (n2 _)
    case h_1 x hop => exact q _ (fun σ' hl Kc hK => by unfold aop; rw [hop]; exact hK) h
    case h_2 x hop => exact q _ (fun σ' hl Kc hK => by unfold aop; rw [hop]; exact hK) h
    case h_3 c x y hop =>
      obtain ⟨t, ht, h1⟩ := h
      exact q _ (fun σ' hl Kc hK => by unfold aop; rw [hop]; exact ⟨t, ht, hK⟩) h1
    case h_8 t x hop =>
      obtain ⟨r, h1, h2⟩ := h
      exact q r (fun σ' hl Kc hK => by unfold aop; rw [hop]; exact ⟨r, aload_mono hl h1, hK⟩) h2
    case h_10 x hop =>
      obtain ⟨h1, h2⟩ := h
      exact q _ (fun σ' hl Kc hK => by unfold aop; rw [hop]; exact ⟨h1, hK⟩) h2
    case h_14 fn first caps hop =>
      split at h
      · rename_i f hf
        exact q _ (fun σ' hl Kc hK => by unfold aop; rw [hop]; simp only [hf]; exact hK) h
      · exact h.elim
    case h_22 x y z hop => exact absurd hop (n0 _ _ _)
    case h_13 s d x hop =>
      obtain ⟨r, h1, h2⟩ := h
      exact q r (fun σ' hl Kc hK => by unfold aop; rw [hop]; exact ⟨r, aconvZ_mono hl h1, hK⟩) h2
    case h_23 => exact h.elim
    all_goals
      (rename_i hop
       obtain ⟨r, h1, h2⟩ := h
       exact q r (fun σ' hl Kc hK => by unfold aop; rw [hop]; exact ⟨r, h1, hK⟩) h2)

/-- the head, in the text's order -/
def awpHead (P : Program) (G : Nat → AV) (ops : List Oper) (σ0 : AS) (L : Env → AS → Prop) : List Oper → Env → AS → Prop
  | [], e, σ => L e σ
  | o :: rest, e, σ => ∃ b, awanted ops e o.guard = some b ∧ (b = true → hop P G o e σ0 σ fun r σ' => awpHead P G ops σ0 L rest (e.upd o.dst r) σ') ∧
      (b = false → awpHead P G ops σ0 L rest (e.upd o.dst (.tup [])) σ)

/-- an operation of a head that may write boxes, each of them once -/
def hopS (P : Program) (G : Nat → AV) (o : Oper) (e : Env) (σ0 σ : AS) (av : List Nat) (Kc : AV → AS → List Nat → Prop) : Prop :=
  match o.op with
  | .store t p x => (∃ b off z0 z, ev G e p = .ptr b off ∧ b ∈ av ∧ σ.box b = some z0 ∧ astore P σ t (.ptr b off) (ev G e x) = some (σ.setBox b z) ∧ Kc .undef (σ.setBox b z) (av.filter fun c => decide (c ≠ b))) ∨
      (sameSt P σ0 t (ev G e p) (ev G e x) ∧ Kc .undef σ av)
  | _ => hop P G o e σ0 σ fun r σ' => Kc r σ' av
def awpHeadS (P : Program) (G : Nat → AV) (ops : List Oper) (σ0 : AS) (L : Env → AS → Prop) : List Oper → Env → AS → List Nat → Prop
  | [], e, σ, _ => L e σ
  | o :: rest, e, σ, av => ∃ b, awanted ops e o.guard = some b ∧ (b = true → hopS P G o e σ0 σ av fun r σ' av' => awpHeadS P G ops σ0 L rest (e.upd o.dst r) σ' av') ∧
      (b = false → awpHeadS P G ops σ0 L rest (e.upd o.dst (.tup [])) σ av)
section any
variable {P : Program} {G : Nat → AV} {ops : Array Oper} {σ0 σi : AS} {md : Region.Mode}

def Yld (P : Program) (G : Nat → AV) (ops : Array Oper) (σ0 : AS) (o : Oper) (e : Env) (k : Knd) : Prop :=
  (awanted ops.toList e o.guard = some true ∧ Does P G o e σ0 k ∧ (isStore o = false → k.isW = false)) ∨ (awanted ops.toList e o.guard = some false ∧ k = .quiet (.tup []))
def tOp (P : Program) (G : Nat → AV) (ops : Array Oper) (σ0 σi : AS) (i : Nat) (K : Env → AS → List Nat → Prop) (e : Env) (σ : AS) (av : List Nat) : Prop :=
  ∃ o k, ops[i]? = some o ∧ Yld P G ops σ0 o e k ∧ k.ok σi av ∧ ∀ r σ', k.out σ r σ' → K (e.upd o.dst r) σ' (k.rest av)

theorem ev_upd {e : Env} {d : Option Tmp} {r : AV} {x : Operand} (h : ∀ t, d = some t → x ≠ .tmp t) : ev G (e.upd d r) x = ev G e x := by
  cases x with
  | tmp t => exact Env.upd_other fun y hy hyt => h y hy (by rw [hyt])
  | _ => rfl
theorem Env.upd_comm {e : Env} {x y : Option Tmp} (v u : AV) (h : ∀ d, x = some d → y ≠ some d) : (e.upd x v).upd y u = (e.upd y u).upd x v := by
  cases x with
  | none => rfl
  | some d =>
    cases y with
    | none => rfl
    | some c =>
      have hne : d ≠ c := fun he => h d rfl (by rw [he])
      funext j
      show (if j = c then u else if j = d then v else e j) = (if j = d then v else if j = c then u else e j)
      by_cases h1 : j = c
      · rw [if_pos h1, if_neg (by rw [h1]; exact Ne.symm hne), if_pos h1]
      · rw [if_neg h1, if_neg h1]

theorem aop_congr {o : Oper} {e e' : Env} {σ : AS} {K : AV → AS → Prop} (h : ∀ x, x ∈ o.op.operands → ev G e x = ev G e' x) (hh : aop P G o e σ K) : aop P G o e' σ K := by
  have pr : ∀ ps : List (Nat × Operand), (∀ x, x ∈ ps.map (·.2) → ev G e x = ev G e' x) → pairs G e ps = pairs G e' ps := fun ps hp =>
    List.map_congr_left fun p hm => by rw [hp p.2 (List.mem_map.2 ⟨p, hm, rfl⟩)]
  unfold aop at hh ⊢
  generalize o.op = op at h hh ⊢
  cases op <;> simp only [Op.operands] at h <;> first | exact hh.elim | skip
  case build t ps => simp only at hh ⊢; rw [← pr ps.toList fun x hx => h x (by simpa using hx)]; exact hh
  case buildSlice t n ps => simp only at hh ⊢; rw [← pr ps.toList fun x hx => h x (by simpa using hx)]; exact hh
  case move x => simp only at hh ⊢; rw [← h x (by simp)]; exact hh
  case assign x => simp only at hh ⊢; rw [← h x (by simp)]; exact hh
  case pick c x y => simp only at hh ⊢; rw [← h c (by simp), ← h x (by simp), ← h y (by simp)]; exact hh
  case alloc E => exact hh
  case box E x => simp only at hh ⊢; rw [← h x (by simp)]; exact hh
  case load t x => simp only at hh ⊢; rw [← h x (by simp)]; exact hh
  case store t p x => simp only at hh ⊢; rw [← h p (by simp), ← h x (by simp)]; exact hh
  case nilCheck x => simp only at hh ⊢; rw [← h x (by simp)]; exact hh
  case binOp op t x y yt => simp only at hh ⊢; rw [← h x (by simp), ← h y (by simp)]; exact hh
  case unOp op t x => simp only at hh ⊢; rw [← h x (by simp)]; exact hh
  case convert s d x => simp only at hh ⊢; rw [← h x (by simp)]; exact hh
  case fieldAddr t x i => simp only at hh ⊢; rw [← h x (by simp)]; exact hh
  case field t x i => simp only at hh ⊢; rw [← h x (by simp)]; exact hh
  case indexAddr t x y => simp only at hh ⊢; rw [← h x (by simp), ← h y (by simp)]; exact hh
  case index t x y => simp only at hh ⊢; rw [← h x (by simp), ← h y (by simp)]; exact hh
  case extract x i => simp only at hh ⊢; rw [← h x (by simp)]; exact hh
  case makeSlice t x y => simp only at hh ⊢; rw [← h x (by simp), ← h y (by simp)]; exact hh
  case makeFunc fn first caps =>
    have e1 : caps.toList.map (ev G e) = caps.toList.map (ev G e') := List.map_congr_left fun x hx => h x (by simp at hx ⊢; exact .inr hx)
    simp only [← e1]
    exact hh
  case slice t x lo hi mx =>
    cases mx with
    | some m => exact hh.elim
    | none =>
      have hx := h x (by simp)
      have hlo : lo.map (ev G e) = lo.map (ev G e') := by cases lo with | none => rfl | some l => simp only [Option.map_some]; rw [h l (by simp)]
      have hhi : hi.map (ev G e) = hi.map (ev G e') := by cases hi with | none => rfl | some l => simp only [Option.map_some]; rw [h l (by simp)]
      simp only [← hx, ← hlo, ← hhi]
      exact hh
  case call c =>
    obtain ⟨callee, args, ts⟩ := c
    simp only [Call.operands] at h
    have e1 : args.toList.map (ev G e) = args.toList.map (ev G e') := List.map_congr_left fun x hx => h x (by simp at hx ⊢; exact .inr hx)
    cases callee with
    | value f =>
      have hf := h f (by simp)
      simp only [acall] at hh ⊢
      rw [← hf, ← e1]
      exact hh
    | builtin b =>
      simp only [acall] at hh ⊢
      split at hh
      · rename_i hb
        rw [if_pos hb]
        split at hh
        · rename_i s x t tx hargs hts
          rw [← h s (by have : s ∈ args.toList := by rw [hargs]; simp
                        simp at this ⊢; exact this), ← h x (by have : x ∈ args.toList := by rw [hargs]; simp
                                                               simp at this ⊢; exact this)]
          exact hh
        · exact hh.elim
      · rename_i hb
        rw [if_neg hb, ← e1]
        split at hh
        · rename_i hb2
          rw [if_pos hb2]
          split at hh
          · rename_i s x t tx hargs hts
            rw [← h s (by have : s ∈ args.toList := by rw [hargs]; simp
                          simp at this ⊢; exact this), ← h x (by have : x ∈ args.toList := by rw [hargs]; simp
                                                                 simp at this ⊢; exact this)]
            exact hh
          · exact hh.elim
        · rename_i hb2
          rw [if_neg hb2]
          exact hh
    | invoke r m => exact hh.elim

theorem Does.put {o : Oper} {e : Env} {k : Knd} {d : Option Tmp} {r : AV} (h : ∀ t, d = some t → t ∉ o.looksAt ops) : Does P G o (e.upd d r) σ0 k ↔ Does P G o e σ0 k := by
  have key : ∀ x, x ∈ o.op.operands → ev G (e.upd d r) x = ev G e x := fun x hx => ev_upd fun t ht hxt => h t ht (by
    subst hxt
    exact List.mem_append_left _ (List.mem_filterMap.2 ⟨.tmp t, by simpa using hx, rfl⟩))
  exact ⟨fun hd σ hl hp Kc hk => aop_congr key (hd σ hl hp Kc hk), fun hd σ hl hp Kc hk => aop_congr (fun x hx => (key x hx).symm) (hd σ hl hp Kc hk)⟩
theorem awanted_put {o : Oper} {e : Env} {d : Option Tmp} {r : AV} (h : ∀ t, d = some t → t ∉ o.looksAt ops) : awanted ops.toList (e.upd d r) o.guard = awanted ops.toList e o.guard := by
  unfold awanted
  cases hg : o.guard with
  | none => rfl
  | some gw =>
    obtain ⟨j, want⟩ := gw
    simp only
    cases ht : (ops.toList[j]?).bind (·.dst) with
    | none => rfl
    | some t =>
      have : e.upd d r t = e t := Env.upd_other fun x hx hxt => h x hx (by
        subst hxt
        unfold Oper.looksAt
        refine List.mem_append_right _ ?_
        rw [hg]
        have ht' : (ops[j]?).bind (·.dst) = some x := by simpa using ht
        simp [ht'])
      simp only [this]
theorem Yld.put {o : Oper} {e : Env} {k : Knd} {d : Option Tmp} {r : AV} (h : ∀ t, d = some t → t ∉ o.looksAt ops) : Yld P G ops σ0 o (e.upd d r) k ↔ Yld P G ops σ0 o e k := by
  unfold Yld
  rw [awanted_put h, Does.put h]

def awpAnyL (P : Program) (G : Nat → AV) (md : Region.Mode) (ops : Array Oper) (σ0 σi : AS) (L : Array Bool → Env → AS → Prop) : Nat → Array Bool → Env → AS → List Nat → Prop
  | 0, listed, e, σ, _ => L listed e σ
  | f + 1, listed, e, σ, av => Region.ready md ops listed ≠ [] ∧ ∀ i ∈ Region.ready md ops listed, tOp P G ops σ0 σi i (awpAnyL P G md ops σ0 σi L f (listed.setIfInBounds i true)) e σ av
/-- what may still be written stands as it stood -/
def AvOk (σ0 σi σ : AS) (av : List Nat) : Prop := ∀ c, c ∈ av → σ.box c = σi.box c ∧ (σi.box c).isSome = true ∧ σ0.box c = none
theorem AvOk.fresh_ne {σ : AS} {av : List Nat} (h : AvOk σ0 σi σ av) {b c : Nat} (hb : b ∈ av) (hc : σ.fresh c) : c ≠ b := fun e => by
  subst e
  obtain ⟨h1, h2, _⟩ := h c hb
  rw [← h1, hc.1] at h2; cases h2
theorem AvOk.out {k : Knd} {σ σ' : AS} {r : AV} {av : List Nat} (h : AvOk σ0 σi σ av) (hk : k.out σ r σ') : AvOk σ0 σi σ' (k.rest av) := by
  cases k with
  | quiet v => obtain ⟨_, rfl⟩ := hk; exact h
  | alloc z =>
    obtain ⟨b, hb, _, rfl⟩ := hk
    intro c hc
    obtain ⟨h1, h2, h3⟩ := h c hc
    refine ⟨?_, h2, h3⟩
    have := h.fresh_ne hc hb
    simp only [AS.setBox, if_neg (Ne.symm this)]; exact h1
  | write b z0 z =>
    obtain ⟨_, rfl⟩ := hk
    intro c hc
    simp only [Knd.rest, List.mem_filter, decide_eq_true_eq] at hc
    obtain ⟨h1, h2, h3⟩ := h c hc.1
    exact ⟨by simp only [AS.setBox, if_neg hc.2]; exact h1, h2, h3⟩

/-- an operation that may come up now, and yields one value, may be taken first -/
theorem awpAnyL_first {n i : Nat} {oi : Oper} {v : AV} {L : Array Bool → Env → AS → Prop} (hi : ops[i]? = some oi)
    (hdone : ∀ listed e s, L listed e s → ∀ j ∈ Region.ready md ops listed, n ≤ j)
    (htw : ∀ listed, HeadInv md ops n listed → listed.getD i true = false → ∀ t, n ≤ t → t ∉ Region.ready md ops listed) (hin : i < n) :
    ∀ (f : Nat) (listed : Array Bool) (e : Env) (σ : AS) (av : List Nat), HeadInv md ops n listed →
      (∀ j oj, ops[j]? = some oj → j ≠ i → listed.getD j true = false → (∀ e ∈ oj.after, Region.binds md e = true → e.on ≠ i) → oi.apart ops oj = true) →
      i ∈ Region.ready md ops listed → Yld P G ops σ0 oi e (.quiet v) →
      awpAnyL P G md ops σ0 σi L f (listed.setIfInBounds i true) (e.upd oi.dst v) σ av → awpAnyL P G md ops σ0 σi L (f + 1) listed e σ av := by
  intro f
  induction f with
  | zero =>
    intro listed e σ av inv _ hr hy H
    have hun := (mem_ready.1 hr).1
    refine ⟨fun h => (by rw [h] at hr; cases hr), fun j hj => ?_⟩
    by_cases hji : j = i
    · subst hji; exact ⟨oi, _, hi, hy, trivial, fun r s ⟨h1, h2⟩ => by subst h1 h2; exact H⟩
    · have h1 := hdone _ _ _ H j (ready_mono hj hji)
      exact absurd hj (htw listed inv hun j h1)
  | succ f ih =>
    intro listed e σ av inv hfree hr hy H
    have hun := (mem_ready.1 hr).1
    refine ⟨fun h => (by rw [h] at hr; cases hr), fun j hj => ?_⟩
    have hjn : j < n := by
      rcases Nat.lt_or_ge j n with h | h
      · exact h
      · exact absurd hj (htw listed inv hun j h)
    by_cases hji : j = i
    · subst hji; exact ⟨oi, _, hi, hy, trivial, fun r s ⟨h1, h2⟩ => by subst h1 h2; exact H⟩
    · obtain ⟨oj, kj, hoj, hyj, hokj, hnext⟩ := H.2 j (ready_mono hj hji)
      obtain ⟨hjun, oj', hoj', hall⟩ := mem_ready.1 hj
      have : oj' = oj := Option.some.inj (hoj'.symm.trans hoj)
      subst this
      have hnot : ∀ e ∈ oj'.after, Region.binds md e = true → e.on ≠ i := fun e he hb heq => by
        have h1 := hall e he hb
        rw [heq, getD_both hun] at h1
        cases h1
      have hap := hfree j oj' hoj hji hjun hnot
      obtain ⟨a1, a2, a3⟩ := Oper.apart_spec hap
      have hfree' : ∀ k ok, ops[k]? = some ok → k ≠ i → (listed.setIfInBounds j true).getD k true = false →
          (∀ e ∈ ok.after, Region.binds md e = true → e.on ≠ i) → oi.apart ops ok = true := fun k ok hk hki hun hno => by
        refine hfree k ok hk hki ?_ hno
        by_cases hjk : j = k
        · subst hjk; exact hjun
        · rw [getD_set_ne true hjk] at hun; exact hun
      refine ⟨oj', kj, hoj, (Yld.put a1).1 hyj, hokj, fun r s hrs => ?_⟩
      refine ih (listed.setIfInBounds j true) _ _ _ (inv.set hj hjn) hfree' (ready_mono hr (Ne.symm hji)) ((Yld.put a3).2 hy) ?_
      rw [Array.setIfInBounds_comm _ _ hji, ← Env.upd_comm v r a2]
      exact hnext r s hrs

theorem Knd.out_le {k : Knd} {σ σ' : AS} {r : AV} {av : List Nat} (h : σ0.le σ) (hav : AvOk σ0 σi σ av) (hok : k.ok σi av) (hk : k.out σ r σ') : σ0.le σ' := by
  cases k with
  | write b z0 z => rw [hk.2]; exact h.setBox (hav b hok.1).2.2 z
  | quiet v => rw [hk.2]; exact h
  | alloc z => obtain ⟨b, hb, _, rfl⟩ := hk; exact h.setBox (h.fresh hb).1 z

/-- there is always a number that is free -/
def Inf (σ : AS) : Prop := ∃ n, ∀ b, n ≤ b → σ.fresh b
theorem Inf.setBox {σ : AS} (h : Inf σ) (b : Nat) (cs : List AV) : Inf (σ.setBox b cs) := by
  obtain ⟨n, hn⟩ := h
  refine ⟨max n (b + 1), fun c hc => ?_⟩
  have h1 := hn c (by omega)
  have hne : c ≠ b := by omega
  exact ⟨by simp only [AS.setBox, if_neg hne]; exact h1.1, h1.2.1, h1.2.2⟩
theorem Inf.out {σ σ' : AS} {k : Knd} {r : AV} (h : Inf σ) (ho : k.out σ r σ') : Inf σ' := by
  cases k with
  | quiet v => obtain ⟨_, rfl⟩ := ho; exact h
  | alloc z => obtain ⟨b, _, _, rfl⟩ := ho; exact h.setBox b z
  | write b z0 z => obtain ⟨_, rfl⟩ := ho; exact h.setBox b z
theorem fresh_setBox {σ : AS} {b c : Nat} {cs : List AV} : (σ.setBox c cs).fresh b ↔ σ.fresh b ∧ b ≠ c := by
  unfold AS.fresh AS.setBox
  simp only
  by_cases h : b = c
  · simp [h]
  · simp [h]
theorem AS.setBox_comm {σ : AS} {b c : Nat} (h : b ≠ c) (xs ys : List AV) : (σ.setBox b xs).setBox c ys = (σ.setBox c ys).setBox b xs := by
  unfold AS.setBox
  congr 1
  funext i
  show (if i = c then some ys else if i = b then some xs else σ.box i) = (if i = b then some xs else if i = c then some ys else σ.box i)
  by_cases h1 : i = c
  · rw [if_pos h1, if_neg (by rw [h1]; exact Ne.symm h), if_pos h1]
  · rw [if_neg h1, if_neg h1]
/-- a variable that is made plainly has no type told -/
theorem not_typed {σ : AS} {k : Knd} {b : Nat} {z : List AV} {x : TypeId × Nat} {r : AV} (hb : σ.fresh b) : ¬ k.out σ r ((σ.setBox b z).setTy b x) := by
  intro h
  have hty : ((σ.setBox b z).setTy b x).ty b = some x := by simp [AS.setTy]
  cases k with
  | quiet v =>
    obtain ⟨_, h2⟩ := h
    rw [h2, hb.2.2] at hty
    cases hty
  | alloc z' =>
    obtain ⟨c, _, _, h2⟩ := h
    rw [h2] at hty
    have : (σ.setBox c z').ty b = σ.ty b := rfl
    rw [this, hb.2.2] at hty
    cases hty
  | write c z0 z' =>
    obtain ⟨_, h2⟩ := h
    rw [h2] at hty
    have : (σ.setBox c z').ty b = σ.ty b := rfl
    rw [this, hb.2.2] at hty
    cases hty
/-- what an operation that makes a variable puts there -/
theorem alloc_kind {o : Oper} {e : Env} {k : Knd} (ha : isAlloc o = true) (hw : k.isW = false) (hd : Does P G o e σ0 k) : ∃ z, Does P G o e σ0 (.alloc z) ∧ ∀ σ r σ', σ0.le σ → (Knd.alloc z).out σ r σ' → k.out σ r σ' := by
  unfold isAlloc at ha
  split at ha
  · rename_i E hop
    have h0 := hd σ0 (AS.le.refl σ0) (k.pre_of hw _) (fun r s => True) (fun _ _ _ => trivial)
    unfold aop at h0
    rw [hop] at h0
    obtain ⟨z, hz, _⟩ := h0
    refine ⟨z, fun σ hl _ Kc hk => ?_, fun σ r σ' hl ⟨b, hb, hr, hs⟩ => ?_⟩
    · unfold aop; rw [hop]
      exact ⟨z, hz, .inl fun b hb => hk _ _ ⟨b, hb, rfl, rfl⟩⟩
    · have h1 := hd σ hl (k.pre_of hw _) (fun r s => k.out σ r s) (fun r s h => h)
      unfold aop at h1
      rw [hop] at h1
      obtain ⟨z', hz', h2⟩ := h1
      rw [hz] at hz'
      obtain rfl := Option.some.inj hz'
      subst hr hs
      rcases h2 with h2 | h2
      · exact h2 b hb
      · exact absurd (h2 b hb) (not_typed hb)
  · rename_i E x hop
    have h0 := hd σ0 (AS.le.refl σ0) (k.pre_of hw _) (fun r s => True) (fun _ _ _ => trivial)
    unfold aop at h0
    rw [hop] at h0
    refine ⟨flat (ev G e x), fun σ hl _ Kc hk => ?_, fun σ r σ' hl ⟨b, hb, hr, hs⟩ => ?_⟩
    · unfold aop; rw [hop]
      exact ⟨h0.1, fun b hb => hk _ _ ⟨b, hb, rfl, rfl⟩⟩
    · have h1 := hd σ hl (k.pre_of hw _) (fun r s => k.out σ r s) (fun r s h => h)
      unfold aop at h1
      rw [hop] at h1
      subst hr hs
      exact h1.2 b hb
  · cases ha
theorem alloc_yld {o : Oper} {e : Env} {k : Knd} (ha : isAlloc o = true) (hg : o.guard = none) (hd : Yld P G ops σ0 o e k) : ∃ z, Yld P G ops σ0 o e (.alloc z) ∧ ∀ σ r σ', σ0.le σ → (Knd.alloc z).out σ r σ' → k.out σ r σ' := by
  have hns : isStore o = false := by
    unfold isAlloc at ha
    unfold isStore
    split at ha <;> simp_all
  rcases hd with ⟨h1, h2, h5⟩ | ⟨h1, _⟩
  · obtain ⟨z, h3, h4⟩ := alloc_kind ha (h5 hns) h2
    exact ⟨z, .inl ⟨h1, h3, fun _ => rfl⟩, h4⟩
  · rw [hg] at h1; cases h1

theorem setBox_inj {σ : AS} {b : Nat} {xs ys : List AV} (h : σ.setBox b xs = σ.setBox b ys) : xs = ys := by
  have h1 : (σ.setBox b xs).box b = (σ.setBox b ys).box b := by rw [h]
  simpa [AS.setBox] using h1
theorem alloc_same {o : Oper} {e : Env} {b : Nat} {z1 z2 : List AV} (hb : σ0.fresh b) (ha : isAlloc o = true) (h1 : Does P G o e σ0 (.alloc z1)) (h2 : Does P G o e σ0 (.alloc z2)) : z1 = z2 := by
  have key : ∀ z, Does P G o e σ0 (.alloc z) → ∀ z', (∀ Kc : AV → AS → Prop, aop P G o e σ0 Kc → ∀ b, σ0.fresh b → Kc (.ptr b 0) (σ0.setBox b z')) → z = z' := by
    intro z hd z' hz'
    have h3 := hz' _ (hd σ0 (AS.le.refl σ0) trivial (fun r s => (Knd.alloc z).out σ0 r s) (fun r s h => h)) b hb
    obtain ⟨c, _, h4, h5⟩ := h3
    have : b = c := by injection h4
    subst this
    exact (setBox_inj h5).symm
  unfold isAlloc at ha
  split at ha
  · rename_i E hop
    have h0 := h1 σ0 (AS.le.refl σ0) trivial (fun r s => True) (fun _ _ _ => trivial)
    unfold aop at h0
    rw [hop] at h0
    obtain ⟨z, hz, _⟩ := h0
    have hk : ∀ Kc : AV → AS → Prop, aop P G o e σ0 Kc → (∀ b, σ0.fresh b → Kc (.ptr b 0) (σ0.setBox b z)) ∨ (∀ b, σ0.fresh b → Kc (.ptr b 0) ((σ0.setBox b z).setTy b (E, z.length))) := fun Kc hh => by
      unfold aop at hh; rw [hop] at hh
      obtain ⟨z', hz', h6⟩ := hh
      rw [hz] at hz'
      obtain rfl := Option.some.inj hz'
      exact h6
    have hk2 : ∀ z', Does P G o e σ0 (.alloc z') → z' = z := fun z' hd => by
      rcases hk _ (hd σ0 (AS.le.refl σ0) trivial (fun r s => (Knd.alloc z').out σ0 r s) (fun r s h => h)) with h6 | h6
      · obtain ⟨c, _, h4, h5⟩ := h6 b hb
        have : b = c := by injection h4
        subst this
        exact (setBox_inj h5).symm
      · exact absurd (h6 b hb) (not_typed (k := .alloc z') hb)
    rw [hk2 z1 h1, hk2 z2 h2]
  · rename_i E x hop
    have hk : ∀ Kc : AV → AS → Prop, aop P G o e σ0 Kc → ∀ b, σ0.fresh b → Kc (.ptr b 0) (σ0.setBox b (flat (ev G e x))) := fun Kc hh b hb => by
      unfold aop at hh; rw [hop] at hh
      exact hh.2 b hb
    rw [key z1 h1 _ hk, key z2 h2 _ hk]
  · cases ha
/-- an operation that may come up now, and writes a box that no other touches, may be taken first -/
theorem awpAnyL_write {n i : Nat} {oi : Oper} {b : Nat} {z0 z : List AV} {L : Array Bool → Env → AS → Prop} (hi : ops[i]? = some oi)
    (hdone : ∀ listed e s, L listed e s → ∀ j ∈ Region.ready md ops listed, n ≤ j)
    (htw : ∀ listed, HeadInv md ops n listed → listed.getD i true = false → ∀ t, n ≤ t → t ∉ Region.ready md ops listed) (hin : i < n) (hz0 : σi.box b = some z0) :
    ∀ (f : Nat) (listed : Array Bool) (e : Env) (σ : AS) (av : List Nat), HeadInv md ops n listed → AvOk σ0 σi σ av → b ∈ av →
      (∀ j oj, ops[j]? = some oj → j ≠ i → listed.getD j true = false → (∀ e ∈ oj.after, Region.binds md e = true → e.on ≠ i) → oi.apart ops oj = true) →
      i ∈ Region.ready md ops listed → Yld P G ops σ0 oi e (.write b z0 z) →
      awpAnyL P G md ops σ0 σi L f (listed.setIfInBounds i true) (e.upd oi.dst .undef) (σ.setBox b z) (av.filter fun c => decide (c ≠ b)) → awpAnyL P G md ops σ0 σi L (f + 1) listed e σ av := by
  intro f
  induction f with
  | zero =>
    intro listed e σ av inv hav hb _ hr hy H
    have hun := (mem_ready.1 hr).1
    refine ⟨fun h => (by rw [h] at hr; cases hr), fun j hj => ?_⟩
    by_cases hji : j = i
    · subst hji; exact ⟨oi, _, hi, hy, ⟨hb, hz0⟩, fun r s ⟨h1, h2⟩ => by subst h1 h2; exact H⟩
    · have h1 := hdone _ _ _ H j (ready_mono hj hji)
      exact absurd hj (htw listed inv hun j h1)
  | succ f ih =>
    intro listed e σ av inv hav hb hfree hr hy H
    have hun := (mem_ready.1 hr).1
    refine ⟨fun h => (by rw [h] at hr; cases hr), fun j hj => ?_⟩
    have hjn : j < n := by
      rcases Nat.lt_or_ge j n with h | h
      · exact h
      · exact absurd hj (htw listed inv hun j h)
    by_cases hji : j = i
    · subst hji; exact ⟨oi, _, hi, hy, ⟨hb, hz0⟩, fun r s ⟨h1, h2⟩ => by subst h1 h2; exact H⟩
    · obtain ⟨oj, kj, hoj, hyj, hokj, hnext⟩ := H.2 j (ready_mono hj hji)
      obtain ⟨hjun, oj', hoj', hall⟩ := mem_ready.1 hj
      have : oj' = oj := Option.some.inj (hoj'.symm.trans hoj)
      subst this
      have hnot : ∀ e ∈ oj'.after, Region.binds md e = true → e.on ≠ i := fun e he hb heq => by
        have h1 := hall e he hb
        rw [heq, getD_both hun] at h1
        cases h1
      have hap := hfree j oj' hoj hji hjun hnot
      obtain ⟨a1, a2, a3⟩ := Oper.apart_spec hap
      have hfree' : ∀ k ok, ops[k]? = some ok → k ≠ i → (listed.setIfInBounds j true).getD k true = false →
          (∀ e ∈ ok.after, Region.binds md e = true → e.on ≠ i) → oi.apart ops ok = true := fun k ok hk hki hun hno => by
        refine hfree k ok hk hki ?_ hno
        by_cases hjk : j = k
        · subst hjk; exact hjun
        · rw [getD_set_ne true hjk] at hun; exact hun
      have hokj' : kj.ok σi av := by
        cases kj with
        | write b' y0 y => exact ⟨(List.mem_filter.1 hokj.1).1, hokj.2⟩
        | _ => trivial
      have hbr : b ∈ kj.rest av := by
        cases kj with
        | write b' y0 y =>
          have := (List.mem_filter.1 hokj.1).2
          simp only [decide_eq_true_eq] at this
          simp only [Knd.rest, List.mem_filter, decide_eq_true_eq]
          exact ⟨hb, Ne.symm this⟩
        | _ => exact hb
      refine ⟨oj', kj, hoj, (Yld.put a1).1 hyj, hokj', fun r s hrs => ?_⟩
      refine ih (listed.setIfInBounds j true) _ _ _ (inv.set hj hjn) (hav.out hrs) hbr hfree' (ready_mono hr (Ne.symm hji)) ((Yld.put a3).2 hy) ?_
      have hcomm : kj.rest (av.filter fun c => decide (c ≠ b)) = (kj.rest av).filter fun c => decide (c ≠ b) := by
        cases kj with
        | write b' y0 y => simp only [Knd.rest, List.filter_filter, Bool.and_comm]
        | _ => rfl
      have hout : kj.out (σ.setBox b z) r (s.setBox b z) := by
        cases kj with
        | quiet v => exact ⟨hrs.1, by rw [hrs.2]⟩
        | alloc y =>
          obtain ⟨c, hc, h1, h2⟩ := hrs
          have hcb := hav.fresh_ne hb hc
          exact ⟨c, fresh_setBox.2 ⟨hc, hcb⟩, h1, by rw [h2, AS.setBox_comm hcb]⟩
        | write b' y0 y =>
          have := (List.mem_filter.1 hokj.1).2
          simp only [decide_eq_true_eq] at this
          exact ⟨hrs.1, by rw [hrs.2, AS.setBox_comm this]⟩
      rw [Array.setIfInBounds_comm _ _ hji, ← Env.upd_comm .undef r a2, ← hcomm]
      exact hnext r _ hout
/-- where only variables are still to be made, any of them may be made first -/
theorem awpAnyL_made {n i : Nat} {oi : Oper} {z : List AV} {L : Array Bool → Env → AS → Prop} (hi : ops[i]? = some oi)
    (hdone : ∀ listed e s, L listed e s → ∀ j ∈ Region.ready md ops listed, n ≤ j)
    (htw : ∀ listed, HeadInv md ops n listed → listed.getD i true = false → ∀ t, n ≤ t → t ∉ Region.ready md ops listed) (hin : i < n) :
    ∀ (f : Nat) (listed : Array Bool) (e : Env) (σ : AS) (av : List Nat), HeadInv md ops n listed → Inf σ → σ0.le σ →
      (∀ j oj, ops[j]? = some oj → j < n → listed.getD j true = false → isAlloc oj = true ∧ oj.guard = none) →
      (∀ j oj, ops[j]? = some oj → j ≠ i → listed.getD j true = false → (∀ e ∈ oj.after, Region.binds md e = true → e.on ≠ i) → oi.apart ops oj = true) →
      i ∈ Region.ready md ops listed → Yld P G ops σ0 oi e (.alloc z) →
      (∀ r σ', (Knd.alloc z).out σ r σ' → awpAnyL P G md ops σ0 σi L f (listed.setIfInBounds i true) (e.upd oi.dst r) σ' av) → awpAnyL P G md ops σ0 σi L (f + 1) listed e σ av := by
  intro f
  induction f with
  | zero =>
    intro listed e σ av inv hinf hle hall hfree hr hy H
    have hun := (mem_ready.1 hr).1
    obtain ⟨m, hm⟩ := hinf
    have H0 := H _ _ ⟨m, hm m (Nat.le_refl m), rfl, rfl⟩
    refine ⟨fun h => (by rw [h] at hr; cases hr), fun j hj => ?_⟩
    by_cases hji : j = i
    · subst hji; exact ⟨oi, _, hi, hy, trivial, fun r s hrs => H r s hrs⟩
    · have h1 := hdone _ _ _ H0 j (ready_mono hj hji)
      exact absurd hj (htw listed inv hun j h1)
  | succ f ih =>
    intro listed e σ av inv hinf hle hall hfree hr hy H
    have hun := (mem_ready.1 hr).1
    obtain ⟨m, hm⟩ := id hinf
    refine ⟨fun h => (by rw [h] at hr; cases hr), fun j hj => ?_⟩
    have hjn : j < n := by
      rcases Nat.lt_or_ge j n with h | h
      · exact h
      · exact absurd hj (htw listed inv hun j h)
    by_cases hji : j = i
    · subst hji; exact ⟨oi, _, hi, hy, trivial, fun r s hrs => H r s hrs⟩
    · obtain ⟨oj, kj, hoj, hyj, _⟩ := (H _ _ ⟨m, hm m (Nat.le_refl m), rfl, rfl⟩).2 j (ready_mono hj hji)
      obtain ⟨hjun, oj', hoj', hafter⟩ := mem_ready.1 hj
      have : oj' = oj := Option.some.inj (hoj'.symm.trans hoj)
      subst this
      have hnot : ∀ e ∈ oj'.after, Region.binds md e = true → e.on ≠ i := fun e he hb heq => by
        have h1 := hafter e he hb
        rw [heq, getD_both hun] at h1
        cases h1
      have hap := hfree j oj' hoj hji hjun hnot
      obtain ⟨a1, a2, a3⟩ := Oper.apart_spec hap
      obtain ⟨haj, hgj⟩ := hall j oj' hoj hjn hjun
      obtain ⟨zj, hyz, _⟩ := alloc_yld haj hgj ((Yld.put a1).1 hyj)
      have hfree' : ∀ k ok, ops[k]? = some ok → k ≠ i → (listed.setIfInBounds j true).getD k true = false →
          (∀ e ∈ ok.after, Region.binds md e = true → e.on ≠ i) → oi.apart ops ok = true := fun k ok hk hki hun hno => by
        refine hfree k ok hk hki ?_ hno
        by_cases hjk : j = k
        · subst hjk; exact hjun
        · rw [getD_set_ne true hjk] at hun; exact hun
      have hall' : ∀ k ok, ops[k]? = some ok → k < n → (listed.setIfInBounds j true).getD k true = false → isAlloc ok = true ∧ ok.guard = none := fun k ok hk hkn hun => by
        refine hall k ok hk hkn ?_
        by_cases hjk : j = k
        · subst hjk; exact hjun
        · rw [getD_set_ne true hjk] at hun; exact hun
      refine ⟨oj', .alloc zj, hoj, hyz, trivial, fun r s hrs => ?_⟩
      obtain ⟨c, hc, rfl, rfl⟩ := hrs
      refine ih (listed.setIfInBounds j true) _ _ _ (inv.set hj hjn) (hinf.setBox c zj) (hle.setBox (hle.fresh hc).1 zj) hall' hfree' (ready_mono hr (Ne.symm hji)) ((Yld.put a3).2 hy) fun r s hrs => ?_
      obtain ⟨b, hb, rfl, rfl⟩ := hrs
      obtain ⟨hb1, hbc⟩ := fresh_setBox.1 hb
      obtain ⟨oj2, kj2, hoj2, hyj2, hokj2, hnext2⟩ := (H _ _ ⟨b, hb1, rfl, rfl⟩).2 j (ready_mono hj hji)
      have : oj2 = oj' := Option.some.inj (hoj2.symm.trans hoj)
      subst this
      obtain ⟨zj2, hyz2, hout2⟩ := alloc_yld haj hgj ((Yld.put a1).1 hyj2)
      have hzz : zj2 = zj := by
        rcases hyz with ⟨g1, g2, _⟩ | ⟨_, g2⟩
        · rcases hyz2 with ⟨_, g3, _⟩ | ⟨_, g3⟩
          · exact alloc_same (hle.fresh hb1) haj g3 g2
          · cases g3
        · cases g2
      subst hzz
      have hlb : σ0.le (σ.setBox b z) := hle.setBox (hle.fresh hb1).1 z
      have hrest : kj2.rest av = av := by
        have hns : isStore oj2 = false := by
          have := haj
          unfold isAlloc at this
          unfold isStore
          split at this <;> simp_all
        rcases hyj2 with ⟨_, _, g⟩ | ⟨_, g⟩
        · exact Knd.rest_of (g hns)
        · subst g; rfl
      rw [hrest] at hnext2
      have := hnext2 _ _ (hout2 _ _ _ hlb ⟨c, fresh_setBox.2 ⟨hc, Ne.symm hbc⟩, rfl, rfl⟩)
      rw [Array.setIfInBounds_comm _ _ hji, Env.upd_comm _ _ (fun d hd he => a2 d he hd), AS.setBox_comm (Ne.symm hbc)]
      exact this

/-- are so many operations from here on such as make variables? -/
def onlyAllocs (ops : Array Oper) : Nat → Nat → Bool
  | 0, _ => true
  | f + 1, k => (match ops[k]? with | some o => isAlloc o && o.guard.isNone | none => false) && onlyAllocs ops f (k + 1)
/-- the order of the text; where a variable is made, nothing else may come up, or variables alone -/
def aHeadB (md : Region.Mode) (ops : Array Oper) (T : Array Bool → Bool) : Nat → Nat → Array Bool → Bool
  | 0, k, listed => T listed
  | f + 1, k, listed => (match ops[k]? with
      | some o => if isAlloc o then decide (Region.ready md ops listed = [k]) || (o.guard.isNone && onlyAllocs ops (f + 1) k && (Region.ready md ops listed).contains k && Region.free md ops listed k) else (Region.ready md ops listed).contains k && Region.free md ops listed k
      | none => false) && aHeadB md ops T f (k + 1) (listed.setIfInBounds k true)

theorem onlyAllocs_spec {ops : Array Oper} : ∀ (f k : Nat), onlyAllocs ops f k = true → ∀ j oj, ops[j]? = some oj → k ≤ j → j < k + f → isAlloc oj = true ∧ oj.guard = none
  | 0, k, _, j, oj, _, h1, h2 => by omega
  | f + 1, k, h, j, oj, hj, h1, h2 => by
    simp only [onlyAllocs, Bool.and_eq_true] at h
    by_cases hjk : j = k
    · subst hjk
      have h3 := h.1
      rw [hj] at h3
      simp only [Bool.and_eq_true] at h3
      exact ⟨h3.1, by simpa using h3.2⟩
    · exact onlyAllocs_spec f (k + 1) h.2 j oj hj (by omega) (by omega)
theorem awpAnyL_lex {n : Nat} {T : Array Bool → Bool} {Lq : Env → AS → Prop}
    (hdone : ∀ listed, T listed = true → ∀ j ∈ Region.ready md ops listed, n ≤ j)
    (htw : ∀ i, i < n → ∀ listed, HeadInv md ops n listed → listed.getD i true = false → ∀ t, n ≤ t → t ∉ Region.ready md ops listed) :
    ∀ (l : List Oper) (k : Nat) (listed : Array Bool) (e : Env) (σ : AS) (av : List Nat), (∀ j, j < l.length → l[j]? = ops[k + j]?) → k + l.length = n → HeadInv md ops n listed → (∀ j, j < k → listed.getD j true = true) → Inf σ → σ0.le σ → AvOk σ0 σi σ av →
    aHeadB md ops T l.length k listed = true → awpHeadS P G ops.toList σ0 Lq l e σ av →
    awpAnyL P G md ops σ0 σi (fun listed' e' s' => T listed' = true ∧ Lq e' s') l.length listed e σ av
  | [], k, listed, e, σ, av, _, hk, _, _, _, _, _, hB, h => ⟨hB, h⟩
  | o :: l, k, listed, e, σ, av, hl, hk, inv, hld, hinf, hle, hav, hB, h => by
    have h0 : ops[k]? = some o := by simpa using (hl 0 (by simp)).symm
    simp only [List.length_cons, aHeadB, h0, Bool.and_eq_true] at hB
    obtain ⟨hA, hB'⟩ := hB
    have hkn : k < n := by simp only [List.length_cons] at hk; omega
    have hl' : ∀ j, j < l.length → l[j]? = ops[k + 1 + j]? := fun j hj => by have := hl (j + 1) (by simp; omega); simpa [Nat.add_assoc, Nat.add_comm 1 j] using this
    have hk' : k + 1 + l.length = n := by simp only [List.length_cons] at hk; omega
    have hld' : ∀ j, j < k + 1 → (listed.setIfInBounds k true).getD j true = true := fun j hj => by
      by_cases hjk : k = j
      · subst hjk
        by_cases hb : k < listed.size
        · simp [hb]
        · simp [hb]
      · rw [getD_set_ne true hjk]; exact hld j (by omega)
    obtain ⟨b, hb, h1, h2⟩ := h
    have hkk : ∃ kd, Yld P G ops σ0 o e kd ∧ kd.ok σi av ∧ (isAlloc o = false → (∃ v, kd = .quiet v) ∨ ∃ b z0 z, kd = .write b z0 z) ∧ ∀ r σ', kd.out σ r σ' → awpHeadS P G ops.toList σ0 Lq l (e.upd o.dst r) σ' (kd.rest av) := by
      cases b with
      | true =>
        have h3 := h1 rfl
        unfold hopS at h3
        split at h3
        · rename_i t p x hop
          rcases h3 with h3 | h3
          rotate_left
          · exact ⟨.quiet .undef, .inl ⟨hb, fun σ' hl hp Kc hk => by
              unfold aop; rw [hop]
              exact ⟨σ', sameSt_at hl h3.1, hk _ _ ⟨rfl, rfl⟩⟩, fun _ => rfl⟩, trivial, fun _ => .inl ⟨_, rfl⟩, fun r s ⟨hr, hs⟩ => by subst hr hs; exact h3.2⟩
          obtain ⟨bb, off, z0, z, g1, g2, g3, g4, g5⟩ := h3
          refine ⟨.write bb z0 z, .inl ⟨hb, fun σ' hl hp Kc hk => ?_, fun hns => ?_⟩, ⟨g2, by rw [← (hav bb g2).1]; exact g3⟩, fun _ => .inr ⟨_, _, _, rfl⟩, fun r s ⟨hr, hs⟩ => by subst hr hs; exact g5⟩
          · unfold aop; rw [hop]
            simp only [g1]
            exact ⟨_, astore_at g4 (by rw [g3]; exact hp), hk _ _ ⟨rfl, rfl⟩⟩
          · unfold isStore at hns; rw [hop] at hns; cases hns
        · obtain ⟨kd, g1, g2, g3, g4⟩ := hop_does h3
          exact ⟨kd, .inl ⟨hb, g1, fun _ => g2⟩, Knd.ok_of g2, fun ha => .inl (g3 ha), fun r s hrs => by rw [Knd.rest_of g2]; exact g4 r s hrs⟩
      | false => exact ⟨.quiet (.tup []), .inr ⟨hb, rfl⟩, trivial, fun _ => .inl ⟨_, rfl⟩, fun r s ⟨hr, hs⟩ => by subst hr hs; exact h2 rfl⟩
    obtain ⟨kd, g1, gok, g2, g3⟩ := hkk
    cases hal : isAlloc o with
    | true =>
      rw [if_pos hal] at hA
      simp only [Bool.or_eq_true] at hA
      rcases hA with hA | hA
      · have hr1 : Region.ready md ops listed = [k] := by simpa using hA
        have hrk : k ∈ Region.ready md ops listed := by rw [hr1]; simp
        refine ⟨by rw [hr1]; simp, fun i hi => ?_⟩
        rw [hr1] at hi
        have : i = k := by simpa using hi
        subst this
        exact ⟨o, kd, h0, g1, gok, fun r s hrs => awpAnyL_lex hdone htw l (i + 1) _ _ _ _ hl' hk' (inv.set hrk hkn) hld' (hinf.out hrs) (Knd.out_le hle hav gok hrs) (hav.out hrs) hB' (g3 r s hrs)⟩
      · simp only [Bool.and_eq_true] at hA
        obtain ⟨⟨⟨hgd, honly⟩, hrc⟩, hfree⟩ := hA
        have hrk : k ∈ Region.ready md ops listed := by simpa using hrc
        obtain ⟨z, g4, g5⟩ := alloc_yld hal (by simpa using hgd) g1
        have hrest : kd.rest av = av := by
          have hns : isStore o = false := by
            have := hal
            unfold isAlloc at this
            unfold isStore
            split at this <;> simp_all
          rcases g1 with ⟨_, _, g⟩ | ⟨_, g⟩
          · exact Knd.rest_of (g hns)
          · subst g; rfl
        rw [hrest] at g3
        refine awpAnyL_made h0 (fun listed' e' s' hL => hdone listed' hL.1) (htw k hkn) hkn l.length listed e σ av inv hinf hle (fun j oj hj hjn hun => ?_) (Region.free_spec h0 hfree) hrk g4
          (fun r s hrs => awpAnyL_lex hdone htw l (k + 1) _ _ _ _ hl' hk' (inv.set hrk hkn) hld' (hinf.out hrs) (Knd.out_le (k := .alloc z) hle hav trivial hrs) (AvOk.out (k := .alloc z) hav hrs) hB' (g3 r s (g5 σ r s hle hrs)))
        refine onlyAllocs_spec _ k honly j oj hj ?_ (by omega)
        rcases Nat.lt_or_ge j k with hlt | hge
        · rw [hld j hlt] at hun; cases hun
        · exact hge
    | false =>
      rw [if_neg (by rw [hal]; simp)] at hA
      simp only [Bool.and_eq_true] at hA
      have hr' : k ∈ Region.ready md ops listed := by simpa using hA.1
      rcases g2 hal with ⟨v, rfl⟩ | ⟨b', z0, z, rfl⟩
      · exact awpAnyL_first h0 (fun listed' e' s' hL => hdone listed' hL.1) (htw k hkn) hkn l.length listed e σ av inv (Region.free_spec h0 hA.2) hr' g1
          (awpAnyL_lex hdone htw l (k + 1) _ _ _ _ hl' hk' (inv.set hr' hkn) hld' hinf hle hav hB' (g3 v σ ⟨rfl, rfl⟩))
      · have ho : (Knd.write b' z0 z).out σ .undef (σ.setBox b' z) := ⟨rfl, rfl⟩
        exact awpAnyL_write h0 (fun listed' e' s' hL => hdone listed' hL.1) (htw k hkn) hkn gok.2 l.length listed e σ av inv hav gok.1 (Region.free_spec h0 hA.2) hr' g1
          (awpAnyL_lex hdone htw l (k + 1) _ _ _ _ hl' hk' (inv.set hr' hkn) hld' (hinf.out ho) (Knd.out_le hle hav gok ho) (hav.out ho) hB' (g3 _ _ ho))

theorem anyL_sound {N : Nat} {ds : List Deferred} {g : Nat} {L : Array Bool → Env → AS → Prop} {R : Exit → Act → World → Prop} {K0 : Ctx} (hdst : ops.toList.all (dstLt N) = true)
    (hL : ∀ listed e σ K a w, L listed e σ → St P G K N ds e σ a w → K0.le K → wpAny P md ops R g listed a w) :
    ∀ (f : Nat) (listed : Array Bool) (e : Env) (σ : AS) (av : List Nat) (K : Ctx) (a : Act) (w : World), σ0.le σ → AvOk σ0 σi σ av → awpAnyL P G md ops σ0 σi L f listed e σ av → St P G K N ds e σ a w → K0.le K → wpAny P md ops R (f + g) listed a w
  | 0, listed, e, σ, av, K, a, w, _, _, h, hs, hk => by rw [Nat.zero_add]; exact hL _ _ _ _ _ _ h hs hk
  | f + 1, listed, e, σ, av, K, a, w, hle, hav, h, hs, hk => by
    rw [show f + 1 + g = (f + g) + 1 by omega]
    refine ⟨fun h0 => absurd h0 h.1, fun i hi => ?_⟩
    obtain ⟨o, k, ho, hy, hok, hn⟩ := h.2 i hi
    have hpre : k.pre σ := by
      cases k with
      | write b z0 z => exact (hav b hok.1).1.trans hok.2
      | _ => trivial
    have hd : dstLt N o = true := by
      have : o ∈ ops.toList := Array.mem_toList_iff.2 (Array.mem_of_getElem? ho)
      exact List.all_eq_true.1 hdst o this
    unfold wpOp
    rw [ho]
    simp only
    rcases hy with ⟨hw, hdo, _⟩ | ⟨hw, rfl⟩
    · have hw' := awanted_sound hw hs.er
      rw [if_pos hw']
      refine .inl ((aop_sound (hdo σ hle hpre (fun r s => k.out σ r s) (fun r s h => h)) hs.er hs.rel).wp fun r σ' K' v w' hq hv hr hle' => ?_)
      exact anyL_sound hdst hL f _ _ _ _ K' _ _ (Knd.out_le hle hav hok hq) (hav.out hq) (hn r σ' hq) (hs.put hle' (dstLt_spec hd) hv hr) (hk.trans hle')
    · have hw' := awanted_sound hw hs.er
      rw [if_neg (by rw [hw']; simp)]
      exact anyL_sound hdst hL f _ _ _ _ K _ _ hle hav (hn _ _ ⟨rfl, rfl⟩) (hs.put (Ctx.le.refl K) (dstLt_spec hd) VR.skipped hs.rel) hk
end any

/-- may a row of operations be walked in the text's order, its first n in whatever order they come up, the others one by one? -/
def drawB (ops : Array Oper) (n : Nat) : Bool :=
  if n = ops.size then aHeadB .any ops (fun listed => (Region.ready .any ops listed).isEmpty) n 0 (Array.replicate ops.size false)
  else decide (n < ops.size) && Region.sinkB .any ops n && Region.chainB .any ops n && aHeadB .any ops (fun listed => Region.seqB .any ops (ops.size - n) n listed) n 0 (Array.replicate ops.size false)
def addEdge (ops : Array Oper) (m k : Nat) : Array Oper := ops.modify m fun o => { o with after := o.after.push ⟨k, .data⟩ }
def edged : Array Oper → List (Nat × Nat) → Array Oper
  | ops, [] => ops
  | ops, (m, k) :: r => edged (addEdge ops m k) r
/-- operation k is a move that waits for nothing; whatever has to do with what it yields waits for it -/
def floatB (ops : Array Oper) (m k : Nat) : Bool :=
  decide (m ≠ k) && match ops[k]? with
  | some o => (match o.op with | .move _ => true | _ => false) && o.guard.isNone && (o.after.all fun e => !(Region.binds .any e)) &&
      (List.range ops.size).all fun j => decide (j = k) || Region.waitsFor .any ops j k || (match ops[j]? with | some oj => o.apart ops oj && (match oj.op with | .select .. => false | _ => true) | none => true)
  | none => false
def floatsB : Array Oper → List (Nat × Nat) → Bool
  | _, [] => true
  | ops, (m, k) :: r => floatB ops m k && floatsB (addEdge ops m k) r
def adraw (P : Program) (G : Nat → AV) (ops : Array Oper) (Q : Env → AS → Prop) (e : Env) (σ : AS) : Prop :=
  ∃ fs n σ0 av, floatsB ops fs = true ∧ drawB (edged ops fs) n = true ∧ σ0.le σ ∧ (∀ c, c ∈ av → (σ.box c).isSome = true ∧ σ0.box c = none) ∧ awpHeadS P G ops.toList σ0 (fun e' σ' => awpOps P G ops.toList Q (ops.toList.drop n) e' σ') (ops.toList.take n) e σ av

theorem hop_mono {P : Program} {G : Nat → AV} {o : Oper} {e : Env} {σ0 σ : AS} {K K' : AV → AS → Prop} (hk : ∀ r s, K r s → K' r s) (h : hop P G o e σ0 σ K) : hop P G o e σ0 σ K' := by
  unfold hop at h ⊢
  split at h
  · exact ⟨h.1, hk _ _ h.2⟩
  · exact h.elim
  · unfold hcall at h ⊢
    split at h
    · split at h
      · obtain ⟨v, g1, g2⟩ := h; exact ⟨v, g1, hk _ _ g2⟩
      · exact h.elim
    · split at h
      · exact h.elim
      · rename_i hb; rw [if_neg hb]; obtain ⟨r, g1, g2⟩ := h; exact ⟨r, g1, hk _ _ g2⟩
    · exact h.elim
  · obtain ⟨z, g1, g2⟩ := h; exact ⟨z, g1, fun b hb => hk _ _ (g2 b hb)⟩
  · exact ⟨h.1, fun b hb => hk _ _ (h.2 b hb)⟩
  · exact aop_mono (fun r _ hh => hk _ _ hh) h

theorem hopS_mono {P : Program} {G : Nat → AV} {o : Oper} {e : Env} {σ0 σ : AS} {av : List Nat} {K K' : AV → AS → List Nat → Prop} (hk : ∀ r s a, K r s a → K' r s a) (h : hopS P G o e σ0 σ av K) : hopS P G o e σ0 σ av K' := by
  unfold hopS at h ⊢
  split at h
  · rcases h with ⟨b, off, z0, z, g1, g2, g3, g4, g5⟩ | ⟨g1, g2⟩
    · exact .inl ⟨b, off, z0, z, g1, g2, g3, g4, hk _ _ _ g5⟩
    · exact .inr ⟨g1, hk _ _ _ g2⟩
  · exact hop_mono (fun r s h => hk _ _ _ h) h
/-- what is walked without a store may be walked so -/
theorem hop_hopS {P : Program} {G : Nat → AV} {o : Oper} {e : Env} {σ0 σ : AS} {av : List Nat} {K : AV → AS → List Nat → Prop} (h : hop P G o e σ0 σ fun r s => K r s av) : hopS P G o e σ0 σ av K := by
  unfold hopS
  split
  · rename_i t p x hop
    unfold Go.Av.hop at h
    rw [hop] at h
    exact .inr h
  · exact h
theorem awpHead_S {P : Program} {G : Nat → AV} {ops : List Oper} {σ0 : AS} {L : Env → AS → Prop} : ∀ (l : List Oper) (e : Env) (σ : AS) (av : List Nat), awpHead P G ops σ0 L l e σ → awpHeadS P G ops σ0 L l e σ av
  | [], e, σ, _, h => h
  | o :: l, e, σ, av, ⟨b, hb, h1, h2⟩ => ⟨b, hb, fun x => hop_hopS (hop_mono (fun r s h => awpHead_S l _ _ _ h) (h1 x)), fun x => awpHead_S l _ _ _ (h2 x)⟩
theorem awpHeadS_mono {P : Program} {G : Nat → AV} {ops : List Oper} {σ0 : AS} {L L' : Env → AS → Prop} (hL : ∀ e s, L e s → L' e s) : ∀ (l : List Oper) (e : Env) (σ : AS) (av : List Nat), awpHeadS P G ops σ0 L l e σ av → awpHeadS P G ops σ0 L' l e σ av
  | [], e, σ, _, h => hL _ _ h
  | o :: l, e, σ, av, ⟨b, hb, h1, h2⟩ => ⟨b, hb, fun x => hopS_mono (fun r s a h => awpHeadS_mono hL l _ _ _ h) (h1 x), fun x => awpHeadS_mono hL l _ _ _ (h2 x)⟩
theorem opsWrites_append (l r : List Oper) : opsWrites (l ++ r) = opsWrites l ++ opsWrites r := List.filterMap_append
theorem opsWrites_cons_sub {o : Oper} {l : List Oper} {t : Nat} (h : t ∉ opsWrites (o :: l)) : t ∉ opsWrites l ∧ ∀ x, o.dst = some x → x ≠ t := by
  unfold opsWrites at *
  rw [List.filterMap_cons] at h
  split at h
  · rename_i hd; exact ⟨h, fun x hx => by rw [hd] at hx; cases hx⟩
  · rename_i d hd
    simp only [List.mem_cons, not_or] at h
    exact ⟨h.2, fun x hx => by rw [hd] at hx; cases hx; exact Ne.symm h.1⟩

theorem awpHeadS_frame {P : Program} {G : Nat → AV} {ops : List Oper} {σ0 : AS} {L : Env → AS → Prop} : ∀ (l : List Oper) (e : Env) (σ : AS) (av : List Nat), awpHeadS P G ops σ0 L l e σ av →
    awpHeadS P G ops σ0 (fun e' σ' => L e' σ' ∧ ∀ t, t ∉ opsWrites l → e' t = e t) l e σ av
  | [], e, σ, _, h => ⟨h, fun _ _ => rfl⟩
  | o :: l, e, σ, av, ⟨b, hb, h1, h2⟩ => by
    have key : ∀ r s a, awpHeadS P G ops σ0 L l (e.upd o.dst r) s a → awpHeadS P G ops σ0 (fun e' σ' => L e' σ' ∧ ∀ t, t ∉ opsWrites (o :: l) → e' t = e t) l (e.upd o.dst r) s a := fun r s a h =>
      awpHeadS_mono (fun e' s' hq => ⟨hq.1, fun t ht => by
        obtain ⟨g1, g2⟩ := opsWrites_cons_sub ht
        rw [hq.2 t g1]; exact Env.upd_other g2⟩) l _ _ _ (awpHeadS_frame l _ _ _ h)
    exact ⟨b, hb, fun x => hopS_mono (fun r s a h => key r s a h) (h1 x), fun x => key _ _ _ (h2 x)⟩
theorem infOf {G : Nat → AV} {K : Ctx} {σ : AS} {w : World} (h : Rel G K σ w) : Inf σ := ⟨w.heap.size, fun b hb => h.fresh hb⟩

/-! moves that float: they may as well come ahead of a later operation -/
section floats
variable {P : Program} {md : Region.Mode}
theorem addEdge_size {ops : Array Oper} {m k : Nat} : (addEdge ops m k).size = ops.size := by simp [addEdge]
theorem addEdge_get {ops : Array Oper} {m k j : Nat} {o : Oper} (h : ops[j]? = some o) : ∃ af, (addEdge ops m k)[j]? = some { o with after := af } ∧ (j ≠ m → af = o.after) ∧ (j = m → af = o.after.push ⟨k, .data⟩) := by
  unfold addEdge
  rw [Array.getElem?_modify]
  by_cases hjm : m = j
  · subst hjm
    rw [if_pos rfl, h]
    exact ⟨_, rfl, fun e => absurd rfl e, fun _ => rfl⟩
  · rw [if_neg hjm, h]
    exact ⟨o.after, rfl, fun _ => rfl, fun e => absurd e.symm hjm⟩
theorem addEdge_none {ops : Array Oper} {m k j : Nat} (h : ops[j]? = none) : (addEdge ops m k)[j]? = none := by
  have := Array.getElem?_eq_none_iff.1 h
  exact Array.getElem?_eq_none_iff.2 (by rw [addEdge_size]; exact this)
theorem ready_edge {ops : Array Oper} {m k j : Nat} {listed : Array Bool} (hk : listed.getD k false = true) : j ∈ Region.ready md (addEdge ops m k) listed ↔ j ∈ Region.ready md ops listed := by
  rw [mem_ready, mem_ready]
  refine and_congr_right fun _ => ?_
  cases hj : ops[j]? with
  | none => rw [addEdge_none hj]
  | some o =>
    obtain ⟨af, h1, h2, h3⟩ := addEdge_get (m := m) (k := k) hj
    rw [h1]
    simp only [Option.some.injEq, exists_eq_left']
    by_cases hjm : j = m
    · rw [h3 hjm]
      constructor
      · exact fun h e he hb => h e (Array.mem_push.2 (.inl he)) hb
      · intro h e he hb
        rcases Array.mem_push.1 he with he | rfl
        · exact h e he hb
        · exact hk
    · rw [h2 hjm]
theorem ready_edge_nil {ops : Array Oper} {m k : Nat} {listed : Array Bool} (hk : listed.getD k false = true) : Region.ready md (addEdge ops m k) listed = [] ↔ Region.ready md ops listed = [] := by
  rw [List.eq_nil_iff_forall_not_mem, List.eq_nil_iff_forall_not_mem]
  exact forall_congr' fun j => not_congr (ready_edge hk)
theorem yielded_edge {ops : Array Oper} {m k : Nat} (tmps : Array Value) : yielded (addEdge ops m k) tmps = yielded ops tmps := by
  funext j
  unfold yielded
  cases hj : ops[j]? with
  | none => rw [addEdge_none hj]
  | some o => obtain ⟨af, h1, _⟩ := addEdge_get (m := m) (k := k) hj; rw [h1]; simp only [Option.bind_some]
theorem wpOp_edge {ops : Array Oper} {m k i : Nat} {Q : Exit → Act → World → Prop} {K : Act → World → Prop} {a : Act} {w : World} : wpOp P (addEdge ops m k) Q i K a w ↔ wpOp P ops Q i K a w := by
  unfold wpOp
  cases hj : ops[i]? with
  | none => rw [addEdge_none hj]
  | some o =>
    obtain ⟨af, h1, _⟩ := addEdge_get (m := m) (k := k) hj
    rw [h1, yielded_edge]
    exact Iff.rfl
theorem getD_set_same {l : Array Bool} {i k : Nat} (h : l.getD k false = true) : (l.setIfInBounds i true).getD k false = true := getD_set_true h
theorem wpAny_edge {ops : Array Oper} {m k : Nat} {Q : Exit → Act → World → Prop} : ∀ (fuel : Nat) (listed : Array Bool) (a : Act) (w : World), listed.getD k false = true → wpAny P md (addEdge ops m k) Q fuel listed a w → wpAny P md ops Q fuel listed a w
  | 0, listed, a, w, hk, h => ⟨(ready_edge_nil hk).1 h.1, h.2⟩
  | fuel + 1, listed, a, w, hk, h => ⟨fun hr => h.1 ((ready_edge_nil hk).2 hr), fun i hi =>
      wpOp_mono (fun a w hh => wpAny_edge fuel _ a w (getD_set_same hk) hh) (wpOp_edge.1 (h.2 i ((ready_edge hk).2 hi)))⟩
/-- the exits are the plain one alone -/
def plainQ (R : Act → World → Prop) : Exit → Act → World → Prop := fun x a w => x = .normal ∧ R a w
theorem move_yields {ops : Array Oper} {o : Oper} {x : Operand} (ho : o.op = .move x) (hg : o.guard = none) (a : Act) : Yields P ops o (a.eval x) a := by
  refine .inl ⟨by simp [Region.wanted, hg], fun w => ?_⟩
  unfold execOp; rw [ho]; rfl
theorem move_wpOp {ops : Array Oper} {o : Oper} {x : Operand} {k : Nat} (hk : ops[k]? = some o) (ho : o.op = .move x) (hg : o.guard = none) {R : Act → World → Prop} {K : Act → World → Prop} {a : Act} {w : World} (h : wpOp P ops (plainQ R) k K a w) : K (a.put o.dst (a.eval x)) w := by
  unfold wpOp at h
  rw [hk] at h
  simp only [Region.wanted, hg, if_true] at h
  rcases h with h | ⟨_, h⟩
  · unfold Oper.wp execOp at h
    rw [ho] at h
    exact h
  · exact absurd h (by unfold LetsOut plainQ; simp)
/-- with the move made ahead -/
theorem wpAny_pre {ops : Array Oper} {k : Nat} {o : Oper} {x : Operand} (hk : ops[k]? = some o) (ho : o.op = .move x) (hg : o.guard = none)
    (hap : ∀ j oj, ops[j]? = some oj → j ≠ k → Region.waitsFor md ops j k = true ∨ (o.apart ops oj = true ∧ ∀ cs b, oj.op ≠ .select cs b)) {R : Act → World → Prop} :
    ∀ (fuel : Nat) (listed : Array Bool) (a : Act) (w : World) (v : Value), Yields P ops o v a → listed.getD k true = false → (k ∈ Region.ready md ops listed) → wpAny P md ops (plainQ R) fuel (listed.setIfInBounds k true) (a.put o.dst v) w → wpAny P md ops (plainQ R) (fuel + 1) listed a w := by
  have sub : ∀ (listed : Array Bool) j, j ∈ Region.ready md ops listed → j ≠ k → j ∈ Region.ready md ops (listed.setIfInBounds k true) := fun listed j hj hjk => by
    rw [mem_ready] at hj ⊢
    obtain ⟨h1, oj, h2, h3⟩ := hj
    exact ⟨by rw [getD_set_ne true (Ne.symm hjk)]; exact h1, oj, h2, fun e he hb => getD_set_true (h3 e he hb)⟩
  have apart : ∀ (listed : Array Bool) j oj, listed.getD k true = false → j ∈ Region.ready md ops listed → j ≠ k → ops[j]? = some oj → o.apart ops oj = true ∧ ∀ cs b, oj.op ≠ .select cs b := fun listed j oj hlk hj hjk hoj => by
    rcases hap j oj hoj hjk with hw | hh
    · obtain ⟨oj', h1, e, he, hb, hon⟩ := Region.waitsFor_spec hw
      obtain ⟨_, oj2, h2, h3⟩ := mem_ready.1 hj
      have e1 : oj' = oj2 := Option.some.inj (h1.symm.trans h2)
      subst e1
      have := h3 e he hb
      rw [hon, getD_both hlk] at this
      cases this
    · exact hh
  have hsi : ∀ cs b, o.op ≠ .select cs b := fun cs b e => by rw [ho] at e; cases e
  intro fuel
  induction fuel with
  | zero =>
    intro listed a w v hy hlk hrk h
    refine ⟨fun hr => (by rw [hr] at hrk; cases hrk), fun i hi => ?_⟩
    by_cases hik : i = k
    · subst hik
      exact hy.wpOp hk h
    · have := sub listed i hi hik
      rw [h.1] at this
      cases this
  | succ fuel ih =>
    intro listed a w v hy hlk hrk h
    refine ⟨fun hr => (by rw [hr] at hrk; cases hrk), fun i hi => ?_⟩
    by_cases hik : i = k
    · subst hik
      exact hy.wpOp hk h
    · obtain ⟨_, oi, hoi, _⟩ := mem_ready.1 hi
      obtain ⟨ap, hsj⟩ := apart listed i oi hlk hi hik hoi
      have h1 := h.2 i (sub listed i hi hik)
      refine wpOp_mono (fun a' w' hh => ?_) (wpOp_put hoi ap hsi hsj (fun c a w hq => by cases hq.1) hy h1)
      refine ih _ a' w' v hh.1 (by rw [getD_set_ne true hik]; exact hlk) ?_ (by rw [Array.setIfInBounds_comm _ _ hik]; exact hh.2)
      obtain ⟨g1, ok, g2, g3⟩ := mem_ready.1 hrk
      exact mem_ready.2 ⟨by rw [getD_set_ne true hik]; exact hlk, ok, g2, fun e he hb => getD_set_true (g3 e he hb)⟩
theorem wpAny_float {ops : Array Oper} {m k : Nat} (hf : floatB ops m k = true) {R : Act → World → Prop} {a : Act} {w : World}
    (h : wpAny P .any (addEdge ops m k) (plainQ R) ops.size (Array.replicate ops.size false) a w) : wpAny P .any ops (plainQ R) ops.size (Array.replicate ops.size false) a w := by
  unfold floatB at hf
  simp only [Bool.and_eq_true, decide_eq_true_eq] at hf
  obtain ⟨hmk, hf⟩ := hf
  split at hf
  · rename_i o hk
    simp only [Bool.and_eq_true, Option.isNone_iff_eq_none] at hf
    obtain ⟨⟨⟨h1, hg⟩, h2⟩, h3⟩ := hf
    split at h1
    · rename_i x ho
      have hlt : k < ops.size := (Array.getElem?_eq_some_iff.1 hk).1
      obtain ⟨s, hs⟩ : ∃ s, ops.size = s + 1 := ⟨ops.size - 1, by omega⟩
      have hlk : (Array.replicate ops.size false).getD k true = false := by simp [hlt]
      have hnb : ∀ e ∈ o.after, Region.binds .any e = true → (Array.replicate ops.size false).getD e.on false = true := fun e he hb => by
        have := Array.all_eq_true_iff_forall_mem.1 h2 e he
        rw [hb] at this; cases this
      have hrk : k ∈ Region.ready .any ops (Array.replicate ops.size false) := mem_ready.2 ⟨hlk, o, hk, hnb⟩
      obtain ⟨af, g1, g2, _⟩ := addEdge_get (m := m) (k := k) hk
      have hrk' : k ∈ Region.ready .any (addEdge ops m k) (Array.replicate ops.size false) := mem_ready.2 ⟨hlk, _, g1, by rw [g2 (Ne.symm hmk)]; exact hnb⟩
      have hap : ∀ j oj, ops[j]? = some oj → j ≠ k → Region.waitsFor .any ops j k = true ∨ (o.apart ops oj = true ∧ ∀ cs b, oj.op ≠ .select cs b) := fun j oj hj hjk => by
        have := List.all_eq_true.1 h3 j (by simpa using (Array.getElem?_eq_some_iff.1 hj).1)
        simp only [Bool.or_eq_true, decide_eq_true_eq, hj, Bool.and_eq_true] at this
        rcases this with (h | h) | ⟨h, h'⟩
        · exact absurd h hjk
        · exact .inl h
        · refine .inr ⟨h, fun cs b e => ?_⟩
          rw [e] at h'; cases h'
      have hset : ((Array.replicate ops.size false).setIfInBounds k true).getD k false = true := by simp [hlt]
      generalize hl : Array.replicate ops.size false = listed at *
      rw [hs] at h ⊢
      have h4 := wpOp_edge.1 (h.2 k hrk')
      have h5 := move_wpOp hk ho hg h4
      exact wpAny_pre hk ho hg hap s _ a w _ (move_yields ho hg a) hlk hrk (wpAny_edge s _ _ w hset h5)
    · cases h1
  · cases hf
theorem edged_size : ∀ (fs : List (Nat × Nat)) (ops : Array Oper), (edged ops fs).size = ops.size
  | [], _ => rfl
  | (m, k) :: r, ops => by rw [edged, edged_size r, addEdge_size]
theorem wpAny_floats {R : Act → World → Prop} {a : Act} {w : World} : ∀ (fs : List (Nat × Nat)) (ops : Array Oper), floatsB ops fs = true → wpAny P .any (edged ops fs) (plainQ R) ops.size (Array.replicate ops.size false) a w →
    wpAny P .any ops (plainQ R) ops.size (Array.replicate ops.size false) a w
  | [], _, _, h => h
  | (m, k) :: r, ops, hf, h => by
    simp only [floatsB, Bool.and_eq_true] at hf
    refine wpAny_float hf.1 ?_
    have := wpAny_floats (R := R) (a := a) (w := w) r (addEdge ops m k) hf.2
    rw [addEdge_size] at this
    exact this h
/-! the same on abstract values: what waits for what plays no part -/
inductive EqOps : List Oper → List Oper → Prop
  | nil : EqOps [] []
  | cons {o : Oper} {af : Array Edge} {l l' : List Oper} (h : EqOps l l') : EqOps (o :: l) ({ o with after := af } :: l')
theorem EqOps.refl : ∀ (l : List Oper), EqOps l l
  | [] => .nil
  | o :: l => .cons (o := o) (af := o.after) (EqOps.refl l)
theorem EqOps.trans {a b c : List Oper} (h : EqOps a b) (k : EqOps b c) : EqOps a c := by
  induction h generalizing c with
  | nil => exact k
  | cons h ih => cases k with | cons k => exact .cons (ih k)
theorem EqOps.modify (m : Nat) (f : Oper → Array Edge) : ∀ (l : List Oper), EqOps l (l.modify m fun o => { o with after := f o })
  | [] => by simp; exact .nil
  | o :: l => by
    cases m with
    | zero => exact .cons (EqOps.refl l)
    | succ m => exact .cons (o := o) (af := o.after) (EqOps.modify m f l)
theorem EqOps.edged : ∀ (fs : List (Nat × Nat)) (ops : Array Oper), EqOps ops.toList (Av.edged ops fs).toList
  | [], ops => EqOps.refl _
  | (m, k) :: r, ops => by
    refine EqOps.trans ?_ (EqOps.edged r (addEdge ops m k))
    unfold addEdge
    rw [Array.toList_modify]
    exact EqOps.modify m (fun o => o.after.push ⟨k, .data⟩) ops.toList
theorem EqOps.take {l l' : List Oper} (h : EqOps l l') : ∀ n, EqOps (l.take n) (l'.take n) := by
  induction h with
  | nil => intro n; simp; exact .nil
  | cons h ih => intro n; cases n with
    | zero => exact .nil
    | succ n => exact .cons (ih n)
theorem EqOps.drop {l l' : List Oper} (h : EqOps l l') : ∀ n, EqOps (l.drop n) (l'.drop n) := by
  induction h with
  | nil => intro n; simp; exact .nil
  | cons h ih => intro n; cases n with
    | zero => exact .cons h
    | succ n => exact ih n
theorem EqOps.dst {l l' : List Oper} (h : EqOps l l') : ∀ j : Nat, (l[j]?).bind (·.dst) = (l'[j]?).bind (·.dst) := by
  induction h with
  | nil => intro j; rfl
  | cons h ih => intro j; cases j with
    | zero => rfl
    | succ j => exact ih j
theorem EqOps.wanted {l l' : List Oper} (h : EqOps l l') (e : Env) (g : Option (Nat × Bool)) : awanted l' e g = awanted l e g := by
  unfold awanted
  split
  · rfl
  · rename_i j want
    rw [← h.dst j]
theorem EqOps.ops {G : Nat → AV} {l l' : List Oper} (hl : EqOps l l') {Q : Env → AS → Prop} : ∀ {r r' : List Oper}, EqOps r r' → ∀ (e : Env) (σ : AS), awpOps P G l Q r e σ → awpOps P G l' Q r' e σ := by
  intro r r' h
  induction h with
  | nil => intro e σ h; exact h
  | cons h ih =>
    intro e σ ⟨b, hb, h1, h2⟩
    refine ⟨b, by rw [hl.wanted]; exact hb, fun x => ?_, fun x => ih _ _ (h2 x)⟩
    exact aop_mono (fun r s hh => ih _ _ hh) (h1 x)
theorem EqOps.heads {G : Nat → AV} {l l' : List Oper} (hl : EqOps l l') {σ0 : AS} {L L' : Env → AS → Prop} (hL : ∀ e s, L e s → L' e s) : ∀ {r r' : List Oper}, EqOps r r' → ∀ (e : Env) (σ : AS) (av : List Nat), awpHeadS P G l σ0 L r e σ av → awpHeadS P G l' σ0 L' r' e σ av := by
  intro r r' h
  induction h with
  | nil => intro e σ av h; exact hL _ _ h
  | cons h ih =>
    intro e σ av ⟨b, hb, h1, h2⟩
    refine ⟨b, by rw [hl.wanted]; exact hb, fun x => ?_, fun x => ih _ _ _ (h2 x)⟩
    exact hopS_mono (fun r s a hh => ih _ _ _ hh) (h1 x)
theorem EqOps.dsts {N : Nat} {l l' : List Oper} (h : EqOps l l') : l'.all (dstLt N) = l.all (dstLt N) := by
  induction h with
  | nil => rfl
  | cons h ih => simp only [List.all_cons, ih]; rfl
end floats
theorem draw_any {P : Program} {G : Nat → AV} {N : Nat} {ds : List Deferred} {ops : Array Oper} {Q : Env → AS → Prop} {R : Exit → Act → World → Prop} {e : Env} {σ : AS} {K : Ctx} {a : Act} {w : World} {n : Nat} {σ0 : AS} {av : List Nat}
    (hok : ops.toList.all (dstLt N) = true) (hn : drawB ops n = true) (hle0 : σ0.le σ) (hav0 : ∀ c, c ∈ av → (σ.box c).isSome = true ∧ σ0.box c = none) (h1 : awpHeadS P G ops.toList σ0 (fun e' σ' => awpOps P G ops.toList Q (ops.toList.drop n) e' σ') (ops.toList.take n) e σ av)
    (hs : St P G K N ds e σ a w) (hR : ∀ e σ K' a w, Q e σ → St P G K' N ds e σ a w → K.le K' → R .normal a w) : wpAny P .any ops R ops.size (Array.replicate ops.size false) a { w with drawn := w.drawn + 1 } := by
  have hav : AvOk σ0 σ σ av := fun c hc => ⟨rfl, (hav0 c hc).1, (hav0 c hc).2⟩
  have hs' : St P G K N ds e σ a { w with drawn := w.drawn + 1 } := ⟨hs.er, hs.rel.drew, hs.size, hs.defers⟩
  have inv0 : ∀ m, HeadInv .any ops m (Array.replicate ops.size false) := fun m =>
    ⟨by simp, fun j oj _ hl => (by rw [getD_replicate_false] at hl; cases hl), fun t _ ht => getD_in (by simpa using ht) (getD_replicate_false _ _)⟩
  unfold drawB at hn
  split at hn
  · rename_i hns
    subst hns
    have htake : ops.toList.take ops.size = ops.toList := List.take_of_length_le (by simp)
    have hdrop : ops.toList.drop ops.size = [] := List.drop_eq_nil_of_le (by simp)
    rw [htake, hdrop] at h1
    have hlen : ops.toList.length = ops.size := by simp
    have hlex := awpAnyL_lex (md := .any) (n := ops.size) (T := fun listed => (Region.ready .any ops listed).isEmpty) (σ0 := σ0) (σi := σ)
      (fun listed hT j hj => by rw [List.isEmpty_iff.1 hT] at hj; cases hj)
      (fun i hi listed inv hun t ht hr => by
        obtain ⟨_, o, ho, _⟩ := mem_ready.1 hr
        have := (Array.getElem?_eq_some_iff.1 ho).1
        omega)
      ops.toList 0 (Array.replicate ops.size false) e σ av (fun j hj => by simp) (by simp) (inv0 _) (fun j hj => by omega) (infOf hs.rel) hle0 hav (by rw [hlen]; exact hn) h1
    rw [hlen] at hlex
    have := anyL_sound (g := 0) (R := R) (K0 := K) hok (fun listed e' σ' K' a' w' hL hst hk => by
      refine ⟨List.isEmpty_iff.1 hL.1, ?_⟩
      exact hR e' σ' K' a' w' hL.2 hst hk) ops.size _ e σ av K a _ hle0 hav hlex hs' (Ctx.le.refl K)
    simpa using this
  · simp only [Bool.and_eq_true, decide_eq_true_eq] at hn
    obtain ⟨⟨⟨hlt, hsink⟩, hchain⟩, hB⟩ := hn
    have htl : (ops.toList.take n).length = n := by simp; omega
    have hdl : (ops.toList.drop n).length = ops.size - n := by simp
    have hlex := awpAnyL_lex (md := .any) (n := n) (T := fun listed => Region.seqB .any ops (ops.size - n) n listed) (σ0 := σ0) (σi := σ)
      (fun listed hT j hj => seqB_ready hT j hj)
      (fun i hi listed inv hun t ht => tail_waits hsink hchain hlt inv _ i rfl hi hun t ht)
      (ops.toList.take n) 0 (Array.replicate ops.size false) e σ av (fun j hj => by
        rw [htl] at hj
        simp [hj]) (by omega) (inv0 _) (fun j hj => by omega) (infOf hs.rel) hle0 hav (by rw [htl]; exact hB) h1
    rw [htl] at hlex
    have := anyL_sound (g := ops.size - n) (R := R) (K0 := K) hok (fun listed e' σ' K' a' w' hL hst hk => by
      have hd : (ops.toList.drop n).all (dstLt N) = true := List.all_eq_true.2 fun o ho => List.all_eq_true.1 hok o (List.mem_of_mem_drop ho)
      have hwl := awpOps_sound (K0 := K) hR (ops.toList.drop n) e' σ' K' a' w' hd hL.2 hst hk
      have := wpAny_of_seq (md := .any) (Q' := R) (ops.toList.drop n) n listed a' w' (fun j => by simp) (by rw [hdl]; exact hL.1) hwl
      rw [hdl] at this
      exact this) n _ e σ av K a _ hle0 hav hlex hs' (Ctx.le.refl K)
    rw [show n + (ops.size - n) = ops.size by omega] at this
    exact this
theorem drawOK {P : Program} {G : Nat → AV} (hm : P.follows .mixedOrders = true) : DrawOK P G (adraw P G) where
  mono ops Q Q' e σ hq h := by
    obtain ⟨fs, n, σ0, av, hf, hn, g1, g2, h1⟩ := h
    exact ⟨fs, n, σ0, av, hf, hn, g1, g2, awpHeadS_mono (fun e s hh => awpOps_mono _ hq _ _ hh) _ _ _ _ h1⟩
  frame ops Q e σ h := by
    obtain ⟨fs, n, σ0, av, hf, hn, g1, g2, h1⟩ := h
    refine ⟨fs, n, σ0, av, hf, hn, g1, g2, awpHeadS_mono (fun e' s hh => ?_) _ _ _ _ (awpHeadS_frame _ _ _ _ h1)⟩
    obtain ⟨g1, g2⟩ := hh
    refine awpOps_mono _ (fun e2 s2 hh2 => ⟨hh2.1, fun t ht => ?_⟩) _ _ (awpOps_frame _ _ _ g1)
    have hsp : opsWrites ops.toList = opsWrites (ops.toList.take n) ++ opsWrites (ops.toList.drop n) := by rw [← opsWrites_append, List.take_append_drop]
    rw [hsp, List.mem_append, not_or] at ht
    rw [hh2.2 t ht.2, g2 t ht.1]
  sound N ds id ops Q R e σ K a w hok h hs hR := by
    obtain ⟨fs, n, σ0, av, hf, hn, hle0, hav0, h1⟩ := h
    refine wp_mono (Q := plainQ (R .normal)) (wp_region_any hm (wpAny_floats fs ops hf ?_)) (fun x a w hx => by rw [hx.1]; exact hx.2)
    have hE := EqOps.edged fs ops
    have := draw_any (R := plainQ (R .normal)) (ops := edged ops fs) (by rw [hE.dsts]; exact hok) hn hle0 hav0 (hE.heads (fun e s hh => hE.ops (hE.drop n) e s hh) (hE.take n) e σ av h1) hs (fun e σ K' a w hq hst hk => ⟨rfl, hR e σ K' a w hq hst hk⟩)
    rw [edged_size] at this
    exact this
end Go.Av
set_option linter.unusedVariables false
set_option linter.unusedSimpArgs false
namespace Go.Av
open Go Go.RowKit

def ares1 (P : Program) (e : Env) (σ : AS) : ResultVar → Option AV
  | .tmp t => some (e t)
  | .cell a t => aload P σ t (e a)
def ares (P : Program) (e : Env) (σ : AS) : List ResultVar → Option (List AV)
  | [] => some []
  | r :: rs => match ares1 P e σ r, ares P e σ rs with
    | some x, some xs => some (x :: xs)
    | _, _ => none
def afin : List AV → AV
  | [r] => r
  | rs => .tup rs
def finW (P : Program) (rs : List ResultVar) (Q : AV → AS → Prop) : Exit → Env → AS → Prop := fun x e σ =>
  match x with
  | .normal => ∃ l σ', ares P e σ rs = some l ∧ σ'.le σ ∧ Q (afin l) σ'
  | .ret => ∃ l σ', ares P e σ rs = some l ∧ σ'.le σ ∧ Q (afin l) σ'
  | _ => False
def argEnv (args : List AV) : Env := fun j => args.getD j .undef

theorem load_ptr {P : Program} {G : Nat → AV} {K : Ctx} {σ : AS} {w : World} (hr : Rel G K σ w) {t : TypeId} {p r : AV} (h : aload P σ t p = some r) {v : Value} (hv : VR K p v) :
    ∃ u, (do loadVar t (← asAddr v) : Sem Value).run P w = .ok u w ∧ VR K r u := by
  obtain ⟨u, hu, hru⟩ := aload_sound hr h hv
  refine ⟨u, ?_, hru⟩
  unfold aload at h
  split at h
  · cases h
  cases p <;> simp only at h <;> first | cases h | skip
  · rw [VR.ptr_iff] at hv; subst hv
    simpa [Instr.loadAt, Instr.sureAddr, asAddr] using hu
  · cases hv
    simpa [Instr.loadAt, Instr.sureAddr, asAddr] using hu

theorem ares_sound {P : Program} {G : Nat → AV} {K : Ctx} {N : Nat} {ds : List Deferred} {e : Env} {σ : AS} {a : Act} {w : World} (hs : St P G K N ds e σ a w) : ∀ (rs : List ResultVar) (l : List AV), ares P e σ rs = some l →
    ∃ vs, (rs.mapM fun r => (match r with | .tmp t => pure (a.tmps.getD t Go.undef) | .cell b t => do loadVar t (← asAddr (a.tmps.getD b Go.undef)) : Sem Value)).run P w = .ok vs w ∧ VRl K l vs
  | [], l, h => by simp only [ares, Option.some.injEq] at h; subst h; exact ⟨[], by simp, trivial⟩
  | r :: rs, l, h => by
    unfold ares at h
    split at h
    case h_2 => cases h
    rename_i x xs hx hxs
    simp only [Option.some.injEq] at h; subst h
    obtain ⟨vs, h1, h2⟩ := ares_sound hs rs xs hxs
    cases r with
    | tmp t =>
      simp only [ares1, Option.some.injEq] at hx; subst hx
      exact ⟨a.tmps.getD t Go.undef :: vs, by simp only [List.mapM_cons, Sem.run_bind, Sem.run_pure, Result.andThen_ok, h1], hs.er t, h2⟩
    | cell b t =>
      obtain ⟨u, h3, h4⟩ := load_ptr hs.rel (p := e b) hx (hs.er b)
      exact ⟨u :: vs, by simp only [List.mapM_cons, Sem.run_bind (x := do loadVar t (← asAddr (a.tmps.getD b Go.undef))), h3, Sem.run_bind, Sem.run_pure, Result.andThen_ok, h1], h4, h2⟩

theorem results_sound {P : Program} {G : Nat → AV} {K : Ctx} {N : Nat} {ds : List Deferred} {e : Env} {σ : AS} {a : Act} {w : World} (hs : St P G K N ds e σ a w) {fn : Func} {l : List AV} (h : ares P e σ fn.results.toList = some l) :
    ∃ v, (results fn a.tmps).run P w = .ok v w ∧ VR K (afin l) v := by
  obtain ⟨vs, h1, h2⟩ := ares_sound hs _ l h
  have hm : (fn.results.mapM fun r => (match r with | .tmp t => pure (a.tmps.getD t Go.undef) | .cell b t => do loadVar t (← asAddr (a.tmps.getD b Go.undef)) : Sem Value)).run P w = .ok vs.toArray w := by
    rw [Array.mapM_eq_mapM_toList]
    simp only [Sem.run_map, h1]
    rfl
  have hl := h2.length
  refine ⟨if h : vs.toArray.size = 1 then vs.toArray[0] else .tuple vs.toArray, ?_, ?_⟩
  · unfold results
    simp only [Sem.run_bind, Sem.run_pure]
    exact (congrArg (fun r => Result.andThen r fun (a : Array Value) w' => Result.ok (if h : a.size = 1 then a[0] else Value.tuple a) w') hm)
  · match l, vs, h2, hl with
    | [], [], _, _ => exact .tup [] #[] rfl (fun j hj => by cases hj)
    | [x], [v], hh, _ => exact hh.1
    | x :: y :: l', v :: u :: vs', hh, _ =>
      have e1 : ¬ ((v :: u :: vs').toArray.size = 1) := by simp
      rw [dif_neg e1]
      refine .tup _ _ (by have := hh.length; simp only [List.size_toArray]; omega) (fun j hj => ?_)
      have := hh.get j hj
      simpa [Array.getD_eq_getD_getElem?, List.getD_eq_getElem?_getD] using this

theorem VRl.env {K : Ctx} {l : List AV} {vs : List Value} (h : VRl K l vs) (n : Nat) : ER K (argEnv l) { tmps := vs.toArray ++ Array.replicate n Go.undef, defers := [] } := by
  intro t
  have hl := h.length
  unfold argEnv
  by_cases ht : t < l.length
  · have h1 := h.get t ht
    have e1 : l.getD t .undef = l[t] := by simp [ht]
    have ht2 : t < vs.length := by omega
    rw [e1]
    have e2 : (vs.toArray ++ Array.replicate n Go.undef).getD t Go.undef = vs.getD t Go.undef := by
      simp only [Array.getD_eq_getD_getElem?, List.getD_eq_getElem?_getD]
      rw [Array.getElem?_append_left (by simpa using ht2)]
      simp
    rw [e2]
    exact h1
  · have e1 : l.getD t .undef = .undef := by simp [List.getElem?_eq_none (Nat.le_of_not_lt ht)]
    rw [e1]
    exact .undef _

/-- FROM THE BODY TO THE CALL -/
theorem Tri.of_awp {P : Program} {G : Nat → AV} (hm : P.follows .mixedOrders = true) {f : FuncId} {fn : Func} {c : Code} (hf : P.funcs[f]? = some fn) (hb : fn.body = some c) (hcl : callable P f = true) (hok : cOK fn.ntmps c = true)
    {args : List AV} (hlen : args.length ≤ fn.ntmps) {σ : AS} {Q : AV → AS → Prop} {rs : Array ResultVar} (hrs : fn.results = rs) (h : awp P G (adraw P G) c (finW P rs.toList Q) (argEnv args) σ) : Tri P G f args σ Q := by
  subst hrs
  refine ⟨hcl, fun K w vals hr hv => ?_⟩
  refine calls_of_wp hf hb ?_
  have hl := hv.length
  have hs : St P G K fn.ntmps [] (argEnv args) σ { tmps := vals.toArray ++ Array.replicate (fn.ntmps - vals.toArray.size) Go.undef, defers := [] } w :=
    ⟨hv.env _, hr, by simp; omega, rfl⟩
  refine wp_mono (awp_sound (drawOK hm) fn.ntmps [] c _ _ σ K _ w hok h hs) ?_
  intro x a' w' ⟨e', σ', K', hq, hs', hk⟩
  have key : (∃ l σ'', ares P e' σ' fn.results.toList = some l ∧ σ''.le σ' ∧ Q (afin l) σ'') → a'.defers = [] ∧ ∃ v, (results fn a'.tmps).run P w' = .ok v w' ∧
      ∃ v' r σ'' K', Ending.returned v = .returned v' ∧ Q r σ'' ∧ VR K' r v' ∧ Rel G K' σ'' w' ∧ K.le K' := by
    rintro ⟨l, σ'', h1, h2, h3⟩
    obtain ⟨v, h4, h5⟩ := results_sound hs' h1
    exact ⟨hs'.defers, v, h4, v, afin l, σ'', K', rfl, h3, h5, hs'.rel.weaken h2, hk⟩
  unfold finW at hq
  cases x <;> first | exact hq.elim | exact key hq

/-! ### working out -/
/-- beside an argument that is to be left as it stands -/
structure Dum.{u} {α : Sort u} (a : α) : Type where

def bo {α : Type} (x : Option α) (K : α → Prop) (_ : Dum K) : Prop := ∃ r, x = some r ∧ K r
def st (x : AV) (K : AV → Prop) (_ : Dum K) : Prop := K x
def condW (v : AV) (A B : Prop) (_ : Dum A) (_ : Dum B) : Prop := ∃ t, v = .bool t ∧ (t = true → A) ∧ (t = false → B)
def gW (v : Option Bool) (A B : Prop) (_ : Dum A) (_ : Dum B) : Prop := ∃ b, v = some b ∧ (b = true → A) ∧ (b = false → B)
def pickW (v : AV) (a b : AV) (K : AV → Prop) (_ : Dum a) (_ : Dum b) (_ : Dum K) : Prop := ∃ t, v = .bool t ∧ K (if t = true then a else b)
def newW (σ : AS) (z : List AV) (K : AV → AS → Prop) (_ : Dum σ) (_ : Dum K) : Prop := ∀ b, σ.fresh b → K (.ptr b 0) (σ.setBox b z)
def newT (σ : AS) (E : TypeId) (z : List AV) (K : AV → AS → Prop) (_ : Dum σ) (_ : Dum K) : Prop := (∀ b, σ.fresh b → K (.ptr b 0) (σ.setBox b z)) ∨ (∀ b, σ.fresh b → K (.ptr b 0) ((σ.setBox b z).setTy b (E, z.length)))
def boxW (σ : AS) (x : AV) (K : AV → AS → Prop) (_ : Dum σ) (_ : Dum K) : Prop := isv x = true ∧ newW σ (flat x) K ⟨⟩ ⟨⟩
def nilW (x : AV) (K : AV → Prop) (_ : Dum K) : Prop := (match x with | .ptr .. => True | .rp .. => True | .fn .. => True | _ => False) ∧ K x
def callW (P : Program) (G : Nat → AV) (f : AV) (args : List AV) (σ : AS) (K : AV → AS → Prop) (_ : Dum σ) (_ : Dum K) : Prop :=
  match f with
  | .fn k caps => Tri P G k (args ++ caps) σ K
  | _ => False
def triW (P : Program) (G : Nat → AV) (k : FuncId) (args : List AV) (σ : AS) (K : AV → AS → Prop) (_ : Dum σ) (_ : Dum K) : Prop := Tri P G k args σ K
def appW (P : Program) (σ : AS) (t tx : TypeId) (s x : AV) (K : AV → AS → Prop) (_ : Dum σ) (_ : Dum K) : Prop := aappend P σ t tx s x K ∨ aappendX P σ t tx s x K
def makeW (P : Program) (σ : AS) (t : TypeId) (l c : AV) (K : AV → AS → Prop) (_ : Dum σ) (_ : Dum K) : Prop := amake P σ t l c K ∨ amakeM P σ t l c K
def ustrW (P : Program) (σ : AS) (pt : TypeId) (x n : AV) (K : AV → AS → Prop) (_ : Dum σ) (_ : Dum K) : Prop := auStr P σ pt x n K
def loopW (P : Program) (G : Nat → AV) (c : Code) (Q : Exit → Env → AS → Prop) (e : Env) (σ : AS) (_ : Dum c) (_ : Dum Q) (_ : Dum e) (_ : Dum σ) : Prop := awp P G (adraw P G) (.loop c) Q e σ
def drawW (P : Program) (G : Nat → AV) (ops : Array Oper) (Q : Env → AS → Prop) (e : Env) (σ : AS) (_ : Dum ops) (_ : Dum Q) (_ : Dum e) (_ : Dum σ) : Prop := adraw P G ops Q e σ
def finishW (l : Option (List AV)) (σ : AS) (Q : AV → AS → Prop) (_ : Dum σ) (_ : Dum Q) : Prop := ∃ r σ', l = some r ∧ σ'.le σ ∧ Q (afin r) σ'
def hcallW (P : Program) (G : Nat → AV) (f : AV) (args : List AV) (σ0 : AS) (K : AV → Prop) (_ : Dum σ0) (_ : Dum K) : Prop :=
  match f with
  | .fn k caps => ∃ v, PureC P G k (args ++ caps) σ0 v ∧ K v
  | _ => False

theorem nr {p : Prop} (h : p) : p := h
section rules
variable {P : Program} {G : Nat → AV} {Q : Exit → Env → AS → Prop} {e : Env} {σ σ0 : AS} {ops rest : List Oper} {R : Env → AS → Prop} {K : AV → AS → Prop}
theorem w_skip : awp P G (adraw P G) .skip Q e σ = Q .normal e σ := nr rfl
theorem w_region {id : Nat} {l : List Oper} : awp P G (adraw P G) (.region id l.toArray false) Q e σ = awpOps P G l (Q .normal) l e σ := nr rfl
theorem w_draw {id : Nat} {l : Array Oper} : awp P G (adraw P G) (.region id l true) Q e σ = drawW P G l (Q .normal) e σ ⟨⟩ ⟨⟩ ⟨⟩ ⟨⟩ := nr rfl
theorem w_seq {a b : Code} : awp P G (adraw P G) (.seq a b) Q e σ = awp P G (adraw P G) a (fun x e σ => match x with | .normal => awp P G (adraw P G) b Q e σ | x => Q x e σ) e σ := nr rfl
theorem w_cond {c : Operand} {a b : Code} : awp P G (adraw P G) (.cond c a b) Q e σ = condW (ev G e c) (awp P G (adraw P G) a Q e σ) (awp P G (adraw P G) b Q e σ) ⟨⟩ ⟨⟩ := nr rfl
theorem w_block {id : Nat} {c : Code} : awp P G (adraw P G) (.block id c) Q e σ = awp P G (adraw P G) c (fun x e σ => match x with | .exit i => if i = id then Q .normal e σ else Q (.exit i) e σ | x => Q x e σ) e σ := nr rfl
theorem w_loop {c : Code} : awp P G (adraw P G) (.loop c) Q e σ = loopW P G c Q e σ ⟨⟩ ⟨⟩ ⟨⟩ ⟨⟩ := nr rfl
theorem w_exit {id : Nat} : awp P G (adraw P G) (.exit id) Q e σ = Q (.exit id) e σ := nr rfl
theorem w_ret : awp P G (adraw P G) .ret Q e σ = Q .ret e σ := nr rfl
theorem w_nil : awpOps P G ops R [] e σ = R e σ := nr rfl
theorem w_cons {o : Oper} : awpOps P G ops R (o :: rest) e σ = gW (awanted ops e o.guard) (aop P G o e σ fun r σ' => awpOps P G ops R rest (e.upd o.dst r) σ') (awpOps P G ops R rest (e.upd o.dst (.tup [])) σ) ⟨⟩ ⟨⟩ := nr rfl
theorem h_nil {L : Env → AS → Prop} : awpHead P G ops σ0 L [] e σ = L e σ := nr rfl
theorem h_cons {L : Env → AS → Prop} {o : Oper} : awpHead P G ops σ0 L (o :: rest) e σ = gW (awanted ops e o.guard) (hop P G o e σ0 σ fun r σ' => awpHead P G ops σ0 L rest (e.upd o.dst r) σ') (awpHead P G ops σ0 L rest (e.upd o.dst (.tup [])) σ) ⟨⟩ ⟨⟩ := nr rfl
variable {d : Option Tmp} {ty : TypeId} {pos : String} {af : Array Edge} {g : Option (Nat × Bool)}
theorem o_move {x : Operand} : aop P G ⟨d, .move x, ty, pos, af, g⟩ e σ K = st (ev G e x) (fun r => K r σ) ⟨⟩ := nr rfl
theorem h_move {x : Operand} : hop P G ⟨d, .move x, ty, pos, af, g⟩ e σ0 σ K = st (ev G e x) (fun r => K r σ) ⟨⟩ := nr rfl
theorem o_assign {x : Operand} : aop P G ⟨d, .assign x, ty, pos, af, g⟩ e σ K = st (ev G e x) (fun r => K r σ) ⟨⟩ := nr rfl
theorem h_assign {x : Operand} : hop P G ⟨d, .assign x, ty, pos, af, g⟩ e σ0 σ K = st (ev G e x) (fun r => K r σ) ⟨⟩ := nr rfl
theorem o_pick {c x y : Operand} : aop P G ⟨d, .pick c x y, ty, pos, af, g⟩ e σ K = pickW (ev G e c) (ev G e x) (ev G e y) (fun r => K r σ) ⟨⟩ ⟨⟩ ⟨⟩ := nr rfl
theorem h_pick {c x y : Operand} : hop P G ⟨d, .pick c x y, ty, pos, af, g⟩ e σ0 σ K = pickW (ev G e c) (ev G e x) (ev G e y) (fun r => K r σ) ⟨⟩ ⟨⟩ ⟨⟩ := nr rfl
theorem o_alloc {E : TypeId} : aop P G ⟨d, .alloc E, ty, pos, af, g⟩ e σ K = bo (zc P E) (fun z => newT σ E z K ⟨⟩ ⟨⟩) ⟨⟩ := nr rfl
theorem h_alloc {E : TypeId} : hop P G ⟨d, .alloc E, ty, pos, af, g⟩ e σ0 σ K = bo (zc P E) (fun z => newW σ z K ⟨⟩ ⟨⟩) ⟨⟩ := nr rfl
theorem o_box {E : TypeId} {x : Operand} : aop P G ⟨d, .box E x, ty, pos, af, g⟩ e σ K = boxW σ (ev G e x) K ⟨⟩ ⟨⟩ := nr rfl
theorem h_box {E : TypeId} {x : Operand} : hop P G ⟨d, .box E x, ty, pos, af, g⟩ e σ0 σ K = boxW σ (ev G e x) K ⟨⟩ ⟨⟩ := nr rfl
theorem o_build {t : TypeId} {ps : Array (Nat × Operand)} : aop P G ⟨d, .build t ps, ty, pos, af, g⟩ e σ K = bo (abuild P t (pairs G e ps.toList)) (fun r => K r σ) ⟨⟩ := nr rfl
theorem h_build {t : TypeId} {ps : Array (Nat × Operand)} : hop P G ⟨d, .build t ps, ty, pos, af, g⟩ e σ0 σ K = bo (abuild P t (pairs G e ps.toList)) (fun r => K r σ) ⟨⟩ := nr rfl
theorem o_buildSlice {t n : Nat} {ps : Array (Nat × Operand)} : aop P G ⟨d, .buildSlice t n ps, ty, pos, af, g⟩ e σ K = bo (abuildSlice P t n (pairs G e ps.toList)) (fun r => K r σ) ⟨⟩ := nr rfl
theorem h_buildSlice {t n : Nat} {ps : Array (Nat × Operand)} : hop P G ⟨d, .buildSlice t n ps, ty, pos, af, g⟩ e σ0 σ K = bo (abuildSlice P t n (pairs G e ps.toList)) (fun r => K r σ) ⟨⟩ := nr rfl
theorem o_load {t : TypeId} {x : Operand} : aop P G ⟨d, .load t x, ty, pos, af, g⟩ e σ K = bo (aload P σ t (ev G e x)) (fun r => K r σ) ⟨⟩ := nr rfl
theorem h_load {t : TypeId} {x : Operand} : hop P G ⟨d, .load t x, ty, pos, af, g⟩ e σ0 σ K = bo (aload P σ0 t (ev G e x)) (fun r => K r σ) ⟨⟩ := nr rfl
theorem o_nilCheck {x : Operand} : aop P G ⟨d, .nilCheck x, ty, pos, af, g⟩ e σ K = nilW (ev G e x) (fun r => K r σ) ⟨⟩ := nr rfl
theorem h_nilCheck {x : Operand} : hop P G ⟨d, .nilCheck x, ty, pos, af, g⟩ e σ0 σ K = nilW (ev G e x) (fun r => K r σ) ⟨⟩ := nr rfl
theorem o_binOp {op : BinOp} {t yt : TypeId} {x y : Operand} : aop P G ⟨d, .binOp op t x y yt, ty, pos, af, g⟩ e σ K = bo (abin P op t (ev G e x) (ev G e y)) (fun r => K r σ) ⟨⟩ := nr rfl
theorem h_binOp {op : BinOp} {t yt : TypeId} {x y : Operand} : hop P G ⟨d, .binOp op t x y yt, ty, pos, af, g⟩ e σ0 σ K = bo (abin P op t (ev G e x) (ev G e y)) (fun r => K r σ) ⟨⟩ := nr rfl
theorem o_unOp {op : UnOp} {t : TypeId} {x : Operand} : aop P G ⟨d, .unOp op t x, ty, pos, af, g⟩ e σ K = bo (aun op (ev G e x)) (fun r => K r σ) ⟨⟩ := nr rfl
theorem h_unOp {op : UnOp} {t : TypeId} {x : Operand} : hop P G ⟨d, .unOp op t x, ty, pos, af, g⟩ e σ0 σ K = bo (aun op (ev G e x)) (fun r => K r σ) ⟨⟩ := nr rfl
theorem o_convert {s t : TypeId} {x : Operand} : aop P G ⟨d, .convert s t x, ty, pos, af, g⟩ e σ K = bo (aconvZ P σ s t (ev G e x)) (fun r => K r σ) ⟨⟩ := nr rfl
theorem h_convert {s t : TypeId} {x : Operand} : hop P G ⟨d, .convert s t x, ty, pos, af, g⟩ e σ0 σ K = bo (aconvZ P σ0 s t (ev G e x)) (fun r => K r σ) ⟨⟩ := nr rfl
theorem o_makeSlice {t : TypeId} {x y : Operand} : aop P G ⟨d, .makeSlice t x y, ty, pos, af, g⟩ e σ K = makeW P σ t (ev G e x) (ev G e y) K ⟨⟩ ⟨⟩ := nr rfl
theorem o_makeFunc {f : FuncId} {caps : Array Operand} : aop P G ⟨d, .makeFunc (.func f) #[] caps, ty, pos, af, g⟩ e σ K = st (.fn f (caps.toList.map (ev G e))) (fun r => K r σ) ⟨⟩ := nr rfl
theorem h_makeFunc {f : FuncId} {caps : Array Operand} : hop P G ⟨d, .makeFunc (.func f) #[] caps, ty, pos, af, g⟩ e σ0 σ K = st (.fn f (caps.toList.map (ev G e))) (fun r => K r σ) ⟨⟩ := nr rfl
theorem o_slice {t : TypeId} {x : Operand} {lo hi : Option Operand} : aop P G ⟨d, .slice t x lo hi none, ty, pos, af, g⟩ e σ K = bo (aslice P t (ev G e x) (lo.map (ev G e)) (hi.map (ev G e))) (fun r => K r σ) ⟨⟩ := nr rfl
theorem h_slice {t : TypeId} {x : Operand} {lo hi : Option Operand} : hop P G ⟨d, .slice t x lo hi none, ty, pos, af, g⟩ e σ0 σ K = bo (aslice P t (ev G e x) (lo.map (ev G e)) (hi.map (ev G e))) (fun r => K r σ) ⟨⟩ := nr rfl
theorem o_fieldAddr {t : TypeId} {x : Operand} {i : Nat} : aop P G ⟨d, .fieldAddr t x i, ty, pos, af, g⟩ e σ K = bo (afield P t (ev G e x) i) (fun r => K r σ) ⟨⟩ := nr rfl
theorem h_fieldAddr {t : TypeId} {x : Operand} {i : Nat} : hop P G ⟨d, .fieldAddr t x i, ty, pos, af, g⟩ e σ0 σ K = bo (afield P t (ev G e x) i) (fun r => K r σ) ⟨⟩ := nr rfl
theorem o_field {t : TypeId} {x : Operand} {i : Nat} : aop P G ⟨d, .field t x i, ty, pos, af, g⟩ e σ K = bo (afieldv P t (ev G e x) i) (fun r => K r σ) ⟨⟩ := nr rfl
theorem h_field {t : TypeId} {x : Operand} {i : Nat} : hop P G ⟨d, .field t x i, ty, pos, af, g⟩ e σ0 σ K = bo (afieldv P t (ev G e x) i) (fun r => K r σ) ⟨⟩ := nr rfl
theorem o_indexAddr {t : TypeId} {x i : Operand} : aop P G ⟨d, .indexAddr t x i, ty, pos, af, g⟩ e σ K = bo (aindexA P t (ev G e x) (ev G e i)) (fun r => K r σ) ⟨⟩ := nr rfl
theorem h_indexAddr {t : TypeId} {x i : Operand} : hop P G ⟨d, .indexAddr t x i, ty, pos, af, g⟩ e σ0 σ K = bo (aindexA P t (ev G e x) (ev G e i)) (fun r => K r σ) ⟨⟩ := nr rfl
theorem o_index {t : TypeId} {x i : Operand} : aop P G ⟨d, .index t x i, ty, pos, af, g⟩ e σ K = bo (aindex P t (ev G e x) (ev G e i)) (fun r => K r σ) ⟨⟩ := nr rfl
theorem h_index {t : TypeId} {x i : Operand} : hop P G ⟨d, .index t x i, ty, pos, af, g⟩ e σ0 σ K = bo (aindex P t (ev G e x) (ev G e i)) (fun r => K r σ) ⟨⟩ := nr rfl
theorem o_extract {x : Operand} {i : Nat} : aop P G ⟨d, .extract x i, ty, pos, af, g⟩ e σ K = bo (aextract (ev G e x) i) (fun r => K r σ) ⟨⟩ := nr rfl
theorem h_extract {x : Operand} {i : Nat} : hop P G ⟨d, .extract x i, ty, pos, af, g⟩ e σ0 σ K = bo (aextract (ev G e x) i) (fun r => K r σ) ⟨⟩ := nr rfl
theorem o_len {args : Array Operand} {ts : Array TypeId} : aop P G ⟨d, .call ⟨.builtin .len, args, ts⟩, ty, pos, af, g⟩ e σ K = bo (ablt P .len ts (args.toList.map (ev G e))) (fun r => K r σ) ⟨⟩ := nr rfl
theorem o_cap {args : Array Operand} {ts : Array TypeId} : aop P G ⟨d, .call ⟨.builtin .cap, args, ts⟩, ty, pos, af, g⟩ e σ K = bo (ablt P .cap ts (args.toList.map (ev G e))) (fun r => K r σ) ⟨⟩ := nr rfl
theorem o_usd {args : Array Operand} {ts : Array TypeId} : aop P G ⟨d, .call ⟨.builtin .unsafeSliceData, args, ts⟩, ty, pos, af, g⟩ e σ K = bo (ablt P .unsafeSliceData ts (args.toList.map (ev G e))) (fun r => K r σ) ⟨⟩ := nr rfl
theorem h_len {args : Array Operand} {ts : Array TypeId} : hop P G ⟨d, .call ⟨.builtin .len, args, ts⟩, ty, pos, af, g⟩ e σ0 σ K = bo (ablt P .len ts (args.toList.map (ev G e))) (fun r => K r σ) ⟨⟩ := nr rfl
theorem h_cap {args : Array Operand} {ts : Array TypeId} : hop P G ⟨d, .call ⟨.builtin .cap, args, ts⟩, ty, pos, af, g⟩ e σ0 σ K = bo (ablt P .cap ts (args.toList.map (ev G e))) (fun r => K r σ) ⟨⟩ := nr rfl
theorem h_usd {args : Array Operand} {ts : Array TypeId} : hop P G ⟨d, .call ⟨.builtin .unsafeSliceData, args, ts⟩, ty, pos, af, g⟩ e σ0 σ K = bo (ablt P .unsafeSliceData ts (args.toList.map (ev G e))) (fun r => K r σ) ⟨⟩ := nr rfl
theorem o_max {args : Array Operand} {ts : Array TypeId} : aop P G ⟨d, .call ⟨.builtin .max, args, ts⟩, ty, pos, af, g⟩ e σ K = bo (ablt P .max ts (args.toList.map (ev G e))) (fun r => K r σ) ⟨⟩ := nr rfl
theorem h_max {args : Array Operand} {ts : Array TypeId} : hop P G ⟨d, .call ⟨.builtin .max, args, ts⟩, ty, pos, af, g⟩ e σ0 σ K = bo (ablt P .max ts (args.toList.map (ev G e))) (fun r => K r σ) ⟨⟩ := nr rfl
theorem o_min {args : Array Operand} {ts : Array TypeId} : aop P G ⟨d, .call ⟨.builtin .min, args, ts⟩, ty, pos, af, g⟩ e σ K = bo (ablt P .min ts (args.toList.map (ev G e))) (fun r => K r σ) ⟨⟩ := nr rfl
theorem h_min {args : Array Operand} {ts : Array TypeId} : hop P G ⟨d, .call ⟨.builtin .min, args, ts⟩, ty, pos, af, g⟩ e σ0 σ K = bo (ablt P .min ts (args.toList.map (ev G e))) (fun r => K r σ) ⟨⟩ := nr rfl
theorem o_store {t : TypeId} {p x : Operand} : aop P G ⟨d, .store t p x, ty, pos, af, g⟩ e σ K = bo (astore P σ t (ev G e p) (ev G e x)) (fun s => K .undef s) ⟨⟩ := nr rfl
theorem o_call {f : Operand} {args : Array Operand} {ts : Array TypeId} : aop P G ⟨d, .call ⟨.value f, args, ts⟩, ty, pos, af, g⟩ e σ K = callW P G (ev G e f) (args.toList.map (ev G e)) σ K ⟨⟩ ⟨⟩ := nr rfl
theorem h_call {f : Operand} {args : Array Operand} {ts : Array TypeId} : hop P G ⟨d, .call ⟨.value f, args, ts⟩, ty, pos, af, g⟩ e σ0 σ K = hcallW P G (ev G e f) (args.toList.map (ev G e)) σ0 (fun r => K r σ) ⟨⟩ ⟨⟩ := nr rfl
theorem o_append {s x : Operand} {t tx : TypeId} : aop P G ⟨d, .call ⟨.builtin .append, #[s, x], #[t, tx]⟩, ty, pos, af, g⟩ e σ K = appW P σ t tx (ev G e s) (ev G e x) K ⟨⟩ ⟨⟩ := nr rfl
theorem o_ustr {x n : Operand} {pt it : TypeId} : aop P G ⟨d, .call ⟨.builtin .unsafeString, #[x, n], #[pt, it]⟩, ty, pos, af, g⟩ e σ K = ustrW P σ pt (ev G e x) (ev G e n) K ⟨⟩ ⟨⟩ := nr rfl

theorem bo_some {α : Type} {a : α} {F : α → Prop} {d : Dum F} : bo (some a) F d = F a := by simp [bo]
theorem bo_none {α : Type} {F : α → Prop} {d : Dum F} : bo (none : Option α) F d = False := by simp [bo]
theorem bo_ite {α : Type} {c : Prop} [Decidable c] {a : α} {F : α → Prop} {d : Dum F} : bo (if c then some a else none) F d = (c ∧ F a) := by
  unfold bo; by_cases h : c <;> simp [h]
theorem bo_ite' {α : Type} {c : Prop} [Decidable c] {a : α} {F : α → Prop} {d : Dum F} : bo (if c then none else some a) F d = (¬ c ∧ F a) := by
  unfold bo; by_cases h : c <;> simp [h]
theorem st_eq {x : AV} {F : AV → Prop} {d : Dum F} : st x F d = F x := nr rfl
theorem condW_true {A B : Prop} {d : Dum A} {d' : Dum B} : condW (.bool true) A B d d' = A := by simp [condW]
theorem condW_false {A B : Prop} {d : Dum A} {d' : Dum B} : condW (.bool false) A B d d' = B := by simp [condW]
theorem condW_split {t : Bool} {A B : Prop} {d : Dum A} {d' : Dum B} (h1 : t = true → A) (h2 : t = false → B) : condW (.bool t) A B d d' := ⟨t, rfl, h1, h2⟩
theorem condW_dec {p : Prop} [Decidable p] {A B : Prop} {d : Dum A} {d' : Dum B} (h1 : p → A) (h2 : ¬ p → B) : condW (.bool (decide p)) A B d d' := ⟨_, rfl, fun h => h1 (of_decide_eq_true h), fun h => h2 (of_decide_eq_false h)⟩
theorem condW_both {p : Prop} [Decidable p] {A B : Prop} {d : Dum A} {d' : Dum B} (h1 : decide p = true → ¬ ¬ p → A) (h2 : decide p = false → ¬ p → B) : condW (.bool (decide p)) A B d d' := ⟨_, rfl, fun h => h1 h (fun hn => hn (of_decide_eq_true h)), fun h => h2 h (of_decide_eq_false h)⟩
theorem gW_true {A B : Prop} {d : Dum A} {d' : Dum B} : gW (some true) A B d d' = A := by simp [gW]
theorem gW_false {A B : Prop} {d : Dum A} {d' : Dum B} : gW (some false) A B d d' = B := by simp [gW]
theorem gW_not {b : Bool} {A B : Prop} {d : Dum A} {d' : Dum B} : gW (some (!b)) A B d d' = gW (some b) B A d' d := by cases b <;> simp [gW]
theorem condW_not {b : Bool} {A B : Prop} {d : Dum A} {d' : Dum B} : condW (.bool (!b)) A B d d' = condW (.bool b) B A d' d := by cases b <;> simp [condW]
theorem gW_split {t : Bool} {A B : Prop} {d : Dum A} {d' : Dum B} (h1 : t = true → A) (h2 : t = false → B) : gW (some t) A B d d' := ⟨t, rfl, h1, h2⟩
theorem gW_dec {p : Prop} [Decidable p] {A B : Prop} {d : Dum A} {d' : Dum B} (h1 : p → A) (h2 : ¬ p → B) : gW (some (decide p)) A B d d' := ⟨_, rfl, fun h => h1 (of_decide_eq_true h), fun h => h2 (of_decide_eq_false h)⟩
theorem gW_both {p : Prop} [Decidable p] {A B : Prop} {d : Dum A} {d' : Dum B} (h1 : decide p = true → ¬ ¬ p → A) (h2 : decide p = false → ¬ p → B) : gW (some (decide p)) A B d d' := ⟨_, rfl, fun h => h1 h (fun hn => hn (of_decide_eq_true h)), fun h => h2 h (of_decide_eq_false h)⟩
theorem pickW_true {a b : AV} {F : AV → Prop} {d : Dum a} {d' : Dum b} {d2 : Dum F} : pickW (.bool true) a b F d d' d2 = st a F ⟨⟩ := by simp [pickW, st]
theorem pickW_false {a b : AV} {F : AV → Prop} {d : Dum a} {d' : Dum b} {d2 : Dum F} : pickW (.bool false) a b F d d' d2 = st b F ⟨⟩ := by simp [pickW, st]
theorem pickW_split {t : Bool} {a b : AV} {F : AV → Prop} {d : Dum a} {d' : Dum b} {d2 : Dum F} (h1 : t = true → F a) (h2 : t = false → F b) : pickW (.bool t) a b F d d' d2 := by
  refine ⟨t, rfl, ?_⟩; cases t
  · exact h2 rfl
  · exact h1 rfl
theorem newT_plain {E : TypeId} {z : List AV} {d : Dum σ} {d' : Dum K} (h : ∀ b, σ.fresh b → K (.ptr b 0) (σ.setBox b z)) : newT σ E z K d d' := .inl h
theorem newT_ty {E : TypeId} {z : List AV} {d : Dum σ} {d' : Dum K} (h : ∀ b, σ.fresh b → K (.ptr b 0) ((σ.setBox b z).setTy b (E, z.length))) : newT σ E z K d d' := .inr h
theorem newW_intro {z : List AV} {d : Dum σ} {d' : Dum K} (h : ∀ b, σ.fresh b → K (.ptr b 0) (σ.setBox b z)) : newW σ z K d d' := h
theorem boxW_eq {x : AV} {d : Dum σ} {d' : Dum K} : boxW σ x K d d' = (isv x = true ∧ newW σ (flat x) K ⟨⟩ ⟨⟩) := nr rfl
theorem nilW_ptr {b o : Nat} {F : AV → Prop} {d : Dum F} : nilW (.ptr b o) F d = F (.ptr b o) := by simp [nilW]
theorem nilW_rp {l : List AV} {F : AV → Prop} {d : Dum F} : nilW (.rp l) F d = F (.rp l) := by simp [nilW]
theorem nilW_fn {f : FuncId} {l : List AV} {F : AV → Prop} {d : Dum F} : nilW (.fn f l) F d = F (.fn f l) := by simp [nilW]
theorem callW_fn {k : FuncId} {caps l : List AV} {d : Dum σ} {d' : Dum K} : callW P G (.fn k caps) l σ K d d' = triW P G k (l ++ caps) σ K ⟨⟩ ⟨⟩ := nr rfl
theorem callW_nocaps {k : FuncId} {l : List AV} {d : Dum σ} {d' : Dum K} : callW P G (.fn k []) l σ K d d' = triW P G k l σ K ⟨⟩ ⟨⟩ := by simp [callW, triW]
theorem hcallW_nocaps {k : FuncId} {l : List AV} {F : AV → Prop} {d : Dum σ0} {d' : Dum F} {v : AV} (h : PureC P G k l σ0 v) (hk : F v) : hcallW P G (.fn k []) l σ0 F d d' := ⟨v, by simpa using h, hk⟩
theorem ev_tmp {t : Tmp} : ev G e (.tmp t) = e t := nr rfl
theorem ev_const {v : Value} : ev G e (.const v) = ofConst v := nr rfl
theorem ev_global {g : Nat} : ev G e (.global g) = G g := nr rfl
theorem ev_func {f : FuncId} : ev G e (.func f) = .fn f [] := nr rfl
theorem upd_some {t : Tmp} {r : AV} {j : Nat} : (e.upd (some t) r) j = if j = t then r else e j := nr rfl
theorem upd_none {r : AV} : (e.upd none r) = e := nr rfl
theorem mrg_at {W : List Nat} {v : Env} {j : Nat} : mrg W v e j = if W.contains j then v j else e j := nr rfl
theorem argEnv_at {l : List AV} {j : Nat} : argEnv l j = l.getD j .undef := nr rfl
theorem fin_normal {rs : List ResultVar} : finW P rs K .normal e σ = finishW (ares P e σ rs) σ K ⟨⟩ ⟨⟩ := nr rfl
theorem fin_ret {rs : List ResultVar} : finW P rs K .ret e σ = finishW (ares P e σ rs) σ K ⟨⟩ ⟨⟩ := nr rfl
theorem fin_exit {rs : List ResultVar} {i : Nat} : finW P rs K (.exit i) e σ = False := nr rfl
theorem finishW_some {l : List AV} {d : Dum σ} {d' : Dum K} (σ' : AS) (h1 : σ'.le σ) (h2 : K (afin l) σ') : finishW (some l) σ K d d' := ⟨l, σ', rfl, h1, h2⟩
/-- the end of a function that only tells -/
theorem finish_pure {r v : AV} {σ' : AS} {d : Dum σ} {d' : Dum fun x s => x = v ∧ s = σ'} (h2 : r = v) (h1 : σ'.le σ) : finishW (some [r]) σ (fun x s => x = v ∧ s = σ') d d' := ⟨[r], σ', rfl, h1, h2, rfl⟩
theorem draw_intro {l : List Oper} {d : Dum l.toArray} {d' : Dum R} {d2 : Dum e} {d3 : Dum σ} (n : Nat) (hn : drawB l.toArray n = true) {hd tl : List Oper} (h1 : l.take n = hd) (h2 : l.drop n = tl) (h : awpHead P G l σ (fun e' σ' => awpOps P G l R tl e' σ') hd e σ) : drawW P G l.toArray R e σ d d' d2 d3 := ⟨[], n, σ, [], rfl, hn, AS.le.refl σ, fun c hc => (by cases hc), awpHead_S _ _ _ _ (by subst h1 h2; exact h)⟩

theorem c_bool {b : Bool} : ofConst (.bool b) = .bool b := nr rfl
theorem c_int {k : IntKind} {n : Int} : ofConst (.int k n) = .int k n := nr rfl
theorem c_str {l : List UInt8} : ofConst (.string ⟨⟨l⟩⟩) = .str l := nr rfl
theorem c_nil : ofConst (.slice none 0 0) = .nil := nr rfl
theorem c_nilptr : ofConst (.pointer none) = .nilptr := nr rfl
theorem c_nilfn : ofConst .nilFunc = .nilfn := nr rfl
theorem box_set {b i : Nat} {cs : List AV} : (σ.setBox b cs).box i = if i = b then some cs else σ.box i := nr rfl
theorem box_tip {b i : Nat} {x : Nat × Nat} : (σ.setTip b x).box i = σ.box i := nr rfl
theorem box_del {b i : Nat} : (σ.delTip b).box i = σ.box i := nr rfl
theorem tip_box {b i : Nat} {cs : List AV} : (σ.setBox b cs).tip i = σ.tip i := nr rfl
theorem tip_set {b i : Nat} {x : Nat × Nat} : (σ.setTip b x).tip i = if i = b then some x else σ.tip i := nr rfl
theorem tip_del {b i : Nat} : (σ.delTip b).tip i = if i = b then none else σ.tip i := nr rfl
theorem ty_box {b i : Nat} {cs : List AV} : (σ.setBox b cs).ty i = σ.ty i := nr rfl
theorem ty_tip {b i : Nat} {x : Nat × Nat} : (σ.setTip b x).ty i = σ.ty i := nr rfl
theorem ty_del {b i : Nat} : (σ.delTip b).ty i = σ.ty i := nr rfl
theorem ty_set {b i : Nat} {x : TypeId × Nat} : (σ.setTy b x).ty i = if i = b then some x else σ.ty i := nr rfl
theorem box_ty {b i : Nat} {x : TypeId × Nat} : (σ.setTy b x).box i = σ.box i := nr rfl
theorem tip_ty {b i : Nat} {x : TypeId × Nat} : (σ.setTy b x).tip i = σ.tip i := nr rfl
theorem box_delB {b i : Nat} : (σ.delBox b).box i = if i = b then none else σ.box i := nr rfl
theorem tip_delB {b i : Nat} : (σ.delBox b).tip i = σ.tip i := nr rfl
theorem ty_delB {b i : Nat} : (σ.delBox b).ty i = σ.ty i := nr rfl
theorem set_set {b : Nat} {cs ds : List AV} : (σ.setBox b cs).setBox b ds = σ.setBox b ds := by
  unfold AS.setBox; congr 1; funext i; show (if i = b then some ds else if i = b then some cs else σ.box i) = _; split <;> rfl
theorem fresh_box {b c : Nat} {cs : List AV} : (σ.setBox c cs).fresh b = (σ.fresh b ∧ ¬ b = c ∧ ¬ c = b) := by
  unfold AS.fresh
  simp only [box_set, tip_box, ty_box, eq_iff_iff]
  by_cases h : b = c
  · simp [h]
  · simp [h, Ne.symm h]
theorem le_set {σ' : AS} {b : Nat} {cs : List AV} (hb : σ'.fresh b) (h : σ'.le σ) : σ'.le (σ.setBox b cs) := h.setBox hb.1 cs
theorem fresh_ty {b c : Nat} {x : TypeId × Nat} : (σ.setTy c x).fresh b = (σ.fresh b ∧ ¬ b = c ∧ ¬ c = b) := by
  unfold AS.fresh
  simp only [box_ty, tip_ty, ty_set, eq_iff_iff]
  by_cases h : b = c
  · subst h; simp
  · simp [h, Ne.symm h]
theorem le_ty {σ' : AS} {b : Nat} {x : TypeId × Nat} (hb : σ'.fresh b) (h : σ'.le σ) : σ'.le (σ.setTy b x) := h.setTy hb.2.2 x
theorem fresh_tip {b c : Nat} {x : Nat × Nat} : (σ.setTip c x).fresh b = (σ.fresh b ∧ ¬ b = c ∧ ¬ c = b) := by
  unfold AS.fresh
  simp only [box_tip, tip_set, ty_tip, eq_iff_iff]
  by_cases h : b = c
  · subst h; simp
  · simp [h, Ne.symm h]
theorem loop_intro {c : Code} {d : Dum c} {d' : Dum Q} {d2 : Dum e} {d3 : Dum σ} (I : Nat → Env → AS → Prop) (n : Nat) (h0 : I n e σ) (h1 : ∀ n v σ', I n (mrg (cWrites c) v e) σ' →
      awp P G (adraw P G) c (fun x e' σ' => match x with | .normal => ∃ m, m < n ∧ I m e' σ' | x => Q x e' σ') (mrg (cWrites c) v e) σ') : loopW P G c Q e σ d d' d2 d3 := ⟨I, ⟨n, h0⟩, h1⟩

/-! values -/
theorem flat_agg {l : List AV} : flat (.agg l) = l := nr rfl
theorem flat_bool {b : Bool} : flat (.bool b) = [.bool b] := nr rfl
theorem flat_int {k : IntKind} {n : Int} : flat (.int k n) = [.int k n] := nr rfl
theorem flat_str {l : List UInt8} : flat (.str l) = [.str l] := nr rfl
theorem flat_nil : flat .nil = [.nil] := nr rfl
theorem flat_sl {g : Gh} {xs sp : List AV} : flat (.sl g xs sp) = [.sl g xs sp] := nr rfl
theorem flat_ptr {b o : Nat} : flat (.ptr b o) = [.ptr b o] := nr rfl
theorem flat_rp {l : List AV} : flat (.rp l) = [.rp l] := nr rfl
theorem flat_fn {f : FuncId} {l : List AV} : flat (.fn f l) = [.fn f l] := nr rfl
theorem flat_nilptr : flat .nilptr = [.nilptr] := nr rfl
theorem flat_nilfn : flat .nilfn = [.nilfn] := nr rfl
theorem isv_agg {l : List AV} : isv (.agg l) = true := nr rfl
theorem isv_bool {b : Bool} : isv (.bool b) = true := nr rfl
theorem isv_int {k : IntKind} {n : Int} : isv (.int k n) = true := nr rfl
theorem isv_str {l : List UInt8} : isv (.str l) = true := nr rfl
theorem isv_nil : isv .nil = true := nr rfl
theorem isv_bs {b n s : Nat} {E : TypeId} : isv (.bs b n s E) = true := nr rfl
theorem flat_bs {b n s : Nat} {E : TypeId} : flat (.bs b n s E) = [.bs b n s E] := nr rfl
theorem isv_raws {a : Addr} {n c : Nat} : isv (.raw (.slice (some a) n c)) = true := nr rfl
theorem flat_raw {v : Value} : flat (.raw v) = [.raw v] := nr rfl
theorem abin_raw_nil {op : BinOp} {t : TypeId} {a : Addr} {n c : Nat} : abin P op t (.raw (.slice (some a) n c)) .nil = if (el P t).isSome = true then aeq op false else none := nr rfl
theorem abin_nil_bs {op : BinOp} {t E : TypeId} {b n s : Nat} : abin P op t .nil (.bs b n s E) = if (el P t).isSome = true then aeq op false else none := nr rfl
theorem abin_bs_nil {op : BinOp} {t E : TypeId} {b n s : Nat} : abin P op t (.bs b n s E) .nil = if (el P t).isSome = true then aeq op false else none := nr rfl
def ibk (x : Option (Bool × Nat)) (b m : Nat) (i : Int) : Option AV := match x with
  | some (_, n) => if 0 ≤ i ∧ i < m then some (.ptr b (i.toNat * n)) else none
  | none => none
theorem aindexA_bs {t E : TypeId} {b m s : Nat} {k : IntKind} {i : Int} : aindexA P t (.bs b m s E) (.int k i) = ibk ((el P t).bind (tk P)) b m i := by
  unfold aindexA ibk
  cases el P t with
  | none => rfl
  | some e => simp only [Option.bind_some]; cases tk P e <;> rfl
theorem ibk_some {ag : Bool} {n b m : Nat} {i : Int} : ibk (some (ag, n)) b m i = if 0 ≤ i ∧ i < m then some (.ptr b (i.toNat * n)) else none := nr rfl
def nbk (x : Option (Bool × Nat)) (l h : Option Nat) : Option AV := match x, l, h with
  | some _, some l, some h => if l ≤ h ∧ h ≤ 0 then some .nil else none
  | _, _, _ => none
def sbk (x : Option (Bool × Nat)) (l h : Option Nat) (b n s : Nat) (E : TypeId) : Option AV := match x, l, h with
  | some _, some l, some h => if l = 0 ∧ h ≤ n then some (.bs b h s E) else none
  | _, _, _ => none
theorem aslice_bs {t E : TypeId} {b n s : Nat} {lo hi : Option AV} : aslice P t (.bs b n s E) lo hi = sbk ((el P t).bind (tk P)) (abnd lo 0) (abnd hi n) b n s E := by
  unfold aslice aslice0 sbk
  cases el P t with
  | none => rfl
  | some e =>
    simp only [Option.bind_some]
    cases abnd lo 0 with
    | none => cases tk P e <;> rfl
    | some l =>
      cases abnd hi n with
      | none => cases tk P e <;> rfl
      | some h =>
        cases htk : tk P e with
        | none => simp [htk]
        | some x =>
          by_cases hc : l = 0 ∧ h ≤ n
          · simp [hc, slim, htk]
          · have : ¬ (l = 0 ∧ h ≤ n ∧ True) := fun h => hc ⟨h.1, h.2.1⟩
            simp only [if_neg hc]
            simp [slim, htk]
            omega
theorem aslice_nil {t : TypeId} {lo hi : Option AV} : aslice P t .nil lo hi = nbk ((el P t).bind (tk P)) (abnd lo 0) (abnd hi 0) := by
  unfold aslice aslice0 nbk
  cases el P t with
  | none => rfl
  | some e =>
    simp only [Option.bind_some]
    cases abnd lo 0 with
    | none => cases tk P e <;> rfl
    | some l =>
      cases abnd hi 0 with
      | none => cases tk P e <;> rfl
      | some h =>
        cases htk : tk P e with
        | none => simp [htk]
        | some x =>
          by_cases hc : l ≤ h ∧ h ≤ 0
          · simp [hc, slim, htk]
          · have : ¬ (l ≤ h ∧ h ≤ 0 ∧ True) := fun h => hc ⟨h.1, h.2.1⟩
            simp only [if_neg hc]
            simp [slim, htk]
            omega
def rsk (x : Option (Nat × Nat)) (cs : List AV) : Option AV := match x with
  | some (m, 1) => if m = cs.length ∧ m ≤ maxLen then some (.sl .none cs []) else none
  | _ => none
theorem aslice_rp {t : TypeId} {cs : List AV} : aslice P t (.rp cs) none none = rsk (arrT P t) cs := by
  unfold aslice aslice0 rsk
  simp only
  cases h : arrT P t with
  | none => rfl
  | some x =>
    obtain ⟨m, n⟩ := x
    match n with
    | 0 => rfl
    | 1 => simp only; split <;> rfl
    | n + 2 => rfl
theorem nbk_some {x : Bool × Nat} {l h : Nat} : nbk (some x) (some l) (some h) = if l ≤ h ∧ h ≤ 0 then some .nil else none := nr rfl
theorem sbk_some {x : Bool × Nat} {l h b n s : Nat} {E : TypeId} : sbk (some x) (some l) (some h) b n s E = if l = 0 ∧ h ≤ n then some (.bs b h s E) else none := nr rfl
theorem ustrW_nil {pt : TypeId} {d : Dum σ} {d' : Dum K} : ustrW P σ pt .nilptr (.int .i64 0) K d d' = K (.str []) σ := by simp [ustrW, auStr]
theorem ustrW_row {pt E : TypeId} {b : Nat} {l : List UInt8} {n : Int} {d : Dum σ} {d' : Dum K} (h1 : sk P pt = .ptr E) (h2 : P.cellsOf E = 1) (h3 : σ.box b = some (l.map fun c => .int .u8 c.toNat)) (h4 : l ≠ []) (h5 : n = l.length) (h6 : K (.str l) (σ.delBox b)) : ustrW P σ pt (.bp b 1 E) (.int .i64 n) K d d' := ⟨rfl, rfl, h1, h2, l, h3, h4, h5, h6⟩
theorem isv_sl {g : Gh} {xs sp : List AV} : isv (.sl g xs sp) = true := nr rfl
theorem isv_ptr {b o : Nat} : isv (.ptr b o) = true := nr rfl
theorem isv_rp {l : List AV} : isv (.rp l) = true := nr rfl
theorem isv_fn {f : FuncId} {l : List AV} : isv (.fn f l) = true := nr rfl
theorem isv_nilptr : isv .nilptr = true := nr rfl
theorem isv_nilfn : isv .nilfn = true := nr rfl
def ldk (k : Option (Bool × Nat)) (c : Option (List AV)) (o : Nat) : Option AV := match k, c with | some (ag, n), some cs => rd ag n (cs.drop o) | _, _ => none
theorem aload_ptr {t : TypeId} {b o : Nat} : aload P σ t (.ptr b o) = ldk (tk P t) (σ.box b) o := by
  unfold aload ldk; cases tk P t with
  | none => rfl
  | some x => obtain ⟨ag, n⟩ := x; simp only; cases σ.box b <;> rfl
theorem ldk_some {ag : Bool} {n o : Nat} {cs : List AV} : ldk (some (ag, n)) (some cs) o = rd ag n (cs.drop o) := nr rfl
def ldr (k : Option (Bool × Nat)) (cs : List AV) : Option AV := match k with | some (ag, n) => rd ag n cs | _ => none
theorem aload_rp {t : TypeId} {cs : List AV} : aload P σ t (.rp cs) = ldr (tk P t) cs := by
  unfold aload ldr; cases tk P t with
  | none => rfl
  | some x => rfl
theorem ldr_some {ag : Bool} {n : Nat} {cs : List AV} : ldr (some (ag, n)) cs = rd ag n cs := nr rfl
theorem rd_true {n : Nat} {cs : List AV} : rd true n cs = if n ≤ cs.length then some (.agg (cs.take n)) else none := nr rfl
theorem rd_false {n : Nat} {cs : List AV} : rd false n cs = cs.head? := nr rfl
def fdk (k : Option (Nat × Bool × Nat)) (p : AV) : Option AV := match k with
  | some (off, _, n) => if n = 0 then none else match p with | .ptr b o => some (.ptr b (o + off)) | .rp cs => some (.rp (cs.drop off)) | _ => none
  | none => none
theorem afield_eq {t : TypeId} {p : AV} {i : Nat} : afield P t p i = fdk (fld P t i) p := by
  unfold afield fdk; cases fld P t i with
  | none => rfl
  | some x => rfl
theorem fdk_ptr {off n b o : Nat} {ag : Bool} : fdk (some (off, ag, n + 1)) (.ptr b o) = some (.ptr b (o + off)) := nr rfl
theorem fdk_rp {off n : Nat} {cs : List AV} {ag : Bool} : fdk (some (off, ag, n + 1)) (.rp cs) = some (.rp (cs.drop off)) := nr rfl
def fvk (k : Option (Nat × Bool × Nat)) (cs : List AV) : Option AV := match k with | some (off, ag, n) => rd ag n (cs.drop off) | none => none
theorem afieldv_agg {t : TypeId} {cs : List AV} {i : Nat} : afieldv P t (.agg cs) i = fvk (fld P t i) cs := by
  unfold afieldv fvk; cases fld P t i with
  | none => rfl
  | some x => rfl
theorem fvk_some {off n : Nat} {ag : Bool} {cs : List AV} : fvk (some (off, ag, n)) cs = rd ag n (cs.drop off) := nr rfl
def ixk (k : Option (Bool × Nat)) (a : Option AV) : Option AV := match k, a with
  | some (_, n), some a => if (flat a).length = n then some (.rp (flat a)) else none
  | _, _ => none
theorem aindexA_sl {t : TypeId} {g : Gh} {xs sp : List AV} {k : IntKind} {i : Int} : aindexA P t (.sl g xs sp) (.int k i) = if 0 ≤ i then ixk ((el P t).bind (tk P)) (xs[i.toNat]?) else none := by
  unfold aindexA ixk
  simp only
  cases el P t with
  | none => simp
  | some e =>
    simp only [Option.bind_some]
    cases tk P e with
    | none => simp
    | some x =>
      obtain ⟨ag, n⟩ := x
      simp only
      split
      · cases xs[i.toNat]? <;> rfl
      · rfl
def iak (a : Option (Nat × Nat)) (i : Int) (f : Nat → AV) : Option AV := match a with
  | some (m, n) => if 0 ≤ i ∧ i < m then some (f (i.toNat * n)) else none
  | none => none
theorem aindexA_rp {t : TypeId} {cs : List AV} {k : IntKind} {i : Int} : aindexA P t (.rp cs) (.int k i) = iak (arrT P t) i fun j => .rp (cs.drop j) := by
  unfold aindexA iak; simp only; cases arrT P t with
  | none => rfl
  | some x => rfl
theorem aindexA_ptr {t : TypeId} {b o : Nat} {k : IntKind} {i : Int} : aindexA P t (.ptr b o) (.int k i) = iak (arrT P t) i fun j => .ptr b (o + j) := by
  unfold aindexA iak; simp only; cases arrT P t with
  | none => rfl
  | some x => rfl
theorem iak_some {m n : Nat} {i : Int} {f : Nat → AV} : iak (some (m, n)) i f = if 0 ≤ i ∧ i < m then some (f (i.toNat * n)) else none := nr rfl
theorem ixk_some {ag : Bool} {n : Nat} {a : AV} : ixk (some (ag, n)) (some a) = if (flat a).length = n then some (.rp (flat a)) else none := nr rfl
theorem aindex_str {t : TypeId} {s : List UInt8} {k : IntKind} {i : Int} : aindex P t (.str s) (.int k i) = if sk P t = .str then (if 0 ≤ i then (s[i.toNat]?).map (fun c => AV.int .u8 c.toNat) else none) else none := by
  unfold aindex
  simp only
  cases s[i.toNat]? <;> rfl
theorem aextract_tup {l : List AV} {i : Nat} : aextract (.tup l) i = l[i]? := nr rfl
theorem abin_int {op : BinOp} {t : TypeId} {k k' : IntKind} {a b : Int} : abin P op t (.int k a) (.int k' b) = abinI op k a k' b := nr rfl
theorem abin_str {op : BinOp} {t : TypeId} {a b : List UInt8} : abin P op t (.str a) (.str b) = abinS op a b := nr rfl
theorem abin_bool {op : BinOp} {t : TypeId} {a b : Bool} : abin P op t (.bool a) (.bool b) = if sk P t = .bool then aeq op (a == b) else none := nr rfl
theorem abin_nil_nil {op : BinOp} {t : TypeId} : abin P op t .nil .nil = if (el P t).isSome = true then aeq op true else none := nr rfl
theorem abin_nil_sl {op : BinOp} {t : TypeId} {g : Gh} {xs sp : List AV} : abin P op t .nil (.sl g xs sp) = if (el P t).isSome = true ∧ isNil g xs = false then aeq op false else none := nr rfl
theorem abin_sl_nil {op : BinOp} {t : TypeId} {g : Gh} {xs sp : List AV} : abin P op t (.sl g xs sp) .nil = if (el P t).isSome = true ∧ isNil g xs = false then aeq op false else none := nr rfl
theorem abin_fn_nil {op : BinOp} {t : TypeId} {f : FuncId} {l : List AV} : abin P op t (.fn f l) .nilfn = if sk P t = .fn then aeq op false else none := nr rfl
theorem isNil_full {xs : List AV} : isNil .full xs = false := nr rfl
theorem isNil_own {b : Nat} {xs : List AV} : isNil (.own b) xs = false := nr rfl
theorem isNil_cons {g : Gh} {x : AV} {xs : List AV} : isNil g (x :: xs) = false := by cases g <;> rfl
theorem abin_agg {op : BinOp} {t : TypeId} {xs ys : List AV} : abin P op t (.agg xs) (.agg ys) = (eqK P t).bind fun ks => (fldEq ks xs ys).bind (aeq op) := nr rfl
theorem fe_nil : fldEq [] [] [] = some true := nr rfl
theorem fe_str {ks : List SK} {a b : List UInt8} {xs ys : List AV} : fldEq (.str :: ks) (.str a :: xs) (.str b :: ys) = (fldEq ks xs ys).map fun r => decide (a = b) && r := nr rfl
theorem fe_int {ks : List SK} {k0 k : IntKind} {a b : Int} {xs ys : List AV} : fldEq (.int k0 :: ks) (.int k a :: xs) (.int k b :: ys) = (fldEq ks xs ys).map fun r => decide (a = b) && r := by simp [fldEq]
theorem i_add {k : IntKind} {a b : Int} : abinI .add k a k b = some (.int k (k.wrap (a + b))) := by simp [abinI]
theorem i_sub {k : IntKind} {a b : Int} : abinI .sub k a k b = some (.int k (k.wrap (a - b))) := by simp [abinI]
theorem i_mul {k : IntKind} {a b : Int} : abinI .mul k a k b = some (.int k (k.wrap (a * b))) := by simp [abinI]
theorem i_quo {k : IntKind} {a b : Int} : abinI .quo k a k b = if b = 0 then none else some (.int k (k.wrap (a.tdiv b))) := by simp [abinI]
theorem i_rem {k : IntKind} {a b : Int} : abinI .rem k a k b = if b = 0 then none else some (.int k (a.tmod b)) := by simp [abinI]
theorem i_eql {k : IntKind} {a b : Int} : abinI .eql k a k b = some (.bool (decide (a = b))) := by simp [abinI]; by_cases h : a = b <;> simp [h]
theorem i_neq {k : IntKind} {a b : Int} : abinI .neq k a k b = some (.bool (decide (¬ a = b))) := by simp [abinI, bne]; by_cases h : a = b <;> simp [h]
theorem i_lss {k : IntKind} {a b : Int} : abinI .lss k a k b = some (.bool (decide (a < b))) := by simp [abinI]
theorem i_leq {k : IntKind} {a b : Int} : abinI .leq k a k b = some (.bool (decide (a ≤ b))) := by simp [abinI]
theorem i_gtr {k : IntKind} {a b : Int} : abinI .gtr k a k b = some (.bool (decide (b < a))) := by simp [abinI]
theorem i_geq {k : IntKind} {a b : Int} : abinI .geq k a k b = some (.bool (decide (b ≤ a))) := by simp [abinI]
theorem i_and {k : IntKind} {a b : Int} : abinI .and k a k b = some (.int k (k.wrap ((BitVec.ofInt k.bits a &&& BitVec.ofInt k.bits b).toNat))) := by simp only [abinI, ne_eq, not_true_eq_false, if_false]
theorem i_or {k : IntKind} {a b : Int} : abinI .or k a k b = some (.int k (k.wrap ((BitVec.ofInt k.bits a ||| BitVec.ofInt k.bits b).toNat))) := by simp only [abinI, ne_eq, not_true_eq_false, if_false]
theorem i_xor {k : IntKind} {a b : Int} : abinI .xor k a k b = some (.int k (k.wrap ((BitVec.ofInt k.bits a ^^^ BitVec.ofInt k.bits b).toNat))) := by simp only [abinI, ne_eq, not_true_eq_false, if_false]
theorem i_shl {k k' : IntKind} {a b : Int} : abinI .shl k a k' b = if b < 0 then none else some (.int k (k.wrap (a * 2 ^ (min b.toNat k.bits)))) := nr rfl
theorem i_shr {k k' : IntKind} {a b : Int} : abinI .shr k a k' b = if b < 0 then none else some (.int k (a.fdiv (2 ^ (min b.toNat k.bits)))) := nr rfl
theorem s_eql {a b : List UInt8} : abinS .eql a b = some (.bool (decide (a = b))) := by simp [abinS]; by_cases h : a = b <;> simp [h]
theorem s_neq {a b : List UInt8} : abinS .neq a b = some (.bool (decide (¬ a = b))) := by simp [abinS]; by_cases h : a = b <;> simp [h]
theorem s_add {a b : List UInt8} : abinS .add a b = if a.length + b.length ≤ maxLen then some (.str (a ++ b)) else none := nr rfl
theorem s_lss {a b : List UInt8} : abinS .lss a b = some (.bool (Op.bytesLess a b)) := nr rfl
theorem aeq_eql {b : Bool} : aeq .eql b = some (.bool b) := nr rfl
theorem aeq_neq {b : Bool} : aeq .neq b = some (.bool (!b)) := nr rfl
theorem aun_not {b : Bool} : aun .not (.bool b) = some (.bool (!b)) := nr rfl
theorem aun_neg {k : IntKind} {n : Int} : aun .neg (.int k n) = some (.int k (k.wrap (0 - n))) := nr rfl
def cvk (s : SK) (n : Int) (u : Bool) : Option AV := match s with | .int k => if u = true then some (.int k (k.wrap n)) else none | _ => none
theorem aconv_int {s t : TypeId} {k : IntKind} {n : Int} : aconv P s t (.int k n) = cvk (sk P t) n (P.underlying s).isSome := by
  unfold aconv cvk; cases sk P t <;> rfl
theorem cvk_int {k : IntKind} {n : Int} : cvk (.int k) n true = some (.int k (k.wrap n)) := nr rfl
theorem aconvW_int {s t : TypeId} {k : IntKind} {n : Int} : aconvW P s t (.int k n) = cvk (sk P t) n (P.underlying s).isSome := by
  show aconv P s t (.int k n) = _
  exact aconv_int
def cvw (s : SK) (e : Option TypeId) (f : TypeId → SK) (u : Bool) (l : List UInt8) : Option AV :=
  if s = .str then (if u = true then some (.str l) else none) else if u && (e.any fun e => decide (f e = .int .u8)) && decide (l.length ≤ maxLen) then some (.sl .none (l.map fun c => .int .u8 c.toNat) []) else none
theorem aconvW_str {s t : TypeId} {l : List UInt8} : aconvW P s t (.str l) = cvw (sk P t) (el P t) (sk P) (P.underlying s).isSome l := by
  unfold aconvW cvw
  by_cases h : sk P t = .str
  · simp only [if_pos h, aconv, h]
  · simp only [if_neg h]
theorem cvw_str {e : Option TypeId} {f : TypeId → SK} {l : List UInt8} : cvw .str e f true l = some (.str l) := nr rfl
theorem cvw_bytes {s : SK} {e : TypeId} {f : TypeId → SK} {l : List UInt8} (h : s ≠ .str) (h2 : f e = .int .u8) (h3 : l.length ≤ maxLen) : cvw s (some e) f true l = some (.sl .none (l.map fun c => .int .u8 c.toNat) []) := by
  simp [cvw, h, h2, h3]
theorem aconvZ_int {s t : TypeId} {k : IntKind} {n : Int} : aconvZ P σ s t (.int k n) = cvk (sk P t) n (P.underlying s).isSome := by
  show aconvW P s t (.int k n) = _
  exact aconvW_int
theorem aconvZ_str {s t : TypeId} {l : List UInt8} : aconvZ P σ s t (.str l) = cvw (sk P t) (el P t) (sk P) (P.underlying s).isSome l := by
  show aconvW P s t (.str l) = _
  exact aconvW_str
def cvb (s : SK) (e : Option TypeId) (f : TypeId → SK) (xs : List AV) : Option AV :=
  if decide (s = .str) && (e.any fun e => decide (f e = .int .u8)) then (bytesOf xs).map .str else none
def cvm (s : SK) (e : Option TypeId) (f : TypeId → SK) (x : Option (List AV)) (n q : Nat) : Option AV :=
  if (decide (s = .str) && (e.any fun e => decide (f e = .int .u8))) = true ∧ q = 1 then (match x with | some cs => if cs.length = n then (bytesOf cs).map .str else none | none => none) else none
theorem aconvZ_nil {s t : TypeId} : aconvZ P σ s t .nil = cvb (sk P t) (el P s) (sk P) [] := nr rfl
theorem aconvZ_sl {s t : TypeId} {g : Gh} {xs sp : List AV} : aconvZ P σ s t (.sl g xs sp) = cvb (sk P t) (el P s) (sk P) xs := nr rfl
theorem aconvZ_bs {s t E : TypeId} {b n q : Nat} : aconvZ P σ s t (.bs b n q E) = cvm (sk P t) (el P s) (sk P) (σ.box b) n q := nr rfl
theorem cvb_some {e : TypeId} {f : TypeId → SK} {xs : List AV} (h : f e = .int .u8) : cvb .str (some e) f xs = (bytesOf xs).map .str := by simp [cvb, h]
theorem cvm_some {e : TypeId} {f : TypeId → SK} {cs : List AV} {n : Nat} (h : f e = .int .u8) (hn : cs.length = n) : cvm .str (some e) f (some cs) n 1 = (bytesOf cs).map .str := by simp [cvm, h, hn]
def bdk (p : Option (List (Nat × Nat))) (z : Option (List AV)) (ps : List (Nat × AV)) : Option AV := match p, z with | some pl, some z => (afill (pl[·]?) z ps).map .agg | _, _ => none
theorem abuild_eq {t : TypeId} {ps : List (Nat × AV)} : abuild P t ps = bdk (places P t) (zc P t) ps := nr rfl
theorem bdk_some {p : List (Nat × Nat)} {z : List AV} {ps : List (Nat × AV)} : bdk (some p) (some z) ps = (afill (p[·]?) z ps).map .agg := nr rfl
def flk (f : Nat → Option (Nat × Nat)) (p : Option (Nat × Nat)) (cells : List AV) (v : AV) (rest : List (Nat × AV)) : Option (List AV) := match p with
  | none => none
  | some (off, size) => if isv v = true ∧ (flat v).length = size ∧ off + size ≤ cells.length then afill f (cells.take off ++ flat v ++ cells.drop (off + size)) rest else none
theorem afill_nil {f : Nat → Option (Nat × Nat)} {cells : List AV} : afill f cells [] = some cells := nr rfl
theorem afill_cons {f : Nat → Option (Nat × Nat)} {cells : List AV} {i : Nat} {v : AV} {rest : List (Nat × AV)} : afill f cells ((i, v) :: rest) = flk f (f i) cells v rest := by
  conv => lhs; unfold afill
  unfold flk; cases f i <;> rfl
theorem flk_some {f : Nat → Option (Nat × Nat)} {cells : List AV} {off size : Nat} {v : AV} {rest : List (Nat × AV)} :
    flk f (some (off, size)) cells v rest = if isv v = true ∧ (flat v).length = size ∧ off + size ≤ cells.length then afill f (cells.take off ++ flat v ++ cells.drop (off + size)) rest else none := rfl
def bsk (e : Option (TypeId × Nat × Nat)) (len : Nat) (ps : List (Nat × AV)) : Option AV := match e with
  | some (_, n, _) => if ps.map (·.1) = List.range len ∧ (ps.map (·.2)).all (fun a => isv a && decide ((flat a).length = n)) = true ∧ len * n ≤ 16777216 then some (.sl .full (ps.map (·.2)) []) else none
  | none => none
/-- a slice written out: worked out by what the tables say of its items -/
theorem abuildSlice_eq {t len : Nat} {ps : List (Nat × AV)} {r : AV} (h : bsk (aelt P t) len ps = some r) : abuildSlice P t len ps = some r := by
  unfold bsk at h
  cases ha : aelt P t with
  | none => rw [ha] at h; cases h
  | some x =>
    obtain ⟨e, n, b⟩ := x
    rw [ha] at h
    simp only at h
    split at h
    · rename_i hc
      unfold aelt at ha
      unfold abuildSlice
      cases he : el P t with
      | none => rw [he] at ha; cases ha
      | some e' =>
        rw [he] at ha
        simp only at ha ⊢
        cases htk : tk P e' with
        | none => rw [htk] at ha; cases ha
        | some y =>
          obtain ⟨ag, n'⟩ := y
          cases hb : by_ P e' with
          | none => rw [htk, hb] at ha; cases ha
          | some b' =>
            cases hz : zc P e' with
            | none => rw [htk, hb, hz] at ha; cases ha
            | some z =>
              rw [htk, hb, hz] at ha
              simp only at ha
              split at ha
              · rename_i hc2
                simp only [Option.some.injEq, Prod.mk.injEq] at ha
                obtain ⟨rfl, rfl, rfl⟩ := ha
                simp only [Option.map_some]
                rw [if_pos ⟨hc.1, hc.2.1, hc.2.2, hc2.1, by rw [hc2.2.2]⟩]
                exact h
              · cases ha
    · cases h
theorem bo_buildSlice {t len : Nat} {ps : List (Nat × AV)} {F : AV → Prop} {d : Dum F} {d' : Dum F} (h : bo (bsk (aelt P t) len ps) F d') : bo (abuildSlice P t len ps) F d := by
  obtain ⟨r, h1, h2⟩ := h
  exact ⟨r, abuildSlice_eq h1, h2⟩
/-! pieces -/
theorem abnd_none {d : Nat} : abnd none d = some d := nr rfl
theorem abnd_int {k : IntKind} {n : Int} {d : Nat} : abnd (some (.int k n)) d = if 0 ≤ n then some n.toNat else none := nr rfl
def slks (l h : Option Nat) (s : List UInt8) : Option AV := match l, h with
  | some l, some h => if l ≤ h ∧ h ≤ s.length then some (.str ((s.take h).drop l)) else none
  | _, _ => none
theorem aslice_str {t : TypeId} {s : List UInt8} {lo hi : Option AV} : aslice P t (.str s) lo hi = if sk P t = .str then slks (abnd lo 0) (abnd hi s.length) s else none := by
  unfold aslice aslice0 slks
  simp only
  by_cases h : sk P t = .str
  · simp only [if_pos h]
    cases abnd lo 0 <;> cases abnd hi s.length <;> try rfl
    simp only
    split <;> rfl
  · simp only [if_neg h]; rfl
theorem slks_some {l h : Nat} {s : List UInt8} : slks (some l) (some h) s = if l ≤ h ∧ h ≤ s.length then some (.str ((s.take h).drop l)) else none := nr rfl
open Classical in
noncomputable def slk (k : Option (Bool × Nat)) (l h : Option Nat) (g : Gh) (xs sp : List AV) : Option AV := match k, l, h with
  | some (_, n), some l, some h => if l ≤ h ∧ h ≤ xs.length + sp.length ∧ (l = 0 ∨ ∀ a, a ∈ xs ++ sp → (flat a).length = n) then
      some (slim (.sl g xs sp) (.sl (pieceGh g l h xs.length) (((xs ++ sp).take h).drop l) ((xs ++ sp).drop h))) else none
  | _, _, _ => none
theorem aslice_sl {t : TypeId} {g : Gh} {xs sp : List AV} {lo hi : Option AV} : aslice P t (.sl g xs sp) lo hi = slk ((el P t).bind (tk P)) (abnd lo 0) (abnd hi xs.length) g xs sp := by
  unfold aslice aslice0 slk
  simp only
  cases he : el P t with
  | none => cases abnd lo 0 <;> cases abnd hi xs.length <;> rfl
  | some e =>
    cases htk : tk P e with
    | none => cases abnd lo 0 <;> cases abnd hi xs.length <;> simp only [Option.bind_some, htk] <;> rfl
    | some x =>
      obtain ⟨ag, n⟩ := x
      cases abnd lo 0 <;> cases abnd hi xs.length <;> simp only [Option.bind_some, htk] <;> try rfl
      split <;> rfl
theorem slk_some {ag : Bool} {n l h : Nat} {g : Gh} {xs sp : List AV} : slk (some (ag, n)) (some l) (some h) g xs sp = if l ≤ h ∧ h ≤ xs.length + sp.length ∧ (l = 0 ∨ ∀ a, a ∈ xs ++ sp → (flat a).length = n) then
      some (slim (.sl g xs sp) (.sl (pieceGh g l h xs.length) (((xs ++ sp).take h).drop l) ((xs ++ sp).drop h))) else none := by
  unfold slk; simp only
theorem slk_plain {ag : Bool} {n l h : Nat} {xs : List AV} (ha : ∀ a, a ∈ xs → (flat a).length = n) : slk (some (ag, n)) (some l) (some h) .none xs [] = if l ≤ h ∧ h ≤ xs.length then some (.sl .none ((xs.take h).drop l) []) else none := by
  rw [slk_some]
  simp only [List.append_nil, List.length_nil, Nat.add_zero]
  by_cases h1 : l ≤ h ∧ h ≤ xs.length
  · rw [if_pos ⟨h1.1, h1.2, .inr ha⟩, if_pos h1]; rfl
  · rw [if_neg h1, if_neg fun h2 => h1 ⟨h2.1, h2.2.1⟩]
theorem l_str {t : TypeId} {s : List UInt8} : ablt P .len #[t] [.str s] = if sk P t = .str then some (.int .i64 s.length) else none := nr rfl
theorem l_nil {t : TypeId} : ablt P .len #[t] [.nil] = if (el P t).isSome then some (.int .i64 0) else none := nr rfl
theorem l_cap {t : TypeId} : ablt P .cap #[t] [.nil] = if (el P t).isSome then some (.int .i64 0) else none := nr rfl
theorem l_bs {t E : TypeId} {b n s : Nat} : ablt P .len #[t] [.bs b n s E] = if (el P t).isSome then some (.int .i64 n) else none := nr rfl
theorem l_usd_nil {t : TypeId} : ablt P .unsafeSliceData #[t] [.nil] = some .nilptr := nr rfl
theorem l_usd {t E : TypeId} {b n s : Nat} : ablt P .unsafeSliceData #[t] [.bs b n s E] = if 0 < n then some (.bp b s E) else none := nr rfl
theorem l_sl {t : TypeId} {g : Gh} {xs sp : List AV} : ablt P .len #[t] [.sl g xs sp] = if (el P t).isSome then some (.int .i64 xs.length) else none := nr rfl
theorem l_max {ts : Array TypeId} {k k' : IntKind} {a b : Int} : ablt P .max ts [.int k a, .int k' b] = some (.int k (if b > a then b else a)) := by
  unfold ablt; split <;> simp_all
theorem l_min {ts : Array TypeId} {k k' : IntKind} {a b : Int} : ablt P .min ts [.int k a, .int k' b] = some (.int k (if b < a then b else a)) := by
  unfold ablt; split <;> simp_all
def stk (k : Option (Bool × Nat)) (σ : AS) (c : Option (List AV)) (b o : Nat) (x : AV) : Option AS := match k, c with
  | some (_, n), some cs => if isv x = true ∧ (flat x).length = n ∧ o + n ≤ cs.length then some (σ.setBox b (cs.take o ++ flat x ++ cs.drop (o + n))) else none
  | _, _ => none
theorem astore_ptr {t : TypeId} {b o : Nat} {x : AV} : astore P σ t (.ptr b o) x = stk (tk P t) σ (σ.box b) b o x := by
  unfold astore stk
  cases tk P t with
  | none => rfl
  | some y => obtain ⟨ag, n⟩ := y; simp only; cases σ.box b <;> rfl
theorem stk_some {ag : Bool} {n b o : Nat} {cs : List AV} {x : AV} : stk (some (ag, n)) σ (some cs) b o x = if isv x = true ∧ (flat x).length = n ∧ o + n ≤ cs.length then some (σ.setBox b (cs.take o ++ flat x ++ cs.drop (o + n))) else none := nr rfl
theorem pairs_nil : pairs G e [] = [] := nr rfl
theorem pairs_cons {i : Nat} {x : Operand} {l : List (Nat × Operand)} : pairs G e ((i, x) :: l) = (i, ev G e x) :: pairs G e l := nr rfl
theorem aw_none {l : List Oper} : awanted l e none = some true := nr rfl
def awk (v : AV) (want : Bool) : Option Bool := match v with | .bool b => some (b == want) | .tup [] => some false | _ => none
def awo (t : Option Tmp) (e : Env) (want : Bool) : Option Bool := match t with | some t => awk (e t) want | none => none
theorem aw_some {l : List Oper} {j : Nat} {want : Bool} : awanted l e (some (j, want)) = awo ((l[j]?).bind (·.dst)) e want := by
  unfold awanted awo awk
  simp only
  cases (l[j]?).bind (·.dst) <;> rfl
theorem awo_some {t : Tmp} {want : Bool} : awo (some t) e want = awk (e t) want := nr rfl
theorem awk_skip {want : Bool} : awk (.tup []) want = some false := nr rfl
theorem awk_true {b : Bool} : awk (.bool b) true = some b := by simp [awk]
theorem awk_false {b : Bool} : awk (.bool b) false = some (!b) := by simp [awk]
theorem ares_nil : ares P e σ [] = some [] := nr rfl
theorem ares_tmp {t : Tmp} : ares P e σ [.tmp t] = some [e t] := nr rfl
theorem ares_cell {t : Tmp} {ty : TypeId} : ares P e σ [.cell t ty] = (aload P σ ty (e t)).map fun x => [x] := by
  unfold ares ares1 ares; simp only; cases aload P σ ty (e t) <;> rfl
theorem ares_two {t u : Tmp} : ares P e σ [.tmp t, .tmp u] = some [e t, e u] := nr rfl
end rules

/-- called with these, in any state: this is told, and the state stays -/
def Pure (P : Program) (G : Nat → AV) (f : FuncId) (args : List AV) (v : AV) : Prop := ∀ σ, Tri P G f args σ fun r σ' => r = v ∧ σ' = σ
theorem Pure.use {P : Program} {G : Nat → AV} {f : FuncId} {args : List AV} {v : AV} (h : Pure P G f args v) {σ : AS} {K : AV → AS → Prop} {d : Dum σ} {d' : Dum K} (hk : K v σ) : triW P G f args σ K d d' :=
  (h σ).mono fun r s ⟨hr, hs⟩ => by subst hr hs; exact hk
theorem Pure.pureC {P : Program} {G : Nat → AV} {f : FuncId} {args : List AV} {v : AV} (h : Pure P G f args v) (σ0 : AS) : PureC P G f args σ0 v := fun σ _ => h σ
theorem Pure.head {P : Program} {G : Nat → AV} {f : FuncId} {args : List AV} {v : AV} (h : Pure P G f args v) {σ0 : AS} {F : AV → Prop} {d : Dum σ0} {d' : Dum F} (hk : F v) : hcallW P G (.fn f []) args σ0 F d d' := hcallW_nocaps (h.pureC σ0) hk
theorem PureC.use {P : Program} {G : Nat → AV} {f : FuncId} {args : List AV} {v : AV} {σ0 : AS} (h : PureC P G f args σ0 v) {σ : AS} (hl : σ0.le σ) {K : AV → AS → Prop} {d : Dum σ} {d' : Dum K} (hk : K v σ) : triW P G f args σ K d d' :=
  (h σ hl).mono fun r s ⟨hr, hs⟩ => by subst hr hs; exact hk
theorem PureC.mono {P : Program} {G : Nat → AV} {f : FuncId} {args : List AV} {v : AV} {σ0 σ1 : AS} (h : PureC P G f args σ0 v) (hl : σ0.le σ1) : PureC P G f args σ1 v := fun σ h1 => h σ (hl.trans h1)
theorem PureC.head {P : Program} {G : Nat → AV} {f : FuncId} {args : List AV} {v : AV} {σ0 σ1 : AS} (h : PureC P G f args σ1 v) (hl : σ1.le σ0) {F : AV → Prop} {d : Dum σ0} {d' : Dum F} (hk : F v) : hcallW P G (.fn f []) args σ0 F d d' := hcallW_nocaps (h.mono hl) hk
theorem PureC.of_eq {P : Program} {G : Nat → AV} {f : FuncId} {args : List AV} {v v' : AV} {σ0 : AS} (h : PureC P G f args σ0 v) (e : v = v') : PureC P G f args σ0 v' := e ▸ h
theorem Pure.of_eq {P : Program} {G : Nat → AV} {f : FuncId} {args : List AV} {v v' : AV} (h : Pure P G f args v) (e : v = v') : Pure P G f args v' := e ▸ h
theorem AS.set_get {σ : AS} {b : Nat} {cs : List AV} : (σ.setBox b cs).box b = some cs := by simp [AS.setBox]
/-- new memory, and nothing else turned, keeps the relation -/
theorem Rel.grown {G : Nat → AV} {K : Ctx} {σ : AS} {w w' : World} (h : Rel G K σ w) (hb : Below w.heap.size w w') : Rel G K σ w' := by
  refine ⟨fun b o v hv => ?_, fun b cap s E hr => ?_, fun b cs hi => ?_, h.tip, fun b E n ht => ?_, h.glob, h.below.trans (hb.mono h.bs), Nat.le_trans h.bs hb.size⟩
  · rw [World.cell?_of_block (w := w) (hb.block b (h.imm_lt hv))]; exact h.imm b o v hv
  · obtain ⟨cur, fz, hc, hs⟩ := h.row b cap s E hr
    exact ⟨cur, fz, by rw [hb.block b (h.row_lt hr)]; exact hc, hs⟩
  · obtain ⟨h1, h2, h3, h4, h5, c, E, hc, hs, hv⟩ := h.box b cs hi
    exact ⟨h1, h2, h3, h4, h5, c, E, by rw [hb.block b (Array.getElem?_eq_some_iff.1 hc).1]; exact hc, hs, hv⟩
  · obtain ⟨c, fz, hc, hn⟩ := h.ty b E n ht
    exact ⟨c, fz, by rw [hb.block b (Array.getElem?_eq_some_iff.1 hc).1]; exact hc, hn⟩
/-- from a contract of the library's to one of ours: of scalars -/
theorem Pure.of_calls {P : Program} {G : Nat → AV} {f : FuncId} {args : List AV} {v : AV} {vals : List Value} {u : Value} (hcl : callable P f = true) (hargs : ∀ K l, VRl K args l → l = vals) (hv : ∀ K, VR K v u)
    (h : ∀ K σ w, Rel G K σ w → Calls P f vals.toArray w fun e w' => e = .returned u ∧ Below w.heap.size w w') : Pure P G f args v := by
  intro σ
  refine ⟨hcl, fun K w l hr hl => ?_⟩
  have := hargs K l hl
  subst this
  refine (h K σ w hr).mono fun e w' ⟨he, hb⟩ => ⟨u, v, σ, K, he, ⟨rfl, rfl⟩, hv K, hr.grown hb, Ctx.le.refl K⟩
end Go.Av
set_option linter.unusedVariables false
set_option linter.unusedSimpArgs false
namespace Go.Av
open Go Go.RowKit

/-- whatever is seen as the first may be seen as the second -/
def Le (a b : AV) : Prop := ∀ (K : Ctx) (v : Value), VR K a v → VR K b v
/-- item by item -/
inductive Les : List AV → List AV → Prop
  | nil : Les [] []
  | cons {a b : AV} {l r : List AV} (h : Le a b) (t : Les l r) : Les (a :: l) (b :: r)
theorem Le.refl (a : AV) : Le a a := fun _ _ h => h
theorem Le.trans {a b c : AV} (h : Le a b) (k : Le b c) : Le a c := fun K v x => k K v (h K v x)
theorem Les.refl : ∀ (l : List AV), Les l l
  | [] => .nil
  | a :: l => .cons (Le.refl a) (Les.refl l)
theorem Les.length {l r : List AV} (h : Les l r) : l.length = r.length := by
  induction h with
  | nil => rfl
  | cons _ _ ih => simp [ih]
theorem Les.get {l r : List AV} (h : Les l r) : ∀ (j : Nat) (hj : j < l.length) (hj' : j < r.length), Le l[j] r[j] := by
  induction h with
  | nil => intro j hj; cases hj
  | cons h _ ih =>
    intro j hj hj'
    cases j with
    | zero => exact h
    | succ j => exact ih j (by simpa using hj) (by simpa using hj')
theorem Les.append {l r l' r' : List AV} (h : Les l r) (k : Les l' r') : Les (l ++ l') (r ++ r') := by
  induction h with
  | nil => exact k
  | cons h _ ih => exact .cons h ih
theorem VRl.le {K : Ctx} : ∀ {l r : List AV} {vs : List Value}, Les l r → VRl K l vs → VRl K r vs
  | [], _, vs, .nil, h => h
  | a :: l, _, [], .cons _ _, h => h.elim
  | a :: l, _, v :: vs, .cons h t, ⟨h1, h2⟩ => ⟨h K v h1, VRl.le t h2⟩

theorem Tri.weaken {P : Program} {G : Nat → AV} {f : FuncId} {args args' : List AV} {σ : AS} {Q : AV → AS → Prop} (hl : Les args args') (h : Tri P G f args' σ Q) : Tri P G f args σ Q :=
  ⟨h.1, fun K w vals hr hv => h.2 K w vals hr (hv.le hl)⟩
/-- what is told may be seen as less -/
theorem Tri.tell {P : Program} {G : Nat → AV} {f : FuncId} {args : List AV} {σ : AS} {Q Q' : AV → AS → Prop} (h : Tri P G f args σ Q) (hq : ∀ r s, Q r s → ∃ r', Le r r' ∧ Q' r' s) : Tri P G f args σ Q' :=
  ⟨h.1, fun K w vals hr hv => (h.2 K w vals hr hv).mono fun e w' ⟨v, r, σ', K', he, hQ, h1, h2⟩ => by
    obtain ⟨r', hle, hq'⟩ := hq r σ' hQ
    exact ⟨v, r', σ', K', he, hq', hle K' v h1, h2⟩⟩

theorem Le.nil : Le .nil (.sl .none [] []) := fun K v h => by rw [VR.nil_iff] at h; subst h; exact .sl0 none
theorem Le.agg {cs ds : List AV} (h : Les cs ds) (h1 : ∀ d, d ∈ ds → one d = true) : Le (.agg cs) (.agg ds) := fun K v hv => by
  cases hv with
  | agg _ vs hl g1 hvv =>
    have hlen := h.length
    exact .agg ds vs (by omega) h1 fun j hj => h.get j (by omega) hj K _ (hvv j (by omega))
theorem Le.tup {cs ds : List AV} (h : Les cs ds) : Le (.tup cs) (.tup ds) := fun K v hv => by
  cases hv with
  | tup _ vs hl hvv =>
    have hlen := h.length
    exact .tup ds vs (by omega) fun j hj => h.get j (by omega) hj K _ (hvv j (by omega))

/-- items that are forgotten alike: as many cells, each less known -/
structure LeE (a b : AV) : Prop where
  cells : Les (flat a) (flat b)
  isv : isv b = true
  one : ∀ c, c ∈ flat b → one c = true
inductive LeEs : List AV → List AV → Prop
  | nil : LeEs [] []
  | cons {a b : AV} {l r : List AV} (h : LeE a b) (t : LeEs l r) : LeEs (a :: l) (b :: r)
theorem LeEs.length {l r : List AV} (h : LeEs l r) : l.length = r.length := by
  induction h with
  | nil => rfl
  | cons _ _ ih => simp [ih]
theorem LeEs.flat {l r : List AV} (h : LeEs l r) : Les (l.flatMap flat) (r.flatMap flat) := by
  induction h with
  | nil => exact .nil
  | cons h _ ih => rw [List.flatMap_cons, List.flatMap_cons]; exact h.cells.append ih
theorem LeEs.ok {l r : List AV} (h : LeEs l r) {n : Nat} (hn : ∀ a, a ∈ l → (Av.flat a).length = n) : ∀ b, b ∈ r → (Av.flat b).length = n ∧ Av.isv b = true ∧ ∀ c, c ∈ Av.flat b → Av.one c = true := by
  induction h with
  | nil => intro b hb; cases hb
  | cons h _ ih =>
    intro b hb
    rcases List.mem_cons.1 hb with rfl | hb
    · exact ⟨by rw [← h.cells.length]; exact hn _ (by simp), h.isv, h.one⟩
    · exact ih (fun a ha => hn a (by simp [ha])) b hb

/-- a slice: its spare room let go, its items less known -/
theorem Le.sl {g : Gh} {xs ys sp : List AV} (h : LeEs xs ys) : Le (.sl g xs sp) (.sl .none ys []) := fun K v hv => by
  have hlen := h.length
  cases hv with
  | sl0 a => cases h; exact .sl0 a
  | sl _ _ _ sz b off cap f hsz hcap hml himm hvv hg =>
    have hle : (xs.flatMap Av.flat).length ≤ ((xs ++ sp).flatMap Av.flat).length := by simp
    have hf := h.flat
    have hfl := hf.length
    have := VR.sl (K := K) .none ys [] sz b off cap f (fun e he => h.ok (fun a ha => (hsz a (List.mem_append_left _ ha)).1) e (by simpa using he)) (by simp; omega) hml
      (fun j hj => himm j (by simp only [List.append_nil] at hj; omega))
      (fun j hj => by
        simp only [List.append_nil] at hj ⊢
        have h1 := hvv j (by omega)
        have e1 : ((xs ++ sp).flatMap Av.flat)[j]'(by omega) = (xs.flatMap Av.flat)[j]'(by omega) := by
          simp only [List.flatMap_append]; rw [List.getElem_append_left (by omega)]
        rw [e1] at h1
        exact hf.get j (by omega) hj K _ h1) trivial
    rw [hlen]
    exact this
theorem LeE.of {a b : AV} (h : Le a b) (h0 : flat a = [a]) (h1 : flat b = [b]) (hb : Av.one b = true) : LeE a b :=
  ⟨by rw [h0, h1]; exact .cons h .nil, by cases b <;> first | exact hb | rfl, fun c hc => by rw [h1] at hc; simp at hc; subst hc; exact hb⟩
theorem LeE.agg {cs ds : List AV} (h : Les cs ds) (h1 : ∀ d, d ∈ ds → Av.one d = true) : LeE (.agg cs) (.agg ds) := ⟨h, rfl, h1⟩
theorem LeEs.map {α : Type} {f g : α → AV} : ∀ (l : List α), (∀ x, x ∈ l → LeE (f x) (g x)) → LeEs (l.map f) (l.map g)
  | [], _ => .nil
  | x :: l, h => .cons (h x (by simp)) (LeEs.map l fun y hy => h y (by simp [hy]))
end Go.Av
set_option linter.unusedVariables false
set_option linter.unusedSimpArgs false
namespace Go.Av
open Go Go.RowKit

theorem Pure.of_le {P : Program} {G : Nat → AV} {f : FuncId} {args : List AV} {v : AV} (h : ∀ σ, Tri P G f args σ fun r σ' => Le r v ∧ σ' = σ) : Pure P G f args v :=
  fun σ => Tri.tell (h σ) fun r s ⟨h1, h2⟩ => ⟨v, h1, rfl, h2⟩
theorem PureC.of_le {P : Program} {G : Nat → AV} {f : FuncId} {args : List AV} {v : AV} {σ0 : AS} (h : ∀ σ, σ0.le σ → Tri P G f args σ fun r σ' => Le r v ∧ σ' = σ) : PureC P G f args σ0 v :=
  fun σ hσ => Tri.tell (h σ hσ) fun r s ⟨h1, h2⟩ => ⟨v, h1, rfl, h2⟩
theorem finish_le {r v : AV} {σ σ' : AS} {d : Dum σ} {d' : Dum fun x s => Le x v ∧ s = σ'} (h2 : Le r v) (h1 : σ'.le σ) : finishW (some [r]) σ (fun x s => Le x v ∧ s = σ') d d' := ⟨[r], σ', rfl, h1, h2, rfl⟩
theorem Pure.lessArgs {P : Program} {G : Nat → AV} {f : FuncId} {args args' : List AV} {v : AV} (h : Pure P G f args' v) (hl : Les args args') : Pure P G f args v := fun σ => Tri.weaken hl (h σ)
/-- whose the room is: forgotten -/
theorem Le.gh {g : Gh} {xs sp : List AV} : Le (.sl g xs sp) (.sl .none xs sp) := fun K v h => by
  cases h with
  | sl0 a => exact .sl0 a
  | sl _ _ _ sz b off cap f hsz hcap hml himm hvv hg => exact .sl .none xs sp sz b off cap f hsz hcap hml himm hvv trivial
/-- the spare room: forgotten -/
theorem Le.spare {g : Gh} {xs sp : List AV} : Le (.sl g xs sp) (.sl .none xs []) := Le.trans Le.gh (fun K v h => h.spareless)

/-- v holds xs: nil, or a row of the call's own, with all that stood at the start untouched -/
inductive Buf (n : Nat) (σ0 σ : AS) : AV → List AV → Prop
  | nil (h : σ0.le σ) : Buf n σ0 σ .nil []
  | own (b : Nat) (xs : List AV) (h : σ0.le σ) (h0 : σ0.tip b = none) (ht : σ.tip b = some (xs.length, n)) (hx : ∀ a, a ∈ xs → (flat a).length = n) : Buf n σ0 σ (.sl (.own b) xs []) xs

theorem Buf.le {n : Nat} {σ0 σ : AS} {v : AV} {xs : List AV} (h : Buf n σ0 σ v xs) : σ0.le σ := by cases h <;> assumption
theorem Buf.told {n : Nat} {σ0 σ : AS} {v : AV} {xs : List AV} (h : Buf n σ0 σ v xs) : Le v (.sl .none xs []) := by
  cases h with
  | nil _ => exact Le.nil
  | own b xs _ _ _ _ => exact Le.gh
theorem Buf.setBox {n : Nat} {σ0 σ : AS} {v : AV} {xs : List AV} (h : Buf n σ0 σ v xs) {c : Nat} (hc : σ0.box c = none) (cs : List AV) : Buf n σ0 (σ.setBox c cs) v xs := by
  cases h with
  | nil h => exact .nil (h.setBox hc cs)
  | own b xs h h0 ht hx => exact .own b xs (h.setBox hc cs) h0 ht hx
theorem Buf.newBox {n : Nat} {σ0 σ : AS} {v : AV} {xs : List AV} (h : Buf n σ0 σ v xs) {c : Nat} (hc : σ.fresh c) (cs : List AV) : Buf n σ0 (σ.setBox c cs) v xs := h.setBox (h.le.fresh hc).1 cs
/-- from a later start -/
theorem Buf.from {n : Nat} {σ0 σ1 σ : AS} {v : AV} {xs : List AV} (h : Buf n σ1 σ v xs) (hl : σ0.le σ1) : Buf n σ0 σ v xs := by
  cases h with
  | nil h => exact .nil (hl.trans h)
  | own b xs h h0 ht hx =>
    refine .own b xs (hl.trans h) ?_ ht hx
    cases e : σ0.tip b with
    | none => rfl
    | some x => have := hl.tip _ _ e; rw [h0] at this; cases this

theorem Buf.isNil {n : Nat} {σ0 σ : AS} {v : AV} {xs : List AV} (h : Buf n σ0 σ v xs) : (xs = [] ∧ v = .nil) ∨ ∃ b, v = .sl (.own b) xs [] := by
  cases h with
  | nil _ => exact .inl ⟨rfl, rfl⟩
  | own b xs _ _ _ _ => exact .inr ⟨b, rfl⟩
theorem Buf.len {P : Program} {n : Nat} {σ0 σ : AS} {v : AV} {xs : List AV} (h : Buf n σ0 σ v xs) {t : TypeId} : ablt P .len #[t] [v] = if (el P t).isSome then some (.int .i64 xs.length) else none := by
  cases h with
  | nil _ => rw [l_nil]; rfl
  | own b xs _ _ _ _ => rw [l_sl]
theorem Buf.isv {n : Nat} {σ0 σ : AS} {v : AV} {xs : List AV} (h : Buf n σ0 σ v xs) : isv v = true := by cases h <;> rfl
theorem Buf.flat {n : Nat} {σ0 σ : AS} {v : AV} {xs : List AV} (h : Buf n σ0 σ v xs) : flat v = [v] := by cases h <;> rfl

theorem app_buf {P : Program} {n by_ : Nat} {σ0 σ : AS} {v x : AV} {xs ys : List AV} {t tx e : TypeId} {K : AV → AS → Prop} {d : Dum σ} {d' : Dum K} (hB : Buf n σ0 σ v xs) (he : aelt P t = some (e, n, by_)) (hs : asrc P tx x = some ys)
    (hys : ∀ a, a ∈ ys → (Av.flat a).length = n) (hb : (xs.length + ys.length) * by_ ≤ 140737488355328) (hK : ∀ v' σ', Buf n σ0 σ' v' (xs ++ ys) → σ'.box = σ.box → K v' σ') : appW P σ t tx v x K d d' := by
  refine .inl ?_
  unfold aappend
  rw [he, hs]
  refine ⟨hys, ?_⟩
  cases hB with
  | nil h =>
    refine ⟨by simpa using hb, fun hy => ?_, fun hy b hf => ?_⟩
    · subst hy; exact hK _ _ (.nil h) rfl
    · have hf0 := h.fresh hf
      refine hK _ _ ?_ rfl
      rw [List.nil_append]
      exact .own b ys (h.setTip hf0.2.1 _) hf0.2.1 (by simp [AS.setTip]) hys
  | own b xs h h0 ht hx =>
    refine ⟨ht, hx, hb, fun b' hb' => ?_⟩
    have h0' : σ0.tip b' = none := by
      rcases hb' with rfl | hf
      · exact h0
      · exact (h.fresh hf).2.1
    refine hK _ _ ?_ rfl
    refine .own b' (xs ++ ys) ((h.delTip h0).setTip h0' _) h0' (by simp [AS.setTip]) fun a ha => ?_
    rcases List.mem_append.1 ha with ha | ha
    · exact hx a ha
    · exact hys a ha
/-- onto a slice written out -/
theorem app_full {P : Program} {n by_ : Nat} {σ0 σ : AS} {x : AV} {xs ys : List AV} {t tx e : TypeId} {K : AV → AS → Prop} {d : Dum σ} {d' : Dum K} (hle : σ0.le σ) (hxs : ∀ a, a ∈ xs → (Av.flat a).length = n) (he : aelt P t = some (e, n, by_)) (hs : asrc P tx x = some ys)
    (hys : ∀ a, a ∈ ys → (Av.flat a).length = n) (hb : (xs.length + ys.length) * by_ ≤ 140737488355328) (hK1 : ys = [] → K (.sl .full xs []) σ) (hK : ∀ v' σ', Buf n σ0 σ' v' (xs ++ ys) → σ'.box = σ.box → K v' σ') : appW P σ t tx (.sl .full xs []) x K d d' := by
  refine .inl ?_
  unfold aappend
  rw [he, hs]
  refine ⟨hys, hxs, hb, hK1, fun hy b hf => ?_⟩
  have hf0 := hle.fresh hf
  refine hK _ _ ?_ rfl
  refine .own b (xs ++ ys) (hle.setTip hf0.2.1 _) hf0.2.1 (by simp [AS.setTip]) fun a ha => ?_
  rcases List.mem_append.1 ha with ha | ha
  · exact hxs a ha
  · exact hys a ha
theorem asrc_sl {P : Program} {t e : TypeId} {g : Gh} {xs sp : List AV} (h : el P t = some e) : asrc P t (.sl g xs sp) = some xs := by simp [asrc, h]
theorem asrc_str {P : Program} {t : TypeId} {s : List UInt8} (h : sk P t = .str) : asrc P t (.str s) = some (s.map fun c => .int .u8 c.toNat) := by simp [asrc, h]
/-- pieces of a slice, whose room is forgotten -/
theorem piece {P : Program} {t e : TypeId} {ag : Bool} {n l h : Nat} {g : Gh} {xs sp : List AV} {lo hi : Option AV} {K : AV → Prop} {d : Dum K} (he : el P t = some e) (hn : tk P e = some (ag, n)) (h1 : abnd lo 0 = some l) (h2 : abnd hi xs.length = some h)
    (hl : l ≤ h) (hh : h ≤ xs.length + sp.length) (hx : ∀ a, a ∈ xs ++ sp → (Av.flat a).length = n) (hK : ∀ g', K (slim (.sl g xs sp) (.sl g' (((xs ++ sp).take h).drop l) ((xs ++ sp).drop h)))) : bo (aslice P t (.sl g xs sp) lo hi) K d := by
  refine ⟨slim (.sl g xs sp) (.sl (pieceGh g l h xs.length) (((xs ++ sp).take h).drop l) ((xs ++ sp).drop h)), ?_, hK _⟩
  unfold aslice aslice0
  simp only [he, h1, h2, hn]
  rw [if_pos ⟨hl, hh, .inr hx⟩]
  rfl
/-- a slice of one item, written out -/
theorem build_one {P : Program} {t e : TypeId} {n by_ : Nat} {a : AV} {K : AV → Prop} {d : Dum K} (he : aelt P t = some (e, n, by_)) (hi : isv a = true) (hf : (Av.flat a).length = n) (hn : n ≤ 16777216) (hK : K (.sl .full [a] [])) : bo (abuildSlice P t 1 [(0, a)]) K d := by
  refine ⟨_, abuildSlice_eq (r := .sl .full [a] []) ?_, hK⟩
  unfold bsk
  rw [he]
  simp [List.range_succ, hi, hf, hn]
theorem build_none {P : Program} {t e : TypeId} {n by_ : Nat} {K : AV → Prop} {d : Dum K} (he : aelt P t = some (e, n, by_)) (hK : K (.sl .full [] [])) : bo (abuildSlice P t 0 []) K d := by
  refine ⟨_, abuildSlice_eq (r := .sl .full [] []) ?_, hK⟩
  unfold bsk
  rw [he]
  simp
/-- what is read at a place of a slice -/
theorem LeEs.get {xs ys : List AV} (h : LeEs xs ys) : ∀ (j : Nat) (h1 : j < xs.length) (h2 : j < ys.length), LeE xs[j] ys[j] := by
  induction h with
  | nil => intro j hj; cases hj
  | cons h _ ih =>
    intro j h1 h2
    cases j with
    | zero => exact h
    | succ j => exact ih j (by simpa using h1) (by simpa using h2)
/-! a drawn row, walked in the order of the text: its head, as long as nothing is written; then one by one -/
def wildB (o : Oper) : Bool := match o.op with | .store .. => true | .makeSlice .. => true | .call ⟨.builtin .append, _, _⟩ => true | .call ⟨.builtin .unsafeString, _, _⟩ => true | _ => false
def headLen : List Oper → Nat
  | [] => 0
  | o :: r => if wildB o = true then 0 else headLen r + 1
def htW (w : Bool) (A B : Prop) (_ : Dum A) (_ : Dum B) : Prop := (w = true → A) ∧ (w = false → B)
def awpHT (P : Program) (G : Nat → AV) (ops : List Oper) (σ0 : AS) (R : Env → AS → Prop) : List Oper → Env → AS → Prop
  | [], e, σ => R e σ
  | o :: rest, e, σ => htW (wildB o) (awpOps P G ops R (o :: rest) e σ)
      (gW (awanted ops e o.guard) (hop P G o e σ0 σ fun r σ' => awpHT P G ops σ0 R rest (e.upd o.dst r) σ') (awpHT P G ops σ0 R rest (e.upd o.dst (.tup [])) σ) ⟨⟩ ⟨⟩) ⟨⟩ ⟨⟩
theorem htW_true {A B : Prop} {d : Dum A} {d' : Dum B} : htW true A B d d' = A := by simp [htW]
theorem htW_false {A B : Prop} {d : Dum A} {d' : Dum B} : htW false A B d d' = B := by simp [htW]
section ht
variable {P : Program} {G : Nat → AV} {ops rest : List Oper} {σ0 σ : AS} {R : Env → AS → Prop} {e : Env} {d : Option Tmp} {ty : TypeId} {pos : String} {af : Array Edge} {g : Option (Nat × Bool)}
theorem ht_nil : awpHT P G ops σ0 R [] e σ = R e σ := nr rfl
theorem ht_cons {o : Oper} : awpHT P G ops σ0 R (o :: rest) e σ = htW (wildB o) (awpOps P G ops R (o :: rest) e σ)
      (gW (awanted ops e o.guard) (hop P G o e σ0 σ fun r σ' => awpHT P G ops σ0 R rest (e.upd o.dst r) σ') (awpHT P G ops σ0 R rest (e.upd o.dst (.tup [])) σ) ⟨⟩ ⟨⟩) ⟨⟩ ⟨⟩ := nr rfl
theorem iw_move {x : Operand} : wildB ⟨d, .move x, ty, pos, af, g⟩ = false := nr rfl
theorem iw_assign {x : Operand} : wildB ⟨d, .assign x, ty, pos, af, g⟩ = false := nr rfl
theorem iw_pick {a b c : Operand} : wildB ⟨d, .pick a b c, ty, pos, af, g⟩ = false := nr rfl
theorem iw_alloc {E : TypeId} : wildB ⟨d, .alloc E, ty, pos, af, g⟩ = false := nr rfl
theorem iw_box {E : TypeId} {x : Operand} : wildB ⟨d, .box E x, ty, pos, af, g⟩ = false := nr rfl
theorem iw_build {t : TypeId} {ps : Array (Nat × Operand)} : wildB ⟨d, .build t ps, ty, pos, af, g⟩ = false := nr rfl
theorem iw_buildSlice {t n : Nat} {ps : Array (Nat × Operand)} : wildB ⟨d, .buildSlice t n ps, ty, pos, af, g⟩ = false := nr rfl
theorem iw_load {t : TypeId} {x : Operand} : wildB ⟨d, .load t x, ty, pos, af, g⟩ = false := nr rfl
theorem iw_nilCheck {x : Operand} : wildB ⟨d, .nilCheck x, ty, pos, af, g⟩ = false := nr rfl
theorem iw_binOp {op : BinOp} {t yt : TypeId} {x y : Operand} : wildB ⟨d, .binOp op t x y yt, ty, pos, af, g⟩ = false := nr rfl
theorem iw_unOp {op : UnOp} {t : TypeId} {x : Operand} : wildB ⟨d, .unOp op t x, ty, pos, af, g⟩ = false := nr rfl
theorem iw_convert {s t : TypeId} {x : Operand} : wildB ⟨d, .convert s t x, ty, pos, af, g⟩ = false := nr rfl
theorem iw_makeFunc {f : FuncId} {caps : Array Operand} : wildB ⟨d, .makeFunc (.func f) #[] caps, ty, pos, af, g⟩ = false := nr rfl
theorem iw_slice {t : TypeId} {x : Operand} {lo hi : Option Operand} : wildB ⟨d, .slice t x lo hi none, ty, pos, af, g⟩ = false := nr rfl
theorem iw_fieldAddr {t : TypeId} {x : Operand} {i : Nat} : wildB ⟨d, .fieldAddr t x i, ty, pos, af, g⟩ = false := nr rfl
theorem iw_field {t : TypeId} {x : Operand} {i : Nat} : wildB ⟨d, .field t x i, ty, pos, af, g⟩ = false := nr rfl
theorem iw_indexAddr {t : TypeId} {x i : Operand} : wildB ⟨d, .indexAddr t x i, ty, pos, af, g⟩ = false := nr rfl
theorem iw_index {t : TypeId} {x i : Operand} : wildB ⟨d, .index t x i, ty, pos, af, g⟩ = false := nr rfl
theorem iw_extract {x : Operand} {i : Nat} : wildB ⟨d, .extract x i, ty, pos, af, g⟩ = false := nr rfl
theorem iw_call {f : Operand} {args : Array Operand} {ts : Array TypeId} : wildB ⟨d, .call ⟨.value f, args, ts⟩, ty, pos, af, g⟩ = false := nr rfl
theorem iw_len {args : Array Operand} {ts : Array TypeId} : wildB ⟨d, .call ⟨.builtin .len, args, ts⟩, ty, pos, af, g⟩ = false := nr rfl
theorem iw_cap {args : Array Operand} {ts : Array TypeId} : wildB ⟨d, .call ⟨.builtin .cap, args, ts⟩, ty, pos, af, g⟩ = false := nr rfl
theorem iw_usd {args : Array Operand} {ts : Array TypeId} : wildB ⟨d, .call ⟨.builtin .unsafeSliceData, args, ts⟩, ty, pos, af, g⟩ = false := nr rfl
theorem iw_ustr {args : Array Operand} {ts : Array TypeId} : wildB ⟨d, .call ⟨.builtin .unsafeString, args, ts⟩, ty, pos, af, g⟩ = true := nr rfl
theorem iw_max {args : Array Operand} {ts : Array TypeId} : wildB ⟨d, .call ⟨.builtin .max, args, ts⟩, ty, pos, af, g⟩ = false := nr rfl
theorem iw_min {args : Array Operand} {ts : Array TypeId} : wildB ⟨d, .call ⟨.builtin .min, args, ts⟩, ty, pos, af, g⟩ = false := nr rfl
theorem iw_store {t : TypeId} {p x : Operand} : wildB ⟨d, .store t p x, ty, pos, af, g⟩ = true := nr rfl
theorem iw_append {args : Array Operand} {ts : Array TypeId} : wildB ⟨d, .call ⟨.builtin .append, args, ts⟩, ty, pos, af, g⟩ = true := nr rfl
theorem iw_makeSlice {t : TypeId} {x y : Operand} : wildB ⟨d, .makeSlice t x y, ty, pos, af, g⟩ = true := nr rfl
theorem ht_head : ∀ (l : List Oper) (e : Env) (σ : AS), awpHT P G ops σ0 R l e σ → awpHead P G ops σ0 (fun e' σ' => awpOps P G ops R (l.drop (headLen l)) e' σ') (l.take (headLen l)) e σ
  | [], e, σ, h => h
  | o :: rest, e, σ, h => by
    unfold awpHT htW at h
    unfold headLen
    cases hw : wildB o with
    | true =>
      simp only [if_true]
      exact h.1 hw
    | false =>
      simp only [Bool.false_eq_true, if_false]
      obtain ⟨b, hb, h1, h2⟩ := h.2 hw
      have hl : (o :: rest).take (headLen rest + 1) = o :: rest.take (headLen rest) := rfl
      have hd : (o :: rest).drop (headLen rest + 1) = rest.drop (headLen rest) := rfl
      rw [hl, hd]
      exact ⟨b, hb, fun x => hop_mono (fun r s hh => ht_head rest _ _ hh) (h1 x), fun x => ht_head rest _ _ (h2 x)⟩
end ht
theorem draw_all {P : Program} {G : Nat → AV} {l : List Oper} {R : Env → AS → Prop} {e : Env} {σ : AS} {d : Dum l.toArray} {d' : Dum R} {d2 : Dum e} {d3 : Dum σ} (hn : drawB l.toArray (headLen l) = true)
    (h : awpHT P G l σ R l e σ) : drawW P G l.toArray R e σ d d' d2 d3 := ⟨[], headLen l, σ, [], rfl, hn, AS.le.refl σ, fun c hc => (by cases hc), awpHead_S _ _ _ _ (ht_head l e σ h)⟩
/-- where moves float: with the edges that put them ahead -/
theorem draw_all_f {P : Program} {G : Nat → AV} {l : List Oper} {R : Env → AS → Prop} {e : Env} {σ : AS} {d : Dum l.toArray} {d' : Dum R} {d2 : Dum e} {d3 : Dum σ} (fs : List (Nat × Nat)) (hf : floatsB l.toArray fs = true) (hn : drawB (edged l.toArray fs) (headLen l) = true)
    (h : awpHT P G l σ R l e σ) : drawW P G l.toArray R e σ d d' d2 d3 := ⟨fs, headLen l, σ, [], hf, hn, AS.le.refl σ, fun c hc => (by cases hc), awpHead_S _ _ _ _ (ht_head l e σ h)⟩
/-- a loop whose rounds leave the state as it is -/
theorem loop_keep {P : Program} (hm : P.follows .mixedOrders = true) {G : Nat → AV} {c : Code} {Q : Exit → Env → AS → Prop} {e : Env} {σ : AS} {d : Dum c} {d' : Dum Q} {d2 : Dum e} {d3 : Dum σ} (I : Nat → Env → Prop) (n : Nat) (h0 : I n e)
    (h1 : ∀ n v, I n (mrg (cWrites c) v e) → awp P G (adraw P G) c (fun x e' σ' => match x with | .normal => (∃ m, m < n ∧ I m e') ∧ σ' = σ | x => Q x e' σ') (mrg (cWrites c) v e) σ) : loopW P G c Q e σ d d' d2 d3 :=
  loop_intro (fun n e σ' => I n e ∧ σ' = σ) n ⟨h0, rfl⟩ fun n v σ' ⟨hI, hs⟩ => by
    subst hs
    refine awp_mono (drawOK hm) _ _ _ (fun x e s hx => ?_) (h1 n v hI)
    cases x with
    | normal => obtain ⟨⟨m, h1, h2⟩, h3⟩ := hx; exact ⟨m, h1, h2, h3⟩
    | _ => exact hx
end Go.Av
set_option linter.unusedVariables false
set_option linter.unusedSimpArgs false
namespace Go.Av
open Go Go.RowKit
/-! rows in which stores to boxes of their own may come at any time -/
section fl
variable {P : Program} {G : Nat → AV} {ops rest : List Oper} {σ0 σ : AS} {R : Env → AS → Prop} {e : Env} {d : Option Tmp} {ty : TypeId} {pos : String} {af : Array Edge} {g : Option (Nat × Bool)} {av : List Nat} {K : AV → AS → List Nat → Prop}
def storeW (P : Program) (σ : AS) (av : List Nat) (t : TypeId) (p x : AV) (K : AV → AS → List Nat → Prop) (_ : Dum σ) (_ : Dum K) : Prop :=
  ∃ b off z0 z, p = .ptr b off ∧ b ∈ av ∧ σ.box b = some z0 ∧ astore P σ t (.ptr b off) x = some (σ.setBox b z) ∧ K .undef (σ.setBox b z) (av.filter fun c => decide (c ≠ b))
theorem hs_nil : awpHeadS P G ops σ0 R [] e σ av = R e σ := nr rfl
theorem hs_cons {o : Oper} : awpHeadS P G ops σ0 R (o :: rest) e σ av =
      gW (awanted ops e o.guard) (hopS P G o e σ0 σ av fun r σ' av' => awpHeadS P G ops σ0 R rest (e.upd o.dst r) σ' av') (awpHeadS P G ops σ0 R rest (e.upd o.dst (.tup [])) σ av) ⟨⟩ ⟨⟩ := nr rfl
/-- the store, or one that leaves things as they are -/
def storeX (P : Program) (σ0 σ : AS) (av : List Nat) (t : TypeId) (p x : AV) (K : AV → AS → List Nat → Prop) (_ : Dum σ0) (_ : Dum σ) (_ : Dum K) : Prop := storeW P σ av t p x K ⟨⟩ ⟨⟩ ∨ (sameSt P σ0 t p x ∧ K .undef σ av)
theorem hs_store {t : TypeId} {p x : Operand} : hopS P G ⟨d, .store t p x, ty, pos, af, g⟩ e σ0 σ av K = storeX P σ0 σ av t (ev G e p) (ev G e x) K ⟨⟩ ⟨⟩ ⟨⟩ := nr rfl
theorem storeX_w {σ0 σ : AS} {av : List Nat} {t : TypeId} {p x : AV} {K : AV → AS → List Nat → Prop} {d : Dum σ0} {d' : Dum σ} {d2 : Dum K} (h : storeW P σ av t p x K ⟨⟩ ⟨⟩) : storeX P σ0 σ av t p x K d d' d2 := .inl h
/-- in a head: a store of what stands there -/
def sameW (P : Program) (σ0 : AS) (t : TypeId) (p x : AV) (F : Prop) (_ : Dum σ0) (_ : Dum F) : Prop := sameSt P σ0 t p x ∧ F
theorem h_store {K : AV → AS → Prop} {t : TypeId} {p x : Operand} : hop P G ⟨d, .store t p x, ty, pos, af, g⟩ e σ0 σ K = sameW P σ0 t (ev G e p) (ev G e x) (K .undef σ) ⟨⟩ ⟨⟩ := nr rfl
theorem hs_move {x : Operand} : hopS P G ⟨d, .move x, ty, pos, af, g⟩ e σ0 σ av K = hop P G ⟨d, .move x, ty, pos, af, g⟩ e σ0 σ (fun r σ' => K r σ' av) := nr rfl
theorem hs_assign {x : Operand} : hopS P G ⟨d, .assign x, ty, pos, af, g⟩ e σ0 σ av K = hop P G ⟨d, .assign x, ty, pos, af, g⟩ e σ0 σ (fun r σ' => K r σ' av) := nr rfl
theorem hs_pick {a b c : Operand} : hopS P G ⟨d, .pick a b c, ty, pos, af, g⟩ e σ0 σ av K = hop P G ⟨d, .pick a b c, ty, pos, af, g⟩ e σ0 σ (fun r σ' => K r σ' av) := nr rfl
theorem hs_alloc {E : TypeId} : hopS P G ⟨d, .alloc E, ty, pos, af, g⟩ e σ0 σ av K = hop P G ⟨d, .alloc E, ty, pos, af, g⟩ e σ0 σ (fun r σ' => K r σ' av) := nr rfl
theorem hs_box {E : TypeId} {x : Operand} : hopS P G ⟨d, .box E x, ty, pos, af, g⟩ e σ0 σ av K = hop P G ⟨d, .box E x, ty, pos, af, g⟩ e σ0 σ (fun r σ' => K r σ' av) := nr rfl
theorem hs_build {t : TypeId} {ps : Array (Nat × Operand)} : hopS P G ⟨d, .build t ps, ty, pos, af, g⟩ e σ0 σ av K = hop P G ⟨d, .build t ps, ty, pos, af, g⟩ e σ0 σ (fun r σ' => K r σ' av) := nr rfl
theorem hs_buildSlice {t n : Nat} {ps : Array (Nat × Operand)} : hopS P G ⟨d, .buildSlice t n ps, ty, pos, af, g⟩ e σ0 σ av K = hop P G ⟨d, .buildSlice t n ps, ty, pos, af, g⟩ e σ0 σ (fun r σ' => K r σ' av) := nr rfl
theorem hs_load {t : TypeId} {x : Operand} : hopS P G ⟨d, .load t x, ty, pos, af, g⟩ e σ0 σ av K = hop P G ⟨d, .load t x, ty, pos, af, g⟩ e σ0 σ (fun r σ' => K r σ' av) := nr rfl
theorem hs_nilCheck {x : Operand} : hopS P G ⟨d, .nilCheck x, ty, pos, af, g⟩ e σ0 σ av K = hop P G ⟨d, .nilCheck x, ty, pos, af, g⟩ e σ0 σ (fun r σ' => K r σ' av) := nr rfl
theorem hs_binOp {op : BinOp} {t yt : TypeId} {x y : Operand} : hopS P G ⟨d, .binOp op t x y yt, ty, pos, af, g⟩ e σ0 σ av K = hop P G ⟨d, .binOp op t x y yt, ty, pos, af, g⟩ e σ0 σ (fun r σ' => K r σ' av) := nr rfl
theorem hs_unOp {op : UnOp} {t : TypeId} {x : Operand} : hopS P G ⟨d, .unOp op t x, ty, pos, af, g⟩ e σ0 σ av K = hop P G ⟨d, .unOp op t x, ty, pos, af, g⟩ e σ0 σ (fun r σ' => K r σ' av) := nr rfl
theorem hs_convert {s t : TypeId} {x : Operand} : hopS P G ⟨d, .convert s t x, ty, pos, af, g⟩ e σ0 σ av K = hop P G ⟨d, .convert s t x, ty, pos, af, g⟩ e σ0 σ (fun r σ' => K r σ' av) := nr rfl
theorem hs_makeFunc {f : FuncId} {caps : Array Operand} : hopS P G ⟨d, .makeFunc (.func f) #[] caps, ty, pos, af, g⟩ e σ0 σ av K = hop P G ⟨d, .makeFunc (.func f) #[] caps, ty, pos, af, g⟩ e σ0 σ (fun r σ' => K r σ' av) := nr rfl
theorem hs_slice {t : TypeId} {x : Operand} {lo hi : Option Operand} : hopS P G ⟨d, .slice t x lo hi none, ty, pos, af, g⟩ e σ0 σ av K = hop P G ⟨d, .slice t x lo hi none, ty, pos, af, g⟩ e σ0 σ (fun r σ' => K r σ' av) := nr rfl
theorem hs_fieldAddr {t : TypeId} {x : Operand} {i : Nat} : hopS P G ⟨d, .fieldAddr t x i, ty, pos, af, g⟩ e σ0 σ av K = hop P G ⟨d, .fieldAddr t x i, ty, pos, af, g⟩ e σ0 σ (fun r σ' => K r σ' av) := nr rfl
theorem hs_field {t : TypeId} {x : Operand} {i : Nat} : hopS P G ⟨d, .field t x i, ty, pos, af, g⟩ e σ0 σ av K = hop P G ⟨d, .field t x i, ty, pos, af, g⟩ e σ0 σ (fun r σ' => K r σ' av) := nr rfl
theorem hs_indexAddr {t : TypeId} {x i : Operand} : hopS P G ⟨d, .indexAddr t x i, ty, pos, af, g⟩ e σ0 σ av K = hop P G ⟨d, .indexAddr t x i, ty, pos, af, g⟩ e σ0 σ (fun r σ' => K r σ' av) := nr rfl
theorem hs_index {t : TypeId} {x i : Operand} : hopS P G ⟨d, .index t x i, ty, pos, af, g⟩ e σ0 σ av K = hop P G ⟨d, .index t x i, ty, pos, af, g⟩ e σ0 σ (fun r σ' => K r σ' av) := nr rfl
theorem hs_extract {x : Operand} {i : Nat} : hopS P G ⟨d, .extract x i, ty, pos, af, g⟩ e σ0 σ av K = hop P G ⟨d, .extract x i, ty, pos, af, g⟩ e σ0 σ (fun r σ' => K r σ' av) := nr rfl
theorem hs_call {f : Operand} {args : Array Operand} {ts : Array TypeId} : hopS P G ⟨d, .call ⟨.value f, args, ts⟩, ty, pos, af, g⟩ e σ0 σ av K = hop P G ⟨d, .call ⟨.value f, args, ts⟩, ty, pos, af, g⟩ e σ0 σ (fun r σ' => K r σ' av) := nr rfl
theorem hs_len {args : Array Operand} {ts : Array TypeId} : hopS P G ⟨d, .call ⟨.builtin .len, args, ts⟩, ty, pos, af, g⟩ e σ0 σ av K = hop P G ⟨d, .call ⟨.builtin .len, args, ts⟩, ty, pos, af, g⟩ e σ0 σ (fun r σ' => K r σ' av) := nr rfl
theorem hs_cap {args : Array Operand} {ts : Array TypeId} : hopS P G ⟨d, .call ⟨.builtin .cap, args, ts⟩, ty, pos, af, g⟩ e σ0 σ av K = hop P G ⟨d, .call ⟨.builtin .cap, args, ts⟩, ty, pos, af, g⟩ e σ0 σ (fun r σ' => K r σ' av) := nr rfl
theorem hs_usd {args : Array Operand} {ts : Array TypeId} : hopS P G ⟨d, .call ⟨.builtin .unsafeSliceData, args, ts⟩, ty, pos, af, g⟩ e σ0 σ av K = hop P G ⟨d, .call ⟨.builtin .unsafeSliceData, args, ts⟩, ty, pos, af, g⟩ e σ0 σ (fun r σ' => K r σ' av) := nr rfl
theorem hs_max {args : Array Operand} {ts : Array TypeId} : hopS P G ⟨d, .call ⟨.builtin .max, args, ts⟩, ty, pos, af, g⟩ e σ0 σ av K = hop P G ⟨d, .call ⟨.builtin .max, args, ts⟩, ty, pos, af, g⟩ e σ0 σ (fun r σ' => K r σ' av) := nr rfl
theorem hs_min {args : Array Operand} {ts : Array TypeId} : hopS P G ⟨d, .call ⟨.builtin .min, args, ts⟩, ty, pos, af, g⟩ e σ0 σ av K = hop P G ⟨d, .call ⟨.builtin .min, args, ts⟩, ty, pos, af, g⟩ e σ0 σ (fun r σ' => K r σ' av) := nr rfl
theorem hs_makeSlice {t : TypeId} {x y : Operand} : hopS P G ⟨d, .makeSlice t x y, ty, pos, af, g⟩ e σ0 σ av K = hop P G ⟨d, .makeSlice t x y, ty, pos, af, g⟩ e σ0 σ (fun r σ' => K r σ' av) := nr rfl
def stw (m : Bool) (k : Option (Bool × Nat)) (σ : AS) (bx : Option (List AV)) (b off : Nat) (x : AV) (K : AS → Prop) : Prop := match m, k, bx with
  | true, some (_, n), some cs => isv x = true ∧ (flat x).length = n ∧ off + n ≤ cs.length ∧ K (σ.setBox b (cs.take off ++ flat x ++ cs.drop (off + n)))
  | _, _, _ => False
theorem stw_some {ag : Bool} {n : Nat} {cs : List AV} {b off : Nat} {x : AV} {F : AS → Prop} : stw true (some (ag, n)) σ (some cs) b off x F = (isv x = true ∧ (flat x).length = n ∧ off + n ≤ cs.length ∧ F (σ.setBox b (cs.take off ++ flat x ++ cs.drop (off + n)))) := nr rfl
theorem storeW_eq {t : TypeId} {b off : Nat} {x : AV} {d : Dum σ} {d' : Dum K} : storeW P σ av t (.ptr b off) x K d d' = stw (decide (b ∈ av)) (tk P t) σ (σ.box b) b off x (fun s => K .undef s (av.filter fun c => decide (c ≠ b))) := by
  apply propext
  constructor
  · rintro ⟨b', off', z0, z, h1, h2, h3, h4, h5⟩
    simp only [AV.ptr.injEq] at h1
    obtain ⟨rfl, rfl⟩ := h1
    have h0 : decide (b ∈ av) = true := by simpa using h2
    rw [h0, h3]
    rw [astore_ptr, h3] at h4
    unfold stw
    unfold stk at h4
    cases hk : tk P t with
    | none => rw [hk] at h4; cases h4
    | some y =>
      obtain ⟨ag, n⟩ := y
      rw [hk] at h4
      simp only at h4 ⊢
      split at h4
      · rename_i hc
        simp only [Option.some.injEq] at h4
        have := setBox_inj h4
        rw [this]
        exact ⟨hc.1, hc.2.1, hc.2.2, h5⟩
      · cases h4
  · intro h
    unfold stw at h
    split at h
    · rename_i ag n cs hm hk hb
      obtain ⟨g1, g2, g3, g4⟩ := h
      refine ⟨b, off, cs, _, rfl, by simpa using hm, hb, ?_, g4⟩
      rw [astore_ptr, hb, hk]
      unfold stk
      exact if_pos ⟨g1, g2, g3⟩
    · exact h.elim
theorem AS.delBox_le (σ : AS) (b : Nat) : (σ.delBox b).le σ := ⟨fun i cs hi => by
  have hi' : (if i = b then none else σ.box i) = some cs := hi
  split at hi'
  · cases hi'
  · exact hi', fun _ _ h => h, fun _ _ h => h⟩
theorem draw_float1 {l : List Oper} {d : Dum l.toArray} {d' : Dum R} {d2 : Dum e} {d3 : Dum σ} (n b : Nat) {z : List AV} (hn : drawB l.toArray n = true) (hb : σ.box b = some z)
    (h : awpHeadS P G l (σ.delBox b) (fun e' σ' => awpOps P G l R (l.drop n) e' σ') (l.take n) e σ [b]) : drawW P G l.toArray R e σ d d' d2 d3 :=
  ⟨[], n, σ.delBox b, [b], rfl, hn, AS.delBox_le σ b, fun c hc => by
    have : c = b := by simpa using hc
    subst this
    exact ⟨by rw [hb]; rfl, by simp [AS.delBox]⟩, h⟩
theorem draw_float2 {l : List Oper} {d : Dum l.toArray} {d' : Dum R} {d2 : Dum e} {d3 : Dum σ} (n b b' : Nat) {z z' : List AV} (hn : drawB l.toArray n = true) (hb : σ.box b = some z) (hb' : σ.box b' = some z')
    (h : awpHeadS P G l ((σ.delBox b).delBox b') (fun e' σ' => awpOps P G l R (l.drop n) e' σ') (l.take n) e σ [b, b']) : drawW P G l.toArray R e σ d d' d2 d3 :=
  ⟨[], n, (σ.delBox b).delBox b', [b, b'], rfl, hn, (AS.delBox_le _ b').trans (AS.delBox_le σ b), fun c hc => by
    have : c = b ∨ c = b' := by simpa using hc
    rcases this with rfl | rfl
    · exact ⟨by rw [hb]; rfl, by simp [AS.delBox]⟩
    · exact ⟨by rw [hb']; rfl, by simp [AS.delBox]⟩, h⟩
end fl
end Go.Av
set_option linter.unusedVariables false
set_option linter.unusedSimpArgs false
namespace Go.Av
open Go Go.RowKit

/-- the slice that may be written, b, of n items of s cells, stands for y -/
inductive Frz (b n s : Nat) (y : AV) : AV → AV → Prop
  | same (a : AV) : Frz b n s y a a
  | here (E : TypeId) : Frz b n s y (.bs b n s E) y
  | tup (l l' : List AV) (hl : l.length = l'.length) (h : ∀ j (h1 : j < l.length) (h2 : j < l'.length), Frz b n s y l[j] l'[j]) : Frz b n s y (.tup l) (.tup l')
  | agg (l l' : List AV) (hl : l.length = l'.length) (h1 : ∀ c, c ∈ l' → one c = true) (h : ∀ j (h1 : j < l.length) (h2 : j < l'.length), Frz b n s y l[j] l'[j]) : Frz b n s y (.agg l) (.agg l')
/-- it is met in a value -/
def Has (b n s : Nat) (r : AV) : Prop := ∀ K v, VR K r v → ∃ cap E, K.row b = some (cap, s, E) ∧ n ≤ cap ∧ cap ≤ maxLen
theorem Has.bs {b n s : Nat} {E : TypeId} : Has b n s (.bs b n s E) := fun K v h => by
  cases h with
  | bs _ _ _ cap E hr hn hm => exact ⟨cap, E, hr, hn, hm⟩
theorem Has.tup {b n s : Nat} {l : List AV} (j : Nat) (hj : j < l.length) (h : Has b n s l[j]) : Has b n s (.tup l) := fun K v hv => by
  cases hv with
  | tup _ vs hl hvv => exact h K _ (hvv j hj)
theorem Has.agg {b n s : Nat} {l : List AV} (j : Nat) (hj : j < l.length) (h : Has b n s l[j]) : Has b n s (.agg l) := fun K v hv => by
  cases hv with
  | agg _ vs hl h1 hvv => exact h K _ (hvv j hj)
/-- what the box of such a slice holds, as items -/
structure Items (n s : Nat) (xs cs : List AV) : Prop where
  len : xs.length = n
  flat : xs.flatMap flat = cs
  item : ∀ a, a ∈ xs → (Av.flat a).length = s ∧ isv a = true
theorem Items.size {n s : Nat} {xs cs : List AV} (h : Items n s xs cs) : cs.length = n * s := by
  rw [← h.flat, flatMap_length (sz := s) xs (fun a ha => (h.item a ha).1), h.len]
/-- items of one cell each -/
theorem Items.ones {xs : List AV} (h : ∀ a, a ∈ xs → Av.flat a = [a] ∧ isv a = true) : Items xs.length 1 xs xs := by
  refine ⟨rfl, ?_, fun a ha => ⟨by rw [(h a ha).1]; rfl, (h a ha).2⟩⟩
  induction xs with
  | nil => rfl
  | cons x xs ih => rw [List.flatMap_cons, (h x (by simp)).1, ih fun a ha => h a (by simp [ha])]; rfl
def AS.froze (σ : AS) (b n s : Nat) : AS := (σ.delBox b).setTip b (n, s)

theorem freeze_world {G : Nat → AV} {K : Ctx} {σ : AS} {w : World} (hr : Rel G K σ w) {b n s : Nat} {xs cs : List AV} (hb : σ.box b = some cs) (hi : Items n s xs cs) {cap : Nat} {E : TypeId} (hrow : K.row b = some (cap, s, E)) (hn : n ≤ cap) (hm : cap ≤ maxLen) :
    ∃ K', K.le K' ∧ Rel G K' (σ.froze b n s) w ∧ ∀ r r' v, Frz b n s (.sl (.own b) xs []) r r' → VR K r v → VR K' r' v := by
  obtain ⟨K', h1, h2, h3, f, h4, h5, h6⟩ := hr.frozen hb hrow hi.size hn
  refine ⟨K', h1, h2, fun r r' v hf => ?_⟩
  induction hf generalizing v with
  | same a => exact fun hv => hv.mono h1
  | here E0 =>
    intro hv
    cases hv with
    | bs _ _ _ cap2 E2 hr2 hn2 hm2 =>
      rw [hrow] at hr2
      simp only [Option.some.injEq, Prod.mk.injEq] at hr2
      obtain ⟨rfl, _, rfl⟩ := hr2
      have hfl : ((xs ++ []).flatMap flat) = cs := by rw [List.append_nil, hi.flat]
      have := VR.sl (K := K') (.own b) xs [] s b 0 cap f
        (fun e he => by
          rw [List.append_nil] at he
          refine ⟨(hi.item e he).1, (hi.item e he).2, fun c hc => h6 c ?_⟩
          rw [← hi.flat]; exact List.mem_flatMap.2 ⟨e, he, hc⟩)
        (by rw [hi.len]; simp; exact hn) hm
        (fun j hj => by rw [hfl] at hj; rw [Nat.zero_add]; exact h4 j hj)
        (fun j hj => by
          have hj' : j < cs.length := by rw [hfl] at hj; exact hj
          have e1 : ((xs ++ []).flatMap flat)[j] = cs[j] := by congr 1
          rw [e1]; exact h5 j hj')
        ⟨rfl, rfl, E, s, h3⟩
      rw [hi.len] at this
      exact this
  | tup l l' hl h ih =>
    intro hv
    cases hv with
    | tup _ vs hvl hvv => exact .tup l' vs (by omega) fun j hj => ih j (by omega) hj _ (hvv j (by omega))
  | agg l l' hl h1' h ih =>
    intro hv
    cases hv with
    | agg _ vs hvl ho hvv => exact .agg l' vs (by omega) h1' fun j hj => ih j (by omega) hj _ (hvv j (by omega))

/-- what is told may be told frozen -/
theorem Tri.freezeRes {P : Program} {G : Nat → AV} {f : FuncId} {args : List AV} {σ : AS} {Q Q' : AV → AS → Prop} (h : Tri P G f args σ Q)
    (hq : ∀ r σ', Q r σ' → ∃ b n s xs cs r', σ'.box b = some cs ∧ Items n s xs cs ∧ Has b n s r ∧ Frz b n s (.sl (.own b) xs []) r r' ∧ Q' r' (σ'.froze b n s)) : Tri P G f args σ Q' :=
  ⟨h.1, fun K w vals hr hv => (h.2 K w vals hr hv).mono fun e w' ⟨v, r, σ', K', he, hQ, h1, h2, h3⟩ => by
    obtain ⟨b, n, s, xs, cs, r', g1, g2, g3, g4, g5⟩ := hq r σ' hQ
    obtain ⟨cap, E, g6, g7, g8⟩ := g3 K' v h1
    obtain ⟨K2, k1, k2, k3⟩ := freeze_world h2 g1 g2 g6 g7 g8
    exact ⟨v, r', _, K2, he, g5, k3 r r' v g4 h1, k2, h3.trans k1⟩⟩
/-- an argument may be handed in frozen -/
inductive FrzL (b n s : Nat) (y : AV) : List AV → List AV → Prop
  | nil : FrzL b n s y [] []
  | cons {a a' : AV} {l l' : List AV} (h : Frz b n s y a a') (t : FrzL b n s y l l') : FrzL b n s y (a :: l) (a' :: l')
theorem FrzL.refl {b n s : Nat} {y : AV} : ∀ (l : List AV), FrzL b n s y l l
  | [] => .nil
  | a :: l => .cons (.same a) (FrzL.refl l)
def HasL (b n s : Nat) (l : List AV) : Prop := ∃ a, a ∈ l ∧ Has b n s a
theorem HasL.row {b n s : Nat} {K : Ctx} : ∀ {l : List AV} {vs : List Value}, VRl K l vs → HasL b n s l → ∃ cap E, K.row b = some (cap, s, E) ∧ n ≤ cap ∧ cap ≤ maxLen
  | a :: l, v :: vs, ⟨h1, h2⟩, ⟨x, hx, hh⟩ => by
    rcases List.mem_cons.1 hx with rfl | hx
    · exact hh K v h1
    · exact HasL.row h2 ⟨x, hx, hh⟩
  | [], _, _, ⟨x, hx, _⟩ => by cases hx
  | _ :: _, [], h, _ => h.elim
theorem FrzL.vrl {b n s : Nat} {y : AV} {K K' : Ctx} (hk : ∀ r r' v, Frz b n s y r r' → VR K r v → VR K' r' v) : ∀ {l l' : List AV} {vs : List Value}, FrzL b n s y l l' → VRl K l vs → VRl K' l' vs
  | [], _, [], .nil, _ => trivial
  | a :: l, _, v :: vs, .cons h t, ⟨h1, h2⟩ => ⟨hk _ _ _ h h1, FrzL.vrl hk t h2⟩
  | [], _, _ :: _, .nil, h => h.elim
  | _ :: _, _, [], _, h => h.elim
theorem Tri.freeze {P : Program} {G : Nat → AV} {f : FuncId} {args args' : List AV} {σ : AS} {Q : AV → AS → Prop} (b n s : Nat) (xs cs : List AV) (hb : σ.box b = some cs) (hi : Items n s xs cs) (hh : HasL b n s args)
    (hf : FrzL b n s (.sl (.own b) xs []) args args') (h : Tri P G f args' (σ.froze b n s) Q) : Tri P G f args σ Q :=
  ⟨h.1, fun K w vals hr hv => by
    obtain ⟨cap, E, g1, g2, g3⟩ := HasL.row hv hh
    obtain ⟨K', k1, k2, k3⟩ := freeze_world hr hb hi g1 g2 g3
    exact (h.2 K' w vals k2 (FrzL.vrl k3 hf hv)).mono fun e w' ⟨v, r, σ', K2, he, hQ, h1, h2, h3⟩ => ⟨v, r, σ', K2, he, hQ, h1, h2, k1.trans h3⟩⟩
/-- a slice that may be nil is nil, or it is not -/
theorem Tri.nil_or {P : Program} {G : Nat → AV} {f : FuncId} {σ : AS} {Q : AV → AS → Prop} (h1 : Tri P G f [.nil] σ Q) (h2 : ∀ a c, Tri P G f [.raw (.slice (some a) 0 c)] σ Q) : Tri P G f [.sl .none [] []] σ Q :=
  ⟨h1.1, fun K w vals hr hv => by
    match vals, hv with
    | [v], ⟨hv, _⟩ =>
      have raw : ∀ a c, v = .slice (some a) 0 c → _ := fun a c e => (h2 a c).2 K w [v] hr ⟨e ▸ .raw _, trivial⟩
      cases hv with
      | sl0 a =>
        cases a with
        | none => exact h1.2 K w _ hr ⟨.nil, trivial⟩
        | some a => exact raw a 0 rfl
      | sl _ _ _ sz b off cap f hsz hcap hml himm hvv hg => exact raw _ _ rfl⟩
theorem AS.froze_le {σ0 σ : AS} (h : σ0.le σ) {b n s : Nat} (hb : σ0.box b = none) (ht : σ0.tip b = none) : σ0.le (σ.froze b n s) := by
  have h1 : σ0.le (σ.delBox b) := ⟨fun i cs hi => by
    show (if i = b then none else σ.box i) = some cs
    have hne : i ≠ b := fun e => by subst e; rw [hb] at hi; cases hi
    rw [if_neg hne]; exact h.box _ _ hi, fun i m hi => h.tip _ _ hi, h.ty⟩
  exact h1.setTip ht _
end Go.Av
set_option linter.unusedVariables false
set_option linter.defProp false
namespace Go.Av
open Go
def bp0 := And.intro (And.intro (And.intro (And.intro @w_seq @w_region) (And.intro @w_draw @w_cond)) (And.intro (And.intro @w_block @w_loop) (And.intro @w_exit @w_ret))) (And.intro (And.intro (And.intro @w_skip @w_nil) (And.intro @w_cons @h_nil)) (And.intro (And.intro @h_cons @o_store) (And.intro @o_append @fin_normal)))
def bp1 := And.intro (And.intro (And.intro (And.intro @fin_ret @fin_exit) (And.intro @ev_tmp @ev_const)) (And.intro (And.intro @ev_global @ev_func) (And.intro @upd_some @upd_none))) (And.intro (And.intro (And.intro @mrg_at @argEnv_at) (And.intro @box_set @box_tip)) (And.intro (And.intro @box_del @tip_box) (And.intro @tip_set @tip_del)))
def bp2 := And.intro (And.intro (And.intro (And.intro @o_move @o_assign) (And.intro @o_pick @o_alloc)) (And.intro (And.intro @o_box @o_build) (And.intro @o_buildSlice @o_makeSlice))) (And.intro (And.intro (And.intro @o_load @o_nilCheck) (And.intro @o_binOp @o_unOp)) (And.intro (And.intro @o_convert @o_makeFunc) (And.intro @o_slice @o_fieldAddr)))
def bp3 := And.intro (And.intro (And.intro (And.intro @o_field @o_indexAddr) (And.intro @o_index @o_extract)) (And.intro (And.intro @o_len @o_max) (And.intro @o_min @o_call))) (And.intro (And.intro (And.intro @h_move @h_assign) (And.intro @h_pick @h_alloc)) (And.intro (And.intro @h_box @h_build) (And.intro @h_buildSlice @h_load)))
def bp4 := And.intro (And.intro (And.intro (And.intro @h_nilCheck @h_binOp) (And.intro @h_unOp @h_convert)) (And.intro (And.intro @h_makeFunc @h_slice) (And.intro @h_fieldAddr @h_field))) (And.intro (And.intro (And.intro @h_indexAddr @h_index) (And.intro @h_extract @h_len)) (And.intro (And.intro @h_max @h_min) (And.intro @h_call @ht_nil)))
def bp5 := And.intro (And.intro (And.intro (And.intro @ht_cons @iw_move) (And.intro @iw_assign @iw_pick)) (And.intro (And.intro @iw_alloc @iw_box) (And.intro @iw_build @iw_buildSlice))) (And.intro (And.intro (And.intro @iw_makeSlice @iw_load) (And.intro @iw_nilCheck @iw_binOp)) (And.intro (And.intro @iw_unOp @iw_convert) (And.intro @iw_makeFunc @iw_slice)))
def bp6 := And.intro (And.intro (And.intro (And.intro @iw_fieldAddr @iw_field) (And.intro @iw_indexAddr @iw_index)) (And.intro (And.intro @iw_extract @iw_len) (And.intro @iw_max @iw_min))) (And.intro (And.intro (And.intro @iw_call @iw_store) (And.intro @iw_append @ty_box)) (And.intro (And.intro @ty_tip @ty_del) (And.intro @ty_set @box_ty)))
def bp7 := And.intro (And.intro (And.intro (And.intro @tip_ty @box_delB) (And.intro @tip_delB @ty_delB)) (And.intro (And.intro @o_cap @o_usd) (And.intro @o_ustr @h_cap))) (And.intro (And.intro (And.intro @h_usd @iw_cap) (And.intro @iw_usd @iw_ustr)) (And.intro (And.intro @hs_nil @hs_cons) (And.intro @hs_store @h_store)))
def bp8 := And.intro (And.intro (And.intro (And.intro @hs_move @hs_assign) (And.intro @hs_pick @hs_alloc)) (And.intro (And.intro @hs_box @hs_build) (And.intro @hs_buildSlice @hs_makeSlice))) (And.intro (And.intro (And.intro @hs_load @hs_nilCheck) (And.intro @hs_binOp @hs_unOp)) (And.intro (And.intro @hs_convert @hs_makeFunc) (And.intro @hs_slice @hs_fieldAddr)))
def bp9 := And.intro (And.intro (And.intro @hs_field @hs_indexAddr) (And.intro (@hs_index) (And.intro @hs_extract @hs_len))) (And.intro (And.intro @hs_max @hs_min) (And.intro (@hs_call) (And.intro @hs_cap @hs_usd)))
def bp := And.intro (And.intro (And.intro @bp0 @bp1) (And.intro (@bp2) (And.intro @bp3 @bp4))) (And.intro (And.intro @bp5 @bp6) (And.intro (@bp7) (And.intro @bp8 @bp9)))
def bq0 := And.intro (And.intro (And.intro (And.intro @htW_true @htW_false) (And.intro @aw_none @aw_some)) (And.intro (And.intro @awo_some @awk_true) (And.intro @awk_false @awk_skip))) (And.intro (And.intro (And.intro @gW_true @gW_false) (And.intro @gW_not @condW_not)) (And.intro (And.intro @bo_some @bo_none) (And.intro @bo_ite @bo_ite')))
def bq1 := And.intro (And.intro (And.intro (And.intro @st_eq @condW_true) (And.intro @condW_false @pickW_true)) (And.intro (And.intro @pickW_false @boxW_eq) (And.intro @nilW_ptr @nilW_rp))) (And.intro (And.intro (And.intro @nilW_fn @callW_nocaps) (And.intro @callW_fn @c_bool)) (And.intro (And.intro @c_int @c_str) (And.intro @c_nil @c_nilptr)))
def bq2 := And.intro (And.intro (And.intro (And.intro @c_nilfn @aload_ptr) (And.intro @ldk_some @aload_rp)) (And.intro (And.intro @ldr_some @rd_true) (And.intro @rd_false @afield_eq))) (And.intro (And.intro (And.intro @fdk_ptr @fdk_rp) (And.intro @afieldv_agg @fvk_some)) (And.intro (And.intro @aindexA_sl @ixk_some) (And.intro @aindex_str @aextract_tup)))
def bq3 := And.intro (And.intro (And.intro (And.intro @abin_int @abin_str) (And.intro @abin_bool @abin_nil_nil)) (And.intro (And.intro @abin_nil_sl @abin_sl_nil) (And.intro @abin_fn_nil @isNil_full))) (And.intro (And.intro (And.intro @isNil_own @isNil_cons) (And.intro @i_add @i_sub)) (And.intro (And.intro @i_mul @i_quo) (And.intro @i_rem @i_eql)))
def bq4 := And.intro (And.intro (And.intro (And.intro @i_neq @i_lss) (And.intro @i_leq @i_gtr)) (And.intro (And.intro @i_geq @i_and) (And.intro @i_or @i_xor))) (And.intro (And.intro (And.intro @i_shl @i_shr) (And.intro @s_eql @s_neq)) (And.intro (And.intro @s_add @s_lss) (And.intro @aeq_eql @aeq_neq)))
def bq5 := And.intro (And.intro (And.intro (And.intro @aun_not @aun_neg) (And.intro @cvk_int @cvw_str)) (And.intro (And.intro @cvw_bytes @set_set) (And.intro @aindexA_rp @aindexA_ptr))) (And.intro (And.intro (And.intro @iak_some @abuild_eq) (And.intro @bdk_some @afill_nil)) (And.intro (And.intro @afill_cons @flk_some) (And.intro @l_str @l_nil)))
def bq6 := And.intro (And.intro (And.intro (And.intro @l_sl @l_max) (And.intro @l_min @astore_ptr)) (And.intro (And.intro @stk_some @pairs_nil) (And.intro @pairs_cons @ares_nil))) (And.intro (And.intro (And.intro @ares_tmp @ares_cell) (And.intro @ares_two @abnd_none)) (And.intro (And.intro @abnd_int @aslice_str) (And.intro @slks_some @flat_agg)))
def bq7 := And.intro (And.intro (And.intro (And.intro @flat_bool @flat_int) (And.intro @flat_str @flat_nil)) (And.intro (And.intro @flat_sl @flat_ptr) (And.intro @flat_rp @flat_fn))) (And.intro (And.intro (And.intro @flat_nilptr @flat_nilfn) (And.intro @isv_agg @isv_bool)) (And.intro (And.intro @isv_int @isv_str) (And.intro @isv_nil @isv_sl)))
def bq8 := And.intro (And.intro (And.intro (And.intro @isv_ptr @isv_rp) (And.intro @isv_fn @isv_nilptr)) (And.intro (And.intro @isv_nilfn @aconvZ_int) (And.intro @aconvZ_str @aconvZ_nil))) (And.intro (And.intro (And.intro @aconvZ_sl @aconvZ_bs) (And.intro @cvb_some @cvm_some)) (And.intro (And.intro @l_cap @l_bs) (And.intro @l_usd_nil @l_usd)))
def bq9 := And.intro (And.intro (And.intro (And.intro @isv_bs @flat_bs) (And.intro @isv_raws @flat_raw)) (And.intro (And.intro @abin_raw_nil @abin_nil_bs) (And.intro @abin_bs_nil @aindexA_bs))) (And.intro (And.intro (And.intro @ibk_some @aslice_bs) (And.intro @sbk_some @aslice_nil)) (And.intro (And.intro @nbk_some @aslice_rp) (And.intro @ustrW_nil @storeW_eq)))
def bq10 := @stw_some
def bq := And.intro (And.intro (And.intro @bq0 @bq1) (And.intro (@bq2) (And.intro @bq3 @bq4))) (And.intro (And.intro (@bq5) (And.intro @bq6 @bq7)) (And.intro (@bq8) (And.intro @bq9 @bq10)))
def br0 := And.intro (And.intro (And.intro (And.intro @List.getD_cons_zero.{0} @List.getD_cons_succ.{0}) (And.intro @List.getD_nil.{0} @List.map_cons.{0, 0})) (And.intro (And.intro @List.map_nil.{0, 0} @List.getElem?_cons_zero.{0}) (And.intro @List.getElem?_cons_succ.{0} @List.getElem?_nil.{0}))) (And.intro (And.intro (And.intro @List.take_zero.{0} @List.take_length.{0}) (And.intro @List.take_succ_cons.{0} @List.take_nil.{0})) (And.intro (And.intro @List.drop_zero.{0} @List.drop_succ_cons.{0}) (And.intro @List.drop_nil.{0} @List.length_cons.{0})))
def br1 := And.intro (And.intro (And.intro (And.intro @List.length_nil.{0} @List.head?_cons.{0}) (And.intro @List.head?_nil.{0} @List.cons_append.{0})) (And.intro (And.intro @List.nil_append.{0} @List.append_nil.{0}) (And.intro @List.all_cons.{0} @List.all_nil.{0}))) (And.intro (And.intro (And.intro @List.range_zero @List.length_map.{0, 0}) (And.intro @List.getElem?_map.{0, 0} @List.size_toArray.{0})) (And.intro (And.intro @List.getElem?_toArray.{0} @List.toList_toArray.{0}) (And.intro @Option.map_some.{0, 0} @Option.map_none.{0, 0})))
def br2 := And.intro (And.intro (And.intro (And.intro @Option.bind_some.{0, 0} @Option.bind_none.{0, 0}) (And.intro @Option.isSome_some.{0} @Option.isSome_none.{0})) (And.intro (And.intro @Option.some.injEq.{0} @Nat.zero_add) (And.intro @Nat.add_zero @Nat.le_refl))) (And.intro (And.intro (And.intro @Nat.add_one_ne_zero @Int.toNat_natCast) (And.intro @Int.natCast_nonneg @not_true_eq_false)) (And.intro (And.intro @not_false_eq_true @and_true) (And.intro @true_and @and_false)))
def br3 := And.intro (And.intro (And.intro (And.intro @false_and @or_true) (And.intro @true_or @or_false)) (And.intro (And.intro @false_or @Bool.and_true) (And.intro @Bool.true_and @Bool.and_false))) (And.intro (And.intro (And.intro @Bool.false_and @Bool.false_eq_true) (And.intro @Bool.true_eq_false @Bool.not_true)) (And.intro (And.intro @Bool.not_false @beq_self_eq_true.{0}) (And.intro @decide_true @decide_false)))
def br4 := And.intro (And.intro (And.intro (@decide_eq_true_eq) (And.intro @List.contains_cons.{0} @List.contains_nil.{0})) (And.intro (And.intro @Bool.or_true @Bool.true_or) (And.intro @Bool.or_false @Bool.false_or))) (And.intro (And.intro (And.intro @List.filterMap_cons.{0, 0} @List.filterMap_nil.{0, 0}) (And.intro @List.range_succ @List.append_eq.{0})) (And.intro (And.intro @List.mem_cons.{0} @List.not_mem_nil.{0}) (And.intro @List.filter_cons.{0} @List.filter_nil.{0})))
def br := And.intro (And.intro @br0 @br1) (And.intro (@br2) (And.intro @br3 @br4))
end Go.Av
set_option linter.unusedVariables false
namespace Go.Av
open Go Go.RowKit
theorem fresh_ne {σ : AS} {b c : Nat} {z : List AV} (h : σ.box b = some z) (hc : σ.fresh c) : ¬ b = c ∧ ¬ c = b := by
  have : ¬ b = c := fun e => by subst e; rw [hc.1] at h; cases h
  exact ⟨this, fun e => this e.symm⟩
/-- what is left of the state is the one at the start -/
theorem Tri.back {P : Program} {G : Nat → AV} {f : FuncId} {args : List AV} {σ : AS} {Q : AV → Prop} (h : Tri P G f args σ fun r σ' => Q r ∧ σ.le σ') : Tri P G f args σ fun r σ' => Q r ∧ σ' = σ :=
  ⟨h.1, fun K w vals hr hv => (h.2 K w vals hr hv).mono fun e w' ⟨v, r, σ', K', he, ⟨hQ, hl⟩, h1, h2, h3⟩ => ⟨v, r, σ, K', he, ⟨hQ, rfl⟩, h1, h2.weaken hl, h3⟩⟩
/-- v holds xs: nil, or a row of the call's own that may be written -/
inductive WBuf (n : Nat) (E : TypeId) (σ0 σ : AS) : AV → List AV → Prop
  | nil (h : σ0.le σ) : WBuf n E σ0 σ .nil []
  | row (b : Nat) (xs : List AV) (h : σ0.le σ) (h0 : σ0.box b = none) (h1 : σ0.tip b = none) (hb : σ.box b = some (xs.flatMap flat)) (hx : ∀ a, a ∈ xs → (flat a).length = n ∧ isv a = true) : WBuf n E σ0 σ (.bs b xs.length n E) xs
theorem WBuf.le {n : Nat} {E : TypeId} {σ0 σ : AS} {v : AV} {xs : List AV} (h : WBuf n E σ0 σ v xs) : σ0.le σ := by cases h <;> assumption
theorem flatMap_len {n : Nat} : ∀ (xs : List AV), (∀ a, a ∈ xs → (flat a).length = n) → (xs.flatMap flat).length = xs.length * n
  | [], _ => by simp
  | x :: xs, h => by
    rw [List.flatMap_cons, List.length_append, h x (by simp), flatMap_len xs fun a ha => h a (by simp [ha]), List.length_cons, Nat.succ_mul, Nat.add_comm]
theorem AS.le.delSet {σ0 σ : AS} (h : σ0.le σ) {b b' : Nat} (hb : σ0.box b = none) (hb' : σ0.box b' = none) (z : List AV) : σ0.le ((σ.delBox b).setBox b' z) := by
  refine ⟨fun i cs hi => ?_, fun i m hi => h.tip _ _ hi, h.ty⟩
  have h1 : i ≠ b := fun e => by subst e; rw [hb] at hi; cases hi
  have h2 : i ≠ b' := fun e => by subst e; rw [hb'] at hi; cases hi
  show (if i = b' then _ else if i = b then none else σ.box i) = some cs
  rw [if_neg h2, if_neg h1]; exact h.box _ _ hi
end Go.Av
set_option linter.unusedVariables false
namespace Go.Av
open Go Go.RowKit
variable {P : Program} {e : Env} {σ : AS}
def aresk : Option AV → Option (List AV) → Option (List AV)
  | some x, some xs => some (x :: xs)
  | _, _ => none
theorem ares_cons2 {r s : ResultVar} {rs : List ResultVar} : ares P e σ (r :: s :: rs) = aresk (ares1 P e σ r) (ares P e σ (s :: rs)) := by
  rw [ares]; unfold aresk; rfl
theorem ares1_tmp {t : Tmp} : ares1 P e σ (.tmp t) = some (e t) := nr rfl
theorem ares1_cell {t : Tmp} {ty : TypeId} : ares1 P e σ (.cell t ty) = aload P σ ty (e t) := nr rfl
theorem aresk_some {x : AV} {xs : List AV} : aresk (some x) (some xs) = some (x :: xs) := nr rfl
end Go.Av
set_option linter.unusedVariables false
namespace Go.Av
open Go Go.RowKit
def notRow : AV → Nat → Prop
  | .bs r _ _ _, c => c ≠ r
  | _, _ => True
structure WApp (n : Nat) (E : TypeId) (σ0 σ : AS) (v : AV) (xs : List AV) (v' : AV) (σ' : AS) : Prop where
  buf : WBuf n E σ0 σ' v' xs
  keep : ∀ c z, σ.box c = some z → notRow v c → σ'.box c = some z ∧ notRow v' c
  ty : σ'.ty = σ.ty
  ne : v' ≠ .nil → v = .nil → xs ≠ []
theorem app_wb {P : Program} {n by_ : Nat} {σ0 σ : AS} {v x : AV} {xs ys : List AV} {t tx E : TypeId} {K : AV → AS → Prop} {d : Dum σ} {d' : Dum K} (hB : WBuf n E σ0 σ v xs) (he : aelt P t = some (E, n, by_)) (hs : asrc P tx x = some ys)
    (hys : ∀ a, a ∈ ys → (Av.flat a).length = n ∧ isv a = true) (hb : (xs.length + ys.length) * by_ ≤ 140737488355328) (hK : ∀ v' σ', WApp n E σ0 σ v (xs ++ ys) v' σ' → K v' σ') : appW P σ t tx v x K d d' := by
  cases hB with
  | nil h =>
    by_cases hy : ys = []
    · subst hy
      refine .inl ?_
      unfold aappend
      rw [he, hs]
      refine ⟨fun a ha => (by cases ha), by simp, fun _ => hK _ _ ⟨.nil h, fun c z hc _ => ⟨hc, trivial⟩, rfl, fun hn => absurd rfl hn⟩, fun hy => absurd rfl hy⟩
    · refine .inr (.inl ?_)
      unfold aappendM
      rw [he, hs]
      refine ⟨fun a ha => (hys a ha).1, hy, by simpa using hb, fun b hf => hK _ _ ⟨?_, fun c z hc _ => ?_, rfl, fun _ _ => by simpa using hy⟩⟩
      · have hf0 := h.fresh hf
        exact .row b ys (h.setBox hf0.1 _) hf0.1 hf0.2.1 (by simp [AS.setBox]) hys
      · have := fresh_ne hc hf
        exact ⟨by simp only [AS.setBox, if_neg this.1]; exact hc, this.1⟩
  | row b xs h h0 h1 hbx hx =>
    refine .inr (.inl ?_)
    unfold aappendM
    rw [he, hs]
    have hl := flatMap_len xs fun a ha => (hx a ha).1
    refine ⟨fun a ha => (hys a ha).1, ⟨rfl, rfl⟩, _, hbx, by rw [hl]; exact Nat.le_refl _, hb, fun b' hb' => ?_⟩
    have h0' : σ0.box b' = none ∧ σ0.tip b' = none := by
      rcases hb' with rfl | hf
      · exact ⟨h0, h1⟩
      · exact ⟨(h.fresh hf).1, (h.fresh hf).2.1⟩
    have e1 : (xs.flatMap flat).take (xs.length * n) ++ ys.flatMap flat = (xs ++ ys).flatMap flat := by
      rw [List.take_of_length_le (by rw [hl]; exact Nat.le_refl _), List.flatMap_append]
    have hK' := hK (.bs b' (xs ++ ys).length n E) ((σ.delBox b).setBox b' ((xs ++ ys).flatMap flat)) ⟨.row b' (xs ++ ys) (h.delSet h0 h0'.1 _) h0'.1 h0'.2 (by simp [AS.setBox]) fun a ha => by
      rcases List.mem_append.1 ha with ha | ha
      · exact hx a ha
      · exact hys a ha, fun c z hc hn => by
        have h2 : c ≠ b' := by
          rcases hb' with rfl | hf
          · exact hn
          · exact (fresh_ne hc hf).1
        refine ⟨?_, h2⟩
        show (if c = b' then _ else if c = b then none else σ.box c) = some z
        rw [if_neg h2, if_neg hn]; exact hc, rfl, fun _ hn => by cases hn⟩
    rw [← e1, List.length_append] at hK'
    exact hK'
theorem WBuf.setOther {n : Nat} {E : TypeId} {σ0 σ : AS} {v : AV} {xs : List AV} (h : WBuf n E σ0 σ v xs) {b : Nat} (hb : σ0.box b = none) (hn : notRow v b) (z : List AV) : WBuf n E σ0 (σ.setBox b z) v xs := by
  cases h with
  | nil h => exact .nil (h.setBox hb z)
  | row r xs h h0 h1 hbx hx => exact .row r xs (h.setBox hb z) h0 h1 (by simp only [AS.setBox, if_neg (Ne.symm hn)]; exact hbx) hx
/-- a first result that may be written, told as what it holds -/
theorem Tri.tupBs {P : Program} {G : Nat → AV} {f : FuncId} {args : List AV} {σ : AS} {n s : Nat} {E : TypeId} {xs rest : List AV} (hx : ∀ a, a ∈ xs → (flat a).length = s ∧ isv a = true) (hn : xs.length = n)
    (h : Tri P G f args σ fun r σ' => ∃ b, r = .tup (.bs b n s E :: rest) ∧ σ.le σ' ∧ σ.box b = none ∧ σ.tip b = none ∧ σ'.box b = some (xs.flatMap flat)) : Tri P G f args σ fun r σ' => Le r (.tup (.sl .none xs [] :: rest)) ∧ σ' = σ := by
  refine Tri.back (Tri.freezeRes h fun r σ' ⟨b, hr, hl, h0, h1, h2⟩ => ?_)
  subst hr
  refine ⟨b, n, s, xs, _, .tup (.sl (.own b) xs [] :: rest), h2, ⟨hn, rfl, hx⟩, Has.tup 0 (by simp) Has.bs, .tup _ _ (by simp) (fun j g1 g2 => ?_), Le.tup (.cons Le.gh (Les.refl rest)), AS.froze_le hl h0 h1⟩
  cases j with
  | zero => exact .here E
  | succ j => exact .same _
theorem WBuf.newBox {n : Nat} {E : TypeId} {σ0 σ : AS} {v : AV} {xs : List AV} (h : WBuf n E σ0 σ v xs) {c : Nat} (hc : σ.fresh c) (z : List AV) : WBuf n E σ0 (σ.setBox c z) v xs ∧ notRow v c := by
  have hc0 := h.le.fresh hc
  have hn : notRow v c := by
    cases h with
    | nil _ => trivial
    | row r xs h h0 h1 hbx hx => exact (fresh_ne hbx hc).2
  exact ⟨h.setOther hc0.1 hn z, hn⟩
theorem WBuf.len {P : Program} {n : Nat} {E : TypeId} {σ0 σ : AS} {v : AV} {xs : List AV} (h : WBuf n E σ0 σ v xs) {t : TypeId} : ablt P .len #[t] [v] = if (el P t).isSome then some (.int .i64 xs.length) else none := by
  cases h with
  | nil _ => rw [l_nil]; rfl
  | row r xs h h0 h1 hbx hx => rw [l_bs]
theorem WBuf.form {n : Nat} {E : TypeId} {σ0 σ : AS} {v : AV} {xs : List AV} (h : WBuf n E σ0 σ v xs) (hne : xs ≠ []) : ∃ r, v = .bs r xs.length n E ∧ σ.box r = some (xs.flatMap flat) ∧ σ0.box r = none ∧ σ0.tip r = none := by
  cases h with
  | nil _ => exact absurd rfl hne
  | row r xs h h0 h1 hbx hx => exact ⟨r, rfl, hbx, h0, h1⟩
def byteA (c : UInt8) : AV := .int .u8 c.toNat
def bytesA (s : List UInt8) : List AV := s.map byteA
theorem flat_bytesA (s : List UInt8) : (bytesA s).flatMap flat = bytesA s := by
  induction s with
  | nil => rfl
  | cons c s ih => simp only [bytesA, List.map_cons, List.flatMap_cons] at ih ⊢; rw [ih]; rfl
theorem bytes_ok (s : List UInt8) : ∀ a, a ∈ bytesA s → (flat a).length = 1 ∧ isv a = true := fun a ha => by
  obtain ⟨c, _, rfl⟩ := List.mem_map.1 ha
  exact ⟨rfl, rfl⟩
/-- box b is a builder that holds xs; all of σ0 stands untouched -/
structure Bld (T E : TypeId) (σ0 σ : AS) (b : Nat) (xs : List UInt8) : Prop where
  le : σ0.le σ
  out : σ0.box b = none
  ty : σ.ty b = some (T, 2)
  box : ∃ p v, σ.box b = some [p, v] ∧ (p = .nilptr ∨ p = .ptr b 0) ∧ WBuf 1 E σ0 σ v (bytesA xs) ∧ notRow v b ∧ (v ≠ .nil → xs ≠ [])
theorem AS.le.newBase {σ0 σ : AS} (h : σ0.le σ) (c : Nat) (z : List AV) : (σ0.setBox c z).le (σ.setBox c z) := by
  refine ⟨fun i cs hi => ?_, h.tip, h.ty⟩
  simp only [AS.setBox] at hi ⊢
  split
  · rename_i e; rw [if_pos e] at hi; exact hi
  · rename_i e; rw [if_neg e] at hi; exact h.box _ _ hi
/-- a new block joins what stands -/
theorem Bld.newBox {T E : TypeId} {σ0 σ : AS} {b : Nat} {xs : List UInt8} (h : Bld T E σ0 σ b xs) {c : Nat} (hc : σ.fresh c) (z : List AV) : Bld T E (σ0.setBox c z) (σ.setBox c z) b xs := by
  obtain ⟨p, v, h1, h2, h3, h4, h5⟩ := h.box
  have hbc := fresh_ne h1 hc
  refine ⟨h.le.newBase c z, by simp only [AS.setBox, if_neg hbc.1]; exact h.out, h.ty, p, v, by simp only [AS.setBox, if_neg hbc.1]; exact h1, h2, ?_, h4, h5⟩
  revert h3
  generalize bytesA xs = l
  intro h3
  cases h3 with
  | nil _ => exact .nil (h.le.newBase c z)
  | row r xs' h' g0 g1 gb gx =>
    have hrc := fresh_ne gb hc
    exact .row r _ (h.le.newBase c z) (by simp only [AS.setBox, if_neg hrc.1]; exact g0) g1 (by simp only [AS.setBox, if_neg hrc.1]; exact gb) gx
/-- a lesser base -/
theorem Bld.weaken {T E : TypeId} {σ0 σ1 σ : AS} {b : Nat} {xs : List UInt8} (h : Bld T E σ1 σ b xs) (hl : σ0.le σ1) : Bld T E σ0 σ b xs := by
  obtain ⟨p, v, h1, h2, h3, h4, h5⟩ := h.box
  have none_of : ∀ i, σ1.box i = none → σ0.box i = none := fun i hi => by
    cases e : σ0.box i with
    | none => rfl
    | some z => rw [hl.box _ _ e] at hi; cases hi
  have none_tip : ∀ i, σ1.tip i = none → σ0.tip i = none := fun i hi => by
    cases e : σ0.tip i with
    | none => rfl
    | some z => rw [hl.tip _ _ e] at hi; cases hi
  refine ⟨hl.trans h.le, none_of _ h.out, h.ty, p, v, h1, h2, ?_, h4, h5⟩
  revert h3
  generalize bytesA xs = l
  intro h3
  cases h3 with
  | nil _ => exact .nil (hl.trans h.le)
  | row r xs' h' g0 g1 gb gx => exact .row r _ (hl.trans h.le) (none_of _ g0) (none_tip _ g1) gb gx
/-- a new builder -/
theorem Bld.start {T E : TypeId} {σ0 σ : AS} {b : Nat} (hl : σ0.le σ) (hf : σ.fresh b) : Bld T E σ0 ((σ.setBox b [.nilptr, .nil]).setTy b (T, 2)) b [] := by
  have hf0 := hl.fresh hf
  refine ⟨?_, hf0.1, by simp [AS.setTy], .nilptr, .nil, by simp [AS.setBox, AS.setTy], .inl rfl, .nil ?_, trivial, fun h => absurd rfl h⟩
  · exact (hl.setBox hf0.1 _).setTy hf0.2.2 _
  · exact (hl.setBox hf0.1 _).setTy hf0.2.2 _
/-- what is appended -/
theorem Bld.push {T E : TypeId} {σ0 σ σ' : AS} {b : Nat} {xs ys : List UInt8} {v v' : AV} (h : Bld T E σ0 σ b xs) (hb : σ.box b = some [.ptr b 0, v]) (hn : notRow v b) (ha : WApp 1 E σ0 σ v (bytesA xs ++ bytesA ys) v' σ') (hx : v ≠ .nil → xs ≠ []) : Bld T E σ0 (σ'.setBox b [.ptr b 0, v']) b (xs ++ ys) := by
  obtain ⟨h1, h2⟩ := ha.keep b _ hb hn
  have e : bytesA xs ++ bytesA ys = bytesA (xs ++ ys) := by simp [bytesA]
  refine ⟨ha.buf.le.setBox h.out _, h.out, by show σ'.ty b = _; rw [ha.ty]; exact h.ty, .ptr b 0, v', by simp [AS.setBox], .inr rfl, ?_, h2, fun hv' => ?_⟩
  · rw [← e]; exact ha.buf.setOther h.out h2 _
  · by_cases hv : v = .nil
    · have := ha.ne hv' hv
      intro hh
      rw [e, hh] at this
      exact this rfl
    · intro hh
      exact hx hv (List.append_eq_nil_iff.1 hh).1
end Go.Av
set_option linter.unusedVariables false
set_option linter.unusedSimpArgs false
namespace Go.Av
open Go Go.RowKit
variable {H : Type}

mutual
/-- what a datum is seen as -/
def avW : DataW H → AV
  | .lit (.bool b) => .bool b
  | .lit (.int k n) => .int k n
  | .lit (.string s) => .str s
  | .lit _ => .undef
  | .nil => .sl .none [] []
  | .slice elems _ => .sl .none (avWs elems) []
  | .agg parts => .agg (flatsW parts)
  | _ => .undef
def avWs : List (DataW H) → List AV
  | [] => []
  | d :: r => avW d :: avWs r
def flatsW : List (DataW H) → List AV
  | [] => []
  | d :: r => flat (avW d) ++ flatsW r
end
theorem avWs_map (l : List (DataW H)) : avWs l = l.map avW := by
  induction l with
  | nil => simp [avWs]
  | cons d r ih => simp [avWs, ih]
/-- fields that lie one behind the other, up to the end -/
def tiles (P : Program) : Nat → List Field → Nat → Bool
  | k, [], n => decide (k = n)
  | k, f :: fs, n => decide (f.offset = k) && tiles P (k + P.cellsOf f.type) fs n
/-- types that lead to plain data alone -/
def closedT (P : Program) (S : List TypeId) : Bool :=
  S.all fun t => match P.underlying t with
    | some .bool | some (.int _) | some .string => true
    | some (.slice e) => S.contains e && decide (0 < P.cellsOf e)
    | some (.struct fs) => (fs.toList.all fun f => S.contains f.type) && tiles P 0 fs.toList (P.cellsOf t)
    | some (.array n e) => S.contains e && decide (n * P.cellsOf e = P.cellsOf t)
    | _ => false

/-- a row of values is seen as these -/
structure CL (K : Ctx) (cs : List AV) (vs : List Value) : Prop where
  size : vs.length = cs.length
  one : ∀ c, c ∈ cs → one c = true
  at_ : ∀ j (h : j < cs.length), VR K cs[j] (vs.getD j Go.undef)
theorem CL.one1 {K : Ctx} {a : AV} {v : Value} (h : VR K a v) (h1 : Av.one a = true) : CL K [a] [v] :=
  ⟨rfl, fun c hc => by simp at hc; subst hc; exact h1, fun j hj => by
    have : j = 0 := by simpa using hj
    subst this; exact h⟩
theorem CL.append {K : Ctx} {a b : List AV} {v u : List Value} (h : CL K a v) (k : CL K b u) : CL K (a ++ b) (v ++ u) := by
  have h1 := h.size
  refine ⟨by simp [h.size, k.size], fun c hc => ?_, fun j hj => ?_⟩
  · rcases List.mem_append.1 hc with hc | hc
    · exact h.one c hc
    · exact k.one c hc
  · by_cases hja : j < a.length
    · rw [List.getElem_append_left hja]
      have := h.at_ j hja
      simpa [List.getElem?_append_left (show j < v.length by omega)] using this
    · rw [List.getElem_append_right (by omega)]
      have := k.at_ (j - a.length) (by simp at hj; omega)
      simpa [List.getElem?_append_right (show v.length ≤ j by omega), h1] using this
theorem CL.nil {K : Ctx} : CL K [] [] := ⟨rfl, (fun c hc => by cases hc), (fun j hj => by cases hj)⟩
/-- pieces put together -/
theorem CL.flatMap {α : Type} {K : Ctx} {f : α → List AV} {g : α → List Value} : ∀ (l : List α), (∀ x, x ∈ l → CL K (f x) (g x)) → CL K (l.flatMap f) (l.flatMap g)
  | [], _ => CL.nil
  | x :: l, h => by
    rw [List.flatMap_cons, List.flatMap_cons]
    exact (h x (by simp)).append (CL.flatMap l fun y hy => h y (by simp [hy]))
theorem VR.ofCL {K : Ctx} {a : AV} {cs : List Value} (h : CL K (flat a) cs) (h0 : flat a = [a]) : ∃ v, cs = [v] ∧ VR K a v := by
  rw [h0] at h
  have h1 := h.size
  match cs, h1 with
  | [v], _ => exact ⟨v, rfl, h.at_ 0 (by simp)⟩
/-- what a datum of a type is -/
def tyW (P : Program) : Nat → TypeId → DataW H → Prop
  | 0, _, _ => False
  | n + 1, t, d => match P.underlying t with
    | some .bool => ∃ b, d = .lit (.bool b)
    | some (.int k) => ∃ m, d = .lit (.int k m) ∧ (Lit.int k m).wf = true
    | some .string => ∃ s, d = .lit (.string s) ∧ s.length ≤ maxLen
    | some (.slice e) => d = .nil ∨ ∃ xs sp, d = .slice xs sp ∧ ∀ x, x ∈ xs → tyW P n e x
    | some (.struct fs) => ∃ ds, d = .agg ds ∧ ds.length = fs.size ∧ ∀ (i : Nat) (f : Field) x, fs[i]? = some f → ds[i]? = some x → tyW P n f.type x
    | some (.array m e) => ∃ ds, d = .agg ds ∧ ds.length = m ∧ ∀ x, x ∈ ds → tyW P n e x
    | _ => False

section read
variable {enc : TypeId × Value → H} {P : Program} {w : World} {held : Bool} {K : Ctx} {S : List TypeId}
theorem fields_read {r : TypeId → List Value → Option (DataW H × List MemPlace)} {total : Nat} {cs : List Value}
    (hr : ∀ t cs x, t ∈ S → r t cs = some x → CL K (flat (avW x.1)) cs) : ∀ (fs : List Field) (xs : List (DataW H × List MemPlace)) (k : Nat), (∀ f, f ∈ fs → f.type ∈ S) → tiles P k fs total = true → xs.length = fs.length →
    (∀ (i : Nat) (f : Field), fs[i]? = some f → r f.type ((cs.drop f.offset).take (P.cellsOf f.type)) = xs[i]?) → cs.length = total → CL K (flatsW (xs.map (·.1))) (cs.drop k)
  | [], [], k, _, ht, _, _, hl => by
    simp only [tiles, decide_eq_true_eq] at ht
    rw [List.drop_eq_nil_of_le (by omega)]
    exact CL.nil
  | f :: fs, x :: xs, k, hS, ht, hlen, hx, hl => by
    simp only [tiles, Bool.and_eq_true, decide_eq_true_eq] at ht
    have h0 := hx 0 f rfl
    simp only [List.getElem?_cons_zero, ht.1] at h0
    have h1 := hr _ _ _ (hS f (by simp)) h0
    have h2 := fields_read hr fs xs (k + P.cellsOf f.type) (fun g hg => hS g (by simp [hg])) ht.2 (by simpa using hlen) (fun i g hg => by have := hx (i + 1) g (by simpa using hg); simpa using this) hl
    have e : cs.drop k = (cs.drop k).take (P.cellsOf f.type) ++ cs.drop (k + P.cellsOf f.type) := by
      rw [← List.drop_drop, List.take_append_drop]
    rw [e]
    simp only [List.map_cons, flatsW]
    exact h1.append h2
  | [], _ :: _, _, _, _, h, _, _ => by cases h
  | _ :: _, [], _, _, _, h, _, _ => by cases h
theorem items_read {r : List Value → Option (DataW H × List MemPlace)} {n : Nat} {cs : List Value}
    (hr : ∀ cs x, r cs = some x → CL K (flat (avW x.1)) cs) : ∀ (xs : List (DataW H × List MemPlace)) (k : Nat),
    (∀ i, i < xs.length → r ((cs.drop ((k + i) * n)).take n) = xs[i]?) → cs.length = (k + xs.length) * n → CL K (flatsW (xs.map (·.1))) (cs.drop (k * n))
  | [], k, _, hl => by
    rw [List.drop_eq_nil_of_le (by simp only [List.length_nil, Nat.add_zero] at hl; omega)]
    exact CL.nil
  | x :: xs, k, hx, hl => by
    have h0 := hx 0 (by simp)
    simp only [List.getElem?_cons_zero, Nat.add_zero] at h0
    have h1 := hr _ _ h0
    have h2 := items_read hr xs (k + 1) (fun i hi => by have := hx (i + 1) (by simpa using hi); simpa [Nat.add_assoc, Nat.add_comm 1 i] using this) (by rw [hl, List.length_cons]; congr 1; omega)
    have e : cs.drop (k * n) = (cs.drop (k * n)).take n ++ cs.drop ((k + 1) * n) := by
      rw [Nat.succ_mul, ← List.drop_drop, List.take_append_drop]
    rw [e]
    simp only [List.map_cons, flatsW]
    exact h1.append h2

theorem read_all (hS : closedT P S = true) (hK : ∀ b o v, w.cell? ⟨b, o, none⟩ = some v → K.imm b o = some v) : ∀ (fuel : Nat) (t : TypeId) (cs : List Value) (x : DataW H × List MemPlace), t ∈ S →
    DataW.trod enc P w 0 (fun _ => true) held fuel t cs = some x → tyW P fuel t x.1 ∧ CL K (flat (avW x.1)) cs ∧ isv (avW x.1) = true := by
  intro fuel
  induction fuel with
  | zero => intro t cs x _ h; simp [DataW.trod] at h
  | succ n ih =>
    intro t cs x htS h
    have hc := List.all_eq_true.1 hS t htS
    unfold tyW
    split at hc
    · rename_i ht
      obtain ⟨b, rfl, rfl⟩ := DataW.trod_bool ht h
      simp only [avW]
      exact ⟨⟨b, rfl⟩, CL.one1 (.bool b) rfl, rfl⟩
    · rename_i k ht
      obtain ⟨m, rfl, rfl, hw⟩ := DataW.trod_int ht h
      simp only [avW]
      exact ⟨⟨m, rfl, hw⟩, CL.one1 (.int k m) rfl, rfl⟩
    · rename_i ht
      obtain ⟨s, rfl, rfl, hw⟩ := DataW.trod_string ht h
      simp only [avW]
      exact ⟨⟨_, rfl, by simpa using hw⟩, CL.one1 (.str s.data.toList) rfl, rfl⟩
    · rename_i e ht
      simp only [Bool.and_eq_true, decide_eq_true_eq] at hc
      have heS : e ∈ S := by simpa using hc.1
      rcases DataW.trod_slice ht h with ⟨rfl, rfl⟩ | ⟨a, len, cap, elems, rest, m, hm, rfl, rfl, _, hlc, hml, hlen, hel, hsp, _⟩
      · exact ⟨.inl rfl, by simp only [avW]; exact CL.one1 (.sl0 none) rfl, by simp only [avW]; rfl⟩
      · have hmn : m = n := by omega
        subst hmn
        have hel2 : ∀ i (hi : i < elems.length), ∃ cs, w.cells? 0 (a.add (i * P.cellsOf e)) (P.cellsOf e) = some cs ∧ DataW.trod enc P w 0 (fun _ => true) held m e cs = some elems[i] := fun i hi => by
          have h1 := hel i (by omega)
          rw [List.getElem?_eq_getElem hi, Option.bind_eq_some_iff] at h1
          exact h1
        refine ⟨.inr ⟨_, _, rfl, fun d hd => ?_⟩, ?_, rfl⟩
        · obtain ⟨y, hy, rfl⟩ := List.mem_map.1 hd
          obtain ⟨i, hi, rfl⟩ := List.getElem_of_mem hy
          obtain ⟨cs, _, h2⟩ := hel2 i hi
          exact (ih e cs _ heS h2).1
        · simp only [avW]
          refine CL.one1 ?_ rfl
          rw [avWs_map, List.map_map]
          by_cases hcap : cap = 0
          · have : elems = [] := List.eq_nil_of_length_eq_zero (by omega)
            subst this
            have hl0 : len = 0 := by omega
            subst hcap hl0
            exact .sl0 (some a)
          · obtain ⟨b, off, spot⟩ := a
            have hspot : spot = none := by
              have h0 : ∃ c0, w.cell? ⟨b, off, spot⟩ = some c0 := by
                by_cases hl0 : len = 0
                · obtain ⟨hrl, hr⟩ := hsp rfl
                  have h1 := hr 0 (by omega)
                  obtain ⟨y, hy⟩ : ∃ y, rest[0]? = some y := ⟨_, List.getElem?_eq_getElem (by omega)⟩
                  rw [hy, Option.bind_eq_some_iff] at h1
                  obtain ⟨cs, h2, _⟩ := h1
                  obtain ⟨_, hcl, hcc⟩ := World.cells?_some h2
                  have h3 := hcc 0 hc.2
                  obtain ⟨c0, hc0⟩ : ∃ c0, cs[0]? = some c0 := ⟨_, List.getElem?_eq_getElem (by omega)⟩
                  refine ⟨c0, ?_⟩
                  rw [hc0] at h3
                  simpa [Addr.add, hl0] using h3
                · obtain ⟨cs, h2, _⟩ := hel2 0 (by omega)
                  obtain ⟨_, hcl, hcc⟩ := World.cells?_some h2
                  have h3 := hcc 0 hc.2
                  obtain ⟨c0, hc0⟩ : ∃ c0, cs[0]? = some c0 := ⟨_, List.getElem?_eq_getElem (by omega)⟩
                  refine ⟨c0, ?_⟩
                  rw [hc0] at h3
                  simpa [Addr.add] using h3
              obtain ⟨c0, h0⟩ := h0
              simpa using World.cell?_spot h0
            subst hspot
            have hcell : ∀ i (hi : i < elems.length), ∃ cs, cs.length = P.cellsOf e ∧ (∀ r, r < P.cellsOf e → w.cell? ⟨b, off + (i * P.cellsOf e + r), none⟩ = cs[r]?) ∧ CL K (flat (avW elems[i].1)) cs ∧ isv (avW elems[i].1) = true := fun i hi => by
              obtain ⟨cs, h2, h3⟩ := hel2 i hi
              obtain ⟨_, hcl, hcc⟩ := World.cells?_some h2
              obtain ⟨_, h4, h5⟩ := ih e cs _ heS h3
              refine ⟨cs, hcl, fun r hr => ?_, h4, h5⟩
              have := hcc r hr
              rw [← this, Addr.add_lit, Addr.add_lit, Nat.add_assoc]
            have hflen : ∀ y, y ∈ elems.map (avW ∘ fun x => x.1) → (flat y).length = P.cellsOf e ∧ isv y = true ∧ ∀ c, c ∈ flat y → one c = true := fun y hy => by
              obtain ⟨z, hz, rfl⟩ := List.mem_map.1 hy
              obtain ⟨i, hi, rfl⟩ := List.getElem_of_mem hz
              obtain ⟨cs, hcl, _, h4, h5⟩ := hcell i hi
              exact ⟨by have := h4.size; simp only [Function.comp]; omega, h5, h4.one⟩
            have hfl := flatMap_length (sz := P.cellsOf e) (elems.map (avW ∘ fun x => x.1)) (fun y hy => (hflen y hy).1)
            have hvals : ∀ j (hj : j < ((elems.map (avW ∘ fun x => x.1)).flatMap flat).length), ∃ v, w.cell? ⟨b, off + j, none⟩ = some v ∧ VR K ((elems.map (avW ∘ fun x => x.1)).flatMap flat)[j] v := fun j hj => by
              have hz : 0 < P.cellsOf e := hc.2
              have hj2 : j < elems.length * P.cellsOf e := by rw [hfl, List.length_map] at hj; exact hj
              have hi : j / P.cellsOf e < elems.length := Nat.div_lt_of_lt_mul (by rw [Nat.mul_comm]; exact hj2)
              have hr : j % P.cellsOf e < P.cellsOf e := Nat.mod_lt _ hz
              have hjd : j / P.cellsOf e * P.cellsOf e + j % P.cellsOf e = j := Nat.div_add_mod' j _
              obtain ⟨cs, hcl, h3, h4, h5⟩ := hcell (j / P.cellsOf e) hi
              have h6 := h3 (j % P.cellsOf e) hr
              rw [hjd] at h6
              have hlt : j % P.cellsOf e < (flat (avW elems[j / P.cellsOf e].1)).length := by have := h4.size; omega
              have h7 := h4.at_ _ hlt
              have h8 := flatMap_at (sz := P.cellsOf e) (elems.map (avW ∘ fun x => x.1)) (fun y hy => (hflen y hy).1) (j / P.cellsOf e) (by simpa using hi) (j % P.cellsOf e) hr
              rw [hjd, List.getElem?_eq_getElem hj] at h8
              simp only [List.getElem_map, Function.comp] at h8
              rw [List.getElem?_eq_getElem hlt] at h8
              have h9 := Option.some.inj h8
              refine ⟨cs.getD (j % P.cellsOf e) Go.undef, ?_, ?_⟩
              · rw [h6]; simp [List.getD, show j % P.cellsOf e < cs.length by omega]
              · rw [h9]; exact h7
            have := VR.sl (K := K) .none (elems.map (avW ∘ fun x => x.1)) [] (P.cellsOf e) b off cap (fun j => (w.cell? ⟨b, off + j, none⟩).getD Go.undef)
              (fun y hy => hflen y (by simpa using hy)) (by simp; omega) hml
              (fun j hj => by
                simp only [List.append_nil] at hj
                obtain ⟨v, h1, _⟩ := hvals j hj
                rw [h1]
                exact hK _ _ _ h1)
              (fun j hj => by
                simp only [List.append_nil] at hj ⊢
                obtain ⟨v, h1, h2⟩ := hvals j hj
                rw [h1]; exact h2) trivial
            rw [List.length_map, hlen] at this
            exact this
    · rename_i fs ht
      simp only [Bool.and_eq_true] at hc
      obtain ⟨xs, m, hm, rfl, hcl, hxl, hx⟩ := DataW.trod_struct ht h
      have hmn : m = n := by omega
      subst hmn
      have hfS : ∀ f, f ∈ fs.toList → f.type ∈ S := fun f hf => by have := List.all_eq_true.1 hc.1 f hf; simpa using this
      refine ⟨⟨_, rfl, by simpa using hxl, fun i f x hf hd => ?_⟩, ?_, rfl⟩
      · rw [List.getElem?_map] at hd
        cases hy : xs[i]? with
        | none => rw [hy] at hd; cases hd
        | some y =>
          rw [hy] at hd
          simp only [Option.map_some, Option.some.injEq] at hd
          subst hd
          have h1 := hx i f hf
          rw [hy] at h1
          exact (ih f.type _ y (hfS f (by rw [Array.mem_toList_iff]; exact Array.mem_of_getElem? hf)) h1).1
      · simp only [avW, flat]
        have := fields_read (P := P) (S := S) (K := K) (r := DataW.trod enc P w 0 (fun _ => true) held m) (total := P.cellsOf t) (cs := cs) (fun t cs x hts hh => (ih t cs x hts hh).2.1) fs.toList xs 0 hfS hc.2 (by simpa using hxl) (fun i f hf => hx i f (by simpa using hf)) hcl
        simpa using this
    · rename_i q e ht
      simp only [Bool.and_eq_true, decide_eq_true_eq] at hc
      have heS : e ∈ S := by simpa using hc.1
      obtain ⟨xs, m, hm, rfl, hcl, hxl, hx⟩ := DataW.trod_array ht h
      have hmn : m = n := by omega
      subst hmn
      refine ⟨⟨_, rfl, by simpa using hxl, fun x hd => ?_⟩, ?_, rfl⟩
      · obtain ⟨y, hy, rfl⟩ := List.mem_map.1 hd
        obtain ⟨i, hi, rfl⟩ := List.getElem_of_mem hy
        have h1 := hx i (by omega)
        rw [List.getElem?_eq_getElem hi] at h1
        exact (ih e _ _ heS h1).1
      · simp only [avW, flat]
        have := items_read (K := K) (r := DataW.trod enc P w 0 (fun _ => true) held m e) (n := P.cellsOf e) (cs := cs) (fun cs x hh => (ih e cs x heS hh).2.1) xs 0 (fun i hi => by have := hx i (by omega); simpa using this) (by simp only [Nat.zero_add]; rw [hcl, ← hc.2, hxl])
        simpa using this
    · cases hc
/-- an argument -/
theorem read_arg (hS : closedT P S = true) (hK : ∀ b o v, w.cell? ⟨b, o, none⟩ = some v → K.imm b o = some v) {t : TypeId} {v : Value} {d : DataW H} {ps : List MemPlace} {r : Reach} {b0 : Nat} (htS : t ∈ S)
    (hval : Value.okWide P w r b0 t v) (h : DataW.Trod enc P w 0 (fun _ => true) held t v d ps) : ∃ n, tyW P n t d ∧ VR K (avW d) v := by
  obtain ⟨fuel, hf⟩ := h
  obtain ⟨h1, h2, h3⟩ := read_all hS hK fuel t _ _ htS hf
  refine ⟨fuel, h1, ?_⟩
  have hc := List.all_eq_true.1 hS t htS
  cases fuel with
  | zero => exact h1.elim
  | succ n =>
    unfold tyW at h1
    have single : ∀ (a : AV), flat a = [a] → avW d = a → (∀ cs, v ≠ .agg cs) → VR K a v := fun a ha hd hv => by
      simp only [hd] at h2
      obtain ⟨u, h4, h5⟩ := VR.ofCL h2 ha
      have h6 : v.cells = #[v] := by cases v <;> first | rfl | exact absurd rfl (hv _)
      rw [h6] at h4
      have : v = u := by simpa using h4
      rw [this]; exact h5
    have agg : ∀ ds, d = .agg ds → (∃ cs, v = .agg cs) → VR K (avW d) v := fun ds hd hv => by
      obtain ⟨cs, rfl⟩ := hv
      subst hd
      simp only [avW, flat] at h2 ⊢
      refine .agg _ _ ?_ h2.one (fun j hj => ?_)
      · have := h2.size; simpa [Value.cells] using this
      · have := h2.at_ j hj
        simpa [Value.cells, Array.getD_eq_getD_getElem?, List.getD_eq_getElem?_getD] using this
    unfold Value.okWide at hval
    split at hc
    · rename_i ht; rw [ht] at h1 hval
      obtain ⟨b, rfl⟩ := h1
      exact single _ rfl (by simp [avW]) (fun cs hv => by subst hv; simp [Cell.okWide, ht, Cell.ok] at hval)
    · rename_i k ht; rw [ht] at h1 hval
      obtain ⟨m, rfl, _⟩ := h1
      exact single _ rfl (by simp [avW]) (fun cs hv => by subst hv; simp [Cell.okWide, ht, Cell.ok] at hval)
    · rename_i ht; rw [ht] at h1 hval
      obtain ⟨m, rfl, _⟩ := h1
      exact single _ rfl (by simp [avW]) (fun cs hv => by subst hv; simp [Cell.okWide, ht, Cell.ok] at hval)
    · rename_i e ht; rw [ht] at h1 hval
      have hv : ∀ cs, v ≠ .agg cs := fun cs hv => by subst hv; simp [Cell.okWide, ht, Cell.ok] at hval
      rcases h1 with rfl | ⟨xs, sp, rfl, _⟩
      · exact single _ rfl (by simp [avW]) hv
      · exact single _ rfl (by simp [avW]) hv
    · rename_i fs ht; rw [ht] at h1 hval
      obtain ⟨ds, hd, _⟩ := h1
      obtain ⟨cs, hv, _⟩ := hval
      exact agg ds hd ⟨cs, hv⟩
    · rename_i q e ht; rw [ht] at h1 hval
      obtain ⟨ds, hd, _⟩ := h1
      obtain ⟨cs, hv, _⟩ := hval
      exact agg ds hd ⟨cs, hv⟩
    · cases hc
end read
end Go.Av
set_option linter.unusedVariables false
set_option linter.unusedSimpArgs false
namespace Go.Av
open Go Go.RowKit Go.WideShapes Go.ChangeShapes
variable {H : Type}

section shut
variable {enc : TypeId × Value → H} {P : Program} {w : World} {held : Bool} {S : List TypeId}
/-- read with fewer spare places looked at, where none of them lies elsewhere -/
theorem trod_sp (hS : closedT P S = true) {sp : Nat → Bool} : ∀ (fuel : Nat) (t : TypeId) (cs : List Value) (x : DataW H × List MemPlace), t ∈ S →
    DataW.trod enc P w 0 (fun _ => true) held fuel t cs = some x → (∀ p ∈ x.2, sp p.block = true) → DataW.trod enc P w 0 sp held fuel t cs = some x := by
  intro fuel
  induction fuel with
  | zero => intro t cs x _ h; simp [DataW.trod] at h
  | succ n ih =>
    intro t cs x htS h hsp
    have hc := List.all_eq_true.1 hS t htS
    split at hc
    · rename_i ht
      obtain ⟨b, rfl, rfl⟩ := DataW.trod_bool ht h
      simp [DataW.trod, ht]
    · rename_i k ht
      obtain ⟨m, rfl, rfl, hw⟩ := DataW.trod_int ht h
      simp [DataW.trod, ht, hw]
    · rename_i ht
      obtain ⟨s, rfl, rfl, hw⟩ := DataW.trod_string ht h
      simp [DataW.trod, ht, hw]
    · rename_i e ht
      simp only [Bool.and_eq_true, decide_eq_true_eq] at hc
      have heS : e ∈ S := by simpa using hc.1
      rcases DataW.trod_slice ht h with ⟨rfl, rfl⟩ | ⟨a, len, cap, elems, rest, m, hm, rfl, rfl, hb0, hlc, hml, hlen, hel, hspr, _⟩
      · simp [DataW.trod, ht]
      · have hmn : m = n := by omega
        subst hmn
        obtain ⟨hrl, hr⟩ := hspr rfl
        have hpe : ∀ y, y ∈ elems ++ rest → ∀ p ∈ y.2, sp p.block = true := fun y hy p hp => hsp p (by
          simp only [List.mem_append, List.mem_flatMap]
          exact .inr ⟨y, by simpa using hy, hp⟩)
        have step : ∀ (i : Nat) (y : DataW H × List MemPlace), y ∈ elems ++ rest → ((w.cells? 0 (a.add (i * P.cellsOf e)) (P.cellsOf e)).bind (DataW.trod enc P w 0 (fun _ => true) held m e)) = some y →
            ((w.cells? 0 (a.add (i * P.cellsOf e)) (P.cellsOf e)).bind (DataW.trod enc P w 0 sp held m e)) = some y := fun i y hy hh => by
          rw [Option.bind_eq_some_iff] at hh ⊢
          obtain ⟨cs, g1, g2⟩ := hh
          exact ⟨cs, g1, ih e cs y heS g2 (hpe y hy)⟩
        have h1' : (List.range len).mapM (fun i => (w.cells? 0 (a.add (i * P.cellsOf e)) (P.cellsOf e)).bind (DataW.trod enc P w 0 sp held m e)) = some elems :=
          mapM_some_of_get _ _ (by simp [hlen]) (fun i x hx => by
            obtain ⟨hi, rfl⟩ := List.getElem?_eq_some_iff.1 hx
            simp only [List.length_range] at hi
            rw [List.getElem_range, List.getElem?_eq_getElem (by omega)]
            refine step i _ (List.mem_append_left _ (List.getElem_mem _)) ?_
            rw [hel i hi, List.getElem?_eq_getElem (by omega)])
        have h2' : (List.range (cap - len)).mapM (fun j => (w.cells? 0 (a.add ((len + j) * P.cellsOf e)) (P.cellsOf e)).bind (DataW.trod enc P w 0 sp held m e)) = some rest :=
          mapM_some_of_get _ _ (by simp [hrl]) (fun i x hx => by
            obtain ⟨hi, rfl⟩ := List.getElem?_eq_some_iff.1 hx
            simp only [List.length_range] at hi
            rw [List.getElem_range, List.getElem?_eq_getElem (by omega)]
            refine step (len + i) _ (List.mem_append_right _ (List.getElem_mem _)) ?_
            rw [hr i hi, List.getElem?_eq_getElem (by omega)])
        rw [DataW.trod_step]
        unfold DataW.trodStep
        simp only [ht]
        rw [if_pos ⟨hb0, hlc, hml⟩, h1']
        simp only [Option.bind_some]
        by_cases hz : cap - len = 0
        · have : rest = [] := List.eq_nil_of_length_eq_zero (by omega)
          subst this
          rw [hz]
          split <;> simp
        · have hb : sp a.block = true := by
            refine hsp (.cell a.block a.off) ?_
            simp only [List.mem_append]
            refine .inl (MemPlace.mem_row.2 ⟨0, ?_, rfl⟩)
            have hp : 0 < P.cellsOf e := hc.2
            exact Nat.mul_pos (by omega) hp
          rw [if_pos hb, h2']
          simp
    · rename_i fs ht
      simp only [Bool.and_eq_true] at hc
      have hfS : ∀ f, f ∈ fs.toList → f.type ∈ S := fun f hf => by have := List.all_eq_true.1 hc.1 f hf; simpa using this
      obtain ⟨xs, m, hm, rfl, hcl, hxl, hx⟩ := DataW.trod_struct ht h
      have hmn : m = n := by omega
      subst hmn
      have h1' : fs.toList.mapM (fun f => DataW.trod enc P w 0 sp held m f.type ((cs.drop f.offset).take (P.cellsOf f.type))) = some xs :=
        mapM_some_of_get _ _ (by simp [hxl]) (fun i f hf => by
          have hfa : fs[i]? = some f := by simpa using hf
          have h2 := hx i f hfa
          have hi : i < xs.length := by have := (Array.getElem?_eq_some_iff.1 hfa).1; omega
          rw [List.getElem?_eq_getElem hi] at h2 ⊢
          exact ih f.type _ _ (hfS f (by rw [Array.mem_toList_iff]; exact Array.mem_of_getElem? hfa)) h2 fun p hp => hsp p (List.mem_flatMap.2 ⟨_, List.getElem_mem hi, hp⟩))
      rw [DataW.trod_step]
      unfold DataW.trodStep
      simp only [ht]
      rw [if_pos hcl, h1']
      rfl
    · rename_i q e ht
      simp only [Bool.and_eq_true, decide_eq_true_eq] at hc
      have heS : e ∈ S := by simpa using hc.1
      obtain ⟨xs, m, hm, rfl, hcl, hxl, hx⟩ := DataW.trod_array ht h
      have hmn : m = n := by omega
      subst hmn
      have h1' : (List.range q).mapM (fun i => DataW.trod enc P w 0 sp held m e ((cs.drop (i * P.cellsOf e)).take (P.cellsOf e))) = some xs :=
        mapM_some_of_get _ _ (by simp [hxl]) (fun i f hf => by
          obtain ⟨hi, rfl⟩ := List.getElem?_eq_some_iff.1 hf
          simp only [List.length_range] at hi
          rw [List.getElem_range]
          have h2 := hx i hi
          rw [List.getElem?_eq_getElem (by omega)] at h2 ⊢
          exact ih e _ _ heS h2 fun p hp => hsp p (List.mem_flatMap.2 ⟨_, List.getElem_mem (by omega), hp⟩))
      rw [DataW.trod_step]
      unfold DataW.trodStep
      simp only [ht]
      rw [if_pos hcl, h1']
      rfl
    · cases hc
/-- the arguments read behind the call as they did -/
theorem shut_args (hS : closedT P S = true) {w' : World} {sp : Nat → Bool} (hb : Below w.heap.size w w') : ∀ (ts : List TypeId) (vs : List Value) (ds : List (DataW H)) (ps : List MemPlace), (∀ t, t ∈ ts → t ∈ S) →
    DataW.TrodAll enc P w 0 (fun _ => true) held ts vs ds ps → (∀ p ∈ ps, p.block < w.heap.size) → (∀ p ∈ ps, sp p.block = true) → DataW.TrodAll enc P w' 0 sp held ts vs ds ps
  | [], [], [], ps, _, h, _, _ => h
  | t :: ts, v :: vs, d :: ds, ps, hts, ⟨p, q, ⟨fuel, h1⟩, h2, h3⟩, hlt, hsp => by
    subst h3
    have hsame : ∀ x ∈ p, w.sameAt w' x := fun x hx => by
      have hl := hlt x (by simp [hx])
      cases x with
      | cell b o => exact hb.cell (p := ⟨b, o, none⟩) hl
      | map b => exact hb.block b hl
    have h4 := DataW.trod_carry fuel t _ _ h1 hsame
    exact ⟨p, q, ⟨fuel, trod_sp hS fuel t _ _ (hts t (by simp)) h4 fun x hx => hsp x (by simp [hx])⟩,
      shut_args hS hb ts vs ds q (fun t ht => hts t (by simp [ht])) h2 (fun x hx => hlt x (by simp [hx])) (fun x hx => hsp x (by simp [hx])), rfl⟩
  | [], _ :: _, _, _, _, h, _, _ => h.elim
  | [], [], _ :: _, _, _, h, _, _ => h.elim
  | _ :: _, [], _, _, _, h, _, _ => h.elim
  | _ :: _, _ :: _, [], _, _, h, _, _ => h.elim
end shut

section typed
variable {P : Program} {n : Nat} {t : TypeId} {d : DataW H}
theorem tyW_bool (h : tyW P n t d) (ht : P.underlying t = some .bool) : ∃ b, d = .lit (.bool b) := by
  cases n with
  | zero => exact h.elim
  | succ n => simp only [tyW, ht] at h; exact h
theorem tyW_int {k : IntKind} (h : tyW P n t d) (ht : P.underlying t = some (.int k)) : ∃ m, d = .lit (.int k m) ∧ (Lit.int k m).wf = true := by
  cases n with
  | zero => exact h.elim
  | succ n => simp only [tyW, ht] at h; exact h
theorem tyW_str (h : tyW P n t d) (ht : P.underlying t = some .string) : ∃ s, d = .lit (.string s) ∧ s.length ≤ maxLen := by
  cases n with
  | zero => exact h.elim
  | succ n => simp only [tyW, ht] at h; exact h
theorem tyW_slice {e : TypeId} (h : tyW P n t d) (ht : P.underlying t = some (.slice e)) : ∃ xs sp m, (d = .nil ∧ xs = [] ∨ d = .slice xs sp) ∧ n = m + 1 ∧ ∀ x, x ∈ xs → tyW P m e x := by
  cases n with
  | zero => exact h.elim
  | succ n =>
    simp only [tyW, ht] at h
    rcases h with h | ⟨xs, sp, h1, h2⟩
    · exact ⟨[], [], n, .inl ⟨h, rfl⟩, rfl, fun x hx => by cases hx⟩
    · exact ⟨xs, sp, n, .inr h1, rfl, h2⟩
theorem tyW_struct {fs : Array Field} (h : tyW P n t d) (ht : P.underlying t = some (.struct fs)) : ∃ ds m, d = .agg ds ∧ n = m + 1 ∧ ds.length = fs.size ∧ ∀ (i : Nat) (f : Field) x, fs[i]? = some f → ds[i]? = some x → tyW P m f.type x := by
  cases n with
  | zero => exact h.elim
  | succ n =>
    simp only [tyW, ht] at h
    obtain ⟨ds, h1, h2, h3⟩ := h
    exact ⟨ds, n, h1, rfl, h2, h3⟩
/-- a slice's items, decoded one by one -/
theorem slice_dec {P : Program} {α : Type} {e : TypeId} {enc : α → AV} {good : DataW H → α → Prop} {m : Nat} (hd : ∀ x, tyW P m e x → ∃ a, avW x = enc a ∧ good x a) : ∀ (xs : List (DataW H)), (∀ x, x ∈ xs → tyW P m e x) →
    ∃ l : List α, avWs xs = l.map enc ∧ l.length = xs.length ∧ ∀ (i : Nat) x a, xs[i]? = some x → l[i]? = some a → good x a
  | [], _ => ⟨[], by simp [avWs], rfl, fun i x a h => by simp at h⟩
  | x :: xs, h => by
    obtain ⟨a, h1, h2⟩ := hd x (h x (by simp))
    obtain ⟨l, h3, h4, h5⟩ := slice_dec hd xs fun y hy => h y (by simp [hy])
    refine ⟨a :: l, by simp [avWs, h1, h3], by simp [h4], fun i y b hy hb => ?_⟩
    cases i with
    | zero => simp at hy hb; subst hy hb; exact h2
    | succ i => exact h5 i y b (by simpa using hy) (by simpa using hb)
end typed
section entry
variable {P : Program} {G : Nat → AV} {W : World}
/-- all that stands when the call begins is as it is -/
def entryK (W : World) : Ctx := { imm := fun b o => W.cell? ⟨b, o, none⟩, row := fun _ => none, base := W.heap.size, W := W }
def entryS : AS := { box := fun _ => none, tip := fun _ => none, ty := fun _ => none }
theorem Rel.entry (hG : ∀ g, VR (entryK W) (G g) (.pointer (some ⟨g, 0, none⟩))) : Rel G (entryK W) entryS W :=
  ⟨fun _ _ _ h => h, fun _ _ _ _ h => (by cases h), fun _ _ h => (by cases h), fun _ _ _ h => (by cases h), fun _ _ _ h => (by cases h), hG, Below.refl _ _, Nat.le_refl _⟩
theorem laidVars_mem {P : Program} {w : World} {n : String} {d : DataW Unit} : ∀ (laid : List (String × DataW Unit)) (ps : List MemPlace), DataW.LaidVars P w laid ps → (n, d) ∈ laid →
    ∃ g t cs fuel p, P.globalNamed n = some g ∧ (P.globals[g]?).map (·.type) = some t ∧ w.var? P n = some cs ∧ DataW.trod (fun _ => ()) P w 0 (fun _ => true) false fuel t cs.toList = some (d, p)
  | [], _, _, h => by cases h
  | (m, e) :: r, ps, ⟨g, t, cs, fuel, p, q, h1, h2, h3, h4, h5, _⟩, h => by
    rcases List.mem_cons.1 h with h | h
    · cases h; exact ⟨g, t, cs, fuel, p, h1, h2, h3, h4⟩
    · exact laidVars_mem r q h5 h
/-- a listed variable's cells -/
theorem laid_glob {S : List TypeId} (hS : closedT P S = true) {laid : List (String × DataW Unit)} (hL : laidMet P laid W) {n : String} {d : DataW Unit} (hm : (n, d) ∈ laid) {g : Nat} {t : TypeId} (hg : P.globalNamed n = some g)
    (ht : (P.globals[g]?).map (·.type) = some t) (htS : t ∈ S) {cs : List AV} (hcs : flat (avW d) = cs) : VR (entryK W) (.rp cs) (.pointer (some ⟨g, 0, none⟩)) := by
  obtain ⟨ps, h1, _⟩ := hL
  obtain ⟨g', t', vs, fuel, p, hg', ht', hvar, hd⟩ := laidVars_mem laid ps h1 hm
  obtain rfl := Option.some.inj (hg.symm.trans hg')
  obtain rfl := Option.some.inj (ht.symm.trans ht')
  obtain ⟨_, h2, _⟩ := read_all (K := entryK W) hS (fun b o v h => h) fuel t _ _ htS hd
  simp only [hcs] at h2
  have hsz := h2.size
  refine .rp cs g 0 (fun j => vs.toList.getD j Go.undef) h2.one (fun j hj => ?_) h2.at_
  have h3 := World.var?_cell hg hvar j
  show W.cell? ⟨g, 0 + j, none⟩ = _
  have hj2 : j < vs.toList.length := by omega
  have hj3 : j < vs.size := by simpa using hj2
  rw [Nat.zero_add, h3]
  simp [hj3]
/-- FROM ABSTRACT VALUES TO THE CALL -/
theorem Pure.calls {f : FuncId} {args : List AV} {vals : List Value} {b : Bool} (h : Pure P G f args (.bool b)) (hG : ∀ g, VR (entryK W) (G g) (.pointer (some ⟨g, 0, none⟩))) (hv : VRl (entryK W) args vals) :
    Calls P f vals.toArray W fun e w' => e = .returned (.bool b) ∧ Below W.heap.size W w' := by
  refine ((h entryS).2 (entryK W) W vals (Rel.entry hG) hv).mono ?_
  rintro e w' ⟨v, r, σ', K', rfl, ⟨rfl, rfl⟩, hvr, hrel, hle⟩
  rw [VR.bool_iff] at hvr
  subst hvr
  have hb := hrel.below
  rw [hle.base, hle.W] at hb
  exact ⟨rfl, hb⟩
end entry

/-- a law's row: true is told, all arguments read as they did -/
theorem law_post {t0 : TypeId} {enc : TypeId × Value → H} {P : Program} {f : Func} {s : ChangeSpec} {W W' : World} {args : Array Value} {ds gs : List (DataW H)} {before : List MemPlace} {S : List TypeId} (hS : closedT P S = true) (hts : ∀ t, t ∈ f.params.toList → t ∈ S)
    (hvars : s.vars = []) (hres : f.resultTypes = #[t0]) (ht0 : P.underlying t0 = some .bool)
    (hfn : s.fn H (ds ++ gs) = { results := [.lit (.bool true)], args := ds })
    (hW : DataW.Whole enc P f.params.toList s.vars false W args.toList ds gs before) (hb : Below W.heap.size W W') :
    s.post enc P f false true false false W args (.bool true) W' := by
  have hW' := hW
  obtain ⟨p, q, hA, hV, rfl, hfz, hnd⟩ := hW
  rw [hvars] at hV
  obtain ⟨hgs, rfl⟩ := trodVars_none hV
  rw [List.append_nil] at hW'
  have hA' : DataW.TrodAll enc P W 0 (fun _ => true) true f.params.toList args.toList ds p := hA
  have hlt : ∀ x ∈ p, x.block < W.heap.size := fun x hx => hA'.lt x hx
  have inW : ∀ x ∈ p, decide (x.block < W.heap.size) = true := fun x hx => by simpa using hlt x hx
  have results : ∀ (b : Nat) (sp : Nat → Bool) (hd : Bool), DataW.TrodAll enc P W' b sp hd f.resultTypes.toList ((Value.bool true).resultList f.resultTypes.size) (s.fn H (ds ++ gs)).results [] := fun b sp hd => by
    rw [hfn, hres]; exact trodAll_cons_mk (shut_bool ht0 _) trodAll_mk0
  have arguments : ∀ sp : Nat → Bool, (∀ x ∈ p, sp x.block = true) → DataW.TrodAll enc P W' 0 sp true f.params.toList args.toList (s.fn H (ds ++ gs)).args p := fun sp hsp => by
    rw [hfn]; exact shut_args hS hb _ _ _ _ hts hA' hlt hsp
  have variables_ : ∀ sp : Nat → Bool, DataW.TrodVars enc P W' sp s.vars (s.fn H (ds ++ gs)).vars [] := fun sp => by
    rw [hfn, hvars]; exact rfl
  refine ⟨ds, gs, p, [], p, [], by simpa using hW', results _ _ _, arguments _ inW, variables_ _, World.keptBut_mono (fun x hx => hx.elim) (hb.frame fun _ => False), fun _ => ?_⟩
  refine ⟨?_, _, _, p, ⟨p, [], trodAll_append (arguments _ fun _ _ => rfl) (results _ _ _), variables_ _, (by simp), ?_, fun h => (by cases h)⟩, fun x hx _ => (by simpa using hx)⟩
  · exact ok_one hres rfl (okWide_bool_mk ht0 _)
  · intro b o hx
    rw [hb.frozen (p := ⟨b, o, none⟩) (hlt (.cell b o) hx)]
    exact hfz b o (by simpa using hx)
end Go.Av
