/- Rows of operations whose order is drawn: one walk in the text's order serves every order. -/
import Derived.Test.YtchakddenojhdaaDoorAvJ
import Derived.StillTail
set_option linter.unusedVariables false
set_option linter.unusedSimpArgs false
namespace Go.Av
open Go Go.RowKit

/-- called with these, whatever else stands in memory: this is told, and the state stays -/
def PureC (P : Program) (G : Nat → AV) (f : FuncId) (args : List AV) (σ0 : AS) (v : AV) : Prop :=
  ∀ σ, σ0.le σ → Tri P G f args σ fun r σ' => r = v ∧ σ' = σ

def isCall : Oper → Bool
  | { op := .call { callee := .value _, .. }, .. } => true
  | _ => false
def isAlloc (o : Oper) : Bool := match o.op with | .alloc _ => true | .box _ _ => true | _ => false
def isWild (o : Oper) : Bool := match o.op with | .store .. => true | .call { callee := .builtin .append, .. } => true | _ => false

def hcall (P : Program) (G : Nat → AV) (e : Env) (σ0 σ : AS) (Kc : AV → AS → Prop) (c : Callee) (args : List Operand) (ts : List TypeId) : Prop :=
  match c with
  | .value f => (match ev G e f with
      | .fn k caps => ∃ v, PureC P G k (args.map (ev G e) ++ caps) σ0 v ∧ Kc v σ
      | _ => False)
  | .builtin b => if b = .append then False else ∃ r, ablt P b ts.toArray (args.map (ev G e)) = some r ∧ Kc r σ
  | .invoke _ _ => False
/-- an operation of a drawn row's head -/
def hop (P : Program) (G : Nat → AV) (o : Oper) (e : Env) (σ0 σ : AS) (Kc : AV → AS → Prop) : Prop :=
  match o.op with
  | .store .. => False
  | .makeSlice .. => False
  | .call c => hcall P G e σ0 σ Kc c.callee c.args.toList c.argTypes.toList
  | .alloc E => ∃ z, zc P E = some z ∧ ∀ b, σ.fresh b → Kc (.ptr b 0) (σ.setBox b z)
  | .box E x => isv (ev G e x) = true ∧ ∀ b, σ.fresh b → Kc (.ptr b 0) (σ.setBox b (flat (ev G e x)))
  | _ => aop P G o e σ0 fun r _ => Kc r σ

inductive Knd where
  | quiet (v : AV)
  | alloc (z : List AV)
def Knd.out : Knd → AS → AV → AS → Prop
  | .quiet v, σ, r, σ' => r = v ∧ σ' = σ
  | .alloc z, σ, r, σ' => ∃ b, σ.fresh b ∧ r = .ptr b 0 ∧ σ' = σ.setBox b z
def Does (P : Program) (G : Nat → AV) (o : Oper) (e : Env) (σ0 : AS) (k : Knd) : Prop :=
  ∀ σ, σ0.le σ → ∀ Kc : AV → AS → Prop, (∀ r σ', k.out σ r σ' → Kc r σ') → aop P G o e σ Kc

theorem aload_mono {P : Program} {σ0 σ : AS} (h : σ0.le σ) {t : TypeId} {p r : AV} (k : aload P σ0 t p = some r) : aload P σ t p = some r := by
  unfold aload at k ⊢
  split at k
  · cases k
  · cases p <;> simp only at k ⊢ <;> first | exact k | skip
    split at k
    · rename_i cs hb; rw [h.box _ _ hb]; exact k
    · cases k

theorem hop_does {P : Program} {G : Nat → AV} {o : Oper} {e : Env} {σ0 σ : AS} {Kc : AV → AS → Prop} (h : hop P G o e σ0 σ Kc) :
    ∃ k, Does P G o e σ0 k ∧ (isAlloc o = false → ∃ v, k = .quiet v) ∧ ∀ r σ', k.out σ r σ' → Kc r σ' := by
  have q : ∀ v, (∀ σ', σ0.le σ' → ∀ Kc : AV → AS → Prop, Kc v σ' → aop P G o e σ' Kc) → Kc v σ → ∃ k, Does P G o e σ0 k ∧ (isAlloc o = false → ∃ v, k = .quiet v) ∧ ∀ r σ', k.out σ r σ' → Kc r σ' :=
    fun v h1 h2 => ⟨.quiet v, fun σ' hl Kc hk => h1 σ' hl Kc (hk _ _ ⟨rfl, rfl⟩), fun _ => ⟨v, rfl⟩, fun r σ' ⟨hr, hs⟩ => by subst hr hs; exact h2⟩
  unfold hop at h
  split at h
  · exact h.elim
  · exact h.elim
  · rename_i c hop
    unfold hcall at h
    split at h
    · rename_i f hf
      split at h
      · rename_i k caps hk
        obtain ⟨v, h1, h2⟩ := h
        refine q v (fun σ' hl Kc hK => ?_) h2
        unfold aop; rw [hop]
        simp only [acall, hf, hk]
        exact (h1 σ' hl).mono fun r s ⟨hr, hs⟩ => by subst hr hs; exact hK
      · exact h.elim
    · rename_i b hb
      split at h
      · exact h.elim
      · rename_i hne
        obtain ⟨r, h1, h2⟩ := h
        refine q r (fun σ' hl Kc hK => ?_) h2
        unfold aop; rw [hop]
        simp only [acall, hb, if_neg hne]
        exact ⟨r, h1, hK⟩
    · exact h.elim
  · rename_i E hop
    obtain ⟨z, hz, h1⟩ := h
    refine ⟨.alloc z, fun σ' hl Kc hk => ?_, (fun hi => by unfold isAlloc at hi; rw [hop] at hi; cases hi), fun r σ' ⟨b, hb, hr, hs⟩ => by subst hr hs; exact h1 b hb⟩
    unfold aop; rw [hop]
    exact ⟨z, hz, fun b hb => hk _ _ ⟨b, hb, rfl, rfl⟩⟩
  · rename_i E x hop
    obtain ⟨hx, h1⟩ := h
    refine ⟨.alloc (flat (ev G e x)), fun σ' hl Kc hk => ?_, (fun hi => by unfold isAlloc at hi; rw [hop] at hi; cases hi), fun r σ' ⟨b, hb, hr, hs⟩ => by subst hr hs; exact h1 b hb⟩
    unfold aop; rw [hop]
    exact ⟨hx, fun b hb => hk _ _ ⟨b, hb, rfl, rfl⟩⟩
  · rename_i _ n1 n0 n2 n3 n4 
    unfold aop at h
    split at h
    case h_4 x hop => exact absurd hop (n3 _)
    case h_5 x y hop => exact absurd hop (n4 _ _)
    case h_9 x y z hop => exact absurd hop (n1 _ _ _)
    case h_21 x hop => exact absurd hop (n2 _)
    case h_1 x hop => exact q _ (fun σ' hl Kc hK => by unfold aop; rw [hop]; exact hK) h
    case h_2 x hop => exact q _ (fun σ' hl Kc hK => by unfold aop; rw [hop]; exact hK) h
    case h_3 c x y hop =>
      obtain ⟨t, ht, h1⟩ := h
      exact q _ (fun σ' hl Kc hK => by unfold aop; rw [hop]; exact ⟨t, ht, hK⟩) h1
    case h_8 t x hop =>
      obtain ⟨r, h1, h2⟩ := h
      exact q r (fun σ' hl Kc hK => by unfold aop; rw [hop]; exact ⟨r, aload_mono hl h1, hK⟩) h2
    case h_10 x hop =>
      obtain ⟨h1, h2⟩ := h
      exact q _ (fun σ' hl Kc hK => by unfold aop; rw [hop]; exact ⟨h1, hK⟩) h2
    case h_14 fn first caps hop =>
      split at h
      · rename_i f hf
        exact q _ (fun σ' hl Kc hK => by unfold aop; rw [hop]; simp only [hf]; exact hK) h
      · exact h.elim
    case h_22 x y z hop => exact absurd hop (n0 _ _ _)
    case h_23 => exact h.elim
    all_goals
      (rename_i hop
       obtain ⟨r, h1, h2⟩ := h
       exact q r (fun σ' hl Kc hK => by unfold aop; rw [hop]; exact ⟨r, h1, hK⟩) h2)

/-- the head, in the text's order -/
def awpHead (P : Program) (G : Nat → AV) (ops : List Oper) (σ0 : AS) (L : Env → AS → Prop) : List Oper → Env → AS → Prop
  | [], e, σ => L e σ
  | o :: rest, e, σ => ∃ b, awanted ops e o.guard = some b ∧ (b = true → hop P G o e σ0 σ fun r σ' => awpHead P G ops σ0 L rest (e.upd o.dst r) σ') ∧
      (b = false → awpHead P G ops σ0 L rest (e.upd o.dst (.tup [])) σ)

section any
variable {P : Program} {G : Nat → AV} {ops : Array Oper} {σ0 : AS} {md : Region.Mode}

def Yld (P : Program) (G : Nat → AV) (ops : Array Oper) (σ0 : AS) (o : Oper) (e : Env) (k : Knd) : Prop :=
  (awanted ops.toList e o.guard = some true ∧ Does P G o e σ0 k) ∨ (awanted ops.toList e o.guard = some false ∧ k = .quiet (.tup []))
def tOp (P : Program) (G : Nat → AV) (ops : Array Oper) (σ0 : AS) (i : Nat) (K : Env → AS → Prop) (e : Env) (σ : AS) : Prop :=
  ∃ o k, ops[i]? = some o ∧ Yld P G ops σ0 o e k ∧ ∀ r σ', k.out σ r σ' → K (e.upd o.dst r) σ'
theorem tOp_mono {i : Nat} {K K' : Env → AS → Prop} {e : Env} {σ : AS} (hk : ∀ e s, K e s → K' e s) (h : tOp P G ops σ0 i K e σ) : tOp P G ops σ0 i K' e σ := by
  obtain ⟨o, k, h1, h2, h3⟩ := h
  exact ⟨o, k, h1, h2, fun r s hr => hk _ _ (h3 r s hr)⟩

theorem ev_upd {e : Env} {d : Option Tmp} {r : AV} {x : Operand} (h : ∀ t, d = some t → x ≠ .tmp t) : ev G (e.upd d r) x = ev G e x := by
  cases x with
  | tmp t => exact Env.upd_other fun y hy hyt => h y hy (by rw [hyt])
  | _ => rfl
theorem Env.upd_comm {e : Env} {x y : Option Tmp} (v u : AV) (h : ∀ d, x = some d → y ≠ some d) : (e.upd x v).upd y u = (e.upd y u).upd x v := by
  cases x with
  | none => rfl
  | some d =>
    cases y with
    | none => rfl
    | some c =>
      have hne : d ≠ c := fun he => h d rfl (by rw [he])
      funext j
      show (if j = c then u else if j = d then v else e j) = (if j = d then v else if j = c then u else e j)
      by_cases h1 : j = c
      · rw [if_pos h1, if_neg (by rw [h1]; exact Ne.symm hne), if_pos h1]
      · rw [if_neg h1, if_neg h1]

theorem aop_congr {o : Oper} {e e' : Env} {σ : AS} {K : AV → AS → Prop} (h : ∀ x, x ∈ o.op.operands → ev G e x = ev G e' x) (hh : aop P G o e σ K) : aop P G o e' σ K := by
  have pr : ∀ ps : List (Nat × Operand), (∀ x, x ∈ ps.map (·.2) → ev G e x = ev G e' x) → pairs G e ps = pairs G e' ps := fun ps hp =>
    List.map_congr_left fun p hm => by rw [hp p.2 (List.mem_map.2 ⟨p, hm, rfl⟩)]
  unfold aop at hh ⊢
  generalize o.op = op at h hh ⊢
  cases op <;> simp only [Op.operands] at h <;> first | exact hh.elim | skip
  case build t ps => simp only at hh ⊢; rw [← pr ps.toList fun x hx => h x (by simpa using hx)]; exact hh
  case buildSlice t n ps => simp only at hh ⊢; rw [← pr ps.toList fun x hx => h x (by simpa using hx)]; exact hh
  case move x => simp only at hh ⊢; rw [← h x (by simp)]; exact hh
  case assign x => simp only at hh ⊢; rw [← h x (by simp)]; exact hh
  case pick c x y => simp only at hh ⊢; rw [← h c (by simp), ← h x (by simp), ← h y (by simp)]; exact hh
  case alloc E => exact hh
  case box E x => simp only at hh ⊢; rw [← h x (by simp)]; exact hh
  case load t x => simp only at hh ⊢; rw [← h x (by simp)]; exact hh
  case store t p x => simp only at hh ⊢; rw [← h p (by simp), ← h x (by simp)]; exact hh
  case nilCheck x => simp only at hh ⊢; rw [← h x (by simp)]; exact hh
  case binOp op t x y yt => simp only at hh ⊢; rw [← h x (by simp), ← h y (by simp)]; exact hh
  case unOp op t x => simp only at hh ⊢; rw [← h x (by simp)]; exact hh
  case convert s d x => simp only at hh ⊢; rw [← h x (by simp)]; exact hh
  case fieldAddr t x i => simp only at hh ⊢; rw [← h x (by simp)]; exact hh
  case field t x i => simp only at hh ⊢; rw [← h x (by simp)]; exact hh
  case indexAddr t x y => simp only at hh ⊢; rw [← h x (by simp), ← h y (by simp)]; exact hh
  case index t x y => simp only at hh ⊢; rw [← h x (by simp), ← h y (by simp)]; exact hh
  case extract x i => simp only at hh ⊢; rw [← h x (by simp)]; exact hh
  case makeSlice t x y => simp only at hh ⊢; rw [← h x (by simp), ← h y (by simp)]; exact hh
  case makeFunc fn first caps =>
    have e1 : caps.toList.map (ev G e) = caps.toList.map (ev G e') := List.map_congr_left fun x hx => h x (by simp at hx ⊢; exact .inr hx)
    simp only [← e1]
    exact hh
  case slice t x lo hi mx =>
    cases mx with
    | some m => exact hh.elim
    | none =>
      have hx := h x (by simp)
      have hlo : lo.map (ev G e) = lo.map (ev G e') := by cases lo with | none => rfl | some l => simp only [Option.map_some]; rw [h l (by simp)]
      have hhi : hi.map (ev G e) = hi.map (ev G e') := by cases hi with | none => rfl | some l => simp only [Option.map_some]; rw [h l (by simp)]
      simp only [← hx, ← hlo, ← hhi]
      exact hh
  case call c =>
    obtain ⟨callee, args, ts⟩ := c
    simp only [Call.operands] at h
    have e1 : args.toList.map (ev G e) = args.toList.map (ev G e') := List.map_congr_left fun x hx => h x (by simp at hx ⊢; exact .inr hx)
    cases callee with
    | value f =>
      have hf := h f (by simp)
      simp only [acall] at hh ⊢
      rw [← hf, ← e1]
      exact hh
    | builtin b =>
      simp only [acall] at hh ⊢
      split at hh
      · rename_i hb
        rw [if_pos hb]
        split at hh
        · rename_i s x t tx hargs hts
          rw [← h s (by have : s ∈ args.toList := by rw [hargs]; simp
                        simp at this ⊢; exact this), ← h x (by have : x ∈ args.toList := by rw [hargs]; simp
                                                               simp at this ⊢; exact this)]
          exact hh
        · exact hh.elim
      · rename_i hb
        rw [if_neg hb, ← e1]
        exact hh
    | invoke r m => exact hh.elim

theorem Does.put {o : Oper} {e : Env} {k : Knd} {d : Option Tmp} {r : AV} (h : ∀ t, d = some t → t ∉ o.looksAt ops) : Does P G o (e.upd d r) σ0 k ↔ Does P G o e σ0 k := by
  have key : ∀ x, x ∈ o.op.operands → ev G (e.upd d r) x = ev G e x := fun x hx => ev_upd fun t ht hxt => h t ht (by
    subst hxt
    exact List.mem_append_left _ (List.mem_filterMap.2 ⟨.tmp t, by simpa using hx, rfl⟩))
  exact ⟨fun hd σ hl Kc hk => aop_congr key (hd σ hl Kc hk), fun hd σ hl Kc hk => aop_congr (fun x hx => (key x hx).symm) (hd σ hl Kc hk)⟩
theorem awanted_put {o : Oper} {e : Env} {d : Option Tmp} {r : AV} (h : ∀ t, d = some t → t ∉ o.looksAt ops) : awanted ops.toList (e.upd d r) o.guard = awanted ops.toList e o.guard := by
  unfold awanted
  cases hg : o.guard with
  | none => rfl
  | some gw =>
    obtain ⟨j, want⟩ := gw
    simp only
    cases ht : (ops.toList[j]?).bind (·.dst) with
    | none => rfl
    | some t =>
      have : e.upd d r t = e t := Env.upd_other fun x hx hxt => h x hx (by
        subst hxt
        unfold Oper.looksAt
        refine List.mem_append_right _ ?_
        rw [hg]
        have ht' : (ops[j]?).bind (·.dst) = some x := by simpa using ht
        simp [ht'])
      simp only [this]
theorem Yld.put {o : Oper} {e : Env} {k : Knd} {d : Option Tmp} {r : AV} (h : ∀ t, d = some t → t ∉ o.looksAt ops) : Yld P G ops σ0 o (e.upd d r) k ↔ Yld P G ops σ0 o e k := by
  unfold Yld
  rw [awanted_put h, Does.put h]

def awpAnyL (P : Program) (G : Nat → AV) (md : Region.Mode) (ops : Array Oper) (σ0 : AS) (L : Array Bool → Env → AS → Prop) : Nat → Array Bool → Env → AS → Prop
  | 0, listed, e, σ => L listed e σ
  | f + 1, listed, e, σ => Region.ready md ops listed ≠ [] ∧ ∀ i ∈ Region.ready md ops listed, tOp P G ops σ0 i (awpAnyL P G md ops σ0 L f (listed.setIfInBounds i true)) e σ

/-- an operation that may come up now, and yields one value, may be taken first -/
theorem awpAnyL_first {n i : Nat} {oi : Oper} {v : AV} {L : Array Bool → Env → AS → Prop} (hi : ops[i]? = some oi)
    (hdone : ∀ listed e s, L listed e s → ∀ j ∈ Region.ready md ops listed, n ≤ j)
    (htw : ∀ listed, HeadInv md ops n listed → listed.getD i true = false → ∀ t, n ≤ t → t ∉ Region.ready md ops listed) (hin : i < n) :
    ∀ (f : Nat) (listed : Array Bool) (e : Env) (σ : AS), HeadInv md ops n listed →
      (∀ j oj, ops[j]? = some oj → j ≠ i → listed.getD j true = false → (∀ e ∈ oj.after, Region.binds md e = true → e.on ≠ i) → oi.apart ops oj = true) →
      i ∈ Region.ready md ops listed → Yld P G ops σ0 oi e (.quiet v) →
      awpAnyL P G md ops σ0 L f (listed.setIfInBounds i true) (e.upd oi.dst v) σ → awpAnyL P G md ops σ0 L (f + 1) listed e σ := by
  intro f
  induction f with
  | zero =>
    intro listed e σ inv _ hr hy H
    have hun := (mem_ready.1 hr).1
    refine ⟨fun h => (by rw [h] at hr; cases hr), fun j hj => ?_⟩
    by_cases hji : j = i
    · subst hji; exact ⟨oi, _, hi, hy, fun r s ⟨h1, h2⟩ => by subst h1 h2; exact H⟩
    · have h1 := hdone _ _ _ H j (ready_mono hj hji)
      exact absurd hj (htw listed inv hun j h1)
  | succ f ih =>
    intro listed e σ inv hfree hr hy H
    have hun := (mem_ready.1 hr).1
    refine ⟨fun h => (by rw [h] at hr; cases hr), fun j hj => ?_⟩
    have hjn : j < n := by
      rcases Nat.lt_or_ge j n with h | h
      · exact h
      · exact absurd hj (htw listed inv hun j h)
    by_cases hji : j = i
    · subst hji; exact ⟨oi, _, hi, hy, fun r s ⟨h1, h2⟩ => by subst h1 h2; exact H⟩
    · obtain ⟨oj, kj, hoj, hyj, hnext⟩ := H.2 j (ready_mono hj hji)
      obtain ⟨hjun, oj', hoj', hall⟩ := mem_ready.1 hj
      have : oj' = oj := Option.some.inj (hoj'.symm.trans hoj)
      subst this
      have hnot : ∀ e ∈ oj'.after, Region.binds md e = true → e.on ≠ i := fun e he hb heq => by
        have h1 := hall e he hb
        rw [heq, getD_both hun] at h1
        cases h1
      have hap := hfree j oj' hoj hji hjun hnot
      obtain ⟨a1, a2, a3⟩ := Oper.apart_spec hap
      have hfree' : ∀ k ok, ops[k]? = some ok → k ≠ i → (listed.setIfInBounds j true).getD k true = false →
          (∀ e ∈ ok.after, Region.binds md e = true → e.on ≠ i) → oi.apart ops ok = true := fun k ok hk hki hun hno => by
        refine hfree k ok hk hki ?_ hno
        by_cases hjk : j = k
        · subst hjk; exact hjun
        · rw [getD_set_ne true hjk] at hun; exact hun
      refine ⟨oj', kj, hoj, (Yld.put a1).1 hyj, fun r s hrs => ?_⟩
      refine ih (listed.setIfInBounds j true) _ _ (inv.set hj hjn) hfree' (ready_mono hr (Ne.symm hji)) ((Yld.put a3).2 hy) ?_
      rw [Array.setIfInBounds_comm _ _ hji, ← Env.upd_comm v r a2]
      exact hnext r s hrs

theorem Knd.out_le {k : Knd} {σ σ' : AS} {r : AV} (h : σ0.le σ) (hk : k.out σ r σ') : σ0.le σ' := by
  cases k with
  | quiet v => rw [hk.2]; exact h
  | alloc z => obtain ⟨b, hb, _, rfl⟩ := hk; exact h.setBox (h.fresh hb).1 z

/-- there is always a number that is free -/
def Inf (σ : AS) : Prop := ∃ n, ∀ b, n ≤ b → σ.fresh b
theorem Inf.setBox {σ : AS} (h : Inf σ) (b : Nat) (cs : List AV) : Inf (σ.setBox b cs) := by
  obtain ⟨n, hn⟩ := h
  refine ⟨max n (b + 1), fun c hc => ?_⟩
  have h1 := hn c (by omega)
  have hne : c ≠ b := by omega
  exact ⟨by simp only [AS.setBox, if_neg hne]; exact h1.1, h1.2⟩
theorem Inf.out {σ σ' : AS} {k : Knd} {r : AV} (h : Inf σ) (ho : k.out σ r σ') : Inf σ' := by
  cases k with
  | quiet v => obtain ⟨_, rfl⟩ := ho; exact h
  | alloc z => obtain ⟨b, _, _, rfl⟩ := ho; exact h.setBox b z
theorem fresh_setBox {σ : AS} {b c : Nat} {cs : List AV} : (σ.setBox c cs).fresh b ↔ σ.fresh b ∧ b ≠ c := by
  unfold AS.fresh AS.setBox
  simp only
  by_cases h : b = c
  · simp [h]
  · simp [h]
theorem AS.setBox_comm {σ : AS} {b c : Nat} (h : b ≠ c) (xs ys : List AV) : (σ.setBox b xs).setBox c ys = (σ.setBox c ys).setBox b xs := by
  unfold AS.setBox
  congr 1
  funext i
  show (if i = c then some ys else if i = b then some xs else σ.box i) = (if i = b then some xs else if i = c then some ys else σ.box i)
  by_cases h1 : i = c
  · rw [if_pos h1, if_neg (by rw [h1]; exact Ne.symm h), if_pos h1]
  · rw [if_neg h1, if_neg h1]
/-- what an operation that makes a variable puts there -/
theorem alloc_kind {o : Oper} {e : Env} {k : Knd} (ha : isAlloc o = true) (hd : Does P G o e σ0 k) : ∃ z, Does P G o e σ0 (.alloc z) ∧ ∀ σ r σ', σ0.le σ → (Knd.alloc z).out σ r σ' → k.out σ r σ' := by
  unfold isAlloc at ha
  split at ha
  · rename_i E hop
    have h0 := hd σ0 (AS.le.refl σ0) (fun r s => True) (fun _ _ _ => trivial)
    unfold aop at h0
    rw [hop] at h0
    obtain ⟨z, hz, _⟩ := h0
    refine ⟨z, fun σ hl Kc hk => ?_, fun σ r σ' hl ⟨b, hb, hr, hs⟩ => ?_⟩
    · unfold aop; rw [hop]
      exact ⟨z, hz, fun b hb => hk _ _ ⟨b, hb, rfl, rfl⟩⟩
    · have h1 := hd σ hl (fun r s => k.out σ r s) (fun r s h => h)
      unfold aop at h1
      rw [hop] at h1
      obtain ⟨z', hz', h2⟩ := h1
      rw [hz] at hz'
      obtain rfl := Option.some.inj hz'
      subst hr hs
      exact h2 b hb
  · rename_i E x hop
    have h0 := hd σ0 (AS.le.refl σ0) (fun r s => True) (fun _ _ _ => trivial)
    unfold aop at h0
    rw [hop] at h0
    refine ⟨flat (ev G e x), fun σ hl Kc hk => ?_, fun σ r σ' hl ⟨b, hb, hr, hs⟩ => ?_⟩
    · unfold aop; rw [hop]
      exact ⟨h0.1, fun b hb => hk _ _ ⟨b, hb, rfl, rfl⟩⟩
    · have h1 := hd σ hl (fun r s => k.out σ r s) (fun r s h => h)
      unfold aop at h1
      rw [hop] at h1
      subst hr hs
      exact h1.2 b hb
  · cases ha
theorem alloc_yld {o : Oper} {e : Env} {k : Knd} (ha : isAlloc o = true) (hg : o.guard = none) (hd : Yld P G ops σ0 o e k) : ∃ z, Yld P G ops σ0 o e (.alloc z) ∧ ∀ σ r σ', σ0.le σ → (Knd.alloc z).out σ r σ' → k.out σ r σ' := by
  rcases hd with ⟨h1, h2⟩ | ⟨h1, _⟩
  · obtain ⟨z, h3, h4⟩ := alloc_kind ha h2
    exact ⟨z, .inl ⟨h1, h3⟩, h4⟩
  · rw [hg] at h1; cases h1

theorem setBox_inj {σ : AS} {b : Nat} {xs ys : List AV} (h : σ.setBox b xs = σ.setBox b ys) : xs = ys := by
  have h1 : (σ.setBox b xs).box b = (σ.setBox b ys).box b := by rw [h]
  simpa [AS.setBox] using h1
theorem alloc_same {o : Oper} {e : Env} {b : Nat} {z1 z2 : List AV} (hb : σ0.fresh b) (ha : isAlloc o = true) (h1 : Does P G o e σ0 (.alloc z1)) (h2 : Does P G o e σ0 (.alloc z2)) : z1 = z2 := by
  have key : ∀ z, Does P G o e σ0 (.alloc z) → ∀ z', (∀ Kc : AV → AS → Prop, aop P G o e σ0 Kc → ∀ b, σ0.fresh b → Kc (.ptr b 0) (σ0.setBox b z')) → z = z' := by
    intro z hd z' hz'
    have h3 := hz' _ (hd σ0 (AS.le.refl σ0) (fun r s => (Knd.alloc z).out σ0 r s) (fun r s h => h)) b hb
    obtain ⟨c, _, h4, h5⟩ := h3
    have : b = c := by injection h4
    subst this
    exact (setBox_inj h5).symm
  unfold isAlloc at ha
  split at ha
  · rename_i E hop
    have h0 := h1 σ0 (AS.le.refl σ0) (fun r s => True) (fun _ _ _ => trivial)
    unfold aop at h0
    rw [hop] at h0
    obtain ⟨z, hz, _⟩ := h0
    have hk : ∀ Kc : AV → AS → Prop, aop P G o e σ0 Kc → ∀ b, σ0.fresh b → Kc (.ptr b 0) (σ0.setBox b z) := fun Kc hh b hb => by
      unfold aop at hh; rw [hop] at hh
      obtain ⟨z', hz', h6⟩ := hh
      rw [hz] at hz'
      obtain rfl := Option.some.inj hz'
      exact h6 b hb
    rw [key z1 h1 z hk, key z2 h2 z hk]
  · rename_i E x hop
    have hk : ∀ Kc : AV → AS → Prop, aop P G o e σ0 Kc → ∀ b, σ0.fresh b → Kc (.ptr b 0) (σ0.setBox b (flat (ev G e x))) := fun Kc hh b hb => by
      unfold aop at hh; rw [hop] at hh
      exact hh.2 b hb
    rw [key z1 h1 _ hk, key z2 h2 _ hk]
  · cases ha
/-- where only variables are still to be made, any of them may be made first -/
theorem awpAnyL_made {n i : Nat} {oi : Oper} {z : List AV} {L : Array Bool → Env → AS → Prop} (hi : ops[i]? = some oi)
    (hdone : ∀ listed e s, L listed e s → ∀ j ∈ Region.ready md ops listed, n ≤ j)
    (htw : ∀ listed, HeadInv md ops n listed → listed.getD i true = false → ∀ t, n ≤ t → t ∉ Region.ready md ops listed) (hin : i < n) :
    ∀ (f : Nat) (listed : Array Bool) (e : Env) (σ : AS), HeadInv md ops n listed → Inf σ → σ0.le σ →
      (∀ j oj, ops[j]? = some oj → j < n → listed.getD j true = false → isAlloc oj = true ∧ oj.guard = none) →
      (∀ j oj, ops[j]? = some oj → j ≠ i → listed.getD j true = false → (∀ e ∈ oj.after, Region.binds md e = true → e.on ≠ i) → oi.apart ops oj = true) →
      i ∈ Region.ready md ops listed → Yld P G ops σ0 oi e (.alloc z) →
      (∀ r σ', (Knd.alloc z).out σ r σ' → awpAnyL P G md ops σ0 L f (listed.setIfInBounds i true) (e.upd oi.dst r) σ') → awpAnyL P G md ops σ0 L (f + 1) listed e σ := by
  intro f
  induction f with
  | zero =>
    intro listed e σ inv hinf hle hall hfree hr hy H
    have hun := (mem_ready.1 hr).1
    obtain ⟨m, hm⟩ := hinf
    have H0 := H _ _ ⟨m, hm m (Nat.le_refl m), rfl, rfl⟩
    refine ⟨fun h => (by rw [h] at hr; cases hr), fun j hj => ?_⟩
    by_cases hji : j = i
    · subst hji; exact ⟨oi, _, hi, hy, fun r s hrs => H r s hrs⟩
    · have h1 := hdone _ _ _ H0 j (ready_mono hj hji)
      exact absurd hj (htw listed inv hun j h1)
  | succ f ih =>
    intro listed e σ inv hinf hle hall hfree hr hy H
    have hun := (mem_ready.1 hr).1
    obtain ⟨m, hm⟩ := id hinf
    refine ⟨fun h => (by rw [h] at hr; cases hr), fun j hj => ?_⟩
    have hjn : j < n := by
      rcases Nat.lt_or_ge j n with h | h
      · exact h
      · exact absurd hj (htw listed inv hun j h)
    by_cases hji : j = i
    · subst hji; exact ⟨oi, _, hi, hy, fun r s hrs => H r s hrs⟩
    · obtain ⟨oj, kj, hoj, hyj, _⟩ := (H _ _ ⟨m, hm m (Nat.le_refl m), rfl, rfl⟩).2 j (ready_mono hj hji)
      obtain ⟨hjun, oj', hoj', hafter⟩ := mem_ready.1 hj
      have : oj' = oj := Option.some.inj (hoj'.symm.trans hoj)
      subst this
      have hnot : ∀ e ∈ oj'.after, Region.binds md e = true → e.on ≠ i := fun e he hb heq => by
        have h1 := hafter e he hb
        rw [heq, getD_both hun] at h1
        cases h1
      have hap := hfree j oj' hoj hji hjun hnot
      obtain ⟨a1, a2, a3⟩ := Oper.apart_spec hap
      obtain ⟨haj, hgj⟩ := hall j oj' hoj hjn hjun
      obtain ⟨zj, hyz, _⟩ := alloc_yld haj hgj ((Yld.put a1).1 hyj)
      have hfree' : ∀ k ok, ops[k]? = some ok → k ≠ i → (listed.setIfInBounds j true).getD k true = false →
          (∀ e ∈ ok.after, Region.binds md e = true → e.on ≠ i) → oi.apart ops ok = true := fun k ok hk hki hun hno => by
        refine hfree k ok hk hki ?_ hno
        by_cases hjk : j = k
        · subst hjk; exact hjun
        · rw [getD_set_ne true hjk] at hun; exact hun
      have hall' : ∀ k ok, ops[k]? = some ok → k < n → (listed.setIfInBounds j true).getD k true = false → isAlloc ok = true ∧ ok.guard = none := fun k ok hk hkn hun => by
        refine hall k ok hk hkn ?_
        by_cases hjk : j = k
        · subst hjk; exact hjun
        · rw [getD_set_ne true hjk] at hun; exact hun
      refine ⟨oj', .alloc zj, hoj, hyz, fun r s hrs => ?_⟩
      obtain ⟨c, hc, rfl, rfl⟩ := hrs
      refine ih (listed.setIfInBounds j true) _ _ (inv.set hj hjn) (hinf.setBox c zj) (hle.setBox (hle.fresh hc).1 zj) hall' hfree' (ready_mono hr (Ne.symm hji)) ((Yld.put a3).2 hy) fun r s hrs => ?_
      obtain ⟨b, hb, rfl, rfl⟩ := hrs
      obtain ⟨hb1, hbc⟩ := fresh_setBox.1 hb
      obtain ⟨oj2, kj2, hoj2, hyj2, hnext2⟩ := (H _ _ ⟨b, hb1, rfl, rfl⟩).2 j (ready_mono hj hji)
      have : oj2 = oj' := Option.some.inj (hoj2.symm.trans hoj)
      subst this
      obtain ⟨zj2, hyz2, hout2⟩ := alloc_yld haj hgj ((Yld.put a1).1 hyj2)
      have hzz : zj2 = zj := by
        rcases hyz with ⟨g1, g2⟩ | ⟨_, g2⟩
        · rcases hyz2 with ⟨_, g3⟩ | ⟨_, g3⟩
          · exact alloc_same (hle.fresh hb1) haj g3 g2
          · cases g3
        · cases g2
      subst hzz
      have hlb : σ0.le (σ.setBox b z) := hle.setBox (hle.fresh hb1).1 z
      have := hnext2 _ _ (hout2 _ _ _ hlb ⟨c, fresh_setBox.2 ⟨hc, Ne.symm hbc⟩, rfl, rfl⟩)
      rw [Array.setIfInBounds_comm _ _ hji, Env.upd_comm _ _ (fun d hd he => a2 d he hd), AS.setBox_comm (Ne.symm hbc)]
      exact this

/-- are so many operations from here on such as make variables? -/
def onlyAllocs (ops : Array Oper) : Nat → Nat → Bool
  | 0, _ => true
  | f + 1, k => (match ops[k]? with | some o => isAlloc o && o.guard.isNone | none => false) && onlyAllocs ops f (k + 1)
/-- the order of the text; where a variable is made, nothing else may come up, or variables alone -/
def aHeadB (md : Region.Mode) (ops : Array Oper) (T : Array Bool → Bool) : Nat → Nat → Array Bool → Bool
  | 0, k, listed => T listed
  | f + 1, k, listed => (match ops[k]? with
      | some o => if isAlloc o then decide (Region.ready md ops listed = [k]) || (o.guard.isNone && onlyAllocs ops (f + 1) k && (Region.ready md ops listed).contains k && Region.free md ops listed k) else (Region.ready md ops listed).contains k && Region.free md ops listed k
      | none => false) && aHeadB md ops T f (k + 1) (listed.setIfInBounds k true)

theorem onlyAllocs_spec {ops : Array Oper} : ∀ (f k : Nat), onlyAllocs ops f k = true → ∀ j oj, ops[j]? = some oj → k ≤ j → j < k + f → isAlloc oj = true ∧ oj.guard = none
  | 0, k, _, j, oj, _, h1, h2 => by omega
  | f + 1, k, h, j, oj, hj, h1, h2 => by
    simp only [onlyAllocs, Bool.and_eq_true] at h
    by_cases hjk : j = k
    · subst hjk
      have h3 := h.1
      rw [hj] at h3
      simp only [Bool.and_eq_true] at h3
      exact ⟨h3.1, by simpa using h3.2⟩
    · exact onlyAllocs_spec f (k + 1) h.2 j oj hj (by omega) (by omega)
theorem awpAnyL_lex {n : Nat} {T : Array Bool → Bool} {Lq : Env → AS → Prop}
    (hdone : ∀ listed, T listed = true → ∀ j ∈ Region.ready md ops listed, n ≤ j)
    (htw : ∀ i, i < n → ∀ listed, HeadInv md ops n listed → listed.getD i true = false → ∀ t, n ≤ t → t ∉ Region.ready md ops listed) :
    ∀ (l : List Oper) (k : Nat) (listed : Array Bool) (e : Env) (σ : AS), (∀ j, j < l.length → l[j]? = ops[k + j]?) → k + l.length = n → HeadInv md ops n listed → (∀ j, j < k → listed.getD j true = true) → Inf σ → σ0.le σ →
    aHeadB md ops T l.length k listed = true → awpHead P G ops.toList σ0 Lq l e σ →
    awpAnyL P G md ops σ0 (fun listed' e' s' => T listed' = true ∧ Lq e' s') l.length listed e σ
  | [], k, listed, e, σ, _, hk, _, _, _, _, hB, h => ⟨hB, h⟩
  | o :: l, k, listed, e, σ, hl, hk, inv, hld, hinf, hle, hB, h => by
    have h0 : ops[k]? = some o := by simpa using (hl 0 (by simp)).symm
    simp only [List.length_cons, aHeadB, h0, Bool.and_eq_true] at hB
    obtain ⟨hA, hB'⟩ := hB
    have hkn : k < n := by simp only [List.length_cons] at hk; omega
    have hl' : ∀ j, j < l.length → l[j]? = ops[k + 1 + j]? := fun j hj => by have := hl (j + 1) (by simp; omega); simpa [Nat.add_assoc, Nat.add_comm 1 j] using this
    have hk' : k + 1 + l.length = n := by simp only [List.length_cons] at hk; omega
    have hld' : ∀ j, j < k + 1 → (listed.setIfInBounds k true).getD j true = true := fun j hj => by
      by_cases hjk : k = j
      · subst hjk
        by_cases hb : k < listed.size
        · simp [hb]
        · simp [hb]
      · rw [getD_set_ne true hjk]; exact hld j (by omega)
    obtain ⟨b, hb, h1, h2⟩ := h
    have hkk : ∃ kd, Yld P G ops σ0 o e kd ∧ (isAlloc o = false → ∃ v, kd = .quiet v) ∧ ∀ r σ', kd.out σ r σ' → awpHead P G ops.toList σ0 Lq l (e.upd o.dst r) σ' := by
      cases b with
      | true =>
        obtain ⟨kd, g1, g2, g3⟩ := hop_does (h1 rfl)
        exact ⟨kd, .inl ⟨hb, g1⟩, g2, g3⟩
      | false => exact ⟨.quiet (.tup []), .inr ⟨hb, rfl⟩, fun _ => ⟨_, rfl⟩, fun r s ⟨hr, hs⟩ => by subst hr hs; exact h2 rfl⟩
    obtain ⟨kd, g1, g2, g3⟩ := hkk
    cases hal : isAlloc o with
    | true =>
      rw [if_pos hal] at hA
      simp only [Bool.or_eq_true] at hA
      rcases hA with hA | hA
      · have hr1 : Region.ready md ops listed = [k] := by simpa using hA
        have hrk : k ∈ Region.ready md ops listed := by rw [hr1]; simp
        refine ⟨by rw [hr1]; simp, fun i hi => ?_⟩
        rw [hr1] at hi
        have : i = k := by simpa using hi
        subst this
        exact ⟨o, kd, h0, g1, fun r s hrs => awpAnyL_lex hdone htw l (i + 1) _ _ _ hl' hk' (inv.set hrk hkn) hld' (hinf.out hrs) (Knd.out_le hle hrs) hB' (g3 r s hrs)⟩
      · simp only [Bool.and_eq_true] at hA
        obtain ⟨⟨⟨hgd, honly⟩, hrc⟩, hfree⟩ := hA
        have hrk : k ∈ Region.ready md ops listed := by simpa using hrc
        obtain ⟨z, g4, g5⟩ := alloc_yld hal (by simpa using hgd) g1
        refine awpAnyL_made h0 (fun listed' e' s' hL => hdone listed' hL.1) (htw k hkn) hkn l.length listed e σ inv hinf hle (fun j oj hj hjn hun => ?_) (Region.free_spec h0 hfree) hrk g4
          (fun r s hrs => awpAnyL_lex hdone htw l (k + 1) _ _ _ hl' hk' (inv.set hrk hkn) hld' (hinf.out hrs) (Knd.out_le hle hrs) hB' (g3 r s (g5 σ r s hle hrs)))
        refine onlyAllocs_spec _ k honly j oj hj ?_ (by omega)
        rcases Nat.lt_or_ge j k with hlt | hge
        · rw [hld j hlt] at hun; cases hun
        · exact hge
    | false =>
      rw [if_neg (by rw [hal]; simp)] at hA
      simp only [Bool.and_eq_true] at hA
      have hr' : k ∈ Region.ready md ops listed := by simpa using hA.1
      obtain ⟨v, rfl⟩ := g2 hal
      exact awpAnyL_first h0 (fun listed' e' s' hL => hdone listed' hL.1) (htw k hkn) hkn l.length listed e σ inv (Region.free_spec h0 hA.2) hr' g1
        (awpAnyL_lex hdone htw l (k + 1) _ _ _ hl' hk' (inv.set hr' hkn) hld' hinf hle hB' (g3 v σ ⟨rfl, rfl⟩))

theorem anyL_sound {N : Nat} {ds : List Deferred} {g : Nat} {L : Array Bool → Env → AS → Prop} {R : Exit → Act → World → Prop} {K0 : Ctx} (hdst : ops.toList.all (dstLt N) = true)
    (hL : ∀ listed e σ K a w, L listed e σ → St P G K N ds e σ a w → K0.le K → wpAny P md ops R g listed a w) :
    ∀ (f : Nat) (listed : Array Bool) (e : Env) (σ : AS) (K : Ctx) (a : Act) (w : World), σ0.le σ → awpAnyL P G md ops σ0 L f listed e σ → St P G K N ds e σ a w → K0.le K → wpAny P md ops R (f + g) listed a w
  | 0, listed, e, σ, K, a, w, _, h, hs, hk => by rw [Nat.zero_add]; exact hL _ _ _ _ _ _ h hs hk
  | f + 1, listed, e, σ, K, a, w, hle, h, hs, hk => by
    rw [show f + 1 + g = (f + g) + 1 by omega]
    refine ⟨fun h0 => absurd h0 h.1, fun i hi => ?_⟩
    obtain ⟨o, k, ho, hy, hn⟩ := h.2 i hi
    have hd : dstLt N o = true := by
      have : o ∈ ops.toList := Array.mem_toList_iff.2 (Array.mem_of_getElem? ho)
      exact List.all_eq_true.1 hdst o this
    unfold wpOp
    rw [ho]
    simp only
    rcases hy with ⟨hw, hdo⟩ | ⟨hw, rfl⟩
    · have hw' := awanted_sound hw hs.er
      rw [if_pos hw']
      refine .inl ((aop_sound (hdo σ hle (fun r s => k.out σ r s) (fun r s h => h)) hs.er hs.rel).wp fun r σ' K' v w' hq hv hr hle' => ?_)
      exact anyL_sound hdst hL f _ _ _ K' _ _ (Knd.out_le hle hq) (hn r σ' hq) (hs.put hle' (dstLt_spec hd) hv hr) (hk.trans hle')
    · have hw' := awanted_sound hw hs.er
      rw [if_neg (by rw [hw']; simp)]
      exact anyL_sound hdst hL f _ _ _ K _ _ hle (hn _ _ ⟨rfl, rfl⟩) (hs.put (Ctx.le.refl K) (dstLt_spec hd) VR.skipped hs.rel) hk
end any

/-- may a row of operations be walked in the text's order, its first n in whatever order they come up, the others one by one? -/
def drawB (ops : Array Oper) (n : Nat) : Bool :=
  if n = ops.size then aHeadB .any ops (fun listed => (Region.ready .any ops listed).isEmpty) n 0 (Array.replicate ops.size false)
  else decide (n < ops.size) && Region.sinkB .any ops n && Region.chainB .any ops n && aHeadB .any ops (fun listed => Region.seqB .any ops (ops.size - n) n listed) n 0 (Array.replicate ops.size false)
def adraw (P : Program) (G : Nat → AV) (ops : Array Oper) (Q : Env → AS → Prop) (e : Env) (σ : AS) : Prop :=
  ∃ n, drawB ops n = true ∧ awpHead P G ops.toList σ (fun e' σ' => awpOps P G ops.toList Q (ops.toList.drop n) e' σ') (ops.toList.take n) e σ

theorem awpHead_mono {P : Program} {G : Nat → AV} {ops : List Oper} {σ0 : AS} {L L' : Env → AS → Prop} (hL : ∀ e s, L e s → L' e s) : ∀ (l : List Oper) (e : Env) (σ : AS), awpHead P G ops σ0 L l e σ → awpHead P G ops σ0 L' l e σ
  | [], e, σ, h => hL _ _ h
  | o :: l, e, σ, ⟨b, hb, h1, h2⟩ => ⟨b, hb, fun x => by
      have h := h1 x
      have key : ∀ r s, awpHead P G ops σ0 L l (e.upd o.dst r) s → awpHead P G ops σ0 L' l (e.upd o.dst r) s := fun r s h => awpHead_mono hL l _ _ h
      unfold hop at h ⊢
      split at h
      · exact h.elim
      · exact h.elim
      · unfold hcall at h ⊢
        split at h
        · split at h
          · obtain ⟨v, g1, g2⟩ := h; exact ⟨v, g1, key _ _ g2⟩
          · exact h.elim
        · split at h
          · exact h.elim
          · rename_i hb; rw [if_neg hb]; obtain ⟨r, g1, g2⟩ := h; exact ⟨r, g1, key _ _ g2⟩
        · exact h.elim
      · obtain ⟨z, g1, g2⟩ := h; exact ⟨z, g1, fun b hb => key _ _ (g2 b hb)⟩
      · exact ⟨h.1, fun b hb => key _ _ (h.2 b hb)⟩
      · exact aop_mono (fun r _ hh => key _ _ hh) h, fun x => awpHead_mono hL l _ _ (h2 x)⟩

theorem hop_mono {P : Program} {G : Nat → AV} {o : Oper} {e : Env} {σ0 σ : AS} {K K' : AV → AS → Prop} (hk : ∀ r s, K r s → K' r s) (h : hop P G o e σ0 σ K) : hop P G o e σ0 σ K' := by
  unfold hop at h ⊢
  split at h
  · exact h.elim
  · exact h.elim
  · unfold hcall at h ⊢
    split at h
    · split at h
      · obtain ⟨v, g1, g2⟩ := h; exact ⟨v, g1, hk _ _ g2⟩
      · exact h.elim
    · split at h
      · exact h.elim
      · rename_i hb; rw [if_neg hb]; obtain ⟨r, g1, g2⟩ := h; exact ⟨r, g1, hk _ _ g2⟩
    · exact h.elim
  · obtain ⟨z, g1, g2⟩ := h; exact ⟨z, g1, fun b hb => hk _ _ (g2 b hb)⟩
  · exact ⟨h.1, fun b hb => hk _ _ (h.2 b hb)⟩
  · exact aop_mono (fun r _ hh => hk _ _ hh) h

theorem opsWrites_append (l r : List Oper) : opsWrites (l ++ r) = opsWrites l ++ opsWrites r := List.filterMap_append
theorem opsWrites_cons_sub {o : Oper} {l : List Oper} {t : Nat} (h : t ∉ opsWrites (o :: l)) : t ∉ opsWrites l ∧ ∀ x, o.dst = some x → x ≠ t := by
  unfold opsWrites at *
  rw [List.filterMap_cons] at h
  split at h
  · rename_i hd; exact ⟨h, fun x hx => by rw [hd] at hx; cases hx⟩
  · rename_i d hd
    simp only [List.mem_cons, not_or] at h
    exact ⟨h.2, fun x hx => by rw [hd] at hx; cases hx; exact Ne.symm h.1⟩

theorem awpHead_frame {P : Program} {G : Nat → AV} {ops : List Oper} {σ0 : AS} {L : Env → AS → Prop} : ∀ (l : List Oper) (e : Env) (σ : AS), awpHead P G ops σ0 L l e σ →
    awpHead P G ops σ0 (fun e' σ' => L e' σ' ∧ ∀ t, t ∉ opsWrites l → e' t = e t) l e σ
  | [], e, σ, h => ⟨h, fun _ _ => rfl⟩
  | o :: l, e, σ, ⟨b, hb, h1, h2⟩ => by
    have key : ∀ r s, awpHead P G ops σ0 L l (e.upd o.dst r) s → awpHead P G ops σ0 (fun e' σ' => L e' σ' ∧ ∀ t, t ∉ opsWrites (o :: l) → e' t = e t) l (e.upd o.dst r) s := fun r s h =>
      awpHead_mono (fun e' s' hq => ⟨hq.1, fun t ht => by
        obtain ⟨g1, g2⟩ := opsWrites_cons_sub ht
        rw [hq.2 t g1]; exact Env.upd_other g2⟩) l _ _ (awpHead_frame l _ _ h)
    exact ⟨b, hb, fun x => hop_mono (fun r s h => key r s h) (h1 x), fun x => key _ _ (h2 x)⟩

theorem infOf {G : Nat → AV} {K : Ctx} {σ : AS} {w : World} (h : Rel G K σ w) : Inf σ := ⟨w.heap.size, fun b hb => h.fresh hb⟩
theorem drawOK {P : Program} {G : Nat → AV} (hm : P.follows .mixedOrders = true) : DrawOK P G (adraw P G) where
  mono ops Q Q' e σ hq h := by
    obtain ⟨n, hn, h1⟩ := h
    exact ⟨n, hn, awpHead_mono (fun e s hh => awpOps_mono _ hq _ _ hh) _ _ _ h1⟩
  frame ops Q e σ h := by
    obtain ⟨n, hn, h1⟩ := h
    refine ⟨n, hn, awpHead_mono (fun e' s hh => ?_) _ _ _ (awpHead_frame _ _ _ h1)⟩
    obtain ⟨g1, g2⟩ := hh
    refine awpOps_mono _ (fun e2 s2 hh2 => ⟨hh2.1, fun t ht => ?_⟩) _ _ (awpOps_frame _ _ _ g1)
    have hsp : opsWrites ops.toList = opsWrites (ops.toList.take n) ++ opsWrites (ops.toList.drop n) := by rw [← opsWrites_append, List.take_append_drop]
    rw [hsp, List.mem_append, not_or] at ht
    rw [hh2.2 t ht.2, g2 t ht.1]
  sound N ds id ops Q R e σ K a w hok h hs hR := by
    obtain ⟨n, hn, h1⟩ := h
    have hs' : St P G K N ds e σ a { w with drawn := w.drawn + 1 } := ⟨hs.er, hs.rel.drew, hs.size, hs.defers⟩
    have inv0 : ∀ m, HeadInv .any ops m (Array.replicate ops.size false) := fun m =>
      ⟨by simp, fun j oj _ hl => (by rw [getD_replicate_false] at hl; cases hl), fun t _ ht => getD_in (by simpa using ht) (getD_replicate_false _ _)⟩
    refine wp_region_any hm ?_
    unfold drawB at hn
    split at hn
    · rename_i hns
      subst hns
      have htake : ops.toList.take ops.size = ops.toList := List.take_of_length_le (by simp)
      have hdrop : ops.toList.drop ops.size = [] := List.drop_eq_nil_of_le (by simp)
      rw [htake, hdrop] at h1
      have hlen : ops.toList.length = ops.size := by simp
      have hlex := awpAnyL_lex (md := .any) (n := ops.size) (T := fun listed => (Region.ready .any ops listed).isEmpty) (σ0 := σ)
        (fun listed hT j hj => by rw [List.isEmpty_iff.1 hT] at hj; cases hj)
        (fun i hi listed inv hun t ht hr => by
          obtain ⟨_, o, ho, _⟩ := mem_ready.1 hr
          have := (Array.getElem?_eq_some_iff.1 ho).1
          omega)
        ops.toList 0 (Array.replicate ops.size false) e σ (fun j hj => by simp) (by simp) (inv0 _) (fun j hj => by omega) (infOf hs.rel) (AS.le.refl σ) (by rw [hlen]; exact hn) h1
      rw [hlen] at hlex
      have := anyL_sound (g := 0) (R := R) (K0 := K) hok (fun listed e' σ' K' a' w' hL hst hk => by
        refine ⟨List.isEmpty_iff.1 hL.1, ?_⟩
        exact hR e' σ' K' a' w' hL.2 hst hk) ops.size _ e σ K a _ (AS.le.refl σ) hlex hs' (Ctx.le.refl K)
      simpa using this
    · simp only [Bool.and_eq_true, decide_eq_true_eq] at hn
      obtain ⟨⟨⟨hlt, hsink⟩, hchain⟩, hB⟩ := hn
      have htl : (ops.toList.take n).length = n := by simp; omega
      have hdl : (ops.toList.drop n).length = ops.size - n := by simp
      have hlex := awpAnyL_lex (md := .any) (n := n) (T := fun listed => Region.seqB .any ops (ops.size - n) n listed) (σ0 := σ)
        (fun listed hT j hj => seqB_ready hT j hj)
        (fun i hi listed inv hun t ht => tail_waits hsink hchain hlt inv _ i rfl hi hun t ht)
        (ops.toList.take n) 0 (Array.replicate ops.size false) e σ (fun j hj => by
          rw [htl] at hj
          simp [hj]) (by omega) (inv0 _) (fun j hj => by omega) (infOf hs.rel) (AS.le.refl σ) (by rw [htl]; exact hB) h1
      rw [htl] at hlex
      have := anyL_sound (g := ops.size - n) (R := R) (K0 := K) hok (fun listed e' σ' K' a' w' hL hst hk => by
        have hd : (ops.toList.drop n).all (dstLt N) = true := List.all_eq_true.2 fun o ho => List.all_eq_true.1 hok o (List.mem_of_mem_drop ho)
        have hwl := awpOps_sound (K0 := K) hR (ops.toList.drop n) e' σ' K' a' w' hd hL.2 hst hk
        have := wpAny_of_seq (md := .any) (Q' := R) (ops.toList.drop n) n listed a' w' (fun j => by simp) (by rw [hdl]; exact hL.1) hwl
        rw [hdl] at this
        exact this) n _ e σ K a _ (AS.le.refl σ) hlex hs' (Ctx.le.refl K)
      rw [show n + (ops.size - n) = ops.size by omega] at this
      exact this
end Go.Av
