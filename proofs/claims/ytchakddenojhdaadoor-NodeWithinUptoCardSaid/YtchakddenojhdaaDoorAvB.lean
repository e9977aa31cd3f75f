/- Operations that leave memory alone, on abstract values; each is what the machine does. -/
import Derived.Test.YtchakddenojhdaaDoorAvA
set_option linter.unusedVariables false
set_option linter.unusedSimpArgs false
namespace Go.Av
open Go Go.RowKit

def ofCell : Value → AV
  | .bool b => .bool b
  | .int k n => .int k n
  | .string s => .str s.data.toList
  | .slice none 0 0 => .nil
  | .pointer none => .nilptr
  | .nilFunc => .nilfn
  | v => .raw v
def ofConst : Value → AV
  | .agg cs => if cs.toList.all (fun c => one (ofCell c)) then .agg (cs.toList.map ofCell) else .raw (.agg cs)
  | .tuple cs => .tup (cs.toList.map ofCell)
  | v => ofCell v
theorem VR.ofCell (K : Ctx) (v : Value) : VR K (ofCell v) v := by
  unfold Av.ofCell
  split <;> first | exact .bool _ | exact .int _ _ | exact .nil | exact .nilptr | exact .nilfn | exact .raw _ | exact .str _
theorem VR.ofCells (K : Ctx) (cs : Array Value) : ∀ j (h : j < (cs.toList.map Av.ofCell).length), VR K (cs.toList.map Av.ofCell)[j] (cs.getD j Go.undef) := by
  intro j h
  have hj : j < cs.size := by simpa using h
  simp only [List.getElem_map, Array.getElem_toList]
  rw [show cs.getD j Go.undef = cs[j] by simp [Array.getD, hj]]
  exact VR.ofCell K _
theorem VR.ofConst (K : Ctx) (v : Value) : VR K (ofConst v) v := by
  unfold Av.ofConst
  split
  · rename_i cs
    split
    · rename_i h
      refine .agg _ _ (by simp) (fun c hc => ?_) (VR.ofCells K cs)
      obtain ⟨x, hx, rfl⟩ := List.mem_map.1 hc
      exact List.all_eq_true.1 h x hx
    · exact .raw _
  · rename_i cs
    exact .tup _ _ (by simp) (VR.ofCells K cs)
  · exact VR.ofCell K v

abbrev Env := Nat → AV
def ev (G : Nat → AV) (e : Env) : Operand → AV
  | .tmp t => e t
  | .const v => ofConst v
  | .global g => G g
  | .func f => .fn f []
def Env.upd (e : Env) (d : Option Tmp) (v : AV) : Env :=
  match d with
  | some d => fun j => if j = d then v else e j
  | none => e
def ER (K : Ctx) (e : Env) (a : Act) : Prop := ∀ t, VR K (e t) (a.tmps.getD t Go.undef)
theorem ER.mono {K K' : Ctx} (h : K.le K') {e : Env} {a : Act} (k : ER K e a) : ER K' e a := fun t => (k t).mono h
theorem ER.eval {G : Nat → AV} {K : Ctx} {σ : AS} {w : World} {e : Env} {a : Act} (h : ER K e a) (hr : Rel G K σ w) (x : Operand) : VR K (ev G e x) (a.eval x) := by
  cases x with
  | tmp t => exact h t
  | const v => exact VR.ofConst K v
  | global g => exact hr.glob g
  | func f => exact .fn f [] #[] rfl (fun j h => by cases h)
theorem ER.put {K : Ctx} {e : Env} {a : Act} (h : ER K e a) {d : Option Tmp} (hd : ∀ t, d = some t → t < a.tmps.size) {r : AV} {v : Value} (hv : VR K r v) :
    ER K (e.upd d r) (a.put d v) := by
  cases d with
  | none => exact h
  | some d =>
    intro t
    have hlt := hd d rfl
    simp only [Env.upd, Act.put]
    by_cases htd : t = d
    · subst htd; simpa [hlt] using hv
    · rw [if_neg htd]
      have := h t
      simp only [Array.getD_eq_getD_getElem?] at this ⊢
      rw [Array.getElem?_setIfInBounds_ne (Ne.symm htd)]
      exact this

/-! ### what the program's tables say of a type -/
section tables
variable (P : Program)
def tk (t : TypeId) : Option (Bool × Nat) :=
  match P.underlying t, P.info? t with
  | some d, some i => some ((match d with | .struct _ => true | .array _ _ => true | _ => false), i.size)
  | _, _ => none
def el (t : TypeId) : Option TypeId :=
  match P.underlying t with
  | some (.slice e) => some e
  | _ => none
def fld (t : TypeId) (i : Nat) : Option (Nat × Bool × Nat) :=
  match P.underlying t with
  | some (.struct fs) => match fs[i]? with
    | some f => (tk P f.type).map fun x => (f.offset, x)
    | none => none
  | _ => none
/-- an array type: how many, and how many cells each -/
def arrT (t : TypeId) : Option (Nat × Nat) :=
  match P.underlying t with
  | some (.array m e) => (P.info? e).map fun i => (m, i.size)
  | _ => none
def tkind (t : TypeId) : Option TypeDesc := P.underlying t
end tables

theorem run_tk {P : Program} {t : TypeId} {b : Bool} {n : Nat} (h : tk P t = some (b, n)) (w : World) :
    (isAgg t).run P w = .ok b w ∧ (sizeOf t).run P w = .ok n w ∧ (P.info? t).map (·.size) = some n := by
  unfold tk at h
  split at h
  · rename_i d i hd hi
    simp only [Option.some.injEq, Prod.mk.injEq] at h
    obtain ⟨h1, h2⟩ := h
    refine ⟨?_, by simp [sizeOf, typeInfo, hi, h2], by simp [hi, h2]⟩
    unfold isAgg
    simp only [Sem.run_bind, run_underlying hd]
    subst h1
    cases d <;> rfl
  · cases h
theorem run_el {P : Program} {t e : TypeId} (h : el P t = some e) : P.underlying t = some (.slice e) := by
  unfold el at h
  split at h
  · rename_i x hx; simp only [Option.some.injEq] at h; subst h; exact hx
  · cases h

/-! ### reading cells -/
def rd (ag : Bool) (n : Nat) (cs : List AV) : Option AV :=
  if ag then (if n ≤ cs.length then some (.agg (cs.take n)) else none) else cs.head?
def aload (P : Program) (σ : AS) (t : TypeId) (p : AV) : Option AV :=
  match tk P t with
  | none => none
  | some (ag, n) =>
    match p with
    | .ptr b o => match σ.box b with
      | some cs => rd ag n (cs.drop o)
      | none => none
    | .rp cs => rd ag n cs
    | _ => none

theorem run_load_cell {P : Program} {w : World} {a : Addr} {v : Value} (h : w.cell? a = some v) : (load a).run P w = .ok v w := by simp [run_load, h]

/-- cells that stand in a row are read as abstract ones -/
theorem rd_sound {P : Program} {K : Ctx} {w : World} {t : TypeId} {ag : Bool} {n : Nat} (ht : tk P t = some (ag, n)) {cs : List AV} {b o : Nat} {f : Nat → Value}
    (hc : ∀ j, j < cs.length → w.cell? ⟨b, o + j, none⟩ = some (f j)) (h1 : ∀ c, c ∈ cs → one c = true) (hv : ∀ j (h : j < cs.length), VR K cs[j] (f j)) {r : AV} (hr : rd ag n cs = some r) :
    ∃ v, (loadVar t ⟨b, o, none⟩).run P w = .ok v w ∧ VR K r v := by
  obtain ⟨ht1, ht2, _⟩ := run_tk ht w
  unfold rd at hr
  cases ag with
  | true =>
    simp only [if_true] at hr
    split at hr
    · rename_i hn
      simp only [Option.some.injEq] at hr
      subst hr
      have hl := run_loadCells (P := P) w ⟨b, o, none⟩ n f (fun j hj => by rw [Addr.add_lit]; exact hc j (by omega))
      refine ⟨.agg ((List.range n).map f).toArray, ?_, .agg _ _ (by simp [hn]) (fun c hcm => h1 c (List.mem_of_mem_take hcm)) (fun j hj => ?_)⟩
      · unfold loadVar
        simp [ht1, ht2, hl]
      · have hjn : j < n := by simp at hj; omega
        have hjc : j < cs.length := by omega
        simpa [Array.getD, hjn] using hv j hjc
    · cases hr
  | false =>
    simp only [Bool.false_eq_true, if_false] at hr
    cases cs with
    | nil => cases hr
    | cons c rest =>
      simp only [List.head?_cons, Option.some.injEq] at hr
      subst hr
      have h0 := hc 0 (by simp)
      simp only [Nat.add_zero] at h0
      refine ⟨f 0, ?_, hv 0 (by simp)⟩
      unfold loadVar
      simp only [Sem.run_bind, ht1, Bool.false_eq_true, if_false]
      exact run_load_cell h0

theorem aload_sound {P : Program} {G : Nat → AV} {K : Ctx} {σ : AS} {w : World} (hr : Rel G K σ w) {t : TypeId} {p r : AV} (h : aload P σ t p = some r) {v : Value} (hv : VR K p v) :
    ∃ u, (Instr.loadAt t v).run P w = .ok u w ∧ VR K r u := by
  unfold aload at h
  split at h
  · cases h
  rename_i ag n ht
  cases p with
  | ptr b o =>
    rw [VR.ptr_iff] at hv; subst hv
    simp only at h
    split at h
    · rename_i cs hb
      obtain ⟨_, _, _, _, h1, c, E, hc, hs, hvv⟩ := hr.box b cs hb
      have := rd_sound (P := P) (K := K) (w := w) ht (cs := cs.drop o) (b := b) (o := o) (f := fun j => c.getD (o + j) Go.undef)
        (fun j hj => by
          have hj' : o + j < c.size := by simp at hj; omega
          rw [cell_of_row w b (o + j) c E (0, 0) hc]; simp [Array.getD, hj'])
        (fun x hx => h1 x (List.mem_of_mem_drop hx)) (fun j hj => by
          have hj' : o + j < cs.length := by simp at hj; omega
          simpa using hvv (o + j) hj') h
      obtain ⟨u, hu, hru⟩ := this
      exact ⟨u, by simpa [Instr.loadAt, Instr.sureAddr] using hu, hru⟩
    · cases h
  | rp cs =>
    simp only at h
    cases hv with
    | rp _ b off f h1 himm hvv =>
      obtain ⟨u, hu, hru⟩ := rd_sound (P := P) (K := K) (w := w) ht (cs := cs) (b := b) (o := off) (f := f) (fun j hj => hr.imm _ _ _ (himm j hj)) h1 hvv h
      exact ⟨u, by simpa [Instr.loadAt, Instr.sureAddr] using hu, hru⟩
  | _ => cases h

/-! ### addresses of fields, of items -/
def afield (P : Program) (t : TypeId) (p : AV) (i : Nat) : Option AV :=
  match fld P t i with
  | some (off, _, n) => if n = 0 then none else
    match p with
    | .ptr b o => some (.ptr b (o + off))
    | .rp cs => some (.rp (cs.drop off))
    | _ => none
  | none => none
theorem afield_sound {P : Program} {K : Ctx} {w : World} {t : TypeId} {p r : AV} {i : Nat} (h : afield P t p i = some r) {v : Value} (hv : VR K p v) :
    ∃ u, (Instr.fieldAt t v i).run P w = .ok u w ∧ VR K r u := by
  unfold afield at h
  split at h
  · rename_i off ag n hf
    split at h
    · cases h
    rename_i hn
    unfold fld at hf
    split at hf
    · rename_i fs hu
      split at hf
      · rename_i f hfi
        cases htk : tk P f.type with
        | none => rw [htk] at hf; cases hf
        | some x =>
          rw [htk] at hf
          simp only [Option.map_some, Option.some.injEq, Prod.mk.injEq] at hf
          obtain ⟨rfl, hx⟩ := hf
          obtain ⟨_, hs, _⟩ := run_tk (b := x.1) (n := x.2) htk w
          have hxn : x.2 = n := by rw [hx]
          have key : ∀ b o, (Instr.fieldAt t (.pointer (some ⟨b, o, none⟩)) i).run P w = .ok (.pointer (some ⟨b, o + f.offset, none⟩)) w := by
            intro b o
            have hz : ¬ (x.2 = 0) := by rw [hxn]; exact hn
            simp [Instr.fieldAt, run_underlying hu, hfi, Instr.sureAddr, fieldPlace, hs, hz, Addr.add_lit]
          cases p with
          | ptr b o =>
            rw [VR.ptr_iff] at hv; subst hv
            simp only [Option.some.injEq] at h; subst h
            exact ⟨_, key b o, .ptr _ _⟩
          | rp cs =>
            simp only [Option.some.injEq] at h; subst h
            cases hv with
            | rp _ b o g h1 himm hvv =>
              refine ⟨_, key b o, .rp _ _ _ (fun j => g (f.offset + j)) (fun c hc => h1 c (List.mem_of_mem_drop hc)) (fun j hj => ?_) (fun j hj => ?_)⟩
              · have hj' : f.offset + j < cs.length := by simp at hj; omega
                rw [Nat.add_assoc]; exact himm _ hj'
              · have hj' : f.offset + j < cs.length := by simp at hj; omega
                simpa using hvv _ hj'
          | _ => cases h
      · cases hf
    · cases hf
  · cases h

theorem flatMap_at {sz : Nat} : ∀ (l : List AV), (∀ e, e ∈ l → (flat e).length = sz) → ∀ i (hi : i < l.length) j, j < sz →
    (l.flatMap flat)[i * sz + j]? = (flat l[i])[j]? := by
  intro l
  induction l with
  | nil => intro _ i hi; cases hi
  | cons x l ih =>
    intro h i hi j hj
    have hx := h x (by simp)
    cases i with
    | zero => simp only [List.flatMap_cons, Nat.zero_mul, Nat.zero_add, List.getElem_cons_zero]; rw [List.getElem?_append_left (by omega)]
    | succ i =>
      simp only [List.flatMap_cons, List.getElem_cons_succ]
      rw [List.getElem?_append_right (by rw [hx, Nat.succ_mul]; omega)]
      rw [show (i + 1) * sz + j - (flat x).length = i * sz + j by rw [hx, Nat.succ_mul]; omega]
      exact ih (fun e he => h e (by simp [he])) i (by simpa using hi) j hj
theorem flatMap_length {sz : Nat} : ∀ (l : List AV), (∀ e, e ∈ l → (flat e).length = sz) → (l.flatMap flat).length = l.length * sz := by
  intro l
  induction l with
  | nil => intro _; simp
  | cons x l ih =>
    intro h
    simp only [List.flatMap_cons, List.length_append, h x (by simp), ih (fun e he => h e (by simp [he])), List.length_cons, Nat.succ_mul]
    omega

def aindexA (P : Program) (t : TypeId) (x i : AV) : Option AV :=
  match x, i with
  | .sl _ xs _, .int _ i => (match el P t with
    | none => none
    | some e => match tk P e with
      | some (_, n) => if 0 ≤ i then match xs[i.toNat]? with
          | some a => if (flat a).length = n then some (.rp (flat a)) else none
          | none => none
        else none
      | none => none)
  | .rp cs, .int _ i => (match arrT P t with
    | some (m, n) => if 0 ≤ i ∧ i < m then some (.rp (cs.drop (i.toNat * n))) else none
    | none => none)
  | .ptr b o, .int _ i => (match arrT P t with
    | some (m, n) => if 0 ≤ i ∧ i < m then some (.ptr b (o + i.toNat * n)) else none
    | none => none)
  | _, _ => none

theorem one_of_flat {a : AV} (h : isv a = true) {K : Ctx} {v : Value} (hv : VR K a v) : ∀ c, c ∈ flat a → one c = true := (hv.cells h).2.1

/-- the cells of an item of a slice -/
theorem sl_item {K : Ctx} {g : Gh} {xs sp : List AV} {v : Value} (hv : VR K (.sl g xs sp) v) {i : Nat} (hi : i < xs.length) :
    ∃ b off cap, ∃ f : Nat → Value, v = .slice (some ⟨b, off, none⟩) xs.length cap ∧ (∀ j, j < (flat xs[i]).length → K.imm b (off + i * (flat xs[i]).length + j) = some (f j)) ∧
      (∀ j (h : j < (flat xs[i]).length), VR K (flat xs[i])[j] (f j)) ∧ isv xs[i] = true ∧ (∀ c, c ∈ flat xs[i] → one c = true) := by
  cases hv with
  | sl0 a => cases hi
  | sl _ _ _ sz b off cap f hsz hcap hml himm hv hg =>
    have hm : xs[i] ∈ xs ++ sp := List.mem_append_left _ (List.getElem_mem hi)
    have hl := (hsz _ hm).1
    have hlen := flatMap_length (sz := sz) (xs ++ sp) (fun e he => (hsz e he).1)
    refine ⟨b, off, cap, fun j => f (i * sz + j), rfl, fun j hj => ?_, fun j hj => ?_, (hsz _ hm).2⟩
    · rw [hl] at hj ⊢
      have : i * sz + j < ((xs ++ sp).flatMap flat).length := by
        rw [hlen, List.length_append]
        have h1 : (i + 1) * sz ≤ (xs.length + sp.length) * sz := Nat.mul_le_mul_right _ (by omega)
        rw [Nat.succ_mul] at h1; omega
      rw [Nat.add_assoc]; exact himm _ this
    · have hj' : j < sz := by rw [hl] at hj; exact hj
      have hlt : i * sz + j < ((xs ++ sp).flatMap flat).length := by
        rw [hlen, List.length_append]
        have h1 : (i + 1) * sz ≤ (xs.length + sp.length) * sz := Nat.mul_le_mul_right _ (by omega)
        rw [Nat.succ_mul] at h1; omega
      have h2 := flatMap_at (sz := sz) (xs ++ sp) (fun e he => (hsz e he).1) i (by simp; omega) j hj'
      rw [List.getElem?_eq_getElem hlt] at h2
      have h3 : (xs ++ sp)[i]'(by simp; omega) = xs[i] := List.getElem_append_left hi
      rw [h3, List.getElem?_eq_getElem hj] at h2
      have h4 := hv _ hlt
      rw [Option.some.inj h2] at h4
      exact h4

theorem run_indexAt_sl {P : Program} (w : World) {t e : TypeId} {ag : Bool} {n : Nat} (ht : el P t = some e) (hn : tk P e = some (ag, n)) (b off len cap : Nat) (k : IntKind) (i : Nat) (hi : i < len) :
    (Instr.indexAt t (.slice (some ⟨b, off, none⟩) len cap) (.int k i)).run P w = .ok (.pointer (some ⟨b, off + i * n, none⟩)) w := by
  obtain ⟨_, hs, _⟩ := run_tk hn w
  have hu := run_el ht
  have h1 : (0 : Int) ≤ (i : Int) ∧ (i : Int) < (len : Int) := by omega
  simp [Instr.indexAt, asIntOf, run_underlying hu, h1, hs, Addr.add_lit]
  omega

theorem run_indexAt_arr {P : Program} (w : World) {t : TypeId} {m n : Nat} (ht : arrT P t = some (m, n)) (b off : Nat) (k : IntKind) (i : Int) (h0 : 0 ≤ i) (h1 : i < m) :
    (Instr.indexAt t (.pointer (some ⟨b, off, none⟩)) (.int k i)).run P w = .ok (.pointer (some ⟨b, off + i.toNat * n, none⟩)) w := by
  unfold arrT at ht
  split at ht
  · rename_i m' e hu
    cases hi : P.info? e with
    | none => rw [hi] at ht; cases ht
    | some inf =>
      rw [hi] at ht
      simp only [Option.map_some, Option.some.injEq, Prod.mk.injEq] at ht
      obtain ⟨rfl, rfl⟩ := ht
      simp [Instr.indexAt, asIntOf, run_underlying hu, Instr.sureAddr, sizeOf, typeInfo, hi, h0, h1, Addr.add_lit]
  · cases ht
theorem aindexA_sound {P : Program} {K : Ctx} {w : World} (hK : ∀ b o v, K.imm b o = some v → w.cell? ⟨b, o, none⟩ = some v) {t : TypeId} {x i r : AV} (h : aindexA P t x i = some r) {v u : Value} (hv : VR K x v) (hu : VR K i u) :
    ∃ z, (Instr.indexAt t v u).run P w = .ok z w ∧ VR K r z := by
  unfold aindexA at h
  split at h
  · rename_i g xs sp k i
    split at h
    · cases h
    rename_i e he
    split at h
    case h_2 => cases h
    rename_i ag n hn
    split at h
    case isFalse => cases h
    rename_i h0
    split at h
    case h_2 => cases h
    rename_i a ha
    split at h
    case isFalse => cases h
    rename_i hlen
    simp only [Option.some.injEq] at h
    subst h
    rw [VR.int_iff] at hu; subst hu
    obtain ⟨hi, hai⟩ := List.getElem?_eq_some_iff.1 ha
    obtain ⟨b, off, cap, f, rfl, h1, h2, h3, h4⟩ := sl_item hv hi
    rw [hai] at h1 h2 h4
    rw [hlen] at h1
    have hrun := run_indexAt_sl (P := P) w he hn b off xs.length cap k i.toNat hi
    rw [Int.toNat_of_nonneg h0] at hrun
    exact ⟨_, hrun, .rp _ _ _ f h4 (fun j hj => h1 j (by omega)) h2⟩
  · rename_i cs k i
    split at h
    case h_2 => cases h
    rename_i m n hm
    split at h
    case isFalse => cases h
    rename_i hc
    simp only [Option.some.injEq] at h
    subst h
    rw [VR.int_iff] at hu; subst hu
    cases hv with
    | rp _ b o g h1 himm hvv =>
      refine ⟨_, run_indexAt_arr w hm b o k i hc.1 hc.2, .rp _ _ _ (fun j => g (i.toNat * n + j)) (fun c hcm => h1 c (List.mem_of_mem_drop hcm)) (fun j hj => ?_) (fun j hj => ?_)⟩
      · have hj' : i.toNat * n + j < cs.length := by simp at hj; omega
        rw [Nat.add_assoc]; exact himm _ hj'
      · have hj' : i.toNat * n + j < cs.length := by simp at hj; omega
        simpa using hvv _ hj'
  · rename_i b o k i
    split at h
    case h_2 => cases h
    rename_i m n hm
    split at h
    case isFalse => cases h
    rename_i hc
    simp only [Option.some.injEq] at h
    subst h
    rw [VR.int_iff] at hu; subst hu
    rw [VR.ptr_iff] at hv; subst hv
    exact ⟨_, run_indexAt_arr w hm b o k i hc.1 hc.2, .ptr _ _⟩
  · cases h
end Go.Av
