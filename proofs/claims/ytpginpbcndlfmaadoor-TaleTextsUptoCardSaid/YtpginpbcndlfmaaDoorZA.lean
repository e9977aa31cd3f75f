/- Abstract values, what it means that a value of the machine is seen as one, and the relation between an abstract state and a world. No program is named here. -/
import Derived.WalkKit
import Derived.Deep.LoopGhost
import Derived.StillTail
import Derived.Deep.AppendSrc
import Derived.ChangeKeysEq
import Derived.Laws.StructEq
import Derived.Lib.UnsafeStr
import Derived.Orders
set_option linter.unusedVariables false
set_option linter.unusedSimpArgs false
namespace Go.Av
open Go Go.RowKit

/-- whose spare room a slice's is: nobody knows; there is none (its capacity is its length); its own, in row number b -/
inductive Gh where
  | none | full | own (b : Nat)

inductive AV where
  | undef
  | bool (b : Bool)
  | int (k : IntKind) (n : Int)
  | str (s : List UInt8)
  | nil
  | sl (g : Gh) (xs sp : List AV)
  | agg (cs : List AV)
  | tup (vs : List AV)
  | ptr (b o : Nat)
  | rp (cs : List AV)
  | nilptr
  | fn (f : FuncId) (caps : List AV)
  | nilfn
  | bs (b n s : Nat) (E : TypeId)
  | bp (b s : Nat) (E : TypeId)
  | raw (v : Value)
  | tab (vs : List Value)
instance : Inhabited AV := ⟨.undef⟩

def flat : AV → List AV
  | .agg cs => cs
  | a => [a]
/-- one cell holds it -/
def one : AV → Bool
  | .undef => false
  | .agg _ => false
  | .tup _ => false
  | .raw v => v.oneCell'
  | _ => true
/-- it may be stored: one cell, or a struct's or an array's cells -/
def isv : AV → Bool
  | .agg _ => true
  | a => one a

structure Ctx where
  imm : Nat → Nat → Option Value
  row : Nat → Option (Nat × Nat × TypeId)
  base : Nat
  W : World

structure Ctx.le (K K' : Ctx) : Prop where
  imm : ∀ b o v, K.imm b o = some v → K'.imm b o = some v
  row : ∀ b x, K.row b = some x → K'.row b = some x
  base : K'.base = K.base
  W : K'.W = K.W
theorem Ctx.le.refl (K : Ctx) : K.le K := ⟨fun _ _ _ h => h, fun _ _ h => h, rfl, rfl⟩
theorem Ctx.le.trans {A B C : Ctx} (h : A.le B) (k : B.le C) : A.le C :=
  ⟨fun _ _ _ x => k.imm _ _ _ (h.imm _ _ _ x), fun _ _ x => k.row _ _ (h.row _ _ x), k.base.trans h.base, k.W.trans h.W⟩

def Gh.ok (K : Ctx) (b off len cap : Nat) : Gh → Prop
  | .none => True
  | .full => cap = len
  | .own b' => b' = b ∧ off = 0 ∧ ∃ E s, K.row b = some (cap, s, E)

inductive VR (K : Ctx) : AV → Value → Prop
  | undef (v : Value) : VR K .undef v
  | bool (b : Bool) : VR K (.bool b) (.bool b)
  | int (k : IntKind) (n : Int) : VR K (.int k n) (.int k n)
  | str (s : List UInt8) : VR K (.str s) (.string ⟨⟨s⟩⟩)
  | nil : VR K .nil (.slice none 0 0)
  | sl (g : Gh) (xs sp : List AV) (sz b off cap : Nat) (f : Nat → Value)
      (hsz : ∀ e, e ∈ xs ++ sp → (flat e).length = sz ∧ isv e = true ∧ ∀ c, c ∈ flat e → one c = true) (hcap : xs.length + sp.length ≤ cap) (hml : cap ≤ maxLen)
      (himm : ∀ j, j < ((xs ++ sp).flatMap flat).length → K.imm b (off + j) = some (f j))
      (hv : ∀ j (h : j < ((xs ++ sp).flatMap flat).length), VR K (((xs ++ sp).flatMap flat)[j]) (f j))
      (hg : g.ok K b off xs.length cap) : VR K (.sl g xs sp) (.slice (some ⟨b, off, none⟩) xs.length cap)
  | sl0 (a : Option Addr) : VR K (.sl .none [] []) (.slice a 0 0)
  | agg (cs : List AV) (vs : Array Value) (hl : vs.size = cs.length) (h1 : ∀ c, c ∈ cs → one c = true)
      (hv : ∀ j (h : j < cs.length), VR K cs[j] (vs.getD j undef)) : VR K (.agg cs) (.agg vs)
  | tup (cs : List AV) (vs : Array Value) (hl : vs.size = cs.length)
      (hv : ∀ j (h : j < cs.length), VR K cs[j] (vs.getD j undef)) : VR K (.tup cs) (.tuple vs)
  | ptr (b o : Nat) : VR K (.ptr b o) (.pointer (some ⟨b, o, none⟩))
  | rp (cs : List AV) (b off : Nat) (f : Nat → Value) (h1 : ∀ c, c ∈ cs → one c = true)
      (himm : ∀ j, j < cs.length → K.imm b (off + j) = some (f j))
      (hv : ∀ j (h : j < cs.length), VR K cs[j] (f j)) : VR K (.rp cs) (.pointer (some ⟨b, off, none⟩))
  | nilptr : VR K .nilptr (.pointer none)
  | fn (f : FuncId) (caps : List AV) (vs : Array Value) (hl : vs.size = caps.length)
      (hv : ∀ j (h : j < caps.length), VR K caps[j] (vs.getD j undef)) : VR K (.fn f caps) (.func (.func f) #[] vs)
  | nilfn : VR K .nilfn .nilFunc
  | bs (b n s cap : Nat) (E : TypeId) (hr : K.row b = some (cap, s, E)) (hn : n ≤ cap) (hm : cap ≤ maxLen) : VR K (.bs b n s E) (.slice (some ⟨b, 0, none⟩) n cap)
  | bp (b s cap : Nat) (E : TypeId) (hr : K.row b = some (cap, s, E)) : VR K (.bp b s E) (.pointer (some ⟨b, 0, none⟩))
  | raw (v : Value) : VR K (.raw v) v
  | tab (vs : List Value) (b : Nat) (E : TypeId) (fz : Nat × Nat) (hb : b < K.base) (hw : K.W.heap[b]? = some (.cells vs.toArray E fz)) : VR K (.tab vs) (.pointer (some ⟨b, 0, none⟩))

theorem Gh.ok.mono {K K' : Ctx} (h : K.le K') {b off len cap : Nat} {g : Gh} (k : g.ok K b off len cap) : g.ok K' b off len cap := by
  cases g with
  | none => exact k
  | full => exact k
  | own b' => obtain ⟨h1, h2, E, s, h3⟩ := k; exact ⟨h1, h2, E, s, h.row _ _ h3⟩

theorem VR.mono {K K' : Ctx} (h : K.le K') {a : AV} {v : Value} (k : VR K a v) : VR K' a v := by
  induction k with
  | undef v => exact .undef v
  | bool b => exact .bool b
  | int k n => exact .int k n
  | str s => exact .str s
  | nil => exact .nil
  | sl g xs sp sz b off cap f hsz hcap hml himm hv hg ih => exact .sl g xs sp sz b off cap f hsz hcap hml (fun j hj => h.imm _ _ _ (himm j hj)) ih (hg.mono h)
  | sl0 a => exact .sl0 a
  | agg cs vs hl h1 hv ih => exact .agg cs vs hl h1 ih
  | tup cs vs hl hv ih => exact .tup cs vs hl ih
  | ptr b o => exact .ptr b o
  | rp cs b off f h1 himm hv ih => exact .rp cs b off f h1 (fun j hj => h.imm _ _ _ (himm j hj)) ih
  | nilptr => exact .nilptr
  | fn f caps vs hl hv ih => exact .fn f caps vs hl ih
  | nilfn => exact .nilfn
  | bs b n s cap E hr hn hm => exact .bs b n s cap E (h.row _ _ hr) hn hm
  | bp b s cap E hr => exact .bp b s cap E (h.row _ _ hr)
  | raw v => exact .raw v
  | tab vs b E fz hb hw => exact .tab vs b E fz (by rw [h.base]; exact hb) (by rw [h.W]; exact hw)

section inv
variable {K : Ctx} {v : Value}
theorem VR.bool_iff {b : Bool} : VR K (.bool b) v ↔ v = .bool b := ⟨fun h => by cases h; rfl, fun h => h ▸ .bool b⟩
theorem VR.int_iff {k : IntKind} {n : Int} : VR K (.int k n) v ↔ v = .int k n := ⟨fun h => by cases h; rfl, fun h => h ▸ .int k n⟩
theorem VR.str_iff {s : List UInt8} : VR K (.str s) v ↔ v = .string ⟨⟨s⟩⟩ := ⟨fun h => by cases h; rfl, fun h => h ▸ .str s⟩
theorem VR.nil_iff : VR K .nil v ↔ v = .slice none 0 0 := ⟨fun h => by cases h; rfl, fun h => h ▸ .nil⟩
theorem VR.ptr_iff {b o : Nat} : VR K (.ptr b o) v ↔ v = .pointer (some ⟨b, o, none⟩) := ⟨fun h => by cases h; rfl, fun h => h ▸ .ptr b o⟩
theorem VR.nilptr_iff : VR K .nilptr v ↔ v = .pointer none := ⟨fun h => by cases h; rfl, fun h => h ▸ .nilptr⟩
theorem VR.nilfn_iff : VR K .nilfn v ↔ v = .nilFunc := ⟨fun h => by cases h; rfl, fun h => h ▸ .nilfn⟩
theorem VR.raw_iff {u : Value} : VR K (.raw u) v ↔ v = u := ⟨fun h => by cases h; rfl, fun h => by subst h; exact .raw v⟩
end inv

theorem VR.oneCell {K : Ctx} {a : AV} {v : Value} (h : VR K a v) (h1 : one a = true) : v.oneCell' = true := by
  cases h <;> first | rfl | (simp [one] at h1; done) | exact h1

/-- a stored value's cells are the abstract one's -/
theorem VR.cells {K : Ctx} {a : AV} {v : Value} (h : VR K a v) (h1 : isv a = true) :
    v.cells.size = (flat a).length ∧ (∀ c, c ∈ flat a → one c = true) ∧ ∀ j (hj : j < (flat a).length), VR K (flat a)[j] (v.cells.getD j Go.undef) := by
  cases a with
  | agg cs => cases h with | agg _ vs hl h1 hv => exact ⟨hl, h1, hv⟩
  | undef => cases h1
  | tup vs => cases h1
  | raw u =>
    cases h
    have hc : v.cells = #[v] := by cases v <;> first | rfl | cases h1
    rw [hc]
    exact ⟨rfl, fun c hc => by simp [flat] at hc; subst hc; exact h1, fun j hj => by
      have : j = 0 := by simpa [flat] using hj
      subst this; exact .raw v⟩
  | _ =>
    have hc : v.cells = #[v] := by cases h <;> rfl
    rw [hc]
    refine ⟨rfl, fun c hc => by simp [flat] at hc; subst hc; rfl, fun j hj => ?_⟩
    have : j = 0 := by simpa [flat] using hj
    subst this
    exact h

/-- and back: cells of a scalar, cells of a struct -/
theorem VR.agg_of {K : Ctx} (cs : List AV) (vs : Array Value) (hl : vs.size = cs.length) (h1 : ∀ c, c ∈ cs → one c = true)
    (hv : ∀ j (h : j < cs.length), VR K cs[j] (vs.getD j Go.undef)) : VR K (.agg cs) (.agg vs) := .agg cs vs hl h1 hv

structure AS where
  box : Nat → Option (List AV)
  tip : Nat → Option (Nat × Nat)
  ty : Nat → Option (TypeId × Nat)

def AS.fresh (σ : AS) (b : Nat) : Prop := σ.box b = none ∧ σ.tip b = none ∧ σ.ty b = none
def AS.setBox (σ : AS) (b : Nat) (cs : List AV) : AS := { σ with box := fun i => if i = b then some cs else σ.box i }
def AS.setTip (σ : AS) (b : Nat) (n : Nat × Nat) : AS := { σ with tip := fun i => if i = b then some n else σ.tip i }
def AS.setTy (σ : AS) (b : Nat) (n : TypeId × Nat) : AS := { σ with ty := fun i => if i = b then some n else σ.ty i }
def AS.delTip (σ : AS) (b : Nat) : AS := { σ with tip := fun i => if i = b then none else σ.tip i }
/-- σ' holds all that σ holds -/
structure AS.le (σ σ' : AS) : Prop where
  box : ∀ b cs, σ.box b = some cs → σ'.box b = some cs
  tip : ∀ b n, σ.tip b = some n → σ'.tip b = some n
  ty : ∀ b n, σ.ty b = some n → σ'.ty b = some n
theorem AS.le.refl (σ : AS) : σ.le σ := ⟨fun _ _ h => h, fun _ _ h => h, fun _ _ h => h⟩
theorem AS.le.trans {a b c : AS} (h : a.le b) (k : b.le c) : a.le c := ⟨fun _ _ x => k.box _ _ (h.box _ _ x), fun _ _ x => k.tip _ _ (h.tip _ _ x), fun _ _ x => k.ty _ _ (h.ty _ _ x)⟩
theorem AS.le.setTy {σ σ' : AS} (h : σ.le σ') {b : Nat} (hb : σ.ty b = none) (n : TypeId × Nat) : σ.le (σ'.setTy b n) := by
  refine ⟨h.box, h.tip, fun i m hi => ?_⟩
  have hne : i ≠ b := fun e => by subst e; rw [hb] at hi; cases hi
  simp only [AS.setTy, if_neg hne]
  exact h.ty _ _ hi
theorem AS.le.setBox {σ σ' : AS} (h : σ.le σ') {b : Nat} (hb : σ.box b = none) (cs : List AV) : σ.le (σ'.setBox b cs) := by
  refine ⟨fun i c hi => ?_, fun i n hi => h.tip _ _ hi, h.ty⟩
  have hne : i ≠ b := fun e => by subst e; rw [hb] at hi; cases hi
  simp only [AS.setBox, if_neg hne]
  exact h.box _ _ hi
theorem AS.le.setTip {σ σ' : AS} (h : σ.le σ') {b : Nat} (hb : σ.tip b = none) (n : Nat × Nat) : σ.le (σ'.setTip b n) := by
  refine ⟨fun i c hi => h.box _ _ hi, fun i m hi => ?_, h.ty⟩
  have hne : i ≠ b := fun e => by subst e; rw [hb] at hi; cases hi
  simp only [AS.setTip, if_neg hne]
  exact h.tip _ _ hi
theorem AS.le.delTip {σ σ' : AS} (h : σ.le σ') {b : Nat} (hb : σ.tip b = none) : σ.le (σ'.delTip b) := by
  refine ⟨fun i c hi => h.box _ _ hi, fun i m hi => ?_, h.ty⟩
  have hne : i ≠ b := fun e => by subst e; rw [hb] at hi; cases hi
  simp only [AS.delTip, if_neg hne]
  exact h.tip _ _ hi
theorem AS.le.fresh {σ σ' : AS} (h : σ.le σ') {b : Nat} (hb : σ'.fresh b) : σ.fresh b := by
  refine ⟨?_, ?_, ?_⟩
  · cases e : σ.box b with
    | none => rfl
    | some c => have := h.box _ _ e; rw [hb.1] at this; cases this
  · cases e : σ.tip b with
    | none => rfl
    | some c => have := h.tip _ _ e; rw [hb.2.1] at this; cases this
  · cases e : σ.ty b with
    | none => rfl
    | some c => have := h.ty _ _ e; rw [hb.2.2] at this; cases this

structure Rel (G : Nat → AV) (K : Ctx) (σ : AS) (w : World) : Prop where
  imm : ∀ b o v, K.imm b o = some v → w.cell? ⟨b, o, none⟩ = some v
  row : ∀ b cap s E, K.row b = some (cap, s, E) → ∃ cur fz, w.heap[b]? = some (.cells cur E fz) ∧ cur.size = cap * s ∧ cap ≤ maxLen ∧ ((∃ x, σ.tip b = some x) → fz = (0, 0))
  box : ∀ b cs, σ.box b = some cs → K.base ≤ b ∧ σ.tip b = none ∧ True ∧ (∀ o, K.imm b o = none) ∧ (∀ c, c ∈ cs → one c = true) ∧
    ∃ c E, w.heap[b]? = some (.cells c E (0, 0)) ∧ cs.length ≤ c.size ∧ ∀ j (h : j < cs.length), VR K cs[j] (c.getD j Go.undef)
  tip : ∀ b n s, σ.tip b = some (n, s) → K.base ≤ b ∧ ∃ cap E, K.row b = some (cap, s, E) ∧ n ≤ cap ∧ ∀ o, n * s ≤ o → K.imm b o = none
  ty : ∀ b E n, σ.ty b = some (E, n) → ∃ c fz, w.heap[b]? = some (.cells c E fz) ∧ c.size = n
  glob : ∀ g, VR K (G g) (.pointer (some ⟨g, 0, none⟩))
  below : Below K.base K.W w
  bs : K.base ≤ w.heap.size

section rel
variable {G : Nat → AV} {K : Ctx} {σ : AS} {w : World}

theorem Rel.drew (h : Rel G K σ w) : Rel G K σ w.drew :=
  ⟨h.imm, h.row, h.box, h.tip, h.ty, h.glob, h.below.drew, h.bs⟩

theorem Rel.imm_lt (h : Rel G K σ w) {b o : Nat} {v : Value} (hi : K.imm b o = some v) : b < w.heap.size :=
  World.block_lt_of_cell? w _ (h.imm b o v hi)
theorem Rel.imm_none (h : Rel G K σ w) {b : Nat} (hb : w.heap.size ≤ b) (o : Nat) : K.imm b o = none := by
  cases e : K.imm b o with
  | none => rfl
  | some v => have := h.imm_lt e; omega
theorem Rel.row_lt (h : Rel G K σ w) {b : Nat} {x : Nat × Nat × TypeId} (hi : K.row b = some x) : b < w.heap.size := by
  obtain ⟨cap, s, E⟩ := x
  obtain ⟨cur, fz, hc, _⟩ := h.row b cap s E hi
  exact (Array.getElem?_eq_some_iff.1 hc).1
theorem Rel.row_none (h : Rel G K σ w) {b : Nat} (hb : w.heap.size ≤ b) : K.row b = none := by
  cases e : K.row b with
  | none => rfl
  | some v => have := h.row_lt e; omega
theorem Rel.fresh (h : Rel G K σ w) {b : Nat} (hb : w.heap.size ≤ b) : σ.fresh b := by
  refine ⟨?_, ?_, ?_⟩
  · cases e : σ.box b with
    | none => rfl
    | some cs =>
      obtain ⟨_, _, _, _, _, c, E, hc, _⟩ := h.box b cs e
      have := (Array.getElem?_eq_some_iff.1 hc).1
      omega
  · cases e : σ.tip b with
    | none => rfl
    | some n =>
      obtain ⟨_, cap, E, hr, _⟩ := h.tip b n.1 n.2 e
      have := h.row_lt hr
      omega
  · cases e : σ.ty b with
    | none => rfl
    | some n =>
      obtain ⟨c, fz, hc, _⟩ := h.ty b n.1 n.2 e
      have := (Array.getElem?_eq_some_iff.1 hc).1
      omega

/-- a new block of which nothing is kept -/
theorem Rel.alloc (h : Rel G K σ w) (o : Obj) : Rel G K σ (w.alloc o) := by
  have old : ∀ b, b < w.heap.size → (w.alloc o).heap[b]? = w.heap[b]? := fun b hb => heap_alloc_old w o hb
  refine ⟨fun b o' v hv => ?_, fun b cap s E hr => ?_, fun b cs hb => ?_, h.tip, fun b E n ht => ?_, h.glob, h.below.alloc h.bs o, ?_⟩
  · rw [World.cell?_of_block (w := w) (old b (h.imm_lt hv))]; exact h.imm b o' v hv
  · obtain ⟨cur, fz, hc, hs⟩ := h.row b cap s E hr
    exact ⟨cur, fz, by rw [old b (h.row_lt hr)]; exact hc, hs⟩
  · obtain ⟨h1, h2, h3, h4, h5, c, E, hc, hs, hv⟩ := h.box b cs hb
    exact ⟨h1, h2, h3, h4, h5, c, E, by rw [old b (Array.getElem?_eq_some_iff.1 hc).1]; exact hc, hs, hv⟩
  · obtain ⟨c, fz, hc, hn⟩ := h.ty b E n ht
    exact ⟨c, fz, by rw [old b (Array.getElem?_eq_some_iff.1 hc).1]; exact hc, hn⟩
  · have := h.bs; simp only [World.size_alloc]; omega

/-- cells that nobody will write any more are kept as they are -/
theorem Rel.keep (h : Rel G K σ w) (b : Nat) (p : Nat → Bool) (hbase : σ.box b = none) (htip : ∀ n s, σ.tip b = some (n, s) → ∀ o, p o = true → o < n * s) :
    let K' : Ctx := { K with imm := fun i o => if i = b ∧ p o = true then w.cell? ⟨b, o, none⟩ else K.imm i o }
    K.le K' ∧ Rel G K' σ w := by
  intro K'
  have hle : K.le K' := by
    refine ⟨fun i o v hv => ?_, fun _ _ h => h, rfl, rfl⟩
    show (if i = b ∧ p o = true then w.cell? ⟨b, o, none⟩ else K.imm i o) = some v
    split
    · rename_i hi; obtain ⟨rfl, _⟩ := hi; exact h.imm _ _ _ hv
    · exact hv
  refine ⟨hle, fun i o v hv => ?_, h.row, fun i cs hi => ?_, fun i n s hi => ?_, h.ty, fun g => (h.glob g).mono hle, h.below, h.bs⟩
  · have hv' : (if i = b ∧ p o = true then w.cell? ⟨b, o, none⟩ else K.imm i o) = some v := hv
    split at hv'
    · rename_i hi; obtain ⟨rfl, _⟩ := hi; exact hv'
    · exact h.imm _ _ _ hv'
  · obtain ⟨h1, h2, h3, h4, h5, c, E, hc, hs, hvv⟩ := h.box i cs hi
    have hne : i ≠ b := fun e => by subst e; rw [hbase] at hi; cases hi
    refine ⟨h1, h2, h3, fun o => ?_, h5, c, E, hc, hs, fun j hj => (hvv j hj).mono hle⟩
    show (if i = b ∧ p o = true then _ else K.imm i o) = none
    rw [if_neg (fun x => hne x.1)]; exact h4 o
  · obtain ⟨h1, cap, E, hr, hn, ho⟩ := h.tip i n s hi
    refine ⟨h1, cap, E, hr, hn, fun o hlo => ?_⟩
    show (if i = b ∧ p o = true then _ else K.imm i o) = none
    split
    · rename_i hx
      obtain ⟨rfl, hp⟩ := hx
      have := htip n s hi o hp
      omega
    · exact ho o hlo

/-- a new box -/
theorem Rel.addBox (h : Rel G K σ w) (c : Array Value) (E : TypeId) (cs : List AV) (hl : cs.length ≤ c.size) (h1 : ∀ a, a ∈ cs → one a = true)
    (hv : ∀ j (hj : j < cs.length), VR K cs[j] (c.getD j Go.undef)) : Rel G K (σ.setBox w.heap.size cs) (w.alloc (.cells c E)) := by
  have h' := h.alloc (.cells c E)
  have hf := h.fresh (Nat.le_refl w.heap.size)
  refine ⟨h'.imm, h'.row, fun b cs' hb => ?_, fun b n s hb => h'.tip b n s hb, h'.ty, h'.glob, h'.below, h'.bs⟩
  by_cases hbe : b = w.heap.size
  · subst hbe
    simp only [AS.setBox, if_true, Option.some.injEq] at hb
    subst hb
    exact ⟨h.bs, hf.2.1, trivial, h.imm_none (Nat.le_refl _), h1, c, E, heap_alloc_new w _, hl, hv⟩
  · simp only [AS.setBox, if_neg hbe] at hb
    exact h'.box b cs' hb

/-- what is left of a state when some of it is let go -/
theorem Rel.weaken (h : Rel G K σ w) {σ' : AS} (hl : σ'.le σ) : Rel G K σ' w := by
  refine ⟨h.imm, fun b cap s E hr => ?_, fun b cs hb => ?_, fun b n s hb => h.tip b n s (hl.tip _ _ hb), fun b E n hb => h.ty b E n (hl.ty _ _ hb), h.glob, h.below, h.bs⟩
  · obtain ⟨cur, fz, h1, h2, h3, h4⟩ := h.row b cap s E hr
    exact ⟨cur, fz, h1, h2, h3, fun ⟨x, hx⟩ => h4 ⟨x, hl.tip _ _ hx⟩⟩
  obtain ⟨h1, h2, h3, h4⟩ := h.box b cs (hl.box _ _ hb)
  refine ⟨h1, ?_, h3, h4⟩
  cases e : σ'.tip b with
  | none => rfl
  | some n => have := hl.tip _ _ e; rw [h2] at this; cases this

/-- what type a block is of -/
theorem Rel.typed (h : Rel G K σ w) {b : Nat} {c : Array Value} {E : TypeId} {fz : Nat × Nat} {n : Nat} (hc : w.heap[b]? = some (.cells c E fz)) (hn : c.size = n) : Rel G K (σ.setTy b (E, n)) w := by
  refine ⟨h.imm, h.row, h.box, h.tip, fun i F m hi => ?_, h.glob, h.below, h.bs⟩
  have hi' : (if i = b then some (E, n) else σ.ty i) = some (F, m) := hi
  split at hi'
  · rename_i he
    subst he
    simp only [Option.some.injEq, Prod.mk.injEq] at hi'
    obtain ⟨rfl, rfl⟩ := hi'
    exact ⟨c, fz, hc, hn⟩
  · exact h.ty i F m hi'
/-- a store into a box -/
theorem Rel.setBox (h : Rel G K σ w) {b : Nat} {cs cs' : List AV} (hb : σ.box b = some cs) {c : Array Value} {E : TypeId} (hc : w.heap[b]? = some (.cells c E (0, 0))) (c' : Array Value) (hcs : c'.size = c.size) (hl : cs'.length ≤ c'.size)
    (h1 : ∀ a, a ∈ cs' → one a = true) (hv : ∀ j (hj : j < cs'.length), VR K cs'[j] (c'.getD j Go.undef)) : Rel G K (σ.setBox b cs') (w.setRow b c') := by
  obtain ⟨g1, g2, g3, g4, g5, _⟩ := h.box b cs hb
  have hnew : (w.setRow b c').heap[b]? = some (.cells c' E (0, 0)) := setRow_heap w b c c' E (0, 0) hc
  have old : ∀ i, i ≠ b → (w.setRow b c').heap[i]? = w.heap[i]? := fun i hi => setRow_other w b i c' hi
  have hsize : (w.setRow b c').heap.size = w.heap.size := by simp [World.setRow]
  refine ⟨fun i o v hi => ?_, fun i cap s F hr => ?_, fun i ds hi => ?_, h.tip, fun i F n ht => ?_, h.glob, ?_, by rw [hsize]; exact h.bs⟩
  · have hne : i ≠ b := fun e => by subst e; rw [g4 o] at hi; cases hi
    rw [World.cell?_of_block (w := w) (old i hne)]; exact h.imm i o v hi
  · obtain ⟨cur, fz, hcur, hx⟩ := h.row i cap s F hr
    by_cases hib : i = b
    · subst hib
      rw [hc] at hcur
      simp only [Option.some.injEq, Obj.cells.injEq] at hcur
      obtain ⟨rfl, rfl, rfl⟩ := hcur
      exact ⟨c', _, hnew, by rw [hcs]; exact hx.1, hx.2⟩
    · exact ⟨cur, fz, by rw [old i hib]; exact hcur, hx⟩
  · by_cases hib : i = b
    · subst hib
      simp only [AS.setBox, if_true, Option.some.injEq] at hi
      subst hi
      exact ⟨g1, g2, g3, g4, h1, c', E, hnew, hl, hv⟩
    · simp only [AS.setBox, if_neg hib] at hi
      obtain ⟨k1, k2, k3, k4, k5, d, F, hd, hds, hdv⟩ := h.box i ds hi
      exact ⟨k1, k2, k3, k4, k5, d, F, by rw [old i hib]; exact hd, hds, hdv⟩
  · obtain ⟨d, fz, hd, hn⟩ := h.ty i F n ht
    by_cases hib : i = b
    · subst hib
      rw [hc] at hd
      simp only [Option.some.injEq, Obj.cells.injEq] at hd
      obtain ⟨rfl, rfl, rfl⟩ := hd
      exact ⟨c', _, hnew, by rw [hcs]; exact hn⟩
    · exact ⟨d, fz, by rw [old i hib]; exact hd, hn⟩
  · exact h.below.trans ⟨rfl, rfl, rfl, by rw [hsize]; exact Nat.le_refl _, fun k hk => old k (by omega)⟩
end rel
end Go.Av
set_option linter.unusedVariables false
set_option linter.unusedSimpArgs false
namespace Go.Av
open Go Go.RowKit

def ofCell : Value → AV
  | .bool b => .bool b
  | .int k n => .int k n
  | .string s => .str s.data.toList
  | .slice none 0 0 => .nil
  | .pointer none => .nilptr
  | .nilFunc => .nilfn
  | v => .raw v
def ofConst : Value → AV
  | .agg cs => if cs.toList.all (fun c => one (ofCell c)) then .agg (cs.toList.map ofCell) else .raw (.agg cs)
  | .tuple cs => .tup (cs.toList.map ofCell)
  | v => ofCell v
theorem VR.ofCell (K : Ctx) (v : Value) : VR K (ofCell v) v := by
  unfold Av.ofCell
  split <;> first | exact .bool _ | exact .int _ _ | exact .nil | exact .nilptr | exact .nilfn | exact .raw _ | exact .str _
theorem VR.ofCells (K : Ctx) (cs : Array Value) : ∀ j (h : j < (cs.toList.map Av.ofCell).length), VR K (cs.toList.map Av.ofCell)[j] (cs.getD j Go.undef) := by
  intro j h
  have hj : j < cs.size := by simpa using h
  simp only [List.getElem_map, Array.getElem_toList]
  rw [show cs.getD j Go.undef = cs[j] by simp [Array.getD, hj]]
  exact VR.ofCell K _
theorem VR.ofConst (K : Ctx) (v : Value) : VR K (ofConst v) v := by
  unfold Av.ofConst
  split
  · rename_i cs
    split
    · rename_i h
      refine .agg _ _ (by simp) (fun c hc => ?_) (VR.ofCells K cs)
      obtain ⟨x, hx, rfl⟩ := List.mem_map.1 hc
      exact List.all_eq_true.1 h x hx
    · exact .raw _
  · rename_i cs
    exact .tup _ _ (by simp) (VR.ofCells K cs)
  · exact VR.ofCell K v

abbrev Env := Nat → AV
def ev (G : Nat → AV) (e : Env) : Operand → AV
  | .tmp t => e t
  | .const v => ofConst v
  | .global g => G g
  | .func f => .fn f []
def Env.upd (e : Env) (d : Option Tmp) (v : AV) : Env :=
  match d with
  | some d => fun j => if j = d then v else e j
  | none => e
def ER (K : Ctx) (e : Env) (a : Act) : Prop := ∀ t, VR K (e t) (a.tmps.getD t Go.undef)
theorem ER.mono {K K' : Ctx} (h : K.le K') {e : Env} {a : Act} (k : ER K e a) : ER K' e a := fun t => (k t).mono h
theorem ER.eval {G : Nat → AV} {K : Ctx} {σ : AS} {w : World} {e : Env} {a : Act} (h : ER K e a) (hr : Rel G K σ w) (x : Operand) : VR K (ev G e x) (a.eval x) := by
  cases x with
  | tmp t => exact h t
  | const v => exact VR.ofConst K v
  | global g => exact hr.glob g
  | func f => exact .fn f [] #[] rfl (fun j h => by cases h)
theorem ER.put {K : Ctx} {e : Env} {a : Act} (h : ER K e a) {d : Option Tmp} (hd : ∀ t, d = some t → t < a.tmps.size) {r : AV} {v : Value} (hv : VR K r v) :
    ER K (e.upd d r) (a.put d v) := by
  cases d with
  | none => exact h
  | some d =>
    intro t
    have hlt := hd d rfl
    simp only [Env.upd, Act.put]
    by_cases htd : t = d
    · subst htd; simpa [hlt] using hv
    · rw [if_neg htd]
      have := h t
      simp only [Array.getD_eq_getD_getElem?] at this ⊢
      rw [Array.getElem?_setIfInBounds_ne (Ne.symm htd)]
      exact this

/-! ### what the program's tables say of a type -/
section tables
variable (P : Program)
def tk (t : TypeId) : Option (Bool × Nat) :=
  match P.underlying t, P.info? t with
  | some d, some i => some ((match d with | .struct _ => true | .array _ _ => true | _ => false), i.size)
  | _, _ => none
def el (t : TypeId) : Option TypeId :=
  match P.underlying t with
  | some (.slice e) => some e
  | _ => none
def fld (t : TypeId) (i : Nat) : Option (Nat × Bool × Nat) :=
  match P.underlying t with
  | some (.struct fs) => match fs[i]? with
    | some f => (tk P f.type).map fun x => (f.offset, x)
    | none => none
  | _ => none
/-- an array type: how many, and how many cells each -/
def arrT (t : TypeId) : Option (Nat × Nat) :=
  match P.underlying t with
  | some (.array m e) => (P.info? e).map fun i => (m, i.size)
  | _ => none
end tables

theorem run_tk {P : Program} {t : TypeId} {b : Bool} {n : Nat} (h : tk P t = some (b, n)) (w : World) :
    (isAgg t).run P w = .ok b w ∧ (sizeOf t).run P w = .ok n w ∧ (P.info? t).map (·.size) = some n := by
  unfold tk at h
  split at h
  · rename_i d i hd hi
    simp only [Option.some.injEq, Prod.mk.injEq] at h
    obtain ⟨h1, h2⟩ := h
    refine ⟨?_, by simp [sizeOf, typeInfo, hi, h2], by simp [hi, h2]⟩
    unfold isAgg
    simp only [Sem.run_bind, run_underlying hd]
    subst h1
    cases d <;> rfl
  · cases h
theorem run_el {P : Program} {t e : TypeId} (h : el P t = some e) : P.underlying t = some (.slice e) := by
  unfold el at h
  split at h
  · rename_i x hx; simp only [Option.some.injEq] at h; subst h; exact hx
  · cases h

/-! ### reading cells -/
def rd (ag : Bool) (n : Nat) (cs : List AV) : Option AV :=
  if ag then (if n ≤ cs.length then some (.agg (cs.take n)) else none) else cs.head?
def aload (P : Program) (σ : AS) (t : TypeId) (p : AV) : Option AV :=
  match tk P t with
  | none => none
  | some (ag, n) =>
    match p with
    | .ptr b o => match σ.box b with
      | some cs => rd ag n (cs.drop o)
      | none => none
    | .rp cs => rd ag n cs
    | _ => none

theorem run_load_cell {P : Program} {w : World} {a : Addr} {v : Value} (h : w.cell? a = some v) : (load a).run P w = .ok v w := by simp [run_load, h]

/-- cells that stand in a row are read as abstract ones -/
theorem rd_sound {P : Program} {K : Ctx} {w : World} {t : TypeId} {ag : Bool} {n : Nat} (ht : tk P t = some (ag, n)) {cs : List AV} {b o : Nat} {f : Nat → Value}
    (hc : ∀ j, j < cs.length → w.cell? ⟨b, o + j, none⟩ = some (f j)) (h1 : ∀ c, c ∈ cs → one c = true) (hv : ∀ j (h : j < cs.length), VR K cs[j] (f j)) {r : AV} (hr : rd ag n cs = some r) :
    ∃ v, (loadVar t ⟨b, o, none⟩).run P w = .ok v w ∧ VR K r v := by
  obtain ⟨ht1, ht2, _⟩ := run_tk ht w
  unfold rd at hr
  cases ag with
  | true =>
    simp only [if_true] at hr
    split at hr
    · rename_i hn
      simp only [Option.some.injEq] at hr
      subst hr
      have hl := run_loadCells (P := P) w ⟨b, o, none⟩ n f (fun j hj => by rw [Addr.add_lit]; exact hc j (by omega))
      refine ⟨.agg ((List.range n).map f).toArray, ?_, .agg _ _ (by simp [hn]) (fun c hcm => h1 c (List.mem_of_mem_take hcm)) (fun j hj => ?_)⟩
      · unfold loadVar
        simp [ht1, ht2, hl]
      · have hjn : j < n := by simp at hj; omega
        have hjc : j < cs.length := by omega
        simpa [Array.getD, hjn] using hv j hjc
    · cases hr
  | false =>
    simp only [Bool.false_eq_true, if_false] at hr
    cases cs with
    | nil => cases hr
    | cons c rest =>
      simp only [List.head?_cons, Option.some.injEq] at hr
      subst hr
      have h0 := hc 0 (by simp)
      simp only [Nat.add_zero] at h0
      refine ⟨f 0, ?_, hv 0 (by simp)⟩
      unfold loadVar
      simp only [Sem.run_bind, ht1, Bool.false_eq_true, if_false]
      exact run_load_cell h0

theorem aload_sound {P : Program} {G : Nat → AV} {K : Ctx} {σ : AS} {w : World} (hr : Rel G K σ w) {t : TypeId} {p r : AV} (h : aload P σ t p = some r) {v : Value} (hv : VR K p v) :
    ∃ u, (Instr.loadAt t v).run P w = .ok u w ∧ VR K r u := by
  unfold aload at h
  split at h
  · cases h
  rename_i ag n ht
  cases p with
  | ptr b o =>
    rw [VR.ptr_iff] at hv; subst hv
    simp only at h
    split at h
    · rename_i cs hb
      obtain ⟨_, _, _, _, h1, c, E, hc, hs, hvv⟩ := hr.box b cs hb
      have := rd_sound (P := P) (K := K) (w := w) ht (cs := cs.drop o) (b := b) (o := o) (f := fun j => c.getD (o + j) Go.undef)
        (fun j hj => by
          have hj' : o + j < c.size := by simp at hj; omega
          rw [cell_of_row w b (o + j) c E (0, 0) hc]; simp [Array.getD, hj'])
        (fun x hx => h1 x (List.mem_of_mem_drop hx)) (fun j hj => by
          have hj' : o + j < cs.length := by simp at hj; omega
          simpa using hvv (o + j) hj') h
      obtain ⟨u, hu, hru⟩ := this
      exact ⟨u, by simpa [Instr.loadAt, Instr.sureAddr] using hu, hru⟩
    · cases h
  | rp cs =>
    simp only at h
    cases hv with
    | rp _ b off f h1 himm hvv =>
      obtain ⟨u, hu, hru⟩ := rd_sound (P := P) (K := K) (w := w) ht (cs := cs) (b := b) (o := off) (f := f) (fun j hj => hr.imm _ _ _ (himm j hj)) h1 hvv h
      exact ⟨u, by simpa [Instr.loadAt, Instr.sureAddr] using hu, hru⟩
  | _ => cases h

/-! ### addresses of fields, of items -/
def afield (P : Program) (t : TypeId) (p : AV) (i : Nat) : Option AV :=
  match fld P t i with
  | some (off, _, n) => if n = 0 then none else
    match p with
    | .ptr b o => some (.ptr b (o + off))
    | .rp cs => some (.rp (cs.drop off))
    | _ => none
  | none => none
theorem afield_sound {P : Program} {K : Ctx} {w : World} {t : TypeId} {p r : AV} {i : Nat} (h : afield P t p i = some r) {v : Value} (hv : VR K p v) :
    ∃ u, (Instr.fieldAt t v i).run P w = .ok u w ∧ VR K r u := by
  unfold afield at h
  split at h
  · rename_i off ag n hf
    split at h
    · cases h
    rename_i hn
    unfold fld at hf
    split at hf
    · rename_i fs hu
      split at hf
      · rename_i f hfi
        cases htk : tk P f.type with
        | none => rw [htk] at hf; cases hf
        | some x =>
          rw [htk] at hf
          simp only [Option.map_some, Option.some.injEq, Prod.mk.injEq] at hf
          obtain ⟨rfl, hx⟩ := hf
          obtain ⟨_, hs, _⟩ := run_tk (b := x.1) (n := x.2) htk w
          have hxn : x.2 = n := by rw [hx]
          have key : ∀ b o, (Instr.fieldAt t (.pointer (some ⟨b, o, none⟩)) i).run P w = .ok (.pointer (some ⟨b, o + f.offset, none⟩)) w := by
            intro b o
            have hz : ¬ (x.2 = 0) := by rw [hxn]; exact hn
            simp [Instr.fieldAt, run_underlying hu, hfi, Instr.sureAddr, fieldPlace, hs, hz, Addr.add_lit]
          cases p with
          | ptr b o =>
            rw [VR.ptr_iff] at hv; subst hv
            simp only [Option.some.injEq] at h; subst h
            exact ⟨_, key b o, .ptr _ _⟩
          | rp cs =>
            simp only [Option.some.injEq] at h; subst h
            cases hv with
            | rp _ b o g h1 himm hvv =>
              refine ⟨_, key b o, .rp _ _ _ (fun j => g (f.offset + j)) (fun c hc => h1 c (List.mem_of_mem_drop hc)) (fun j hj => ?_) (fun j hj => ?_)⟩
              · have hj' : f.offset + j < cs.length := by simp at hj; omega
                rw [Nat.add_assoc]; exact himm _ hj'
              · have hj' : f.offset + j < cs.length := by simp at hj; omega
                simpa using hvv _ hj'
          | _ => cases h
      · cases hf
    · cases hf
  · cases h

theorem flatMap_at {sz : Nat} : ∀ (l : List AV), (∀ e, e ∈ l → (flat e).length = sz) → ∀ i (hi : i < l.length) j, j < sz →
    (l.flatMap flat)[i * sz + j]? = (flat l[i])[j]? := by
  intro l
  induction l with
  | nil => intro _ i hi; cases hi
  | cons x l ih =>
    intro h i hi j hj
    have hx := h x (by simp)
    cases i with
    | zero => simp only [List.flatMap_cons, Nat.zero_mul, Nat.zero_add, List.getElem_cons_zero]; rw [List.getElem?_append_left (by omega)]
    | succ i =>
      simp only [List.flatMap_cons, List.getElem_cons_succ]
      rw [List.getElem?_append_right (by rw [hx, Nat.succ_mul]; omega)]
      rw [show (i + 1) * sz + j - (flat x).length = i * sz + j by rw [hx, Nat.succ_mul]; omega]
      exact ih (fun e he => h e (by simp [he])) i (by simpa using hi) j hj
theorem flatMap_length {sz : Nat} : ∀ (l : List AV), (∀ e, e ∈ l → (flat e).length = sz) → (l.flatMap flat).length = l.length * sz := by
  intro l
  induction l with
  | nil => intro _; simp
  | cons x l ih =>
    intro h
    simp only [List.flatMap_cons, List.length_append, h x (by simp), ih (fun e he => h e (by simp [he])), List.length_cons, Nat.succ_mul]
    omega

def aindexA (P : Program) (t : TypeId) (x i : AV) : Option AV :=
  match x, i with
  | .sl _ xs _, .int _ i => (match el P t with
    | none => none
    | some e => match tk P e with
      | some (_, n) => if 0 ≤ i then match xs[i.toNat]? with
          | some a => if (flat a).length = n then some (.rp (flat a)) else none
          | none => none
        else none
      | none => none)
  | .rp cs, .int _ i => (match arrT P t with
    | some (m, n) => if 0 ≤ i ∧ i < m then some (.rp (cs.drop (i.toNat * n))) else none
    | none => none)
  | .ptr b o, .int _ i => (match arrT P t with
    | some (m, n) => if 0 ≤ i ∧ i < m then some (.ptr b (o + i.toNat * n)) else none
    | none => none)
  | .bs b m s _, .int _ i => (match el P t with
    | none => none
    | some e => match tk P e with
      | some (_, n) => if 0 ≤ i ∧ i < m then some (.ptr b (i.toNat * n)) else none
      | none => none)
  | _, _ => none

/-- the cells of an item of a slice -/
theorem sl_item {K : Ctx} {g : Gh} {xs sp : List AV} {v : Value} (hv : VR K (.sl g xs sp) v) {i : Nat} (hi : i < xs.length) :
    ∃ b off cap, ∃ f : Nat → Value, v = .slice (some ⟨b, off, none⟩) xs.length cap ∧ (∀ j, j < (flat xs[i]).length → K.imm b (off + i * (flat xs[i]).length + j) = some (f j)) ∧
      (∀ j (h : j < (flat xs[i]).length), VR K (flat xs[i])[j] (f j)) ∧ isv xs[i] = true ∧ (∀ c, c ∈ flat xs[i] → one c = true) := by
  cases hv with
  | sl0 a => cases hi
  | sl _ _ _ sz b off cap f hsz hcap hml himm hv hg =>
    have hm : xs[i] ∈ xs ++ sp := List.mem_append_left _ (List.getElem_mem hi)
    have hl := (hsz _ hm).1
    have hlen := flatMap_length (sz := sz) (xs ++ sp) (fun e he => (hsz e he).1)
    refine ⟨b, off, cap, fun j => f (i * sz + j), rfl, fun j hj => ?_, fun j hj => ?_, (hsz _ hm).2⟩
    · rw [hl] at hj ⊢
      have : i * sz + j < ((xs ++ sp).flatMap flat).length := by
        rw [hlen, List.length_append]
        have h1 : (i + 1) * sz ≤ (xs.length + sp.length) * sz := Nat.mul_le_mul_right _ (by omega)
        rw [Nat.succ_mul] at h1; omega
      rw [Nat.add_assoc]; exact himm _ this
    · have hj' : j < sz := by rw [hl] at hj; exact hj
      have hlt : i * sz + j < ((xs ++ sp).flatMap flat).length := by
        rw [hlen, List.length_append]
        have h1 : (i + 1) * sz ≤ (xs.length + sp.length) * sz := Nat.mul_le_mul_right _ (by omega)
        rw [Nat.succ_mul] at h1; omega
      have h2 := flatMap_at (sz := sz) (xs ++ sp) (fun e he => (hsz e he).1) i (by simp; omega) j hj'
      rw [List.getElem?_eq_getElem hlt] at h2
      have h3 : (xs ++ sp)[i]'(by simp; omega) = xs[i] := List.getElem_append_left hi
      rw [h3, List.getElem?_eq_getElem hj] at h2
      have h4 := hv _ hlt
      rw [Option.some.inj h2] at h4
      exact h4

theorem run_indexAt_sl {P : Program} (w : World) {t e : TypeId} {ag : Bool} {n : Nat} (ht : el P t = some e) (hn : tk P e = some (ag, n)) (b off len cap : Nat) (k : IntKind) (i : Nat) (hi : i < len) :
    (Instr.indexAt t (.slice (some ⟨b, off, none⟩) len cap) (.int k i)).run P w = .ok (.pointer (some ⟨b, off + i * n, none⟩)) w := by
  obtain ⟨_, hs, _⟩ := run_tk hn w
  have hu := run_el ht
  have h1 : (0 : Int) ≤ (i : Int) ∧ (i : Int) < (len : Int) := by omega
  simp [Instr.indexAt, asIntOf, run_underlying hu, h1, hs, Addr.add_lit]
  omega

theorem run_indexAt_arr {P : Program} (w : World) {t : TypeId} {m n : Nat} (ht : arrT P t = some (m, n)) (b off : Nat) (k : IntKind) (i : Int) (h0 : 0 ≤ i) (h1 : i < m) :
    (Instr.indexAt t (.pointer (some ⟨b, off, none⟩)) (.int k i)).run P w = .ok (.pointer (some ⟨b, off + i.toNat * n, none⟩)) w := by
  unfold arrT at ht
  split at ht
  · rename_i m' e hu
    cases hi : P.info? e with
    | none => rw [hi] at ht; cases ht
    | some inf =>
      rw [hi] at ht
      simp only [Option.map_some, Option.some.injEq, Prod.mk.injEq] at ht
      obtain ⟨rfl, rfl⟩ := ht
      simp [Instr.indexAt, asIntOf, run_underlying hu, Instr.sureAddr, sizeOf, typeInfo, hi, h0, h1, Addr.add_lit]
  · cases ht
theorem aindexA_sound {P : Program} {K : Ctx} {w : World} (hK : ∀ b o v, K.imm b o = some v → w.cell? ⟨b, o, none⟩ = some v) {t : TypeId} {x i r : AV} (h : aindexA P t x i = some r) {v u : Value} (hv : VR K x v) (hu : VR K i u) :
    ∃ z, (Instr.indexAt t v u).run P w = .ok z w ∧ VR K r z := by
  unfold aindexA at h
  split at h
  · rename_i g xs sp k i
    split at h
    · cases h
    rename_i e he
    split at h
    case h_2 => cases h
    rename_i ag n hn
    split at h
    case isFalse => cases h
    rename_i h0
    split at h
    case h_2 => cases h
    rename_i a ha
    split at h
    case isFalse => cases h
    rename_i hlen
    simp only [Option.some.injEq] at h
    subst h
    rw [VR.int_iff] at hu; subst hu
    obtain ⟨hi, hai⟩ := List.getElem?_eq_some_iff.1 ha
    obtain ⟨b, off, cap, f, rfl, h1, h2, h3, h4⟩ := sl_item hv hi
    rw [hai] at h1 h2 h4
    rw [hlen] at h1
    have hrun := run_indexAt_sl (P := P) w he hn b off xs.length cap k i.toNat hi
    rw [Int.toNat_of_nonneg h0] at hrun
    exact ⟨_, hrun, .rp _ _ _ f h4 (fun j hj => h1 j (by omega)) h2⟩
  · rename_i cs k i
    split at h
    case h_2 => cases h
    rename_i m n hm
    split at h
    case isFalse => cases h
    rename_i hc
    simp only [Option.some.injEq] at h
    subst h
    rw [VR.int_iff] at hu; subst hu
    cases hv with
    | rp _ b o g h1 himm hvv =>
      refine ⟨_, run_indexAt_arr w hm b o k i hc.1 hc.2, .rp _ _ _ (fun j => g (i.toNat * n + j)) (fun c hcm => h1 c (List.mem_of_mem_drop hcm)) (fun j hj => ?_) (fun j hj => ?_)⟩
      · have hj' : i.toNat * n + j < cs.length := by simp at hj; omega
        rw [Nat.add_assoc]; exact himm _ hj'
      · have hj' : i.toNat * n + j < cs.length := by simp at hj; omega
        simpa using hvv _ hj'
  · rename_i b o k i
    split at h
    case h_2 => cases h
    rename_i m n hm
    split at h
    case isFalse => cases h
    rename_i hc
    simp only [Option.some.injEq] at h
    subst h
    rw [VR.int_iff] at hu; subst hu
    rw [VR.ptr_iff] at hv; subst hv
    exact ⟨_, run_indexAt_arr w hm b o k i hc.1 hc.2, .ptr _ _⟩
  · rename_i b m q E0 k i
    split at h
    · cases h
    rename_i e he
    split at h
    case h_2 => cases h
    rename_i ag n hn
    split at h
    case isFalse => cases h
    rename_i hc
    simp only [Option.some.injEq] at h
    subst h
    rw [VR.int_iff] at hu; subst hu
    cases hv with
    | bs _ _ _ cap E hr hnn hm =>
      have hrun := run_indexAt_sl (P := P) w he hn b 0 m cap k i.toNat (by omega)
      rw [Int.toNat_of_nonneg hc.1, Nat.zero_add] at hrun
      exact ⟨_, hrun, .ptr _ _⟩
  · cases h
end Go.Av
set_option linter.unusedVariables false
set_option linter.unusedSimpArgs false
namespace Go.Av
open Go Go.RowKit

inductive SK where
  | bool | int (k : IntKind) | str | sl (e : TypeId) | ptr (e : TypeId) | fn | st | map (k e : TypeId) | arr (n : Nat) (e : TypeId) | oth
  deriving DecidableEq
def skOf : Option TypeDesc → SK
  | some .bool => .bool
  | some (.int k) => .int k
  | some .string => .str
  | some (.slice e) => .sl e
  | some (.pointer e) => .ptr e
  | some (.func ..) => .fn
  | some (.struct _) => .st
  | some (.map k e) => .map k e
  | some (.array n e) => .arr n e
  | _ => .oth
def sk (P : Program) (t : TypeId) : SK := skOf (P.underlying t)
section sk
variable {P : Program} {t : TypeId}
theorem sk_bool (h : sk P t = .bool) : P.underlying t = some .bool := by
  unfold sk skOf at h; split at h <;> first | assumption | cases h
theorem sk_int {k : IntKind} (h : sk P t = .int k) : P.underlying t = some (.int k) := by
  unfold sk skOf at h; split at h <;> first | (cases h; assumption) | cases h
theorem sk_str (h : sk P t = .str) : P.underlying t = some .string := by
  unfold sk skOf at h; split at h <;> first | assumption | cases h
theorem sk_ptr {e : TypeId} (h : sk P t = .ptr e) : P.underlying t = some (.pointer e) := by
  unfold sk skOf at h; split at h <;> first | (cases h; assumption) | cases h
theorem sk_fn (h : sk P t = .fn) : ∃ a b c, P.underlying t = some (.func a b c) := by
  unfold sk skOf at h; split at h <;> first | exact ⟨_, _, _, by assumption⟩ | cases h
end sk

/-! ### two operands -/
def abinI (op : BinOp) (k : IntKind) (a : Int) (k' : IntKind) (b : Int) : Option AV :=
  match op with
  | .shl => if b < 0 then none else some (.int k (k.wrap (a * 2 ^ (min b.toNat k.bits))))
  | .shr => if b < 0 then none else some (.int k (a.fdiv (2 ^ (min b.toNat k.bits))))
  | op => if k ≠ k' then none else
    match op with
    | .add => some (.int k (k.wrap (a + b)))
    | .sub => some (.int k (k.wrap (a - b)))
    | .mul => some (.int k (k.wrap (a * b)))
    | .quo => if b = 0 then none else some (.int k (k.wrap (a.tdiv b)))
    | .rem => if b = 0 then none else some (.int k (a.tmod b))
    | .and => some (.int k (k.wrap ((BitVec.ofInt k.bits a &&& BitVec.ofInt k.bits b).toNat)))
    | .or => some (.int k (k.wrap ((BitVec.ofInt k.bits a ||| BitVec.ofInt k.bits b).toNat)))
    | .xor => some (.int k (k.wrap ((BitVec.ofInt k.bits a ^^^ BitVec.ofInt k.bits b).toNat)))
    | .andNot => some (.int k (k.wrap ((BitVec.ofInt k.bits a &&& ~~~BitVec.ofInt k.bits b).toNat)))
    | .eql => some (.bool (a == b))
    | .neq => some (.bool (a != b))
    | .lss => some (.bool (decide (a < b)))
    | .leq => some (.bool (decide (a ≤ b)))
    | .gtr => some (.bool (decide (b < a)))
    | .geq => some (.bool (decide (b ≤ a)))
    | _ => none
def abinS (op : BinOp) (a b : List UInt8) : Option AV :=
  match op with
  | .add => if a.length + b.length ≤ maxLen then some (.str (a ++ b)) else none
  | .eql => some (.bool (a == b))
  | .neq => some (.bool (!(a == b)))
  | .lss => some (.bool (Op.bytesLess a b))
  | .leq => some (.bool (Op.bytesLess a b || a == b))
  | .gtr => some (.bool (!(Op.bytesLess a b || a == b)))
  | .geq => some (.bool (!(Op.bytesLess a b)))
  | _ => none
def aeq (op : BinOp) (r : Bool) : Option AV :=
  match op with
  | .eql => some (.bool r)
  | .neq => some (.bool (!r))
  | _ => none
/-- may it be the nil slice? -/
def isNil : Gh → List AV → Bool
  | .none, [] => true
  | _, _ => false
/-- a struct's fields, where each is a bool, a number, a text, and they may be compared -/
def fldK (P : Program) : List Field → Nat → Option (List SK)
  | [], _ => some []
  | f :: fs, n => if f.name ≠ "_" ∧ f.offset = n ∧ P.plainKey f.type = true then (fldK P fs (n + 1)).map (sk P f.type :: ·) else none
def eqK (P : Program) (t : TypeId) : Option (List SK) :=
  match P.underlying t with
  | some (.struct fs) => if P.stoodInHeld t = false ∧ P.eqGuardType P.depth t = false then fldK P fs.toList 0 else none
  | _ => none
def fldEq : List SK → List AV → List AV → Option Bool
  | [], [], [] => some true
  | .str :: ks, .str a :: xs, .str b :: ys => (fldEq ks xs ys).map fun r => decide (a = b) && r
  | .int _ :: ks, .int k a :: xs, .int k' b :: ys => if k = k' then (fldEq ks xs ys).map fun r => decide (a = b) && r else none
  | .bool :: ks, .bool a :: xs, .bool b :: ys => (fldEq ks xs ys).map fun r => decide (a = b) && r
  | _, _, _ => none
def abin (P : Program) (op : BinOp) (t : TypeId) (x y : AV) : Option AV :=
  match x, y with
  | .int k a, .int k' b => abinI op k a k' b
  | .str a, .str b => abinS op a b
  | .bool a, .bool b => if sk P t = .bool then aeq op (a == b) else none
  | .nil, .nil => if (el P t).isSome then aeq op true else none
  | .nil, .sl g xs _ => if (el P t).isSome = true ∧ isNil g xs = false then aeq op false else none
  | .sl g xs _, .nil => if (el P t).isSome = true ∧ isNil g xs = false then aeq op false else none
  | .nil, .bs .. => if (el P t).isSome = true then aeq op false else none
  | .bs .., .nil => if (el P t).isSome = true then aeq op false else none
  | .raw (.slice (some _) _ _), .nil => if (el P t).isSome = true then aeq op false else none
  | .fn .., .nilfn => if sk P t = .fn then aeq op false else none
  | .nilfn, .fn .. => if sk P t = .fn then aeq op false else none
  | .nilfn, .nilfn => if sk P t = .fn then aeq op true else none
  | .nilptr, .nilptr => (match sk P t with | .ptr _ => aeq op true | _ => none)
  | .nilptr, .ptr .. => (match sk P t with | .ptr _ => aeq op false | _ => none)
  | .nilptr, .rp .. => (match sk P t with | .ptr _ => aeq op false | _ => none)
  | .ptr .., .nilptr => (match sk P t with | .ptr _ => aeq op false | _ => none)
  | .rp .., .nilptr => (match sk P t with | .ptr _ => aeq op false | _ => none)
  | .agg xs, .agg ys => (eqK P t).bind fun ks => (fldEq ks xs ys).bind (aeq op)
  | _, _ => none

theorem toList_mk (s : List UInt8) : (ByteArray.mk (Array.mk s)).toList = s := by rw [ByteArray.toList_eq]


theorem eq_bool {P : Program} {w : World} {t : TypeId} (h : P.underlying t = some .bool) (a b : Bool) : (Op.equal t (.bool a) (.bool b)).run P w = .ok (a == b) w := by
  have key : ∀ d, (Op.equalIn (d + 1) t (.bool a) (.bool b)).run P w = .ok (a == b) w := fun d => by simp [Op.equalIn, run_underlying h]
  exact key 9999
theorem eq_nn {P : Program} {w : World} {t e : TypeId} (h : P.underlying t = some (.slice e))  : (Op.equal t (.slice none 0 0) (.slice none 0 0)).run P w = .ok true w := by
  have key : ∀ d, (Op.equalIn (d + 1) t (.slice none 0 0) (.slice none 0 0)).run P w = .ok true w := fun d => by simp [Op.equalIn, run_underlying h]
  exact key 9999
theorem eq_ns {P : Program} {w : World} {t e : TypeId} (h : P.underlying t = some (.slice e)) (a : Addr) (n c : Nat) : (Op.equal t (.slice none 0 0) (.slice (some a) n c)).run P w = .ok false w := by
  have key : ∀ d, (Op.equalIn (d + 1) t (.slice none 0 0) (.slice (some a) n c)).run P w = .ok false w := fun d => by simp [Op.equalIn, run_underlying h]
  exact key 9999
theorem eq_sn {P : Program} {w : World} {t e : TypeId} (h : P.underlying t = some (.slice e)) (a : Addr) (n c : Nat) : (Op.equal t (.slice (some a) n c) (.slice none 0 0)).run P w = .ok false w := by
  have key : ∀ d, (Op.equalIn (d + 1) t (.slice (some a) n c) (.slice none 0 0)).run P w = .ok false w := fun d => by simp [Op.equalIn, run_underlying h]
  exact key 9999
theorem eq_fn {P : Program} {w : World} {t : TypeId} (h : sk P t = .fn) (f : Fn) (a b : Array Value) : (Op.equal t (.func f a b) .nilFunc).run P w = .ok false w := by
  obtain ⟨x, y, z, h⟩ := sk_fn h
  have key : ∀ d, (Op.equalIn (d + 1) t (.func f a b) .nilFunc).run P w = .ok false w := fun d => by simp [Op.equalIn, run_underlying h]
  exact key 9999
theorem eq_nf {P : Program} {w : World} {t : TypeId} (h : sk P t = .fn) (f : Fn) (a b : Array Value) : (Op.equal t .nilFunc (.func f a b)).run P w = .ok false w := by
  obtain ⟨x, y, z, h⟩ := sk_fn h
  have key : ∀ d, (Op.equalIn (d + 1) t .nilFunc (.func f a b)).run P w = .ok false w := fun d => by simp [Op.equalIn, run_underlying h]
  exact key 9999
theorem eq_ff {P : Program} {w : World} {t : TypeId} (h : sk P t = .fn)  : (Op.equal t .nilFunc .nilFunc).run P w = .ok true w := by
  obtain ⟨x, y, z, h⟩ := sk_fn h
  have key : ∀ d, (Op.equalIn (d + 1) t .nilFunc .nilFunc).run P w = .ok true w := fun d => by simp [Op.equalIn, run_underlying h]
  exact key 9999
theorem eq_p0 {P : Program} {w : World} {t e : TypeId} (h : P.underlying t = some (.pointer e)) (b : Option Addr) : (Op.equal t (.pointer none) (.pointer b)).run P w = .ok b.isNone w := by
  have key : ∀ d, (Op.equalIn (d + 1) t (.pointer none) (.pointer b)).run P w = .ok b.isNone w := fun d => by simp [Op.equalIn, run_underlying h]
  exact key 9999
theorem eq_p1 {P : Program} {w : World} {t e : TypeId} (h : P.underlying t = some (.pointer e)) (a : Addr) : (Op.equal t (.pointer (some a)) (.pointer none)).run P w = .ok false w := by
  have key : ∀ d, (Op.equalIn (d + 1) t (.pointer (some a)) (.pointer none)).run P w = .ok false w := fun d => by simp [Op.equalIn, run_underlying h]
  exact key 9999

theorem sk_leaf {P : Program} {t : TypeId} (h : P.plainKey t = true) : (sk P t = .bool ∧ P.underlying t = some .bool) ∨ (∃ k, sk P t = .int k ∧ P.underlying t = some (.int k)) ∨ (sk P t = .str ∧ P.underlying t = some .string) := by
  unfold Program.plainKey at h
  unfold sk skOf
  cases hu : P.underlying t with
  | none => rw [hu] at h; cases h
  | some d => rw [hu] at h; cases d <;> first | exact .inl ⟨rfl, rfl⟩ | exact .inr (.inl ⟨_, rfl, rfl⟩) | exact .inr (.inr ⟨rfl, rfl⟩) | (cases h; done)
theorem eq_flds {P : Program} {K : Ctx} {w : World} {vs us : Array Value} : ∀ (fs : List Field) (n : Nat) (ks : List SK) (xs ys : List AV) (b : Bool), fldK P fs n = some ks → fldEq ks xs ys = some b →
    (vs.size = n + xs.length) → (us.size = n + ys.length) → (∀ j (h : j < xs.length), VR K xs[j] (vs.getD (n + j) undef)) → (∀ j (h : j < ys.length), VR K ys[j] (us.getD (n + j) undef)) →
    (Op.eqFields 9999 vs us fs).run P w = .ok b w
  | [], n, ks, xs, ys, b, hk, he, hvs, hus, hv, hu => by
    simp only [fldK, Option.some.injEq] at hk
    subst hk
    unfold fldEq at he
    split at he <;> first | (simp at he; done) | skip
    all_goals first
      | (simp only [Option.some.injEq] at he; subst he; simp [Op.eqFields]; done)
      | (cases he; done)
      | simp_all
  | f :: fs, n, ks, xs, ys, b, hk, he, hvs, hus, hv, hu => by
    simp only [fldK] at hk
    split at hk
    case isFalse => cases hk
    rename_i hc
    obtain ⟨c1, c2, c3⟩ := hc
    obtain ⟨ks', hk', rfl⟩ := Option.map_eq_some_iff.1 hk
    have step : ∀ (a c : AV) (xs' ys' : List AV), xs = a :: xs' → ys = c :: ys' → ∃ va vc, vs[n]? = some va ∧ us[n]? = some vc ∧ VR K a va ∧ VR K c vc ∧
        ∀ b', fldEq ks' xs' ys' = some b' → (Op.eqFields 9999 vs us fs).run P w = .ok b' w := by
      intro a c xs' ys' ex ey
      subst ex ey
      simp only [List.length_cons] at hvs hus
      have h1 := hv 0 (by simp)
      have h2 := hu 0 (by simp)
      simp only [List.getElem_cons_zero, Nat.add_zero] at h1 h2
      refine ⟨vs.getD n undef, us.getD n undef, ?_, ?_, h1, h2, fun b' hb' => ?_⟩
      · rw [Array.getD_eq_getD_getElem?, Array.getElem?_eq_getElem (by omega)]; rfl
      · rw [Array.getD_eq_getD_getElem?, Array.getElem?_eq_getElem (by omega)]; rfl
      · refine eq_flds (K := K) fs (n + 1) ks' xs' ys' b' hk' hb' (by omega) (by omega) (fun j hj => ?_) (fun j hj => ?_)
        · have := hv (j + 1) (by simpa using hj)
          rw [show n + 1 + j = n + (j + 1) by omega]
          simpa using this
        · have := hu (j + 1) (by simpa using hj)
          rw [show n + 1 + j = n + (j + 1) by omega]
          simpa using this
    have run : ∀ (va vc : Value) (r : Bool), vs[n]? = some va → us[n]? = some vc → (Op.equalIn 9999 f.type va vc).run P w = .ok r w → ∀ b', (Op.eqFields 9999 vs us fs).run P w = .ok b' w → (Op.eqFields 9999 vs us (f :: fs)).run P w = .ok (r && b') w := by
      intro va vc r h1 h2 h3 b' h4
      have p1 : (part f.type vs f.offset).run P w = .ok va w := run_part_plain w c3 (by rw [c2]; exact h1)
      have p2 : (part f.type us f.offset).run P w = .ok vc w := run_part_plain w c3 (by rw [c2]; exact h2)
      simp only [Op.eqFields, c1, ne_eq, not_false_eq_true, if_true, Sem.run_bind, p1, p2, h3, Result.andThen_ok]
      cases r
      · simp
      · simpa using h4
    unfold fldEq at he
    rcases sk_leaf c3 with ⟨e, hu2⟩ | ⟨k, e, hu2⟩ | ⟨e, hu2⟩
    all_goals
      rw [e] at he
      split at he <;> first | (cases he; done) | skip
    all_goals first
      | (rename_i heq; cases heq; done)
      | skip
    · rename_i ks0 a xs' c ys' heq
      injection heq with e1 e2; subst e2
      obtain ⟨b', hb', rfl⟩ := Option.map_eq_some_iff.1 he
      obtain ⟨va, vc, g1, g2, g3, g4, g5⟩ := step _ _ _ _ rfl rfl
      rw [VR.bool_iff] at g3 g4; subst g3 g4
      have := run _ _ (a == c) g1 g2 (run_equalIn_bool w 9998 f.type a c hu2) b' (g5 b' hb')
      rw [this]; cases a <;> cases c <;> rfl
    · rename_i ks0 k0 a xs' k1 c ys' heq
      injection heq with e1 e2; subst e2
      split at he
      case isFalse => cases he
      rename_i hkk; subst hkk
      obtain ⟨b', hb', rfl⟩ := Option.map_eq_some_iff.1 he
      obtain ⟨va, vc, g1, g2, g3, g4, g5⟩ := step _ _ _ _ rfl rfl
      rw [VR.int_iff] at g3 g4; subst g3 g4
      have := run _ _ (a == c) g1 g2 (run_equalIn_int w 9998 f.type _ _ a c hu2) b' (g5 b' hb')
      rw [this, show (a == c) = decide (a = c) from rfl]
    · rename_i ks0 a xs' c ys' heq
      injection heq with e1 e2; subst e2
      obtain ⟨b', hb', rfl⟩ := Option.map_eq_some_iff.1 he
      obtain ⟨va, vc, g1, g2, g3, g4, g5⟩ := step _ _ _ _ rfl rfl
      rw [VR.str_iff] at g3 g4; subst g3 g4
      have := run _ _ _ g1 g2 (run_equalIn_string w 9998 f.type _ _ hu2) b' (g5 b' hb')
      rw [this, toList_mk, toList_mk]; first | rfl | (congr 2; rw [Bool.eq_iff_iff]; simp)
theorem eq_agg {P : Program} {K : Ctx} {w : World} {t : TypeId} {xs ys : List AV} {vs us : Array Value} {ks : List SK} {b : Bool} (hk : eqK P t = some ks) (he : fldEq ks xs ys = some b) (hv : VR K (.agg xs) (.agg vs)) (hu : VR K (.agg ys) (.agg us)) :
    (Op.equal t (.agg vs) (.agg us)).run P w = .ok b w ∧ P.eqGuardType P.depth t = false := by
  unfold eqK at hk
  split at hk
  case h_2 => cases hk
  rename_i fs hf
  split at hk
  case isFalse => cases hk
  rename_i hc
  have hfo : P.fieldsOf t = fs := by unfold Program.fieldsOf; rw [hf]
  refine ⟨?_, hc.2⟩
  have key : (Op.equalIn (9999 + 1) t (.agg vs) (.agg us)).run P w = .ok b w := by
    rw [run_equalIn_struct w 9999 t vs us (by rw [hfo]; exact hf) hc.1, hfo]
    cases hv with
    | agg _ _ hl h1 hv =>
      cases hu with
      | agg _ _ hl2 h2 hu =>
        exact eq_flds (K := K) fs.toList 0 ks xs ys b hk he (by omega) (by omega) (fun j hj => by rw [Nat.zero_add]; exact hv j hj) (fun j hj => by rw [Nat.zero_add]; exact hu j hj)
  exact key

/-- an operation on two values of which only '==' and '!=' are known -/
theorem aeq_sound {P : Program} {K : Ctx} {w : World} {op : BinOp} {t : TypeId} {v u : Value} {b : Bool} {r : AV} (h : aeq op b = some r) (ox oy : Operand)
    (heq : (Op.equal t v u).run P w = .ok b w)
    (hg : (eqGuard op t ox oy v u).run P w = .ok () w)
    (h1 : binOp .eql t v u = (do pure (.bool (← Op.equal t v u)))) (h2 : binOp .neq t v u = (do pure (.bool (!(← Op.equal t v u))))) :
    ∃ z, (do eqGuard op t ox oy v u; binOp op t v u : Sem Value).run P w = .ok z w ∧ VR K r z := by
  simp only [Sem.run_bind, hg]
  unfold aeq at h
  cases op <;> simp only [Option.some.injEq] at h <;> first | cases h | skip
  · exact ⟨.bool b, by rw [h1]; simp [Sem.run_bind, heq], .bool b⟩
  · exact ⟨.bool (!b), by rw [h2]; simp [Sem.run_bind, heq], .bool (!b)⟩

theorem abin_sound {P : Program} {K : Ctx} {w : World} {op : BinOp} {t : TypeId} {x y r : AV} (h : abin P op t x y = some r) {v u : Value} (hv : VR K x v) (hu : VR K y u) (ox oy : Operand) :
    ∃ z, (do eqGuard op t ox oy v u; binOp op t v u : Sem Value).run P w = .ok z w ∧ VR K r z := by
  unfold abin at h
  split at h
  · -- ints
    rename_i k a k' b
    rw [VR.int_iff] at hv hu; subst hv hu
    have hg : (eqGuard op t ox oy (.int k a) (.int k' b)).run P w = .ok () w := by cases op <;> rfl
    simp only [Sem.run_bind, hg]
    unfold abinI at h
    cases op
    case shl =>
      simp only at h
      split at h
      · cases h
      · rename_i hb
        simp only [Option.some.injEq] at h; subst h
        exact ⟨_, by simp [binOp, Op.shift, hb], .int _ _⟩
    case shr =>
      simp only at h
      split at h
      · cases h
      · rename_i hb
        simp only [Option.some.injEq] at h; subst h
        exact ⟨_, by simp [binOp, Op.shift, hb], .int _ _⟩
    all_goals
      simp only at h
      split at h
      · cases h
      rename_i hk
      simp only [ne_eq, Decidable.not_not] at hk
      subst hk
      first
      | (split at h
         · cases h
         · rename_i hb
           simp only [Option.some.injEq] at h; subst h
           exact ⟨_, by simp [binOp, Op.intDiv, hb], .int _ _⟩)
      | (simp only [Option.some.injEq] at h; subst h
         first
         | (refine ⟨_, ?_, .int _ _⟩; simp only [binOp, ne_eq, not_true_eq_false, if_false]; rfl)
         | (refine ⟨_, ?_, .bool _⟩; simp only [binOp, ne_eq, not_true_eq_false, if_false]; rfl))
      | cases h
  · -- strings
    rename_i a b
    rw [VR.str_iff] at hv hu; subst hv hu
    have hg : (eqGuard op t ox oy (.string ⟨⟨a⟩⟩) (.string ⟨⟨b⟩⟩)).run P w = .ok () w := by cases op <;> rfl
    simp only [Sem.run_bind, hg]
    unfold abinS at h
    cases op <;> simp only [Option.some.injEq] at h <;> first | cases h | skip
    case add =>
      split at h
      · rename_i hl
        simp only [Option.some.injEq] at h; subst h
        have hmax : ¬ (((a.length + b.length : Nat) : Int) > IntKind.i64.max) := by
          have : IntKind.i64.max = 9223372036854775807 := by decide
          unfold maxLen at hl; omega
        have hsz : ∀ l : List UInt8, (ByteArray.mk (Array.mk l)).size = l.length := fun l => rfl
        refine ⟨.string (⟨⟨a⟩⟩ ++ ⟨⟨b⟩⟩), by simp only [binOp, Op.stringOp, hsz]; rw [if_neg hmax]; rfl, ?_⟩
        have : (ByteArray.mk (Array.mk a) ++ ByteArray.mk (Array.mk b)) = ByteArray.mk (Array.mk (a ++ b)) := by
          apply ByteArray.ext
          rw [ByteArray.data_append]
          simp
        rw [this]; exact .str _
      · cases h
    all_goals exact ⟨_, by simp [binOp, Op.stringOp, toList_mk], .bool _⟩
  · rename_i a b
    rw [VR.bool_iff] at hv hu; subst hv hu
    split at h
    · rename_i hs
      exact aeq_sound h ox oy (eq_bool (sk_bool hs) a b) (by cases op <;> rfl) rfl rfl
    · cases h
  · rw [VR.nil_iff] at hv hu; subst hv hu
    split at h
    · rename_i hs
      obtain ⟨e, he⟩ := Option.isSome_iff_exists.1 hs
      exact aeq_sound h ox oy (eq_nn (run_el he)) (by cases op <;> rfl) rfl rfl
    · cases h
  · rw [VR.nil_iff] at hv; subst hv
    split at h
    · rename_i hs
      obtain ⟨hs, hnn⟩ := hs
      obtain ⟨e, he⟩ := Option.isSome_iff_exists.1 hs
      cases hu
      case sl0 => cases hnn
      exact aeq_sound h ox oy (eq_ns (run_el he) _ _ _) (by cases op <;> rfl) rfl rfl
    · cases h
  · rw [VR.nil_iff] at hu; subst hu
    split at h
    · rename_i hs
      obtain ⟨hs, hnn⟩ := hs
      obtain ⟨e, he⟩ := Option.isSome_iff_exists.1 hs
      cases hv
      case sl0 => cases hnn
      exact aeq_sound h ox oy (eq_sn (run_el he) _ _ _) (by cases op <;> rfl) rfl rfl
    · cases h
  · rw [VR.nil_iff] at hv; subst hv
    split at h
    · rename_i hs
      obtain ⟨e, he⟩ := Option.isSome_iff_exists.1 hs
      cases hu
      exact aeq_sound h ox oy (eq_ns (run_el he) _ _ _) (by cases op <;> rfl) rfl rfl
    · cases h
  · rw [VR.nil_iff] at hu; subst hu
    split at h
    · rename_i hs
      obtain ⟨e, he⟩ := Option.isSome_iff_exists.1 hs
      cases hv
      exact aeq_sound h ox oy (eq_sn (run_el he) _ _ _) (by cases op <;> rfl) rfl rfl
    · cases h
  · rw [VR.nil_iff] at hu; subst hu
    split at h
    · rename_i hs
      obtain ⟨e, he⟩ := Option.isSome_iff_exists.1 hs
      cases hv
      exact aeq_sound h ox oy (eq_sn (run_el he) _ _ _) (by cases op <;> rfl) rfl rfl
    · cases h
  · rw [VR.nilfn_iff] at hu; subst hu
    split at h
    · rename_i hs; cases hv
      exact aeq_sound h ox oy (eq_fn hs _ _ _) (by cases op <;> rfl) rfl rfl
    · cases h
  · rw [VR.nilfn_iff] at hv; subst hv
    split at h
    · rename_i hs; cases hu
      exact aeq_sound h ox oy (eq_nf hs _ _ _) (by cases op <;> rfl) rfl rfl
    · cases h
  · rw [VR.nilfn_iff] at hv hu; subst hv hu
    split at h
    · rename_i hs
      exact aeq_sound h ox oy (eq_ff hs) (by cases op <;> rfl) rfl rfl
    · cases h
  · rw [VR.nilptr_iff] at hv hu; subst hv hu
    split at h
    · rename_i e hs
      exact aeq_sound h ox oy (eq_p0 (sk_ptr hs) _) (by cases op <;> rfl) rfl rfl
    · cases h
  · rw [VR.nilptr_iff] at hv; subst hv
    split at h
    · rename_i e hs; cases hu
      exact aeq_sound h ox oy (eq_p0 (sk_ptr hs) _) (by cases op <;> rfl) rfl rfl
    · cases h
  · rw [VR.nilptr_iff] at hv; subst hv
    split at h
    · rename_i e hs; cases hu
      exact aeq_sound h ox oy (eq_p0 (sk_ptr hs) _) (by cases op <;> rfl) rfl rfl
    · cases h
  · rw [VR.nilptr_iff] at hu; subst hu
    split at h
    · rename_i e hs; cases hv
      exact aeq_sound h ox oy (eq_p1 (sk_ptr hs) _) (by cases op <;> rfl) rfl rfl
    · cases h
  · rw [VR.nilptr_iff] at hu; subst hu
    split at h
    · rename_i e hs; cases hv
      exact aeq_sound h ox oy (eq_p1 (sk_ptr hs) _) (by cases op <;> rfl) rfl rfl
    · cases h
  · obtain ⟨ks, hk, h⟩ := Option.bind_eq_some_iff.1 h
    obtain ⟨b, hb, h⟩ := Option.bind_eq_some_iff.1 h
    cases hv with
    | agg _ vs hl h1 hv' =>
      cases hu with
      | agg _ us hl2 h2 hu' =>
        have he := eq_agg (w := w) hk hb (VR.agg_of _ vs hl h1 hv') (VR.agg_of _ us hl2 h2 hu')
        exact aeq_sound h ox oy he.1 (run_eqGuard_agg w op t ox oy _ _ he.2) rfl rfl
  · cases h

/-! ### one operand, conversions -/
def aun (op : UnOp) (x : AV) : Option AV :=
  match op, x with
  | .neg, .int k n => some (.int k (k.wrap (0 - n)))
  | .not, .bool b => some (.bool (!b))
  | _, _ => none
theorem aun_sound {P : Program} {K : Ctx} {w : World} {op : UnOp} {x r : AV} (h : aun op x = some r) {v : Value} (hv : VR K x v) :
    ∃ z, (Op.unary op v).run P w = .ok z w ∧ VR K r z := by
  unfold aun at h
  split at h
  · rw [VR.int_iff] at hv; subst hv
    simp only [Option.some.injEq] at h; subst h
    exact ⟨_, by simp only [Op.unary, Op.intArith]; rfl, .int _ _⟩
  · rw [VR.bool_iff] at hv; subst hv
    simp only [Option.some.injEq] at h; subst h
    exact ⟨_, by simp only [Op.unary]; rfl, .bool _⟩
  · cases h

def aconv (P : Program) (s d : TypeId) (x : AV) : Option AV :=
  match x, sk P d with
  | .int _ n, .int k => if (P.underlying s).isSome then some (.int k (k.wrap n)) else none
  | .str s', .str => if (P.underlying s).isSome then some (.str s') else none
  | _, _ => none
theorem aconv_sound {P : Program} {K : Ctx} {w : World} {s d : TypeId} {x r : AV} (h : aconv P s d x = some r) {v : Value} (hv : VR K x v) :
    ∃ z, (convert s d v).run P w = .ok z w ∧ VR K r z := by
  unfold aconv at h
  split at h
  · rename_i n k hd
    rw [VR.int_iff] at hv; subst hv
    split at h
    · rename_i hs
      obtain ⟨u, hu⟩ := Option.isSome_iff_exists.1 hs
      simp only [Option.some.injEq] at h; subst h
      refine ⟨.int k (k.wrap n), ?_, .int _ _⟩
      unfold convert
      simp only [Sem.run_bind, run_underlying hu, run_underlying (sk_int hd)]
      cases u <;> rfl
    · cases h
  · rename_i s' hd
    rw [VR.str_iff] at hv; subst hv
    split at h
    · rename_i hs
      obtain ⟨u, hu⟩ := Option.isSome_iff_exists.1 hs
      simp only [Option.some.injEq] at h; subst h
      refine ⟨.string ⟨⟨s'⟩⟩, ?_, .str _⟩
      unfold convert
      simp only [Sem.run_bind, run_underlying hu, run_underlying (sk_str hd)]
      cases u <;> rfl
    · cases h
  · cases h

/-! ### indexes of strings and arrays, fields of values, pieces -/
def aindex (P : Program) (t : TypeId) (x i : AV) : Option AV :=
  match x, i with
  | .str s, .int _ i => if sk P t = .str then (if 0 ≤ i then (match s[i.toNat]? with | some c => some (.int .u8 c.toNat) | none => none) else none) else none
  | _, _ => none
theorem aindex_sound {P : Program} {K : Ctx} {w : World} {t : TypeId} {x i r : AV} (h : aindex P t x i = some r) {v u : Value} (hv : VR K x v) (hu : VR K i u) :
    ∃ z, (Instr.index t v u).run P w = .ok z w ∧ VR K r z := by
  unfold aindex at h
  split at h
  · rename_i s k i
    rw [VR.str_iff] at hv; rw [VR.int_iff] at hu; subst hv hu
    split at h
    · rename_i hs
      split at h
      · rename_i h0
        split at h
        · rename_i c hc
          simp only [Option.some.injEq] at h; subst h
          refine ⟨.int .u8 c.toNat, ?_, .int _ _⟩
          have : (ByteArray.mk (Array.mk s))[i.toNat]? = some c := by
            obtain ⟨hlt, hcc⟩ := List.getElem?_eq_some_iff.1 hc
            have hlt' : i.toNat < (ByteArray.mk (Array.mk s)).size := hlt
            rw [getElem?_pos (ByteArray.mk (Array.mk s)) i.toNat hlt']
            exact congrArg some hcc
          unfold Instr.index
          simp [asIntOf, run_underlying (sk_str hs), h0, this]
        · cases h
      · cases h
    · cases h
  · cases h

def aextract (x : AV) (i : Nat) : Option AV :=
  match x with
  | .tup vs => vs[i]?
  | _ => none
theorem aextract_sound {P : Program} {K : Ctx} {w : World} {x r : AV} {i : Nat} (h : aextract x i = some r) {v : Value} (hv : VR K x v) :
    ∃ z, (Instr.extract v i).run P w = .ok z w ∧ VR K r z := by
  unfold aextract at h
  split at h
  · rename_i vs
    obtain ⟨hi, rfl⟩ := List.getElem?_eq_some_iff.1 h
    cases hv with
    | tup _ us hl hv =>
      have hi' : i < us.size := by omega
      refine ⟨us[i], ?_, by have := hv i hi; simpa [Array.getD, hi'] using this⟩
      unfold Instr.extract
      simp [hi']
  · cases h

def afieldv (P : Program) (t : TypeId) (x : AV) (i : Nat) : Option AV :=
  match x, fld P t i with
  | .agg cs, some (off, ag, n) => rd ag n (cs.drop off)
  | _, _ => none
theorem afieldv_sound {P : Program} {K : Ctx} {w : World} {t : TypeId} {x r : AV} {i : Nat} (h : afieldv P t x i = some r) {v : Value} (hv : VR K x v) :
    ∃ z, (Instr.field t v i).run P w = .ok z w ∧ VR K r z := by
  unfold afieldv at h
  split at h
  · rename_i cs off ag n hf
    cases hv with
    | agg _ vs hl h1 hvv =>
      unfold fld at hf
      split at hf
      · rename_i fs hu
        split at hf
        · rename_i f hfi
          cases htk : tk P f.type with
          | none => rw [htk] at hf; cases hf
          | some x =>
            rw [htk] at hf
            simp only [Option.map_some, Option.some.injEq, Prod.mk.injEq] at hf
            obtain ⟨rfl, hx⟩ := hf
            subst hx
            obtain ⟨ha, hs, _⟩ := run_tk (b := ag) (n := n) htk w
            unfold rd at h
            cases ag with
            | true =>
              simp only [if_true] at h
              split at h
              · rename_i hn
                simp only [Option.some.injEq] at h; subst h
                refine ⟨.agg (vs.extract f.offset (f.offset + n)), ?_, .agg _ _ (by simp [hl]; omega) (fun c hc => h1 c (List.mem_of_mem_drop (List.mem_of_mem_take hc))) (fun j hj => ?_)⟩
                · unfold Instr.field
                  simp [run_underlying hu, hfi, asAgg, part, ha, hs]
                · have hj' : f.offset + j < cs.length := by simp at hj; omega
                  have hjn : j < n := by simp at hj; omega
                  have := hvv _ hj'
                  have hj2 : f.offset + j < vs.size := by omega
                  have hj3 : j < min (f.offset + n) vs.size - f.offset := by omega
                  simpa [Array.getD, hj2, hj3] using this
              · cases h
            | false =>
              simp only [Bool.false_eq_true, if_false] at h
              have hlt : f.offset < cs.length := by
                rcases Nat.lt_or_ge f.offset cs.length with h' | h'
                · exact h'
                · rw [List.drop_eq_nil_of_le h'] at h; cases h
              have hlt' : f.offset < vs.size := by omega
              rw [List.head?_drop, List.getElem?_eq_getElem hlt, Option.some.injEq] at h
              subst h
              refine ⟨vs[f.offset], ?_, by have := hvv _ hlt; simpa [Array.getD, hlt'] using this⟩
              unfold Instr.field
              simp [run_underlying hu, hfi, asAgg, part, ha, hlt']
        · cases hf
      · cases hf
  · cases h
end Go.Av
set_option linter.unusedVariables false
set_option linter.unusedSimpArgs false
namespace Go.Av
open Go Go.RowKit

/-! ### pieces -/
def abnd (o : Option AV) (d : Nat) : Option Nat :=
  match o with
  | none => some d
  | some (.int _ i) => if 0 ≤ i then some i.toNat else none
  | _ => none
theorem run_sliceBound {P : Program} {K : Ctx} {w : World} {o : AV} {d n : Nat} (h : abnd (some o) d = some n) {v : Value} (hv : VR K o v) (y : Nat) (hy : n ≤ y) (code : BoundsCode) :
    (Instr.sliceBound v y code).run P w = .ok n w := by
  unfold abnd at h
  split at h
  · rename_i heq; cases heq
  · rename_i k i heq
    simp only [Option.some.injEq] at heq; subst heq
    rw [VR.int_iff] at hv; subst hv
    split at h
    · rename_i h0
      simp only [Option.some.injEq] at h; subst h
      have : 0 ≤ i ∧ i ≤ (y : Int) := by omega
      simp [Instr.sliceBound, asIntOf, this]
    · cases h
  · cases h
theorem run_sliceBounds {P : Program} {K : Ctx} {w : World} {lo hi : Option AV} {len cap l h : Nat} (hl : abnd lo 0 = some l) (hh : abnd hi len = some h) (hlh : l ≤ h) (hcap : h ≤ cap)
    {vlo vhi : Option Value} (hvl : ∀ a, lo = some a → ∃ v, vlo = some v ∧ VR K a v) (hvln : lo = none → vlo = none) (hvh : ∀ a, hi = some a → ∃ v, vhi = some v ∧ VR K a v) (hvhn : hi = none → vhi = none) (b : Bool) :
    (Instr.sliceBounds b len cap vlo vhi none).run P w = .ok (l, h, cap) w := by
  unfold Instr.sliceBounds
  cases hi with
  | none =>
    rw [hvhn rfl]
    simp only [abnd, Option.some.injEq] at hh; subst hh
    cases lo with
    | none =>
      rw [hvln rfl]
      simp only [abnd, Option.some.injEq] at hl; subst hl
      simp
    | some a =>
      obtain ⟨v, rfl, hv⟩ := hvl a rfl
      have := run_sliceBound (P := P) (w := w) hl hv len hlh .sliceB
      simp [this]
  | some c =>
    obtain ⟨u, rfl, hu⟩ := hvh c rfl
    have h1 := fun code => run_sliceBound (P := P) (w := w) hh hu cap hcap code
    cases lo with
    | none =>
      rw [hvln rfl]
      simp only [abnd, Option.some.injEq] at hl; subst hl
      simp [h1]
    | some a =>
      obtain ⟨v, rfl, hv⟩ := hvl a rfl
      have := run_sliceBound (P := P) (w := w) hl hv h hlh .sliceB
      simp [this, h1]

def pieceGh (g : Gh) (l h len : Nat) : Gh :=
  match g with
  | .none => .none
  | .full => if h = len then .full else .none
  | .own b => if l = 0 ∧ h = len then .own b else .none
open Classical in
noncomputable def aslice0 (P : Program) (t : TypeId) (x : AV) (lo hi : Option AV) : Option AV :=
  match x with
  | .str s => if sk P t = .str then
      match abnd lo 0, abnd hi s.length with
      | some l, some h => if l ≤ h ∧ h ≤ s.length then some (.str ((s.take h).drop l)) else none
      | _, _ => none
    else none
  | .nil => match el P t, abnd lo 0, abnd hi 0 with
    | some e, some l, some h => if l ≤ h ∧ h ≤ 0 ∧ (tk P e).isSome then some .nil else none
    | _, _, _ => none
  | .sl g xs sp => match el P t, abnd lo 0, abnd hi xs.length with
    | some e, some l, some h => match tk P e with
      | some (_, n) => if l ≤ h ∧ h ≤ xs.length + sp.length ∧ (l = 0 ∨ ∀ a, a ∈ xs ++ sp → (flat a).length = n) then
          some (.sl (pieceGh g l h xs.length) (((xs ++ sp).take h).drop l) ((xs ++ sp).drop h)) else none
      | none => none
    | _, _, _ => none
  | .bs b n s E => match el P t, abnd lo 0, abnd hi n with
    | some e, some l, some h => if l = 0 ∧ h ≤ n ∧ (tk P e).isSome then some (.bs b h s E) else none
    | _, _, _ => none
  | .rp cs => match lo, hi, arrT P t with
    | none, none, some (m, 1) => if m = cs.length ∧ m ≤ maxLen then some (.sl .none cs []) else none
    | _, _, _ => none
  | _ => none
theorem flat_one {a : AV} (h : one a = true) : flat a = [a] ∧ isv a = true := by cases a <;> first | exact ⟨rfl, h⟩ | cases h
theorem flat_ones : ∀ (l : List AV), (∀ a, a ∈ l → one a = true) → l.flatMap flat = l
  | [], _ => rfl
  | a :: l, h => by rw [List.flatMap_cons, (flat_one (h a (by simp))).1, flat_ones l fun b hb => h b (by simp [hb])]; rfl
theorem run_arrT {P : Program} {t : TypeId} {m n : Nat} (h : arrT P t = some (m, n)) : ∃ e i, P.underlying t = some (.array m e) ∧ P.info? e = some i ∧ i.size = n := by
  unfold arrT at h
  split at h
  · rename_i m' e hu
    obtain ⟨i, hi, he⟩ := Option.map_eq_some_iff.1 h
    simp only [Prod.mk.injEq] at he
    obtain ⟨rfl, rfl⟩ := he
    exact ⟨e, i, hu, hi, rfl⟩
  · cases h

theorem flatMap_drop {sz : Nat} (l : List AV) (h : ∀ e, e ∈ l → (flat e).length = sz) (k j : Nat) (hj : k * sz + j < (l.flatMap flat).length) (hj2 : j < ((l.drop k).flatMap flat).length) :
    ((l.drop k).flatMap flat)[j] = (l.flatMap flat)[k * sz + j] := by
  induction l generalizing k with
  | nil => simp at hj
  | cons x l ih =>
    have hx := h x (by simp)
    cases k with
    | zero => simp
    | succ k =>
      simp only [List.drop_succ_cons, List.flatMap_cons] at hj2 ⊢
      have e : (k + 1) * sz + j = (flat x).length + (k * sz + j) := by rw [hx, Nat.succ_mul]; omega
      have hlt : k * sz + j < (l.flatMap flat).length := by
        simp only [List.flatMap_cons, List.length_append] at hj; omega
      rw [ih (fun a ha => h a (by simp [ha])) k hlt hj2]
      have h3 : ((flat x) ++ l.flatMap flat)[(k + 1) * sz + j]? = (l.flatMap flat)[k * sz + j]? := by
        rw [e, List.getElem?_append_right (by omega)]; congr 1; omega
      have h4 := List.getElem?_eq_getElem hj
      simp only [List.flatMap_cons] at h4
      rw [h3, List.getElem?_eq_getElem hlt] at h4
      exact Option.some.inj h4

theorem aslice0_sound {P : Program} {K : Ctx} {w : World} {t : TypeId} {x r : AV} {lo hi : Option AV} (h : aslice0 P t x lo hi = some r) {v : Value} (hv : VR K x v)
    {vlo vhi : Option Value} (hvl : ∀ a, lo = some a → ∃ v, vlo = some v ∧ VR K a v) (hvln : lo = none → vlo = none) (hvh : ∀ a, hi = some a → ∃ v, vhi = some v ∧ VR K a v) (hvhn : hi = none → vhi = none) :
    ∃ z, (Instr.sliceAt t v vlo vhi none).run P w = .ok z w ∧ VR K r z := by
  unfold aslice0 at h
  split at h
  · rename_i s
    rw [VR.str_iff] at hv; subst hv
    split at h
    · rename_i hs
      have hu := sk_str hs
      split at h
      · rename_i l hh hl hhh
        split at h
        · rename_i hc
          simp only [Option.some.injEq] at h; subst h
          have hb := run_sliceBounds (P := P) (w := w) (len := s.length) (cap := s.length) hl hhh hc.1 hc.2 hvl hvln hvh hvhn false
          refine ⟨.string ((ByteArray.mk (Array.mk s)).extract l hh), ?_, ?_⟩
          · have hsz : (ByteArray.mk (Array.mk s)).size = s.length := rfl
            unfold Instr.sliceAt Instr.slice
            simp [run_underlying hu, hsz, hb]
          · have : (ByteArray.mk (Array.mk s)).extract l hh = ⟨⟨(s.take hh).drop l⟩⟩ := by
              apply ByteArray.ext
              rw [ByteArray.data_extract]
              apply Array.ext'
              simp [List.drop_take]
            rw [this]; exact .str _
        · cases h
      · cases h
    · cases h
  · rw [VR.nil_iff] at hv; subst hv
    split at h
    · rename_i e l hh he hl hhh
      split at h
      · rename_i hc
        simp only [Option.some.injEq] at h; subst h
        have hh0 : hh = 0 := by omega
        have hl0 : l = 0 := by omega
        subst hh0 hl0
        obtain ⟨x, hx⟩ := Option.isSome_iff_exists.1 hc.2.2
        obtain ⟨_, hsz, _⟩ := run_tk (b := x.1) (n := x.2) hx w
        have hb := run_sliceBounds (P := P) (w := w) (len := 0) (cap := 0) hl hhh (Nat.le_refl _) (Nat.le_refl _) hvl hvln hvh hvhn true
        refine ⟨.slice none 0 0, ?_, .nil⟩
        unfold Instr.sliceAt Instr.slice
        simp [run_underlying (run_el he), hb, hsz]
      · cases h
    · cases h
  · rename_i g xs sp
    split at h
    · rename_i e l hh he hl hhh
      split at h
      · rename_i ag n hn
        split at h
        · rename_i hc
          simp only [Option.some.injEq] at h; subst h
          obtain ⟨hc1, hc2, hc3⟩ := hc
          obtain ⟨_, hsz, _⟩ := run_tk hn w
          cases hv with
          | sl0 a =>
            have hh0 : hh = 0 := by simpa using hc2
            have hl0 : l = 0 := by omega
            subst hh0 hl0
            have hb := run_sliceBounds (P := P) (w := w) (len := 0) (cap := 0) hl hhh (Nat.le_refl _) (Nat.le_refl _) hvl hvln hvh hvhn true
            refine ⟨.slice a 0 0, ?_, .sl0 a⟩
            unfold Instr.sliceAt Instr.slice
            simp [run_underlying (run_el he), hb, hsz]
          | sl _ _ _ sz b off cap f hsze hcap hml himm hvv hg =>
            have hb := run_sliceBounds (P := P) (w := w) (len := xs.length) (cap := cap) hl hhh hc1 (by omega) hvl hvln hvh hvhn true
            have hlen := flatMap_length (sz := sz) (xs ++ sp) (fun e he => (hsze e he).1)
            have hxl : (((xs ++ sp).take hh).drop l).length = hh - l := by simp; omega
            -- the new address
            have hadr : ∃ off', (if cap = l then (some (⟨b, off, none⟩ : Addr)) else (some (⟨b, off, none⟩ : Addr)).map (·.add (l * n))) = some ⟨b, off', none⟩ ∧
                (l = 0 → off' = off) ∧ ((((xs ++ sp).take hh).drop l ++ (xs ++ sp).drop hh).flatMap flat ≠ [] → off' = off + l * sz) := by
              by_cases hcl : cap = l
              · refine ⟨off, by rw [if_pos hcl], fun _ => rfl, fun hne => ?_⟩
                have : ((xs ++ sp).take hh).drop l ++ (xs ++ sp).drop hh = (xs ++ sp).drop l := by
                  rw [← List.drop_append_of_le_length (by simp; omega), List.take_append_drop]
                rw [this, List.drop_eq_nil_of_le (by simp; omega)] at hne
                exact absurd rfl hne
              · refine ⟨off + l * n, by rw [if_neg hcl]; simp [Addr.add_lit], fun hl0 => by rw [hl0]; simp, fun hne => ?_⟩
                rcases hc3 with h0 | hall
                · rw [h0]; simp
                · have hx : ∃ a, a ∈ xs ++ sp := by
                    cases hxs : xs ++ sp with
                    | nil => rw [hxs] at hne; simp at hne
                    | cons a _ => exact ⟨a, by simp⟩
                  obtain ⟨a, ha⟩ := hx
                  rw [← hall a ha, ← (hsze a ha).1]
            obtain ⟨off', hoff, hoff0, hoff1⟩ := hadr
            refine ⟨.slice (some ⟨b, off', none⟩) (hh - l) (cap - l), ?_, ?_⟩
            · unfold Instr.sliceAt Instr.slice
              simp [run_underlying (run_el he), hb, hsz]
              exact hoff
            · have hall : ((xs ++ sp).take hh).drop l ++ (xs ++ sp).drop hh = (xs ++ sp).drop l := by
                rw [← List.drop_append_of_le_length (by simp; omega), List.take_append_drop]
              have hmem : ∀ a, a ∈ ((xs ++ sp).take hh).drop l ++ (xs ++ sp).drop hh → a ∈ xs ++ sp := fun a ha => by
                rw [hall] at ha; exact List.mem_of_mem_drop ha
              have hlen2 := flatMap_length (sz := sz) ((xs ++ sp).drop l) (fun e he => (hsze e (List.mem_of_mem_drop he)).1)
              have key : ∀ j, j < ((xs ++ sp).drop l).length * sz → l * sz + j < ((xs ++ sp).flatMap flat).length := by
                intro j hj
                rw [hlen]
                simp only [List.length_drop] at hj
                have h5 : (xs ++ sp).length * sz = ((xs ++ sp).length - l) * sz + l * sz := by
                  rw [← Nat.add_mul]; congr 1; simp; omega
                omega
              have := VR.sl (K := K) (pieceGh g l hh xs.length) (((xs ++ sp).take hh).drop l) ((xs ++ sp).drop hh) sz b off' (cap - l) (fun j => f (l * sz + j))
                (fun e he => hsze e (hmem e he)) (by simp; omega) (by omega)
                (fun j hj => by
                  have hne : (((xs ++ sp).take hh).drop l ++ (xs ++ sp).drop hh).flatMap flat ≠ [] := by intro hh'; rw [hh'] at hj; simp at hj
                  rw [hoff1 hne, Nat.add_assoc]
                  rw [hall, hlen2] at hj
                  exact himm _ (key j hj))
                (fun j hj => by
                  have hj' := hj
                  rw [hall, hlen2] at hj'
                  have h6 := hvv _ (key j hj')
                  have hj3 : j < (((xs ++ sp).drop l).flatMap flat).length := by rw [hlen2]; exact hj'
                  have h7 := flatMap_drop (sz := sz) (xs ++ sp) (fun e he => (hsze e he).1) l j (key j hj') hj3
                  rw [← h7] at h6
                  have h8 : ((((xs ++ sp).take hh).drop l ++ (xs ++ sp).drop hh).flatMap flat)[j] = (((xs ++ sp).drop l).flatMap flat)[j] := by
                    congr 1; rw [hall]
                  rw [h8]; exact h6)
                (by
                  rw [hxl]
                  cases g with
                  | none => trivial
                  | full =>
                    simp only [pieceGh]
                    split
                    · rename_i hx; simp only [Gh.ok] at hg ⊢; omega
                    · trivial
                  | own b' =>
                    simp only [pieceGh]
                    split
                    · rename_i hx
                      obtain ⟨g1, g2, E, s, g3⟩ := hg
                      obtain ⟨rfl, _⟩ := hx
                      exact ⟨g1, (hoff0 rfl).trans g2, E, s, by simpa using g3⟩
                    · trivial)
              rw [hxl] at this
              exact this
        · cases h
      · cases h
    · cases h
  · rename_i b n s E0
    split at h
    · rename_i e l hh he hl hhh
      split at h
      · rename_i hc
        simp only [Option.some.injEq] at h; subst h
        obtain ⟨rfl, hc2, hc3⟩ := hc
        obtain ⟨x, hx⟩ := Option.isSome_iff_exists.1 hc3
        obtain ⟨_, hsz, _⟩ := run_tk (b := x.1) (n := x.2) hx w
        cases hv with
        | bs _ _ _ cap E hr hnn hm =>
          have hb := run_sliceBounds (P := P) (w := w) (len := n) (cap := cap) hl hhh (Nat.zero_le _) (by omega) hvl hvln hvh hvhn true
          refine ⟨.slice (some ⟨b, 0, none⟩) hh cap, ?_, .bs b hh s cap _ hr (by omega) hm⟩
          unfold Instr.sliceAt Instr.slice
          simp [run_underlying (run_el he), hb, hsz, Addr.add_lit]
      · cases h
    · cases h
  · rename_i cs
    split at h
    · rename_i m hm
      split at h
      · rename_i hc
        simp only [Option.some.injEq] at h; subst h
        obtain ⟨rfl, hml⟩ := hc
        obtain ⟨e, i, hu, hi, hsz⟩ := run_arrT hm
        cases hv with
        | rp _ b off f h1 himm hvv =>
          have hfl := flat_ones cs h1
          have hb := run_sliceBounds (P := P) (w := w) (lo := none) (hi := none) (len := cs.length) (cap := cs.length) (l := 0) (h := cs.length) rfl rfl (Nat.zero_le _) (Nat.le_refl _) hvl hvln hvh hvhn false
          refine ⟨.slice (some ⟨b, off, none⟩) cs.length cs.length, ?_, ?_⟩
          · unfold Instr.sliceAt
            simp [run_underlying hu, Instr.sureAddr, asAddr, hb, sizeOf, typeInfo, hi, Addr.add_lit]
          · have := VR.sl (K := K) .none cs [] 1 b off cs.length f (fun a ha => by
              have ha' : a ∈ cs := by simpa using ha
              have g := flat_one (h1 a ha')
              exact ⟨by rw [g.1]; rfl, g.2, fun c hc => by rw [g.1] at hc; simp at hc; subst hc; exact h1 c ha'⟩) (by simp) hml
              (fun j hj => by rw [List.append_nil, hfl] at hj; exact himm j hj)
              (fun j hj => by
                have hj' : j < cs.length := by rw [List.append_nil, hfl] at hj; exact hj
                have e1 : ((cs ++ []).flatMap flat)[j] = cs[j] := by congr 1; rw [List.append_nil, hfl]
                rw [e1]; exact hvv j hj') trivial
            exact this
      · cases h
    · cases h
  · cases h

theorem VR.spareless {K : Ctx} {g : Gh} {xs sp : List AV} {v : Value} (h : VR K (.sl g xs sp) v) : VR K (.sl g xs []) v := by
  cases h with
  | sl0 a => exact .sl0 a
  | sl _ _ _ sz b off cap f hsz hcap hml himm hvv hg =>
    have hle : (xs.flatMap flat).length ≤ ((xs ++ sp).flatMap flat).length := by simp
    have := VR.sl (K := K) g xs [] sz b off cap f (fun e he => hsz e (List.mem_append_left _ (by simpa using he))) (by simp; omega) hml
      (fun j hj => himm j (by simp only [List.append_nil] at hj; omega))
      (fun j hj => by
        simp only [List.append_nil] at hj ⊢
        have h1 := hvv j (by omega)
        have : ((xs ++ sp).flatMap flat)[j]'(by omega) = (xs.flatMap flat)[j] := by
          have h2 : ((xs ++ sp).flatMap flat)[j]? = (xs.flatMap flat)[j]? := by
            rw [List.flatMap_append, List.getElem?_append_left hj]
          rw [List.getElem?_eq_getElem (by omega), List.getElem?_eq_getElem hj] at h2
          exact Option.some.inj h2
        rw [this] at h1; exact h1) hg
    exact this
/-- of a slice of which no spare room is known, none is known of its pieces -/
def slim (x r : AV) : AV := match x, r with
  | .sl .none _ [], .sl g xs _ => .sl g xs []
  | _, r => r
theorem VR.thinned {K : Ctx} {x r : AV} {v : Value} (h : VR K r v) : VR K (slim x r) v := by
  unfold slim
  split
  · exact h.spareless
  · exact h
noncomputable def aslice (P : Program) (t : TypeId) (x : AV) (lo hi : Option AV) : Option AV := (aslice0 P t x lo hi).map (slim x)
theorem aslice_sound {P : Program} {K : Ctx} {w : World} {t : TypeId} {x r : AV} {lo hi : Option AV} (h : aslice P t x lo hi = some r) {v : Value} (hv : VR K x v)
    {vlo vhi : Option Value} (hvl : ∀ a, lo = some a → ∃ v, vlo = some v ∧ VR K a v) (hvln : lo = none → vlo = none) (hvh : ∀ a, hi = some a → ∃ v, vhi = some v ∧ VR K a v) (hvhn : hi = none → vhi = none) :
    ∃ z, (Instr.sliceAt t v vlo vhi none).run P w = .ok z w ∧ VR K r z := by
  obtain ⟨r0, h0, rfl⟩ := Option.map_eq_some_iff.1 h
  obtain ⟨z, h1, h2⟩ := aslice0_sound h0 hv hvl hvln hvh hvhn
  exact ⟨z, h1, h2.thinned⟩

/-! ### lengths, the greatest, the least -/
def ablt (P : Program) (b : Builtin) (ts : Array TypeId) (args : List AV) : Option AV :=
  match b, ts[0]?, args with
  | .len, some t, [.str s] => if sk P t = .str then some (.int .i64 s.length) else none
  | .len, some t, [.nil] => if (el P t).isSome then some (.int .i64 0) else none
  | .len, some t, [.sl _ xs _] => if (el P t).isSome then some (.int .i64 xs.length) else none
  | .unsafeSliceData, _, [.nil] => some .nilptr
  | .unsafeSliceData, _, [.bs b n s E] => if 0 < n then some (.bp b s E) else none
  | .len, some t, [.bs _ n _ _] => if (el P t).isSome then some (.int .i64 n) else none
  | .cap, some t, [.nil] => if (el P t).isSome then some (.int .i64 0) else none
  | .max, _, [.int k a, .int _ b] => some (.int k (if b > a then b else a))
  | .min, _, [.int k a, .int _ b] => some (.int k (if b < a then b else a))
  | .max, _, [.int k a, .int _ b, .int _ c] => some (.int k (if c > (if b > a then b else a) then c else (if b > a then b else a)))
  | .min, _, [.int k a, .int _ b, .int _ c] => some (.int k (if c < (if b < a then b else a) then c else (if b < a then b else a)))
  | _, _, _ => none

def VRl (K : Ctx) : List AV → List Value → Prop
  | [], [] => True
  | a :: l, v :: r => VR K a v ∧ VRl K l r
  | _, _ => False
theorem VRl.length {K : Ctx} : ∀ {l : List AV} {r : List Value}, VRl K l r → l.length = r.length
  | [], [], _ => rfl
  | a :: l, v :: r, h => by simp [VRl.length h.2]
  | [], _ :: _, h => h.elim
  | _ :: _, [], h => h.elim
theorem VRl.get {K : Ctx} : ∀ {l : List AV} {r : List Value}, VRl K l r → ∀ (j : Nat) (h : j < l.length), VR K l[j] (r.getD j Go.undef)
  | a :: l, v :: r, h, 0, _ => h.1
  | a :: l, v :: r, h, j + 1, hj => by simpa using VRl.get h.2 j (by simpa using hj)
  | [], [], _, j, h => by cases h
  | _ :: _, [], h, _, _ => h.elim
theorem VRl.map {K : Ctx} {G : Nat → AV} {σ : AS} {w : World} {e : Env} {a : Act} (h : ER K e a) (hr : Rel G K σ w) : ∀ (l : List Operand), VRl K (l.map (ev G e)) (l.map a.eval)
  | [] => trivial
  | x :: l => ⟨h.eval hr x, VRl.map h hr l⟩
theorem VRl.mono {K K' : Ctx} (h : K.le K') : ∀ {l : List AV} {r : List Value}, VRl K l r → VRl K' l r
  | [], [], _ => trivial
  | a :: l, v :: r, k => ⟨k.1.mono h, VRl.mono h k.2⟩
  | [], _ :: _, k => k.elim
  | _ :: _, [], k => k.elim
theorem VRl.append {K : Ctx} : ∀ {l l' : List AV} {r r' : List Value}, VRl K l r → VRl K l' r' → VRl K (l ++ l') (r ++ r')
  | [], _, [], _, _, h => h
  | a :: l, _, v :: r, _, k, h => ⟨k.1, VRl.append k.2 h⟩
  | [], _, _ :: _, _, k, _ => k.elim
  | _ :: _, _, [], _, k, _ => k.elim
theorem VRl.of {K : Ctx} : ∀ {l : List AV} {r : List Value}, l.length = r.length → (∀ (j : Nat) (h : j < l.length), VR K l[j] (r.getD j Go.undef)) → VRl K l r
  | [], [], _, _ => trivial
  | a :: l, v :: r, h, k => ⟨k 0 (by simp), VRl.of (by simpa using h) (fun j hj => k (j + 1) (by simpa using hj))⟩
  | [], _ :: _, h, _ => by cases h
  | _ :: _, [], h, _ => by cases h

theorem ablt_sound {P : Program} {K : Ctx} {w : World} {b : Builtin} {ts : Array TypeId} {ty : TypeId} {cn : Array Bool} {args : List AV} {r : AV} (h : ablt P b ts args = some r) {vs : List Value} (hv : VRl K args vs) :
    ∃ z, (builtin b ts ty cn vs.toArray).run P w = .ok (.value z) w ∧ VR K r z := by
  unfold ablt at h
  split at h
  · rename_i t s ht
    split at h
    · rename_i hs
      simp only [Option.some.injEq] at h; subst h
      match vs, hv with
      | [v], ⟨h1, _⟩ =>
        rw [VR.str_iff] at h1; subst h1
        refine ⟨.int .i64 s.length, ?_, .int _ _⟩
        have hsz : (ByteArray.mk (Array.mk s)).size = s.length := rfl
        simp [builtin, Builtin.len_, ht, run_underlying (sk_str hs), goInt, hsz]
    · cases h
  · rename_i t ht
    split at h
    · rename_i hs
      obtain ⟨e, he⟩ := Option.isSome_iff_exists.1 hs
      simp only [Option.some.injEq] at h; subst h
      match vs, hv with
      | [v], ⟨h1, _⟩ =>
        rw [VR.nil_iff] at h1; subst h1
        exact ⟨.int .i64 0, by simp [builtin, Builtin.len_, ht, run_underlying (run_el he), goInt], .int _ _⟩
    · cases h
  · rename_i t g xs sp ht
    split at h
    · rename_i hs
      obtain ⟨e, he⟩ := Option.isSome_iff_exists.1 hs
      simp only [Option.some.injEq] at h; subst h
      match vs, hv with
      | [v], ⟨h1, _⟩ =>
        cases h1
        case sl0 => exact ⟨.int .i64 0, by simp [builtin, Builtin.len_, ht, run_underlying (run_el he), goInt], .int _ _⟩
        exact ⟨.int .i64 xs.length, by simp [builtin, Builtin.len_, ht, run_underlying (run_el he), goInt], .int _ _⟩
    · cases h
  · simp only [Option.some.injEq] at h; subst h
    match vs, hv with
    | [v], ⟨h1, _⟩ =>
      rw [VR.nil_iff] at h1; subst h1
      exact ⟨.pointer none, rfl, .nilptr⟩
  · rename_i b n s E
    split at h
    · rename_i hn
      simp only [Option.some.injEq] at h; subst h
      match vs, hv with
      | [v], ⟨h1, _⟩ =>
        cases h1 with
        | bs _ _ _ cap _ hr hnn hm =>
          obtain ⟨c, rfl⟩ : ∃ c, cap = c + 1 := ⟨cap - 1, by omega⟩
          exact ⟨.pointer (some ⟨b, 0, none⟩), rfl, .bp b s _ E hr⟩
    · cases h
  · rename_i t b n s E ht
    split at h
    · rename_i hs
      obtain ⟨e, he⟩ := Option.isSome_iff_exists.1 hs
      simp only [Option.some.injEq] at h; subst h
      match vs, hv with
      | [v], ⟨h1, _⟩ =>
        cases h1
        exact ⟨.int .i64 n, by simp [builtin, Builtin.len_, ht, run_underlying (run_el he), goInt], .int _ _⟩
    · cases h
  · rename_i t ht
    split at h
    · rename_i hs
      obtain ⟨e, he⟩ := Option.isSome_iff_exists.1 hs
      simp only [Option.some.injEq] at h; subst h
      match vs, hv with
      | [v], ⟨h1, _⟩ =>
        rw [VR.nil_iff] at h1; subst h1
        exact ⟨.int .i64 0, by simp [builtin, Builtin.cap_, ht, run_underlying (run_el he), goInt], .int _ _⟩
    · cases h
  all_goals first
    | (rename_i k a k' b
       simp only [Option.some.injEq] at h; subst h
       match vs, hv with
       | [v, u], ⟨h1, h2, _⟩ =>
         rw [VR.int_iff] at h1 h2; subst h1 h2
         first
         | exact ⟨_, by simp [builtin, Builtin.max_, Builtin.max2]; rfl, .int _ _⟩
         | exact ⟨_, by simp [builtin, Builtin.min_, Builtin.min2]; rfl, .int _ _⟩)
    | (rename_i k a k' b k'' c
       simp only [Option.some.injEq] at h; subst h
       match vs, hv with
       | [v, u, x], ⟨h1, h2, h3, _⟩ =>
         rw [VR.int_iff] at h1 h2 h3; subst h1 h2 h3
         first
         | exact ⟨_, by simp [builtin, Builtin.max_, Builtin.max2]; rfl, .int _ _⟩
         | exact ⟨_, by simp [builtin, Builtin.min_, Builtin.min2]; rfl, .int _ _⟩)
    | cases h
end Go.Av
set_option linter.unusedVariables false
set_option linter.unusedSimpArgs false
namespace Go.Av
open Go Go.RowKit

/-- a row of cells is seen as these -/
structure CR (K : Ctx) (cs : List AV) (vs : Array Value) : Prop where
  size : vs.size = cs.length
  one : ∀ c, c ∈ cs → one c = true
  at_ : ∀ j (h : j < cs.length), VR K cs[j] (vs.getD j Go.undef)
theorem CR.mono {K K' : Ctx} (h : K.le K') {cs : List AV} {vs : Array Value} (k : CR K cs vs) : CR K' cs vs := ⟨k.size, k.one, fun j hj => (k.at_ j hj).mono h⟩
theorem CR.cells {K : Ctx} {a : AV} {v : Value} (h : VR K a v) (h1 : isv a = true) : CR K (flat a) v.cells := ⟨(h.cells h1).1, (h.cells h1).2.1, (h.cells h1).2.2⟩

theorem fold_set (off : Nat) : ∀ (l : List Value) (k : Nat) (cells : Array Value),
    ((l.zipIdx k).foldl (fun cs (x : Value × Nat) => cs.setIfInBounds (off + x.2) x.1) cells).size = cells.size ∧
    ∀ i, ((l.zipIdx k).foldl (fun cs (x : Value × Nat) => cs.setIfInBounds (off + x.2) x.1) cells).getD i Go.undef =
      if off + k ≤ i ∧ i < off + k + l.length ∧ i < cells.size then l.getD (i - off - k) Go.undef else cells.getD i Go.undef
  | [], k, cells => ⟨rfl, fun i => by rw [if_neg (by simp; omega)]; rfl⟩
  | c :: l, k, cells => by
    simp only [List.zipIdx_cons, List.foldl_cons]
    obtain ⟨h1, h2⟩ := fold_set off l (k + 1) (cells.setIfInBounds (off + k) c)
    refine ⟨by rw [h1]; simp, fun i => ?_⟩
    rw [h2 i]
    simp only [Array.size_setIfInBounds, List.length_cons]
    by_cases hi : off + (k + 1) ≤ i ∧ i < off + (k + 1) + l.length ∧ i < cells.size
    · rw [if_pos hi, if_pos (by omega), show i - off - k = (i - off - (k + 1)) + 1 by omega]
      rfl
    · rw [if_neg hi]
      by_cases hk : i = off + k
      · subst hk
        by_cases hlt : off + k < cells.size
        · rw [if_pos (by omega), show off + k - off - k = 0 by omega]
          simp [hlt]
        · rw [if_neg (by omega)]
          simp [hlt]
      · rw [if_neg (by omega)]
        simp only [Array.getD_eq_getD_getElem?]
        rw [Array.getElem?_setIfInBounds_ne (Ne.symm hk)]

theorem CR.splice {K : Ctx} {cs xs : List AV} {vs us : Array Value} (h : CR K cs vs) (k : CR K xs us) (off : Nat) (hf : off + xs.length ≤ cs.length) :
    CR K (cs.take off ++ xs ++ cs.drop (off + xs.length)) (us.zipIdx.foldl (fun (cs : Array Value) (x : Value × Nat) => cs.setIfInBounds (off + x.2) x.1) vs) := by
  have e : us.zipIdx.foldl (fun (cs : Array Value) (x : Value × Nat) => cs.setIfInBounds (off + x.2) x.1) vs = (us.toList.zipIdx 0).foldl (fun (cs : Array Value) (x : Value × Nat) => cs.setIfInBounds (off + x.2) x.1) vs := by
    rw [← Array.foldl_toList, Array.toList_zipIdx]
  obtain ⟨h1, h2⟩ := fold_set off us.toList 0 vs
  rw [e]
  refine ⟨by rw [h1, h.size]; simp; omega, fun c hc => ?_, fun j hj => ?_⟩
  · simp only [List.mem_append] at hc
    rcases hc with (hc | hc) | hc
    · exact h.one c (List.mem_of_mem_take hc)
    · exact k.one c hc
    · exact h.one c (List.mem_of_mem_drop hc)
  · rw [h2 j]
    have hus := k.size
    have hvs := h.size
    have hjl : j < cs.length := by simp at hj; omega
    by_cases h3 : off ≤ j ∧ j < off + xs.length
    · rw [if_pos (by simp; omega)]
      have hx : (cs.take off ++ xs ++ cs.drop (off + xs.length))[j] = xs[j - off]'(by omega) := by
        rw [List.getElem_append_left (by simp; omega), List.getElem_append_right (by simp; omega)]
        congr 1; simp; omega
      rw [hx]
      have := k.at_ (j - off) (by omega)
      simpa using this
    · rw [if_neg (by simp; omega)]
      have hx : (cs.take off ++ xs ++ cs.drop (off + xs.length))[j] = cs[j] := by
        by_cases h4 : j < off
        · rw [List.getElem_append_left (by simp; omega), List.getElem_append_left (by simp; omega)]
          simp
        · rw [List.getElem_append_right (by simp; omega), List.getElem_drop]
          congr 1; simp; omega
      rw [hx]
      exact h.at_ j hjl

def afill (place : Nat → Option (Nat × Nat)) (cells : List AV) : List (Nat × AV) → Option (List AV)
  | [] => some cells
  | (i, v) :: rest =>
    match place i with
    | none => none
    | some (off, size) =>
      if isv v = true ∧ (flat v).length = size ∧ off + size ≤ cells.length then afill place (cells.take off ++ flat v ++ cells.drop (off + size)) rest else none

def VRp (K : Ctx) : List (Nat × AV) → List (Nat × Value) → Prop
  | [], [] => True
  | (i, a) :: l, (j, v) :: r => i = j ∧ VR K a v ∧ VRp K l r
  | _, _ => False

theorem afill_sound {K : Ctx} {place : Nat → Option (Nat × Nat)} : ∀ (ps : List (Nat × AV)) (qs : List (Nat × Value)) (cs r : List AV) (vs : Array Value),
    VRp K ps qs → CR K cs vs → afill place cs ps = some r → ∃ us, Instr.fill place vs qs = some us ∧ CR K r us
  | [], [], cs, r, vs, _, hc, h => by
    simp only [afill, Option.some.injEq] at h; subst h
    exact ⟨vs, rfl, hc⟩
  | (i, a) :: ps, (j, v) :: qs, cs, r, vs, ⟨hij, hv, hp⟩, hc, h => by
    subst hij
    unfold afill at h
    split at h
    · cases h
    rename_i off size hpl
    split at h
    · rename_i hx
      obtain ⟨hx1, hx2, hx3⟩ := hx
      have hcv := CR.cells hv hx1
      have hs := hc.splice hcv off (by omega)
      rw [hx2] at hs
      obtain ⟨us, hus, hcr⟩ := afill_sound ps qs _ r _ hp hs h
      refine ⟨us, ?_, hcr⟩
      unfold Instr.fill
      rw [hpl]
      have h1 : v.cells.size = size := by rw [hcv.size, hx2]
      have h2 := hc.size
      simp only [h1, ne_eq, not_true_eq_false, decide_false, Bool.false_or]
      rw [if_neg (by simp; omega)]
      exact hus
    · cases h
  | [], _ :: _, _, _, _, h, _, _ => h.elim
  | _ :: _, [], _, _, _, h, _, _ => h.elim

section tables
variable (P : Program)
def zc (t : TypeId) : Option (List AV) :=
  match (P.info? t).bind (·.zero) with
  | some z => if z.cells.toList.all (fun c => one (ofCell c)) then some (z.cells.toList.map ofCell) else none
  | none => none
def places (t : TypeId) : Option (List (Nat × Nat)) :=
  match P.underlying t with
  | some (.struct fs) => fs.toList.mapM (fun f => (P.info? f.type).map fun i => (f.offset, i.size))
  | _ => none
def by_ (t : TypeId) : Option Nat := (P.info? t).map (·.bytes)
end tables
theorem zc_spec {P : Program} {K : Ctx} {t : TypeId} {cs : List AV} (h : zc P t = some cs) : ∃ i z, P.info? t = some i ∧ i.zero = some z ∧ CR K cs z.cells := by
  unfold zc at h
  split at h
  · rename_i z hz
    cases hi : P.info? t with
    | none => rw [hi] at hz; cases hz
    | some i =>
      rw [hi] at hz
      split at h
      · rename_i h1
        simp only [Option.some.injEq] at h; subst h
        refine ⟨i, z, rfl, hz, by simp, fun c hc => ?_, VR.ofCells K z.cells⟩
        obtain ⟨x, hx, rfl⟩ := List.mem_map.1 hc
        exact List.all_eq_true.1 h1 x hx
      · cases h
  · cases h
theorem run_zc {P : Program} {t : TypeId} {i : TypeInfo} {z : Value} (hi : P.info? t = some i) (hz : i.zero = some z) (w : World) : (zeroValue t).run P w = .ok z w := by
  simp [zeroValue, typeInfo, hi, hz]

def abuild (P : Program) (t : TypeId) (ps : List (Nat × AV)) : Option AV :=
  match places P t, zc P t with
  | some pl, some z => (afill (pl[·]?) z ps).map .agg
  | _, _ => none
theorem abuild_sound {P : Program} {K : Ctx} {w : World} {t : TypeId} {ps : List (Nat × AV)} {r : AV} (h : abuild P t ps = some r) {qs : List (Nat × Value)} (hv : VRp K ps qs) :
    ∃ z, (Instr.build t qs.toArray).run P w = .ok z w ∧ VR K r z := by
  unfold abuild at h
  split at h
  · rename_i pl z hpl hz
    obtain ⟨i, zv, hi, hzv, hcr⟩ := zc_spec (K := K) hz
    cases hf : afill (pl[·]?) z ps with
    | none => rw [hf] at h; cases h
    | some cells =>
      rw [hf] at h
      simp only [Option.map_some, Option.some.injEq] at h; subst h
      obtain ⟨us, hus, hcu⟩ := afill_sound ps qs z cells zv.cells hv hcr hf
      refine ⟨.agg us, run_build w t qs.toArray us ?_, .agg _ _ hcu.size hcu.one hcu.at_⟩
      unfold places at hpl
      split at hpl
      · rename_i fs hu
        unfold Program.built
        simp only [hi, hu, hzv, hpl]
        simpa using hus
      · cases hpl
  · cases h

/-! ### stores -/
def astore (P : Program) (σ : AS) (t : TypeId) (p x : AV) : Option AS :=
  match tk P t, p with
  | some (_, n), .ptr b o => match σ.box b with
    | some cs => if isv x = true ∧ (flat x).length = n ∧ o + n ≤ cs.length then some (σ.setBox b (cs.take o ++ flat x ++ cs.drop (o + n))) else none
    | none => none
  | _, _ => none
theorem astore_sound {P : Program} {G : Nat → AV} {K : Ctx} {σ σ' : AS} {w : World} (hr : Rel G K σ w) {t : TypeId} {p x : AV} (h : astore P σ t p x = some σ') {v u : Value} (hv : VR K p v) (hu : VR K x u) :
    ∃ w', (Instr.storeAt t v u).run P w = .ok () w' ∧ Rel G K σ' w' := by
  unfold astore at h
  split at h
  · rename_i ag n b o hn
    split at h
    · rename_i cs hb
      split at h
      · rename_i hc
        obtain ⟨h1, h2, h3⟩ := hc
        simp only [Option.some.injEq] at h; subst h
        rw [VR.ptr_iff] at hv; subst hv
        obtain ⟨_, hsz, _⟩ := run_tk hn w
        obtain ⟨g1, g2, g3, g4, g5, c, E, hcc, hcs, hcv⟩ := hr.box b cs hb
        have hcu := CR.cells hu h1
        have hus : u.cells.size = n := by rw [hcu.size, h2]
        have h1c : ∀ y, y ∈ u.cells.toList → y.oneCell' = true := by
          intro y hy
          obtain ⟨j, hj, rfl⟩ := List.getElem_of_mem hy
          have hj' : j < (flat x).length := by simpa [hcu.size] using hj
          have := (hcu.at_ j hj').oneCell (hcu.one _ (List.getElem_mem hj'))
          have hjs : j < u.cells.size := by simpa using hj
          simpa [Array.getD, hjs] using this
        have hst := run_storeCells_at P b o E u.cells.toList 0 c w hcc (by simp; omega) h1c
        have hnew : (cs.take o ++ flat x ++ cs.drop (o + n)).length ≤ (c.toList.take o ++ u.cells.toList ++ c.toList.drop (o + u.cells.size)).toArray.size ∧ (∀ y, y ∈ cs.take o ++ flat x ++ cs.drop (o + n) → one y = true) ∧
            ∀ j (hj : j < (cs.take o ++ flat x ++ cs.drop (o + n)).length), VR K (cs.take o ++ flat x ++ cs.drop (o + n))[j] ((c.toList.take o ++ u.cells.toList ++ c.toList.drop (o + u.cells.size)).toArray.getD j Go.undef) := by
          refine ⟨by simp; omega, fun y hy => ?_, fun j hj => ?_⟩
          · simp only [List.mem_append] at hy
            rcases hy with (hy | hy) | hy
            · exact g5 y (List.mem_of_mem_take hy)
            · exact hcu.one y hy
            · exact g5 y (List.mem_of_mem_drop hy)
          · have hjl : j < cs.length := by simp at hj; omega
            simp only [Array.getD_eq_getD_getElem?, List.getElem?_toArray]
            by_cases h4 : j < o
            · rw [List.getElem_append_left (by simp; omega), List.getElem_append_left (by simp; omega)]
              rw [List.getElem?_append_left (by simp; omega), List.getElem?_append_left (by simp; omega)]
              have := hcv j hjl
              simpa [h4, Array.getD_eq_getD_getElem?] using this
            · by_cases h5 : j < o + n
              · rw [List.getElem_append_left (by simp; omega), List.getElem_append_right (by simp; omega)]
                rw [List.getElem?_append_left (by simp; omega), List.getElem?_append_right (by simp; omega)]
                have := hcu.at_ (j - o) (by omega)
                have e1 : min o cs.length = o := by omega
                have e2 : min o c.size = o := by omega
                simpa [e1, e2, Array.getD_eq_getD_getElem?] using this
              · rw [List.getElem_append_right (by simp; omega), List.getElem_drop]
                rw [List.getElem?_append_right (by simp; omega), List.getElem?_drop]
                have e1 : o + n + (j - (List.take o cs ++ flat x).length) = j := by simp; omega
                have e2 : o + u.cells.size + (j - (List.take o c.toList ++ u.cells.toList).length) = j := by simp; omega
                have := hcv j hjl
                simp only [e1, e2]
                simpa [Array.getD_eq_getD_getElem?] using this
        refine ⟨_, ?_, hr.setBox hb hcc _ (by simp; omega) hnew.1 hnew.2.1 hnew.2.2⟩
        unfold Instr.storeAt storeVar
        simp only [Nat.add_zero, Array.length_toList] at hst
        simp [Instr.sureAddr, hsz, hus, hst]
      · cases h
    · cases h
  · cases h

/-! ### new variables -/
theorem alloc_sound {P : Program} {G : Nat → AV} {K : Ctx} {σ : AS} {w : World} (hr : Rel G K σ w) {E : TypeId} {z : List AV} (h : zc P E = some z) :
    (Instr.alloc E true (.tuple #[])).run P w = .ok (.pointer (some ⟨w.heap.size, 0, none⟩)) (w.alloc (.cells ((((P.info? E).bind (·.zero)).getD default).cells) E)) ∧
      Rel G K (σ.setBox w.heap.size z) (w.alloc (.cells ((((P.info? E).bind (·.zero)).getD default).cells) E)) := by
  obtain ⟨i, zv, hi, hz, hcr⟩ := zc_spec (K := K) h
  have e : ((P.info? E).bind (·.zero)).getD default = zv := by simp [hi, hz]
  rw [e]
  refine ⟨?_, hr.addBox _ E z (Nat.le_of_eq hcr.size.symm) hcr.one hcr.at_⟩
  unfold Instr.alloc
  simp [run_zc hi hz, newVar, newRow]
theorem box_sound {P : Program} {G : Nat → AV} {K : Ctx} {σ : AS} {w : World} (hr : Rel G K σ w) (E : TypeId) {x : AV} {v : Value} (hv : VR K x v) (h1 : isv x = true) :
    (Instr.box E v).run P w = .ok (.pointer (some ⟨w.heap.size, 0, none⟩)) (w.alloc (.cells v.cells E)) ∧ Rel G K (σ.setBox w.heap.size (flat x)) (w.alloc (.cells v.cells E)) := by
  have hcr := CR.cells hv h1
  refine ⟨?_, hr.addBox _ E _ (Nat.le_of_eq hcr.size.symm) hcr.one hcr.at_⟩
  unfold Instr.box
  simp [newVar, newRow]

/-! ### new rows that nobody writes any more -/
theorem Rel.addImm {G : Nat → AV} {K : Ctx} {σ : AS} {w : World} (h : Rel G K σ w) (c : Array Value) (E : TypeId) :
    ∃ K', K.le K' ∧ Rel G K' σ (w.alloc (.cells c E)) ∧ (∀ o, o < c.size → K'.imm w.heap.size o = some (c.getD o Go.undef)) ∧ K'.row = K.row := by
  have h' := h.alloc (.cells c E)
  have hf := h.fresh (Nat.le_refl w.heap.size)
  obtain ⟨k1, k2⟩ := h'.keep w.heap.size (fun _ => true) hf.1 (fun n s hn => by rw [hf.2.1] at hn; cases hn)
  refine ⟨_, k1, k2, fun o ho => ?_, rfl⟩
  show (if w.heap.size = w.heap.size ∧ true = true then (w.alloc (.cells c E)).cell? ⟨w.heap.size, o, none⟩ else K.imm w.heap.size o) = _
  rw [if_pos ⟨rfl, rfl⟩, World.cell?_alloc_new]
  simp [ho]

/-- rows of items one behind the other -/
theorem afill_seq {n : Nat} : ∀ (xs : List AV) (k : Nat) (cells : List AV), (∀ a, a ∈ xs → isv a = true ∧ (flat a).length = n) → (k + xs.length) * n ≤ cells.length →
    afill (fun i => some (i * n, n)) cells ((List.range' k xs.length).zip xs) = some (cells.take (k * n) ++ xs.flatMap flat ++ cells.drop ((k + xs.length) * n))
  | [], k, cells, _, _ => by simp [afill]
  | x :: xs, k, cells, h, hl => by
    obtain ⟨h1, h2⟩ := h x (by simp)
    simp only [List.length_cons] at hl ⊢
    simp only [List.range'_succ, List.zip_cons_cons, afill]
    have e0 : (k + (xs.length + 1)) * n = (k + 1 + xs.length) * n := by rw [show k + (xs.length + 1) = k + 1 + xs.length by omega]
    have e1 : k * n + n ≤ (k + (xs.length + 1)) * n := by rw [← Nat.succ_mul]; exact Nat.mul_le_mul_right _ (by omega)
    rw [if_pos ⟨h1, h2, by omega⟩]
    have hlen : (cells.take (k * n) ++ flat x ++ cells.drop (k * n + n)).length = cells.length := by simp; omega
    rw [afill_seq xs (k + 1) _ (fun a ha => h a (by simp [ha])) (by rw [hlen]; omega)]
    congr 1
    have e2 : (k + 1) * n = k * n + n := Nat.succ_mul k n
    have e3 : k * n + n ≤ (k + 1 + xs.length) * n := by rw [← e0]; exact e1
    have t1 : (cells.take (k * n) ++ flat x ++ cells.drop (k * n + n)).take ((k + 1) * n) = cells.take (k * n) ++ flat x := by
      rw [List.take_append_of_le_length (by simp; omega), List.take_of_length_le (by simp; omega)]
    have t2 : (cells.take (k * n) ++ flat x ++ cells.drop (k * n + n)).drop ((k + 1 + xs.length) * n) = cells.drop ((k + (xs.length + 1)) * n) := by
      rw [List.drop_append, List.drop_eq_nil_of_le (by simp; omega), List.nil_append, List.drop_drop]
      congr 1
      rw [e0]; simp; omega
    rw [t1, t2, List.flatMap_cons]
    simp [List.append_assoc]

def abuildSlice (P : Program) (t : TypeId) (len : Nat) (ps : List (Nat × AV)) : Option AV :=
  match el P t with
  | some e => match tk P e with
    | some (_, n) =>
      match by_ P e with
      | some _ =>
      if ps.map (·.1) = List.range len ∧ (ps.map (·.2)).all (fun a => isv a && decide ((flat a).length = n)) = true ∧ len * n ≤ 16777216 ∧ 0 < n ∧ (zc P e).map List.length = some n then some (.sl .full (ps.map (·.2)) []) else none
      | none => none
    | none => none
  | none => none
end Go.Av
set_option linter.unusedVariables false
set_option linter.unusedSimpArgs false
namespace Go.Av
open Go Go.RowKit

theorem zip_fst_snd {α β : Type} : ∀ (l : List (α × β)), (l.map (·.1)).zip (l.map (·.2)) = l
  | [] => rfl
  | x :: l => by simp [zip_fst_snd l]

theorem zeros_CR {K : Ctx} {z : List AV} {zv : Array Value} (h : CR K z zv) (m : Nat) (h0 : 0 < zv.size) :
    CR K ((List.range m).map fun i => z.getD (i % zv.size) .undef) ((Array.range m).map (zv[· % zv.size]!)) := by
  have hs := h.size
  refine ⟨by simp, fun c hc => ?_, fun j hj => ?_⟩
  · obtain ⟨i, _, rfl⟩ := List.mem_map.1 hc
    have hlt : i % zv.size < z.length := by rw [← hs]; exact Nat.mod_lt _ h0
    rw [List.getD_eq_getElem?_getD, List.getElem?_eq_getElem hlt]
    exact h.one _ (List.getElem_mem hlt)
  · have hjm : j < m := by simpa using hj
    have hlt : j % zv.size < z.length := by rw [← hs]; exact Nat.mod_lt _ h0
    have hlt' : j % zv.size < zv.size := Nat.mod_lt _ h0
    have := h.at_ _ hlt
    simp only [Array.getD_eq_getD_getElem?] at this ⊢
    simp only [List.getElem_map, List.getElem_range, List.getD_eq_getElem?_getD, List.getElem?_eq_getElem hlt, Option.getD_some]
    simpa [hjm, hlt'] using this

/-- a row of items that lies at the head of a row nobody writes any more -/
theorem VR.sl_row {K : Ctx} {g : Gh} {xs : List AV} {n b cap : Nat} {c : Array Value} (hx : ∀ a, a ∈ xs → (flat a).length = n ∧ isv a = true ∧ ∀ c, c ∈ flat a → one c = true)
    (hcap : xs.length ≤ cap) (hml : cap ≤ maxLen) (himm : ∀ o, o < xs.length * n → K.imm b o = some (c.getD o Go.undef))
    (hv : ∀ j (h : j < (xs.flatMap flat).length), VR K (xs.flatMap flat)[j] (c.getD j Go.undef)) (hg : g.ok K b 0 xs.length cap) :
    VR K (.sl g xs []) (.slice (some ⟨b, 0, none⟩) xs.length cap) := by
  have hl := flatMap_length (sz := n) xs (fun e he => (hx e he).1)
  refine .sl g xs [] n b 0 cap (fun j => c.getD j Go.undef) (fun e he => hx e (by simpa using he)) (by simpa using hcap) hml (fun j hj => ?_) (fun j hj => ?_) hg
  · simp only [List.append_nil] at hj
    rw [Nat.zero_add]; exact himm j (by omega)
  · have hj' : j < (xs.flatMap flat).length := by simpa using hj
    have := hv j hj'
    simpa using this

theorem abuildSlice_sound {P : Program} {G : Nat → AV} {K : Ctx} {σ : AS} {w : World} (hr : Rel G K σ w) {t : TypeId} {len : Nat} {ps : List (Nat × AV)} {r : AV} (h : abuildSlice P t len ps = some r)
    {qs : List (Nat × Value)} (hv : VRp K ps qs) :
    ∃ z w' K', (Instr.buildSlice t len qs.toArray).run P w = .ok z w' ∧ K.le K' ∧ Rel G K' σ w' ∧ VR K' r z := by
  unfold abuildSlice at h
  split at h
  case h_2 => cases h
  rename_i e he
  split at h
  case h_2 => cases h
  rename_i ag n hn
  split at h
  case h_2 => cases h
  split at h
  case isFalse => cases h
  rename_i hc
  obtain ⟨hc1, hc2, hc3, hc4, hc5⟩ := hc
  simp only [Option.some.injEq] at h; subst h
  obtain ⟨z, hz, hzl⟩ := Option.map_eq_some_iff.1 hc5
  obtain ⟨i, zv, hi, hzv, hcr⟩ := zc_spec (K := K) hz
  obtain ⟨_, hsz, hsz2⟩ := run_tk hn w
  have hzn : zv.cells.size = n := by rw [hcr.size, hzl]
  have hlen : (ps.map (·.2)).length = len := by
    have := congrArg List.length hc1; simpa using this
  have hall : ∀ a, a ∈ ps.map (·.2) → isv a = true ∧ (flat a).length = n := by
    intro a ha
    have := List.all_eq_true.1 hc2 a ha
    simpa using this
  have hps : ps = (List.range' 0 (ps.map (·.2)).length).zip (ps.map (·.2)) := by
    conv => lhs; rw [← zip_fst_snd ps]
    rw [hc1, hlen, List.range_eq_range']
  have hz0 := zeros_CR hcr (len * n) (by omega)
  have hfill := afill_seq (n := n) (ps.map (·.2)) 0 ((List.range (len * n)).map fun i => z.getD (i % zv.cells.size) .undef) hall (by rw [hlen]; simp)
  rw [← hps] at hfill
  obtain ⟨us, hus, hcu⟩ := afill_sound ps qs _ _ _ hv hz0 hfill
  have hflen := flatMap_length (sz := n) (ps.map (·.2)) (fun a ha => (hall a ha).2)
  have hcells : (((List.range (len * n)).map fun i => z.getD (i % zv.cells.size) .undef).take (0 * n) ++ (ps.map (·.2)).flatMap flat ++ ((List.range (len * n)).map fun i => z.getD (i % zv.cells.size) .undef).drop ((0 + (ps.map (·.2)).length) * n)) = (ps.map (·.2)).flatMap flat := by
    have hpl : ps.length = len := by simpa using hlen
    rw [Nat.zero_mul, List.take_zero, List.nil_append, List.drop_eq_nil_of_le (by simp [hpl]), List.append_nil]
  rw [hcells] at hcu
  obtain ⟨K', hK, hrel, himm, _⟩ := hr.addImm us e
  have hsize : us.size = len * n := by rw [hcu.size, hflen, hlen]
  have hlml : len ≤ maxLen := by
    unfold maxLen
    have : len * 1 ≤ len * n := Nat.mul_le_mul_left _ hc4
    omega
  refine ⟨.slice (some ⟨w.heap.size, 0, none⟩) len len, _, K', ?_, hK, hrel, ?_⟩
  · unfold Instr.buildSlice
    have hz1 : ¬ (len * n > 2 ^ 24) := by omega
    simp only [Sem.run_bind, run_underlying (run_el he), hsz, Result.andThen_ok, if_neg hz1]
    by_cases h0 : len * n = 0
    · have hl0 : len = 0 := by
        rcases Nat.mul_eq_zero.1 h0 with h | h
        · exact h
        · omega
      subst hl0
      have hp0 : ps = [] := by
        have : ps.length = 0 := by simpa using hlen
        exact List.eq_nil_of_length_eq_zero this
      subst hp0
      cases qs with
      | cons => exact hv.elim
      | nil =>
        simp only [Instr.fill, Option.some.injEq] at hus
        subst hus
        have ez : ∀ (f g : Nat → Value), (Array.range 0).map f = (Array.range 0).map g := fun f g => by apply Array.ext' ; simp
        simp [Instr.fill, newRow]
        exact congrArg (fun c => w.alloc (Obj.cells c e)) (ez _ _)
    · simp only [if_neg h0, Sem.run_bind, run_zc hi hzv, Result.andThen_ok, Sem.run_pure, hus, newRow]
      simp
  · have := VR.sl_row (K := K') (g := .full) (xs := ps.map (·.2)) (n := n) (b := w.heap.size) (cap := (ps.map (·.2)).length) (c := us)
      (fun a ha => ⟨(hall a ha).2, (hall a ha).1, fun c hcm => hcu.one c (List.mem_flatMap.2 ⟨a, ha, hcm⟩)⟩) (Nat.le_refl _)
      (by rw [hlen]; exact hlml)
      (fun o ho => himm o (by rw [hsize, ← hlen]; exact ho)) (fun j hj => (hcu.at_ j hj).mono hK) (by simp [Gh.ok])
    rw [hlen] at this
    exact this

/-! ### appends -/
/-- what the second argument of an append yields -/
def asrc (P : Program) (t : TypeId) : AV → Option (List AV)
  | .sl _ ys _ => if (el P t).isSome then some ys else none
  | .nil => if (el P t).isSome then some [] else none
  | .str s => if sk P t = .str then some (s.map fun c => .int .u8 c.toNat) else none
  | .raw (.slice (some _) 0 _) => if (el P t).isSome then some [] else none
  | _ => none

def valsOf (f : Nat → Value) (n : Nat) : List Value := (List.range n).map f
theorem valsOf_getD (f : Nat → Value) (n j : Nat) (h : j < n) (d : Value) : (valsOf f n).getD j d = f j := by
  simp [valsOf, h]
theorem flat_bytes (s : List UInt8) : (s.map fun c => AV.int .u8 c.toNat).flatMap flat = s.map fun c => AV.int .u8 c.toNat := by
  induction s with
  | nil => rfl
  | cons c s ih => rw [List.map_cons, List.flatMap_cons, ih]; rfl

theorem asrc_sound {P : Program} {G : Nat → AV} {K : Ctx} {σ : AS} {w : World} (hr : Rel G K σ w) {t : TypeId} {x : AV} {ys : List AV} (h : asrc P t x = some ys) {n : Nat}
    (hn : ∀ a, a ∈ ys → (flat a).length = n) {v : Value} (hv : VR K x v) :
    ∃ news : List Value, Src P n t v ys.length news w ∧ news.length = (ys.flatMap flat).length ∧ (∀ a, a ∈ ys → isv a = true ∧ ∀ c, c ∈ flat a → one c = true) ∧
      ∀ j (hj : j < (ys.flatMap flat).length), VR K (ys.flatMap flat)[j] (news.getD j Go.undef) := by
  unfold asrc at h
  have hfl := flatMap_length (sz := n) ys hn
  split at h
  · rename_i g ys' sp
    split at h
    · rename_i hs
      obtain ⟨e, he⟩ := Option.isSome_iff_exists.1 hs
      simp only [Option.some.injEq] at h; subst h
      cases hv with
      | sl0 a =>
        refine ⟨[], ?_, rfl, (fun _ h => by cases h), (fun j hj => by cases hj)⟩
        cases a with
        | none => exact Src.ofNil w (run_el he) 0
        | some a => exact Src.ofSlice w (run_el he) a 0 0 [] (by simp) (fun j u h => by simp at h) (fun u h => by cases h)
      | sl _ _ _ sz b off cap f hsz hcap hml himm hvv hg =>
        have hle : (ys'.flatMap flat).length ≤ ((ys' ++ sp).flatMap flat).length := by simp
        have hgetf : ∀ j (hj : j < (ys'.flatMap flat).length), ((ys' ++ sp).flatMap flat)[j]'(by omega) = (ys'.flatMap flat)[j] := by
          intro j hj
          simp only [List.flatMap_append]
          rw [List.getElem_append_left hj]
        have hone : ∀ u, u ∈ valsOf f (ys'.flatMap flat).length → u.oneCell' = true := by
          intro u hu
          obtain ⟨j, hj, rfl⟩ := List.mem_map.1 hu
          have hj' : j < (ys'.flatMap flat).length := by simpa using hj
          have h1 := hvv j (by omega)
          rw [hgetf j hj'] at h1
          refine h1.oneCell ?_
          obtain ⟨a, ha, hca⟩ := List.mem_flatMap.1 (List.getElem_mem hj')
          exact (hsz a (List.mem_append_left _ ha)).2.2 _ hca
        refine ⟨valsOf f (ys'.flatMap flat).length, Src.ofSlice w (run_el he) ⟨b, off, none⟩ ys'.length cap _ (by simp [valsOf, hfl]) (fun j u hu => ?_) hone, by simp [valsOf], fun a ha => (hsz a (List.mem_append_left _ ha)).2, fun j hj => ?_⟩
        · obtain ⟨hj, rfl⟩ := List.getElem?_eq_some_iff.1 hu
          have hj' : j < (ys'.flatMap flat).length := by simpa [valsOf] using hj
          rw [Addr.add_lit]
          simp only [valsOf, List.getElem_map, List.getElem_range]
          exact hr.imm _ _ _ (himm j (by omega))
        · have h1 := hvv j (by omega)
          rw [hgetf j hj] at h1
          rw [valsOf_getD f _ j hj]; exact h1
    · cases h
  · split at h
    · rename_i hs
      obtain ⟨e, he⟩ := Option.isSome_iff_exists.1 hs
      simp only [Option.some.injEq] at h; subst h
      rw [VR.nil_iff] at hv; subst hv
      exact ⟨[], Src.ofNil w (run_el he) 0, rfl, (fun _ h => by cases h), (fun j hj => by cases hj)⟩
    · cases h
  · rename_i s
    split at h
    · rename_i hs
      simp only [Option.some.injEq] at h
      rw [VR.str_iff] at hv; subst hv
      have hb : byteCells ⟨⟨s⟩⟩ = s.map (fun c => Value.int .u8 c.toNat) := rfl
      have hf1 : ys.flatMap flat = ys := by
        subst h
        exact flat_bytes s
      subst h
      have hn1 : n = 1 ∨ s = [] := by
        cases s with
        | nil => exact .inr rfl
        | cons c s => left; have := hn (.int .u8 c.toNat) (by simp); simpa [flat] using this.symm
      rw [hf1]
      refine ⟨byteCells ⟨⟨s⟩⟩, ?_, by simp [hb], fun a ha => by obtain ⟨c, _, rfl⟩ := List.mem_map.1 ha; exact ⟨rfl, fun y hy => by simp [flat] at hy; subst hy; rfl⟩, fun j hj => ?_⟩
      · have hsz : (ByteArray.mk (Array.mk s)).size = (s.map fun c => AV.int .u8 c.toNat).length := by simp; rfl
        rcases hn1 with rfl | rfl
        · rw [← hsz]; exact Src.ofString w (sk_str hs) ⟨⟨s⟩⟩
        · exact ⟨.inr (sk_str hs), fun _ => rfl, by simp [Builtin.firstCells, byteCells], by simp [Builtin.firstCells, byteCells], by simp [byteCells], fun u hu => by simp [byteCells] at hu⟩
      · have hjs : j < s.length := by simpa using hj
        rw [hb]
        simpa [hjs] using VR.int (K := K) .u8 s[j].toNat
    · cases h
  · rename_i a0 c0
    split at h
    · rename_i hs
      obtain ⟨e, he⟩ := Option.isSome_iff_exists.1 hs
      simp only [Option.some.injEq] at h; subst h
      rw [VR.raw_iff] at hv; subst hv
      exact ⟨[], Src.ofSlice w (run_el he) a0 0 c0 [] (by simp) (fun j u h => by simp at h) (fun u h => by cases h), rfl, (fun _ h => by cases h), (fun j hj => by cases hj)⟩
    · cases h
  · cases h
end Go.Av
set_option linter.unusedVariables false
set_option linter.unusedSimpArgs false
namespace Go.Av
open Go Go.RowKit

theorem heap_setCells (b : Nat) : ∀ (vs : List Value) (o : Nat) (w : World) (cur : Array Value) (E : TypeId) (fz : Nat × Nat), w.heap[b]? = some (.cells cur E fz) →
    ∃ cur', (w.setCells b o vs).heap[b]? = some (.cells cur' E fz) ∧ cur'.size = cur.size
  | [], o, w, cur, E, fz, h => ⟨cur, h, rfl⟩
  | v :: r, o, w, cur, E, fz, h => by
    rw [World.setCells]
    have h1 : (w.setCell ⟨b, o, none⟩ v).heap[b]? = some (.cells (cur.setIfInBounds o v) E fz) := by
      simp [World.setCell, Array.getElem?_modify, h]
    obtain ⟨c', h2, h3⟩ := heap_setCells b r (o + 1) _ _ E fz h1
    exact ⟨c', h2, by rw [h3]; simp⟩
theorem heap_setCells_other (b : Nat) : ∀ (vs : List Value) (o : Nat) (w : World) (k : Nat), k ≠ b → (w.setCells b o vs).heap[k]? = w.heap[k]?
  | [], _, _, _, _ => rfl
  | v :: r, o, w, k, h => by
    rw [World.setCells, heap_setCells_other b r _ _ k h, Below.heap_setCell w _ v k h]
theorem setCells_meta (b : Nat) : ∀ (vs : List Value) (o : Nat) (w : World), (w.setCells b o vs).os = w.os ∧ (w.setCells b o vs).tape = w.tape ∧ (w.setCells b o vs).output = w.output ∧ (w.setCells b o vs).heap.size = w.heap.size
  | [], _, _ => ⟨rfl, rfl, rfl, rfl⟩
  | v :: r, o, w => by
    rw [World.setCells]
    obtain ⟨h1, h2, h3, h4⟩ := setCells_meta b r (o + 1) (w.setCell ⟨b, o, none⟩ v)
    exact ⟨h1, h2, h3, h4.trans (by simp)⟩

section
variable {G : Nat → AV} {K : Ctx} {σ : AS} {w : World}

/-- a new row of the call's own, of which the first m items stand -/
theorem Rel.addRow (h : Rel G K σ w) (c : Array Value) (E : TypeId) (cap s m : Nat) (hc : c.size = cap * s) (hm : m ≤ cap) (hml : cap ≤ maxLen) :
    ∃ K', K.le K' ∧ Rel G K' (σ.setTip w.heap.size (m, s)) (w.alloc (.cells c E)) ∧ K'.row w.heap.size = some (cap, s, E) ∧ ∀ o, o < m * s → K'.imm w.heap.size o = some (c.getD o Go.undef) := by
  have hf := h.fresh (Nat.le_refl w.heap.size)
  have hms : m * s ≤ cap * s := Nat.mul_le_mul_right _ hm
  let K' : Ctx := { K with imm := fun i o => if i = w.heap.size ∧ o < m * s then some (c.getD o Go.undef) else K.imm i o, row := fun i => if i = w.heap.size then some (cap, s, E) else K.row i }
  have himm0 : ∀ o, K.imm w.heap.size o = none := h.imm_none (Nat.le_refl _)
  have hle : K.le K' := by
    refine ⟨fun i o v hv => ?_, fun i x hx => ?_, rfl, rfl⟩
    · show (if i = w.heap.size ∧ o < m * s then some (c.getD o Go.undef) else K.imm i o) = some v
      rw [if_neg]
      · exact hv
      · rintro ⟨rfl, _⟩; rw [himm0] at hv; cases hv
    · show (if i = w.heap.size then some (cap, s, E) else K.row i) = some x
      rw [if_neg]
      · exact hx
      · rintro rfl; rw [h.row_none (Nat.le_refl _)] at hx; cases hx
  have h' := h.alloc (.cells c E)
  have hnew : (w.alloc (.cells c E)).heap[w.heap.size]? = some (.cells c E (0, 0)) := heap_alloc_new w _
  refine ⟨K', hle, ⟨fun i o v hv => ?_, fun i cp s' F hr => ?_, fun i cs hi => ?_, fun i n s' hi => ?_, h'.ty, fun g => (h'.glob g).mono hle, h'.below, h'.bs⟩, ?_, fun o ho => ?_⟩
  · have hv' : (if i = w.heap.size ∧ o < m * s then some (c.getD o Go.undef) else K.imm i o) = some v := hv
    split at hv'
    · rename_i hx
      obtain ⟨rfl, ho⟩ := hx
      rw [World.cell?_alloc_new, ← hv']
      have : o < c.size := by omega
      simp [this]
    · exact h'.imm _ _ _ hv'
  · have hr' : (if i = w.heap.size then some (cap, s, E) else K.row i) = some (cp, s', F) := hr
    split at hr'
    · rename_i hx
      subst hx
      simp only [Option.some.injEq, Prod.mk.injEq] at hr'
      obtain ⟨rfl, rfl, rfl⟩ := hr'
      exact ⟨c, (0, 0), hnew, hc, hml, fun _ => rfl⟩
    · rename_i hx
      obtain ⟨cur, fz, h1, h2, h3, h4⟩ := h'.row _ _ _ _ hr'
      exact ⟨cur, fz, h1, h2, h3, fun ⟨x, hxx⟩ => h4 ⟨x, by simpa [AS.setTip, hx] using hxx⟩⟩
  · obtain ⟨h1, h2, h3, h4, h5, d, F, hd, hs, hvv⟩ := h'.box i cs hi
    have hne : i ≠ w.heap.size := by rintro rfl; have hi' : σ.box w.heap.size = some cs := hi; rw [hf.1] at hi'; cases hi'
    refine ⟨h1, ?_, ?_, fun o => ?_, h5, d, F, hd, hs, fun j hj => (hvv j hj).mono hle⟩
    · simp only [AS.setTip, if_neg hne]; exact h2
    · trivial
    · show (if i = w.heap.size ∧ o < m * s then some (c.getD o Go.undef) else K.imm i o) = none
      rw [if_neg (fun x => hne x.1)]; exact h4 o
  · by_cases hne : i = w.heap.size
    · subst hne
      simp only [AS.setTip, if_true, Option.some.injEq, Prod.mk.injEq] at hi
      obtain ⟨rfl, rfl⟩ := hi
      refine ⟨h.bs, cap, E, ?_, hm, fun o ho => ?_⟩
      · show (if w.heap.size = w.heap.size then some (cap, s, E) else K.row _) = _
        rw [if_pos rfl]
      · show (if w.heap.size = w.heap.size ∧ o < m * s then some (c.getD o Go.undef) else K.imm _ o) = none
        rw [if_neg (by omega)]; exact himm0 o
    · simp only [AS.setTip, if_neg hne] at hi
      obtain ⟨h1, cp, F, hr, hn, ho⟩ := h'.tip i n s' hi
      refine ⟨h1, cp, F, hle.row _ _ hr, hn, fun o hlo => ?_⟩
      show (if i = w.heap.size ∧ o < m * s then some (c.getD o Go.undef) else K.imm i o) = none
      rw [if_neg (fun x => hne x.1)]; exact ho o hlo
  · show (if w.heap.size = w.heap.size then some (cap, s, E) else K.row _) = _
    rw [if_pos rfl]
  · show (if w.heap.size = w.heap.size ∧ o < m * s then some (c.getD o Go.undef) else K.imm _ o) = _
    rw [if_pos ⟨rfl, ho⟩]

/-- items put behind the last one of a row of the call's own -/
theorem Rel.growRow (h : Rel G K σ w) {b n s cap : Nat} {E : TypeId} (ht : σ.tip b = some (n, s)) (hrow : K.row b = some (cap, s, E)) (news : List Value) (m : Nat) (hm : news.length = m * s) (hcap : n + m ≤ cap)
    (h1 : ∀ u, u ∈ news → u.oneCell' = true) :
    ∃ K', K.le K' ∧ Rel G K' (σ.setTip b (n + m, s)) (w.setCells b (n * s) news) ∧ ∀ j, j < news.length → K'.imm b (n * s + j) = some (news.getD j Go.undef) := by
  obtain ⟨hb, cap', E', hrow', hn, himm⟩ := h.tip b n s ht
  rw [hrow] at hrow'
  simp only [Option.some.injEq, Prod.mk.injEq, true_and] at hrow'
  obtain ⟨rfl, rfl⟩ := hrow'
  obtain ⟨cur, fz, hcur, hcs, hml, hfz⟩ := h.row b cap s E hrow
  obtain rfl := hfz ⟨_, ht⟩
  have hnb : σ.box b = none := by
    cases e : σ.box b with
    | none => rfl
    | some cs => have := (h.box b cs e).2.1; rw [ht] at this; cases this
  have hms : (n + m) * s = n * s + m * s := Nat.add_mul n m s
  have hle2 : (n + m) * s ≤ cap * s := Nat.mul_le_mul_right _ hcap
  obtain ⟨cur', hc1, hc2⟩ := heap_setCells b news (n * s) w cur E (0, 0) hcur
  obtain ⟨m1, m2, m3, m4⟩ := setCells_meta b news (n * s) w
  have hcellin : ∀ j, j < news.length → (w.setCells b (n * s) news).cell? ⟨b, n * s + j, none⟩ = some (news.getD j Go.undef) := by
    intro j hj
    have := World.cell?_setCells_in b news (n * s) w (fun j hj => by
      rw [cell_of_row w b _ cur E (0, 0) hcur]
      have : n * s + j < cur.size := by omega
      simp [this]) j hj
    rw [this]
    simp [hj]
  let K' : Ctx := { K with imm := fun i o => if i = b ∧ n * s ≤ o ∧ o < n * s + news.length then some (news.getD (o - n * s) Go.undef) else K.imm i o }
  have hle : K.le K' := by
    refine ⟨fun i o v hv => ?_, fun _ _ h => h, rfl, rfl⟩
    show (if i = b ∧ n * s ≤ o ∧ o < n * s + news.length then some (news.getD (o - n * s) Go.undef) else K.imm i o) = some v
    rw [if_neg]
    · exact hv
    · rintro ⟨rfl, hx, _⟩; rw [himm o hx] at hv; cases hv
  refine ⟨K', hle, ⟨fun i o v hv => ?_, fun i cp s' F hr => ?_, fun i cs hi => ?_, fun i n' s' hi => ?_, fun i F n' hi => ?_, fun g => (h.glob g).mono hle, ?_, by rw [m4]; exact h.bs⟩, fun j hj => ?_⟩
  · have hv' : (if i = b ∧ n * s ≤ o ∧ o < n * s + news.length then some (news.getD (o - n * s) Go.undef) else K.imm i o) = some v := hv
    split at hv'
    · rename_i hx
      obtain ⟨rfl, hx1, hx2⟩ := hx
      have := hcellin (o - n * s) (by omega)
      rw [show n * s + (o - n * s) = o by omega] at this
      rw [this, ← hv']
    · rename_i hx
      have hcell : (w.setCells b (n * s) news).cell? ⟨i, o, none⟩ = w.cell? ⟨i, o, none⟩ :=
        World.cell?_setCells_out b news (n * s) w ⟨i, o, none⟩ (fun e1 _ => by
          have e1' : i = b := e1
          show o < n * s ∨ n * s + news.length ≤ o
          rcases Nat.lt_or_ge o (n * s) with hlt | hge
          · exact .inl hlt
          · rcases Nat.lt_or_ge o (n * s + news.length) with hlt2 | hge2
            · exact absurd ⟨e1', hge, hlt2⟩ hx
            · exact .inr hge2)
      rw [hcell]; exact h.imm _ _ _ hv'
  · obtain ⟨cu, fz, hcu, hx⟩ := h.row i cp s' F hr
    by_cases hib : i = b
    · subst hib
      rw [hcur] at hcu
      simp only [Option.some.injEq, Obj.cells.injEq] at hcu
      obtain ⟨rfl, rfl, rfl⟩ := hcu
      exact ⟨cur', _, hc1, by rw [hc2]; exact hx.1, hx.2.1, fun _ => rfl⟩
    · exact ⟨cu, fz, by rw [heap_setCells_other b news _ _ i hib]; exact hcu, hx.1, hx.2.1, fun ⟨x, hxx⟩ => hx.2.2 ⟨x, by simpa [AS.setTip, hib] using hxx⟩⟩
  · obtain ⟨k1, k2, k3, k4, k5, d, F, hd, hs, hvv⟩ := h.box i cs hi
    have hne : i ≠ b := by rintro rfl; have hi' : σ.box i = some cs := hi; rw [hnb] at hi'; cases hi'
    refine ⟨k1, by simp only [AS.setTip, if_neg hne]; exact k2, k3, fun o => ?_, k5, d, F, by rw [heap_setCells_other b news _ _ i hne]; exact hd, hs, fun j hj => (hvv j hj).mono hle⟩
    show (if i = b ∧ n * s ≤ o ∧ o < n * s + news.length then some (news.getD (o - n * s) Go.undef) else K.imm i o) = none
    rw [if_neg (fun x => hne x.1)]; exact k4 o
  · by_cases hne : i = b
    · subst hne
      simp only [AS.setTip, if_true, Option.some.injEq, Prod.mk.injEq] at hi
      obtain ⟨rfl, rfl⟩ := hi
      refine ⟨hb, cap, E, hrow, hcap, fun o ho => ?_⟩
      show (if i = i ∧ n * s ≤ o ∧ o < n * s + news.length then some (news.getD (o - n * s) Go.undef) else K.imm i o) = none
      rw [if_neg (by omega)]; exact himm o (by omega)
    · simp only [AS.setTip, if_neg hne] at hi
      obtain ⟨k1, cp, F, hr, hn', ho⟩ := h.tip i n' s' hi
      refine ⟨k1, cp, F, hr, hn', fun o hlo => ?_⟩
      show (if i = b ∧ n * s ≤ o ∧ o < n * s + news.length then some (news.getD (o - n * s) Go.undef) else K.imm i o) = none
      rw [if_neg (fun x => hne x.1)]; exact ho o hlo
  · obtain ⟨d, fz, hd, hn'⟩ := h.ty i F n' hi
    by_cases hib : i = b
    · subst hib
      rw [hcur] at hd
      simp only [Option.some.injEq, Obj.cells.injEq] at hd
      obtain ⟨rfl, rfl, rfl⟩ := hd
      exact ⟨cur', _, hc1, by rw [hc2]; exact hn'⟩
    · exact ⟨d, fz, by rw [heap_setCells_other b news _ _ i hib]; exact hd, hn'⟩
  · exact h.below.trans ⟨m1, m2, m3, by rw [m4]; exact Nat.le_refl _, fun k hk => heap_setCells_other b news _ _ k (by omega)⟩
  · show (if b = b ∧ n * s ≤ n * s + j ∧ n * s + j < n * s + news.length then some (news.getD (n * s + j - n * s) Go.undef) else K.imm b (n * s + j)) = _
    rw [if_pos ⟨rfl, by omega, by omega⟩, Nat.add_sub_cancel_left]
end

def aelt (P : Program) (t : TypeId) : Option (TypeId × Nat × Nat) :=
  match el P t with
  | some e => match tk P e, by_ P e, zc P e with
    | some (_, n), some b, some z => if 0 < n ∧ 0 < b ∧ z.length = n then some (e, n, b) else none
    | _, _, _ => none
  | none => none
theorem aelt_spec {P : Program} {K : Ctx} {t e : TypeId} {n b : Nat} (h : aelt P t = some (e, n, b)) :
    P.underlying t = some (.slice e) ∧ ∃ i z, P.info? e = some i ∧ i.zero = some z ∧ i.size = n ∧ i.bytes = b ∧ z.cells.size = n ∧ 0 < n ∧ 0 < b ∧ ∀ zz, zc P e = some zz → CR K zz z.cells := by
  unfold aelt at h
  split at h
  case h_2 => cases h
  rename_i e' he
  split at h
  case h_2 => cases h
  rename_i ag n' b' z hn hb hz
  split at h
  case isFalse => cases h
  rename_i hc
  simp only [Option.some.injEq, Prod.mk.injEq] at h
  obtain ⟨rfl, rfl, rfl⟩ := h
  obtain ⟨i, zv, hi, hzv, hcr⟩ := zc_spec (K := K) hz
  refine ⟨run_el he, i, zv, hi, hzv, ?_, ?_, by rw [hcr.size]; exact hc.2.2, hc.1, hc.2.1, fun zz hzz => ?_⟩
  · unfold tk at hn
    rw [hi] at hn
    split at hn
    · rename_i hii
      simp only [Option.some.injEq, Prod.mk.injEq] at hn hii
      rw [hii]; exact hn.2
    · cases hn
  · unfold by_ at hb
    rw [hi] at hb
    simpa using hb
  · rw [hz] at hzz
    simp only [Option.some.injEq] at hzz
    subst hzz
    exact hcr
end Go.Av
set_option linter.unusedVariables false
set_option linter.unusedSimpArgs false
namespace Go.Av
open Go Go.RowKit

def aappend (P : Program) (σ : AS) (t tx : TypeId) (s x : AV) (K : AV → AS → Prop) : Prop :=
  match aelt P t, asrc P tx x with
  | some (_, n, by_), some ys =>
    (∀ a, a ∈ ys → (flat a).length = n) ∧
    match s with
    | .nil => ys.length * by_ ≤ 140737488355328 ∧ (ys = [] → K .nil σ) ∧ (ys ≠ [] → ∀ b, σ.fresh b → K (.sl (.own b) ys []) (σ.setTip b (ys.length, n)))
    | .sl .full xs [] => (∀ a, a ∈ xs → (flat a).length = n) ∧ (xs.length + ys.length) * by_ ≤ 140737488355328 ∧ (ys = [] → K (.sl .full xs []) σ) ∧
        (ys ≠ [] → ∀ b, σ.fresh b → K (.sl (.own b) (xs ++ ys) []) (σ.setTip b (xs.length + ys.length, n)))
    | .sl (.own b) xs [] => σ.tip b = some (xs.length, n) ∧ (∀ a, a ∈ xs → (flat a).length = n) ∧ (xs.length + ys.length) * by_ ≤ 140737488355328 ∧
        ∀ b', (b' = b ∨ σ.fresh b') → K (.sl (.own b') (xs ++ ys) []) ((σ.delTip b).setTip b' (xs.length + ys.length, n))
    | _ => False
  | _, _ => False

theorem AS.setTip_del (σ : AS) (b : Nat) (x : Nat × Nat) : (σ.delTip b).setTip b x = σ.setTip b x := by
  unfold AS.setTip AS.delTip
  congr 1
  funext i
  show (if i = b then some x else if i = b then none else σ.tip i) = _
  split <;> rfl

theorem Rel.delTip {G : Nat → AV} {K : Ctx} {σ : AS} {w : World} (h : Rel G K σ w) (b : Nat) : Rel G K (σ.delTip b) w := by
  refine ⟨h.imm, fun i cap s E hr => ?_, fun i cs hi => ?_, fun i n s hi => ?_, h.ty, h.glob, h.below, h.bs⟩
  · obtain ⟨cur, fz, h1, h2, h3, h4⟩ := h.row i cap s E hr
    exact ⟨cur, fz, h1, h2, h3, fun ⟨x, hx⟩ => h4 ⟨x, by
      have hx' : (if i = b then none else σ.tip i) = some x := hx
      split at hx'
      · cases hx'
      · exact hx'⟩⟩
  · obtain ⟨h1, h2, h3⟩ := h.box i cs hi
    refine ⟨h1, ?_, h3⟩
    show (if i = b then none else σ.tip i) = none
    split <;> first | rfl | exact h2
  · have hi' : (if i = b then none else σ.tip i) = some (n, s) := hi
    split at hi'
    · cases hi'
    · exact h.tip i n s hi'

/-- a slice at the head of its own row, its items read off old cells and new ones -/
theorem append_new {P : Program} {G : Nat → AV} {K : Ctx} {σ : AS} {w : World} (hr : Rel G K σ w) {xs ys : List AV} {n by_ : Nat} {t tx ty e : TypeId} {i : TypeInfo} {z : Value}
    (ht : P.underlying t = some (.slice e)) (hi : P.info? e = some i) (hz : i.zero = some z) (hsz : i.size = n) (hby : i.bytes = by_) (hzs : z.cells.size = n) (hn0 : 0 < n) (hb0 : 0 < by_)
    (hxs : ∀ a, a ∈ xs → (flat a).length = n ∧ isv a = true ∧ ∀ c, c ∈ flat a → one c = true) (hys : ∀ a, a ∈ ys → (flat a).length = n ∧ isv a = true ∧ ∀ c, c ∈ flat a → one c = true)
    (base : Option Addr) (sCap : Nat) (olds : List Value) (hol : olds.length = (xs.flatMap flat).length) (hov : ∀ j (hj : j < (xs.flatMap flat).length), VR K (xs.flatMap flat)[j] (olds.getD j Go.undef))
    (hold : (Builtin.firstCells i.size xs.length (.slice base xs.length sCap)).run P w.drew = .ok olds.toArray w.drew)
    (v : Value) (news : List Value) (hsrc : Src P i.size tx v ys.length news w) (hnl : news.length = (ys.flatMap flat).length) (hnv : ∀ j (hj : j < (ys.flatMap flat).length), VR K (ys.flatMap flat)[j] (news.getD j Go.undef))
    (hg : sCap < xs.length + ys.length) (hbytes : (xs.length + ys.length) * by_ ≤ 140737488355328) :
    ∃ u w' K', (Builtin.append_ #[t, tx] ty #[.slice base xs.length sCap, v]).run P w = .ok u w' ∧ K.le K' ∧ Rel G K' (σ.setTip w.heap.size (xs.length + ys.length, n)) w' ∧
      VR K' (.sl (.own w.heap.size) (xs ++ ys) []) u := by
  have hmax : xs.length + ys.length ≤ 140737488355328 := by
    have : (xs.length + ys.length) * 1 ≤ (xs.length + ys.length) * by_ := Nat.mul_le_mul_left _ hb0
    omega
  have hrun := run_append_grow_src (P := P) w t tx ty e i z ht hi hz base xs.length sCap olds hold v ys.length news hsrc hg (by omega) (by rw [hby]; exact growslice_fits hg hbytes)
  have hge := grownCap_ge w (xs.length + ys.length) sCap e
  have hcm : grownCap w (xs.length + ys.length) sCap e ≤ maxLen := grownCap_le_maxLen w _ sCap e (by unfold maxLen; omega)
  generalize grownCap w (xs.length + ys.length) sCap e = cap at hrun hge hcm
  have hxl := flatMap_length (sz := n) xs (fun a ha => (hxs a ha).1)
  have hyl := flatMap_length (sz := n) ys (fun a ha => (hys a ha).1)
  have hsize : ((olds ++ news).toArray ++ Builtin.zeroCells z.cells (cap - (xs.length + ys.length))).size = cap * n := by
    simp only [Array.size_append, List.size_toArray, List.length_append, size_zeroCells, hzs, hol, hnl, hxl, hyl, ← Nat.add_mul]
    congr 1; omega
  obtain ⟨K', hle, hrel, hrow, himm⟩ := hr.drew.addRow ((olds ++ news).toArray ++ Builtin.zeroCells z.cells (cap - (xs.length + ys.length))) e cap n (xs.length + ys.length) hsize hge hcm
  refine ⟨_, _, K', hrun, hle, hrel, ?_⟩
  have key : ∀ j (hj : j < ((xs ++ ys).flatMap flat).length), VR K' ((xs ++ ys).flatMap flat)[j] (((olds ++ news).toArray ++ Builtin.zeroCells z.cells (cap - (xs.length + ys.length))).getD j Go.undef) := by
    intro j hj
    have hjl : j < (olds ++ news).length := by simp only [List.flatMap_append, List.length_append] at hj ⊢; omega
    have e1 : ((olds ++ news).toArray ++ Builtin.zeroCells z.cells (cap - (xs.length + ys.length))).getD j Go.undef = (olds ++ news).getD j Go.undef := by
      simp only [Array.getD_eq_getD_getElem?, List.getD_eq_getElem?_getD]
      rw [Array.getElem?_append_left (by simpa using hjl)]
      simp
    rw [e1]
    by_cases hjx : j < (xs.flatMap flat).length
    · have e2 : (olds ++ news).getD j Go.undef = olds.getD j Go.undef := by
        simp only [List.getD_eq_getElem?_getD]; rw [List.getElem?_append_left (by omega)]
      have e3 : ((xs ++ ys).flatMap flat)[j] = (xs.flatMap flat)[j] := by
        simp only [List.flatMap_append]; rw [List.getElem_append_left hjx]
      rw [e2, e3]; exact (hov j hjx).mono hle
    · have e2 : (olds ++ news).getD j Go.undef = news.getD (j - (xs.flatMap flat).length) Go.undef := by
        simp only [List.getD_eq_getElem?_getD]; rw [List.getElem?_append_right (by omega), hol]
      have hj2 : j - (xs.flatMap flat).length < (ys.flatMap flat).length := by simp only [List.flatMap_append, List.length_append] at hj; omega
      have e3 : ((xs ++ ys).flatMap flat)[j] = (ys.flatMap flat)[j - (xs.flatMap flat).length] := by
        simp only [List.flatMap_append]; rw [List.getElem_append_right (by omega)]
      rw [e2, e3]; exact (hnv _ hj2).mono hle
  have := VR.sl_row (K := K') (g := .own w.heap.size) (xs := xs ++ ys) (n := n) (b := w.heap.size) (cap := cap) (c := (olds ++ news).toArray ++ Builtin.zeroCells z.cells (cap - (xs.length + ys.length)))
    (fun a ha => by rcases List.mem_append.1 ha with h | h; exact hxs a h; exact hys a h) (by simp; exact hge) hcm (fun o ho => himm o (by simpa using ho)) key ⟨rfl, rfl, e, n, hrow⟩
  simpa using this

theorem aappend_sound {P : Program} {G : Nat → AV} {K : Ctx} {σ : AS} {w : World} (hr : Rel G K σ w) {t tx ty : TypeId} {s x : AV} {Kc : AV → AS → Prop} (h : aappend P σ t tx s x Kc)
    {v u : Value} (hv : VR K s v) (hu : VR K x u) :
    ∃ z w' K' r σ', (Builtin.append_ #[t, tx] ty #[v, u]).run P w = .ok z w' ∧ K.le K' ∧ Rel G K' σ' w' ∧ VR K' r z ∧ Kc r σ' := by
  unfold aappend at h
  split at h
  case h_2 => exact h.elim
  rename_i e n by_ ys hel hsrc
  obtain ⟨hys, h⟩ := h
  obtain ⟨ht, i, z, hi, hz, hsz, hby, hzs, hn0, hb0, _⟩ := aelt_spec (K := K) hel
  obtain ⟨news, hS, hnl, hyv, hnv⟩ := asrc_sound hr hsrc hys hu
  have hysf : ∀ a, a ∈ ys → (flat a).length = n ∧ isv a = true ∧ ∀ c, c ∈ flat a → one c = true := fun a ha => ⟨hys a ha, hyv a ha⟩
  subst hsz
  split at h
  · -- onto nil
    obtain ⟨hbytes, h0, h1⟩ := h
    rw [VR.nil_iff] at hv; subst hv
    by_cases hy : ys = []
    · subst hy
      have hrun : (Builtin.append_ #[t, tx] ty #[.slice none 0 0, u]).run P w = .ok (.slice none 0 0) w := by
        have hc1 : (Builtin.firstCells i.size 0 u).run P w = .ok news.toArray w := hS.cells
        have hl1 : ∀ w' : World, (Builtin.lenOf u).run P w' = .ok 0 w' := hS.len
        rcases hS.kind with ⟨e', hk⟩ | hk <;> simp [Builtin.append_, run_underlying ht, run_underlying hk, sizeOf, typeInfo, hi, hl1, hc1]
      exact ⟨_, w, K, .nil, σ, hrun, Ctx.le.refl K, hr, .nil, h0 rfl⟩
    · obtain ⟨z', w', K', h2, h3, h4, h5⟩ := append_new (xs := []) (P := P) (ty := ty) hr ht hi hz rfl hby hzs hn0 hb0 (fun a ha => by cases ha) hysf none 0 [] rfl (fun j hj => by cases hj)
        (by simp [Builtin.firstCells]) u news hS hnl hnv (by have := List.length_pos_iff.2 hy; simp; omega) (by simpa using hbytes)
      refine ⟨z', w', K', _, _, h2, h3, h4, h5, ?_⟩
      have := h1 hy w.heap.size (hr.fresh (Nat.le_refl _))
      simpa using this
  · -- onto a slice without spare room
    rename_i xs
    obtain ⟨hxn, hbytes, h0, h1⟩ := h
    have hv0 := hv
    cases hv with
    | sl _ _ _ sz b off cap f hsz hcap hml himm hvv hg =>
      have hgc : cap = xs.length := hg
      simp only [List.append_nil] at hsz himm hvv
      by_cases hy : ys = []
      · subst hy
        have hnews : news = [] := List.eq_nil_of_length_eq_zero (by simpa using hnl)
        subst hnews
        have hrun : (Builtin.append_ #[t, tx] ty #[.slice (some ⟨b, off, none⟩) xs.length cap, u]).run P w = .ok (.slice (some ⟨b, off, none⟩) xs.length cap) w := by
          have hc0 : xs.length ≤ cap := by omega
          have hc1 : (Builtin.firstCells i.size 0 u).run P w = .ok (#[] : Array Value) w := hS.cells
          have hl1 : ∀ w' : World, (Builtin.lenOf u).run P w' = .ok 0 w' := hS.len
          rcases hS.kind with ⟨e', hk⟩ | hk <;> simp [Builtin.append_, run_underlying ht, run_underlying hk, sizeOf, typeInfo, hi, hl1, hc1, hc0, storeCells]
        exact ⟨_, w, K, _, σ, hrun, Ctx.le.refl K, hr, hv0, h0 rfl⟩
      · have hxl := flatMap_length (sz := i.size) xs hxn
        obtain ⟨z', w', K', h2, h3, h4, h5⟩ := append_new (xs := xs) (P := P) (ty := ty) hr ht hi hz rfl hby hzs hn0 hb0 (fun a ha => ⟨hxn a ha, (hsz a ha).2⟩) hysf (some ⟨b, off, none⟩) cap (valsOf f (xs.flatMap flat).length) (by simp [valsOf])
          (fun j hj => by rw [valsOf_getD f _ j hj]; exact hvv j hj)
          (by
            refine run_firstCells_some w.drew i.size xs.length ⟨b, off, none⟩ xs.length cap _ (by simp [valsOf, hxl]) (fun j y hy => ?_)
            obtain ⟨hj, rfl⟩ := List.getElem?_eq_some_iff.1 hy
            have hj' : j < (xs.flatMap flat).length := by simpa [valsOf] using hj
            rw [Addr.add_lit]
            simp only [valsOf, List.getElem_map, List.getElem_range]
            exact hr.imm _ _ _ (himm j hj')) u news hS hnl hnv (by have := List.length_pos_iff.2 hy; omega) hbytes
        exact ⟨z', w', K', _, _, h2, h3, h4, h5, h1 hy w.heap.size (hr.fresh (Nat.le_refl _))⟩
  · -- onto one's own
    rename_i b0 xs
    obtain ⟨htip, hxn, hbytes, h1⟩ := h
    have hv0 := hv
    cases hv with
    | sl _ _ _ sz b off cap f hsz hcap hml himm hvv hg =>
      obtain ⟨rfl, rfl, E, s, hrow⟩ := hg
      simp only [List.append_nil] at hsz himm hvv
      have hxl := flatMap_length (sz := i.size) xs hxn
      obtain ⟨_, cap', E', hrow', hn', hti⟩ := hr.tip b0 _ _ htip
      rw [hrow] at hrow'
      simp only [Option.some.injEq, Prod.mk.injEq] at hrow'
      obtain ⟨rfl, rfl, rfl⟩ := hrow'
      obtain ⟨cur, fz, hcur, hcs, hml', hfz⟩ := hr.row b0 cap i.size E hrow
      obtain rfl := hfz ⟨_, htip⟩
      by_cases hroom : xs.length + ys.length ≤ cap
      · have hyl := flatMap_length (sz := i.size) ys hys
        have hle2 : (xs.length + ys.length) * i.size ≤ cap * i.size := Nat.mul_le_mul_right _ hroom
        have hadd : (xs.length + ys.length) * i.size = xs.length * i.size + ys.length * i.size := Nat.add_mul _ _ _
        have hrun := run_append_room_src (P := P) w t tx ty e i ht hi b0 0 xs.length cap u ys.length news hS hroom
          (fun j hj => by
            rw [cell_of_row w b0 _ cur E (0, 0) hcur]
            have : xs.length * i.size + j < cur.size := by omega
            simp [this])
          (fun j hj => by simp [World.frozen?, hcur])
        rw [Nat.zero_add] at hrun
        obtain ⟨K', hle, hrel, himm'⟩ := hr.growRow htip hrow news ys.length (by rw [hnl, hyl]) hroom hS.one
        have h2 := h1 b0 (.inl rfl)
        rw [AS.setTip_del] at h2
        refine ⟨_, _, K', _, _, hrun, hle, hrel, ?_, h2⟩
        have key := VR.sl (K := K') (.own b0) (xs ++ ys) [] i.size b0 0 cap (fun j => if j < (xs.flatMap flat).length then f j else news.getD (j - (xs.flatMap flat).length) Go.undef)
          (fun a ha => by
            rw [List.append_nil] at ha
            rcases List.mem_append.1 ha with h | h
            · exact ⟨hxn a h, (hsz a h).2⟩
            · exact hysf a h) (by simp; exact hroom) hml
          (fun j hj => by
            simp only [List.append_nil, List.flatMap_append, List.length_append] at hj
            by_cases hjx : j < (xs.flatMap flat).length
            · rw [if_pos hjx]; exact hle.imm _ _ _ (himm j hjx)
            · rw [if_neg hjx, Nat.zero_add]
              have := himm' (j - (xs.flatMap flat).length) (by omega)
              rw [← this]; congr 1; omega)
          (fun j hj => by
            simp only [List.append_nil, List.flatMap_append] at hj ⊢
            by_cases hjx : j < (xs.flatMap flat).length
            · simp only [if_pos hjx]; rw [List.getElem_append_left hjx]; exact (hvv j hjx).mono hle
            · simp only [if_neg hjx]
              have hj2 : j - (xs.flatMap flat).length < (ys.flatMap flat).length := by simp only [List.length_append] at hj; omega
              rw [List.getElem_append_right (by omega)]; exact (hnv _ hj2).mono hle)
          ⟨rfl, rfl, E, i.size, hle.row _ _ hrow⟩
        simpa using key
      · obtain ⟨z', w', K', h2, h3, h4, h5⟩ := append_new (xs := xs) (P := P) (ty := ty) hr ht hi hz rfl hby hzs hn0 hb0 (fun a ha => ⟨hxn a ha, (hsz a ha).2⟩) hysf (some ⟨b0, 0, none⟩) cap (valsOf f (xs.flatMap flat).length) (by simp [valsOf])
          (fun j hj => by rw [valsOf_getD f _ j hj]; exact hvv j hj)
          (by
            refine run_firstCells_some w.drew i.size xs.length ⟨b0, 0, none⟩ xs.length cap _ (by simp [valsOf, hxl]) (fun j y hy => ?_)
            obtain ⟨hj, rfl⟩ := List.getElem?_eq_some_iff.1 hy
            have hj' : j < (xs.flatMap flat).length := by simpa [valsOf] using hj
            rw [Addr.add_lit]
            simp only [valsOf, List.getElem_map, List.getElem_range]
            exact hr.imm _ _ _ (himm j hj')) u news hS hnl hnv (by omega) hbytes
        have hf := hr.fresh (Nat.le_refl w.heap.size)
        have h6 := h1 w.heap.size (.inr hf)
        refine ⟨z', w', K', _, _, h2, h3, ?_, h5, h6⟩
        have hne : w.heap.size ≠ b0 := fun e => by rw [e] at hf; rw [hf.2.1] at htip; cases htip
        have := h4.delTip b0
        have e2 : ((σ.setTip w.heap.size (xs.length + ys.length, i.size)).delTip b0) = ((σ.delTip b0).setTip w.heap.size (xs.length + ys.length, i.size)) := by
          unfold AS.setTip AS.delTip
          congr 1
          funext j
          show (if j = b0 then none else if j = w.heap.size then some _ else σ.tip j) = (if j = w.heap.size then some _ else if j = b0 then none else σ.tip j)
          by_cases hj : j = b0
          · subst hj; rw [if_pos rfl, if_neg (Ne.symm hne), if_pos rfl]
          · rw [if_neg hj, if_neg hj]
        rw [e2] at this
        exact this
  · exact h.elim
end Go.Av
set_option linter.unusedVariables false
set_option linter.unusedSimpArgs false
namespace Go.Av
open Go Go.RowKit

/-- make([]T, 0, c) -/
def amake (P : Program) (σ : AS) (t : TypeId) (l c : AV) (K : AV → AS → Prop) : Prop :=
  match aelt P t, l, c with
  | some (_, n, by_), .int _ l, .int _ c => l = 0 ∧ 0 ≤ c ∧ c * by_ ≤ 140737488355328 ∧ ∀ b, σ.fresh b → K (.sl (.own b) [] []) (σ.setTip b (0, n))
  | _, _, _ => False
set_option maxRecDepth 8000 in
theorem amake_sound {P : Program} {G : Nat → AV} {K : Ctx} {σ : AS} {w : World} (hr : Rel G K σ w) {t : TypeId} {l c : AV} {Kc : AV → AS → Prop} (h : amake P σ t l c Kc) {v u : Value} (hv : VR K l v) (hu : VR K c u) :
    ∃ z w' K' r σ', (Instr.makeSlice t v u).run P w = .ok z w' ∧ K.le K' ∧ Rel G K' σ' w' ∧ VR K' r z ∧ Kc r σ' := by
  unfold amake at h
  split at h
  case h_2 => exact h.elim
  rename_i e n by_ k l k' c hel
  obtain ⟨rfl, h0, hby, hK⟩ := h
  rw [VR.int_iff] at hv hu; subst hv hu
  obtain ⟨ht, i, z, hi, hz, hsz, hbb, hzs, hn0, hb0, _⟩ := aelt_spec (K := K) hel
  obtain ⟨m, rfl⟩ := Int.eq_ofNat_of_zero_le h0
  have hmb : m * by_ ≤ 140737488355328 := by
    have h := hby
    rw [← Int.natCast_mul] at h
    omega
  have hm1 : m ≤ 140737488355328 := by
    have : m * 1 ≤ m * by_ := Nat.mul_le_mul_left _ hb0
    omega
  have hw1 : IntKind.i64.wrap (m : Int) = m := by rw [IntKind.wrap_i64]; omega
  have hw0 : IntKind.i64.wrap 0 = 0 := by rw [IntKind.wrap_i64]; omega
  have hbm : ¬ ((by_ : Int) * (m : Int) > 2 ^ 48) := by
    have : (by_ * m : Nat) ≤ 140737488355328 := by rw [Nat.mul_comm]; exact hmb
    have h2 : ((by_ * m : Nat) : Int) ≤ 140737488355328 := by omega
    rw [Int.natCast_mul] at h2
    have : (2 : Int) ^ 48 = 281474976710656 := by decide
    omega
  have hsize : ((Array.range (m * n)).map (z.cells[· % z.cells.size]!)).size = m * n := by simp
  obtain ⟨K', hle, hrel, hrow, himm⟩ := hr.addRow ((Array.range (m * n)).map (z.cells[· % z.cells.size]!)) e m n 0 hsize (Nat.zero_le _) (by unfold maxLen; omega)
  have hvr := VR.sl_row (K := K') (g := .own w.heap.size) (xs := []) (n := n) (b := w.heap.size) (cap := m) (c := #[]) (fun a ha => by cases ha) (Nat.zero_le _) (by unfold maxLen; omega) (fun o ho => by simp at ho) (fun j hj => by cases hj) ⟨rfl, rfl, e, n, hrow⟩
  refine ⟨_, _, K', _, _, ?_, hle, hrel, hvr, hK _ (hr.fresh (Nat.le_refl _))⟩
  unfold Instr.makeSlice
  have h48 : ¬ ((281474976710656 : Int) < (by_ : Int) * (m : Int)) := by
    have : (2 : Int) ^ 48 = 281474976710656 := by decide
    omega
  by_cases hm0 : m * n = 0
  · have hm00 : m = 0 := by rcases Nat.mul_eq_zero.1 hm0 with h | h <;> omega
    subst hm00
    have ez : ∀ (f g : Nat → Value), (Array.range 0).map f = (Array.range 0).map g := fun f g => by apply Array.ext'; simp
    simp [run_underlying ht, asInt, asIntOf, typeInfo, hi, hw0, hbb, newRow, sizeOf, hsz]
    exact congrArg (fun c => w.alloc (Obj.cells c e)) (ez _ _)
  · simp only [Sem.run_bind, run_underlying ht, asInt, asIntOf, Sem.run_pure, Result.andThen_ok, typeInfo, hi, run_program, hw1, hw0, hbb]
    have hlt : ¬ ((m : Int) < 0) := by omega
    simp [hlt, h48, sizeOf, typeInfo, hi, hsz, hm0, run_zc hi hz, newRow]

/-- marks as read-only turn nothing that is seen, in a block of which nothing is to be written -/
theorem Rel.marked {G : Nat → AV} {K : Ctx} {σ : AS} {w : World} (h : Rel G K σ w) {b k n : Nat} (hbase : K.base ≤ b) (hbox : σ.box b = none) (htip : σ.tip b = none) : Rel G K σ (w.freeze ⟨b, k, none⟩ n) := by
  have hold : ∀ i, i ≠ b → (w.freeze ⟨b, k, none⟩ n).heap[i]? = w.heap[i]? := fun i hi => by
    unfold World.freeze
    split
    · rfl
    · simp [Array.getElem?_modify, Ne.symm hi]
  have hsame : ∀ c E fz, w.heap[b]? = some (.cells c E fz) → ∃ fz', (w.freeze ⟨b, k, none⟩ n).heap[b]? = some (.cells c E fz') := fun c E fz hc => by
    unfold World.freeze
    split
    · exact ⟨fz, hc⟩
    · simp [Array.getElem?_modify, hc]
  have hcell : ∀ a : Addr, (w.freeze ⟨b, k, none⟩ n).cell? a = w.cell? a := by
    intro a
    by_cases hab : a.block = b
    · unfold World.freeze
      split
      · rfl
      · simp only [World.cell?, Array.getElem?_modify, hab, if_true]
        cases w.heap[b]? with
        | none => rfl
        | some o => cases o <;> rfl
    · exact World.cell?_of_block (hold _ hab)
  have hsize : (w.freeze ⟨b, k, none⟩ n).heap.size = w.heap.size := by
    unfold World.freeze
    split <;> simp
  have hmeta : (w.freeze ⟨b, k, none⟩ n).os = w.os ∧ (w.freeze ⟨b, k, none⟩ n).tape = w.tape ∧ (w.freeze ⟨b, k, none⟩ n).output = w.output := by
    unfold World.freeze
    split <;> exact ⟨rfl, rfl, rfl⟩
  refine ⟨fun i o v hv => by rw [hcell]; exact h.imm _ _ _ hv, fun i cp s' E hi => ?_, fun i cs hi => ?_, h.tip, fun i E m hi => ?_, h.glob, ?_, by rw [hsize]; exact h.bs⟩
  · obtain ⟨cu, fz, h1, h2, h3, h4⟩ := h.row i cp s' E hi
    by_cases hib : i = b
    · subst hib
      obtain ⟨fz', h5⟩ := hsame cu E fz h1
      exact ⟨cu, fz', h5, h2, h3, fun ⟨x, hx⟩ => by rw [htip] at hx; cases hx⟩
    · exact ⟨cu, fz, by rw [hold i hib]; exact h1, h2, h3, h4⟩
  · have hne : i ≠ b := by rintro rfl; rw [hbox] at hi; cases hi
    obtain ⟨k1, k2, k3, k4, k5, d, F, hd, hx⟩ := h.box i cs hi
    exact ⟨k1, k2, k3, k4, k5, d, F, by rw [hold i hne]; exact hd, hx⟩
  · obtain ⟨d, fz, hd, hn⟩ := h.ty i E m hi
    by_cases hib : i = b
    · subst hib
      obtain ⟨fz', h5⟩ := hsame d E fz hd
      exact ⟨d, fz', h5, hn⟩
    · exact ⟨d, fz, by rw [hold i hib]; exact hd, hn⟩
  · exact h.below.trans ⟨hmeta.1, hmeta.2.1, hmeta.2.2, by rw [hsize]; exact Nat.le_refl _, fun i hi => hold i (by omega)⟩
/-- []byte(s) -/
theorem conv_bytes {P : Program} {G : Nat → AV} {K : Ctx} {σ : AS} {w : World} (hr : Rel G K σ w) {s d e : TypeId} (hs : (P.underlying s).isSome = true) (hd : el P d = some e) (he : sk P e = .int .u8) (l : List UInt8) (hl : l.length ≤ maxLen) :
    ∃ z w' K', (convert s d (.string ⟨⟨l⟩⟩)).run P w = .ok z w' ∧ K.le K' ∧ Rel G K' σ w' ∧ VR K' (.sl .none (l.map fun c => .int .u8 c.toNat) []) z := by
  obtain ⟨u, hu⟩ := Option.isSome_iff_exists.1 hs
  have hsz : (ByteArray.mk (Array.mk l)).size = l.length := rfl
  have hge : l.length ≤ grownCap w l.length 0 e := grownCap_ge w l.length 0 e
  have hcm : grownCap w l.length 0 e ≤ maxLen := grownCap_le_maxLen w _ 0 e hl
  obtain ⟨cap, hcap⟩ : ∃ cap, cap = grownCap w l.length 0 e := ⟨_, rfl⟩
  rw [← hcap] at hge hcm
  let c : Array Value := ((ByteArray.mk (Array.mk l)).data.map fun b => Value.int .u8 b.toNat) ++ Array.replicate (cap - l.length) (.int .u8 0)
  obtain ⟨K', hle, hrel, himm, hrw⟩ := hr.drew.addImm c e
  have hcs : c.size = cap := by simp [c]; omega
  have hget : ∀ j (h : j < l.length), c.getD j Go.undef = .int .u8 l[j].toNat := by
    intro j h
    have h1 : j < ((ByteArray.mk (Array.mk l)).data.map fun b => Value.int .u8 b.toNat).size := by simpa using h
    simp only [c, Array.getD_eq_getD_getElem?]
    rw [Array.getElem?_append_left h1]
    simp [h]
  have hvr : VR K' (.sl .none (l.map fun c => .int .u8 c.toNat) []) (.slice (some ⟨w.drew.heap.size, 0, none⟩) (l.map fun c => AV.int .u8 c.toNat).length cap) := by
    refine VR.sl_row (n := 1) (c := c) (fun a ha => ?_) (by simpa using hge) hcm (fun o ho => himm o (by rw [hcs]; simp at ho; omega)) (fun j hj => ?_) trivial
    · obtain ⟨x, _, rfl⟩ := List.mem_map.1 ha
      exact ⟨rfl, rfl, fun y hy => by simp [flat] at hy; subst hy; rfl⟩
    · have hj' : j < l.length := by rw [flat_bytes] at hj; simpa using hj
      rw [hget j hj']
      have : ((l.map fun c => AV.int .u8 c.toNat).flatMap flat)[j] = AV.int .u8 l[j].toNat := by
        have h2 : ((l.map fun c => AV.int .u8 c.toNat).flatMap flat)[j]? = (l.map fun c => AV.int .u8 c.toNat)[j]? := by rw [flat_bytes]
        rw [List.getElem?_eq_getElem hj] at h2
        simpa [hj'] using h2
      rw [this]; exact .int _ _
  simp only [List.length_map] at hvr
  have hb1 : K'.base ≤ w.drew.heap.size := by rw [hle.base]; exact hr.bs
  have hfr := hr.fresh (Nat.le_refl w.heap.size)
  have hfin := hrel.marked (b := w.drew.heap.size) (k := c.size) (n := 1) hb1 hfr.1 hfr.2.1
  refine ⟨_, _, K', ?_, hle, hfin, hvr⟩
  unfold convert
  have key : (Conv.stringToBytes e ⟨⟨l⟩⟩).run P w = .ok (.slice (some ⟨w.drew.heap.size, 0, none⟩) l.length cap) ((w.drew.alloc (.cells c e)).freeze ⟨w.drew.heap.size, c.size, none⟩ 1) := by
    unfold Conv.stringToBytes
    have h1 : (choose (.appendCap l.length 0 e)).run P w = .ok cap w.drew := by
      rw [hcap]
      simp [grownCap, Question.forced]
    simp only [hsz, Sem.run_bind, h1, Result.andThen_ok, newRow, run_newObj, World.alloc_eq, Sem.run_pure]
    have h2 : ((w.drew.alloc (.cells c e)).shape? w.drew.heap.size) = some (e, c.size) := by
      have hx := heap_alloc_new w.drew (Obj.cells c e)
      simp only [World.shape?]
      rw [hx]
    have h3 : (markStringish ⟨w.drew.heap.size, 0, none⟩).run P (w.drew.alloc (.cells c e)) = .ok () ((w.drew.alloc (.cells c e)).freeze ⟨w.drew.heap.size, c.size, none⟩ 1) := by
      unfold markStringish
      simp only [Sem.run_bind, run_shape, h2, Result.andThen_ok]
      rfl
    simp only [c] at h3 ⊢
    rw [h3]
    rfl
  cases u <;> simp only [Sem.run_bind, run_underlying hu, run_underlying (run_el hd), run_underlying (sk_int he), Result.andThen_ok] <;> exact key

/-- a conversion; of a text to bytes too -/
def aconvW (P : Program) (s d : TypeId) (x : AV) : Option AV :=
  match x with
  | .str l => if sk P d = .str then aconv P s d x
      else if (P.underlying s).isSome && ((el P d).any fun e => decide (sk P e = .int .u8)) && decide (l.length ≤ maxLen) then some (.sl .none (l.map fun c => .int .u8 c.toNat) []) else none
  | _ => aconv P s d x
theorem aconvW_sound {P : Program} {G : Nat → AV} {K : Ctx} {σ : AS} {w : World} (hr : Rel G K σ w) {s d : TypeId} {x r : AV} (h : aconvW P s d x = some r) {v : Value} (hv : VR K x v) :
    ∃ z w' K', (convert s d v).run P w = .ok z w' ∧ K.le K' ∧ Rel G K' σ w' ∧ VR K' r z := by
  have old : aconv P s d x = some r → ∃ z w' K', (convert s d v).run P w = .ok z w' ∧ K.le K' ∧ Rel G K' σ w' ∧ VR K' r z := fun h => by
    obtain ⟨z, h1, h2⟩ := aconv_sound (w := w) h hv
    exact ⟨z, w, K, h1, Ctx.le.refl K, hr, h2⟩
  unfold aconvW at h
  split at h
  · rename_i l
    split at h
    · exact old h
    · split at h
      · rename_i hc
        simp only [Bool.and_eq_true, decide_eq_true_eq, Option.any_eq_true] at hc
        obtain ⟨⟨h1, e, h2, h3⟩, h4⟩ := hc
        simp only [Option.some.injEq] at h; subst h
        rw [VR.str_iff] at hv; subst hv
        exact conv_bytes hr h1 h2 h3 l h4
      · cases h
  · exact old h
end Go.Av
set_option linter.unusedVariables false
set_option linter.unusedSimpArgs false
namespace Go.Av
open Go Go.RowKit

def AS.delBox (σ : AS) (b : Nat) : AS := { σ with box := fun i => if i = b then none else σ.box i }

section
variable {G : Nat → AV} {K : Ctx} {σ : AS} {w : World}
theorem Rel.delBox (h : Rel G K σ w) (b : Nat) : Rel G K (σ.delBox b) w := by
  refine ⟨h.imm, h.row, fun i cs hi => ?_, h.tip, h.ty, h.glob, h.below, h.bs⟩
  have hi' : (if i = b then none else σ.box i) = some cs := hi
  split at hi'
  · cases hi'
  · exact h.box i cs hi'
/-- a row of the call's own of which nothing is fixed, seen as a box -/
theorem Rel.tipBox (h : Rel G K σ w) {b s cap : Nat} {E : TypeId} (ht : σ.tip b = some (0, s)) (hrow : K.row b = some (cap, s, E)) (cs : List AV) {c : Array Value} (hc : w.heap[b]? = some (.cells c E (0, 0))) (hl : cs.length ≤ c.size)
    (h1 : ∀ a, a ∈ cs → one a = true) (hv : ∀ j (hj : j < cs.length), VR K cs[j] (c.getD j Go.undef)) : Rel G K ((σ.delTip b).setBox b cs) w := by
  obtain ⟨hb, cap', E', hr', _, himm⟩ := h.tip b 0 s ht
  refine ⟨h.imm, fun i cp q F hr => ?_, fun i ds hi => ?_, fun i n q hi => ?_, h.ty, h.glob, h.below, h.bs⟩
  · obtain ⟨cur, fz, k1, k2, k3, k4⟩ := h.row i cp q F hr
    exact ⟨cur, fz, k1, k2, k3, fun ⟨x, hx⟩ => k4 ⟨x, by
      have hx' : (if i = b then none else σ.tip i) = some x := hx
      split at hx'
      · cases hx'
      · exact hx'⟩⟩
  · by_cases hib : i = b
    · subst hib
      simp only [AS.setBox, if_true, Option.some.injEq] at hi
      subst hi
      exact ⟨hb, by simp [AS.setBox, AS.delTip], trivial, fun o => himm o (by omega), h1, c, E, hc, hl, hv⟩
    · simp only [AS.setBox, AS.delTip, if_neg hib] at hi
      obtain ⟨k1, k2, k3⟩ := h.box i ds hi
      exact ⟨k1, by simp [AS.setBox, AS.delTip, hib, k2], k3⟩
  · have hi' : (if i = b then none else σ.tip i) = some (n, q) := hi
    split at hi'
    · cases hi'
    · exact h.tip i n q hi'
/-- a new row, seen as a box -/
theorem Rel.addMut (h : Rel G K σ w) (c : Array Value) (E : TypeId) (cap s : Nat) (hc : c.size = cap * s) (hml : cap ≤ maxLen) (cs : List AV) (hl : cs.length ≤ c.size)
    (h1 : ∀ a, a ∈ cs → one a = true) (hv : ∀ j (hj : j < cs.length), VR K cs[j] (c.getD j Go.undef)) :
    ∃ K', K.le K' ∧ Rel G K' (σ.setBox w.heap.size cs) (w.alloc (.cells c E)) ∧ K'.row w.heap.size = some (cap, s, E) := by
  obtain ⟨K', hle, hrel, hrow, _⟩ := h.addRow c E cap s 0 hc (Nat.zero_le _) hml
  have h2 := hrel.tipBox (b := w.heap.size) (s := s) (by simp [AS.setTip]) hrow cs (heap_alloc_new w _) hl h1 (fun j hj => (hv j hj).mono hle)
  have hf := h.fresh (Nat.le_refl w.heap.size)
  have e : ((σ.setTip w.heap.size (0, s)).delTip w.heap.size).setBox w.heap.size cs = σ.setBox w.heap.size cs := by
    unfold AS.setBox AS.delTip AS.setTip
    congr 1
    funext i
    show (if i = w.heap.size then none else if i = w.heap.size then some (0, s) else σ.tip i) = σ.tip i
    split
    · rename_i hi; subst hi; exact hf.2.1.symm
    · rfl
  rw [e] at h2
  exact ⟨K', hle, h2, hrow⟩
/-- written behind its last item -/
theorem Rel.growMut (h : Rel G K σ w) {b n s cap : Nat} {E : TypeId} {cs : List AV} (hb : σ.box b = some cs) (hrow : K.row b = some (cap, s, E)) (hcs : cs.length = n * s) (news : List Value) (nas : List AV) (m : Nat) (hm : news.length = m * s) (hnl : nas.length = news.length) (hcap : n + m ≤ cap)
    (h1 : ∀ a, a ∈ nas → one a = true) (hv : ∀ j (hj : j < nas.length), VR K nas[j] (news.getD j Go.undef)) :
    Rel G K (σ.setBox b (cs ++ nas)) (w.setCells b (n * s) news) := by
  obtain ⟨g1, g2, g3, g4, g5, c, F, hc, hs, hvv⟩ := h.box b cs hb
  obtain ⟨cur, fz, hcur, hcsz, hml, _⟩ := h.row b cap s E hrow
  rw [hc] at hcur
  simp only [Option.some.injEq, Obj.cells.injEq] at hcur
  obtain ⟨rfl, rfl, _⟩ := hcur
  have hms : (n + m) * s = n * s + m * s := Nat.add_mul n m s
  have hle2 : (n + m) * s ≤ cap * s := Nat.mul_le_mul_right _ hcap
  obtain ⟨c', hc1, hc2⟩ := heap_setCells b news (n * s) w c F (0, 0) hc
  obtain ⟨m1, m2, m3, m4⟩ := setCells_meta b news (n * s) w
  have old : ∀ i, i ≠ b → (w.setCells b (n * s) news).heap[i]? = w.heap[i]? := fun i hi => heap_setCells_other b news _ _ i hi
  have hcellin : ∀ j, j < news.length → c'[n * s + j]? = some (news.getD j Go.undef) := by
    intro j hj
    have h3 := World.cell?_setCells_in b news (n * s) w (fun j hj => by
      rw [cell_of_row w b _ c F (0, 0) hc]
      have : n * s + j < c.size := by omega
      simp [this]) j hj
    rw [cell_of_row _ b _ c' F (0, 0) hc1] at h3
    rw [h3]; simp [hj]
  have hcellout : ∀ o, o < n * s → c'[o]? = c[o]? := by
    intro o ho
    have h3 := World.cell?_setCells_out b news (n * s) w ⟨b, o, none⟩ (fun _ _ => .inl ho)
    rw [cell_of_row _ b _ c' F (0, 0) hc1, cell_of_row w b _ c F (0, 0) hc] at h3
    exact h3
  refine ⟨fun i o v hi => ?_, fun i cp q F' hr => ?_, fun i ds hi => ?_, h.tip, fun i F' n' hi => ?_, h.glob, ?_, by rw [m4]; exact h.bs⟩
  · have hne : i ≠ b := fun e => by subst e; rw [g4 o] at hi; cases hi
    rw [World.cell?_of_block (w := w) (old i hne)]; exact h.imm i o v hi
  · obtain ⟨cu, fz, hcu, hx⟩ := h.row i cp q F' hr
    by_cases hib : i = b
    · subst hib
      rw [hc] at hcu
      simp only [Option.some.injEq, Obj.cells.injEq] at hcu
      obtain ⟨rfl, rfl, rfl⟩ := hcu
      exact ⟨c', _, hc1, by rw [hc2]; exact hx.1, hx.2⟩
    · exact ⟨cu, fz, by rw [old i hib]; exact hcu, hx⟩
  · by_cases hib : i = b
    · subst hib
      simp only [AS.setBox, if_true, Option.some.injEq] at hi
      subst hi
      refine ⟨g1, g2, g3, g4, fun a ha => ?_, c', F, hc1, by rw [List.length_append, hc2]; omega, fun j hj => ?_⟩
      · rcases List.mem_append.1 ha with ha | ha
        · exact g5 a ha
        · exact h1 a ha
      · simp only [Array.getD_eq_getD_getElem?]
        by_cases hjc : j < cs.length
        · rw [List.getElem_append_left hjc, hcellout j (by omega)]
          have := hvv j hjc
          simpa [Array.getD_eq_getD_getElem?] using this
        · have hj2 : j - cs.length < nas.length := by simp only [List.length_append] at hj; omega
          rw [List.getElem_append_right (by omega)]
          have h3 := hcellin (j - n * s) (by omega)
          rw [show n * s + (j - n * s) = j by omega] at h3
          rw [h3]
          have := hv (j - cs.length) hj2
          simpa [← hcs] using this
    · simp only [AS.setBox, if_neg hib] at hi
      obtain ⟨k1, k2, k3, k4, k5, d, F', hd, hds, hdv⟩ := h.box i ds hi
      exact ⟨k1, k2, k3, k4, k5, d, F', by rw [old i hib]; exact hd, hds, hdv⟩
  · obtain ⟨d, fz, hd, hn'⟩ := h.ty i F' n' hi
    by_cases hib : i = b
    · subst hib
      rw [hc] at hd
      simp only [Option.some.injEq, Obj.cells.injEq] at hd
      obtain ⟨rfl, rfl, rfl⟩ := hd
      exact ⟨c', _, hc1, by rw [hc2]; exact hn'⟩
    · exact ⟨d, fz, by rw [old i hib]; exact hd, hn'⟩
  · exact h.below.trans ⟨m1, m2, m3, by rw [m4]; exact Nat.le_refl _, fun k hk => old k (by omega)⟩
/-- nothing of it will be written any more -/
theorem Rel.frozen (h : Rel G K σ w) {b n s cap : Nat} {E : TypeId} {cs : List AV} (hb : σ.box b = some cs) (hrow : K.row b = some (cap, s, E)) (hcs : cs.length = n * s) (hn : n ≤ cap) :
    ∃ K', K.le K' ∧ Rel G K' ((σ.delBox b).setTip b (n, s)) w ∧ K'.row b = some (cap, s, E) ∧ ∃ f : Nat → Value, (∀ j, j < cs.length → K'.imm b j = some (f j)) ∧ (∀ j (hj : j < cs.length), VR K' cs[j] (f j)) ∧ ∀ c, c ∈ cs → one c = true := by
  obtain ⟨g1, g2, g3, g4, g5, c, F, hc, hs, hvv⟩ := h.box b cs hb
  have h0 := h.delBox b
  have h2 : Rel G K (σ.delBox b) w := h0
  obtain ⟨k1, k2⟩ := h2.keep b (fun o => decide (o < n * s)) (by simp [AS.delBox]) (fun m q hm => by
    have hm' : σ.tip b = some (m, q) := hm
    rw [g2] at hm'; cases hm')
  refine ⟨_, k1, ?_, hrow, fun j => c.getD j Go.undef, fun j hj => ?_, fun j hj => (hvv j hj).mono k1, g5⟩
  · refine ⟨k2.imm, fun i cp q F' hr => ?_, fun i ds hi => ?_, fun i m q hi => ?_, k2.ty, k2.glob, k2.below, k2.bs⟩
    · obtain ⟨cur, fz, q1, q2, q3, q4⟩ := k2.row i cp q F' hr
      refine ⟨cur, fz, q1, q2, q3, fun ⟨x, hx⟩ => ?_⟩
      by_cases hib : i = b
      · subst hib
        rw [hc] at q1
        simp only [Option.some.injEq, Obj.cells.injEq] at q1
        exact q1.2.2.symm
      · exact q4 ⟨x, by simpa [AS.setTip, hib] using hx⟩
    · obtain ⟨q1, q2, q3⟩ := k2.box i ds hi
      have hne : i ≠ b := fun e => by subst e; have hi' : (if i = i then none else σ.box i) = some ds := hi; rw [if_pos rfl] at hi'; cases hi'
      exact ⟨q1, by simp only [AS.setTip, if_neg hne]; exact q2, q3⟩
    · by_cases hib : i = b
      · subst hib
        simp only [AS.setTip, if_true, Option.some.injEq, Prod.mk.injEq] at hi
        obtain ⟨rfl, rfl⟩ := hi
        refine ⟨g1, cap, E, hrow, hn, fun o ho => ?_⟩
        show (if i = i ∧ decide (o < n * s) = true then w.cell? ⟨i, o, none⟩ else K.imm i o) = none
        rw [if_neg (by simp; omega)]
        exact g4 o
      · simp only [AS.setTip, if_neg hib] at hi
        exact k2.tip i m q hi
  · show (if b = b ∧ decide (j < n * s) = true then w.cell? ⟨b, j, none⟩ else K.imm b j) = _
    rw [if_pos ⟨rfl, by simp; omega⟩, cell_of_row w b j c F (0, 0) hc]
    have : j < c.size := by omega
    simp [this]
end

set_option maxRecDepth 8000 in
theorem run_make {P : Program} (w : World) {t e : TypeId} {n by_ : Nat} {i : TypeInfo} {z : Value} {k k' : IntKind} (ht : P.underlying t = some (.slice e)) (hi : P.info? e = some i) (hz : i.zero = some z) (hsz : i.size = n) (hbb : i.bytes = by_) (hn0 : 0 < n) (hb0 : 0 < by_)
    (l m : Nat) (hl : l ≤ m) (hmb : m * by_ ≤ 140737488355328) :
    (Instr.makeSlice t (.int k l) (.int k' m)).run P w = .ok (.slice (some ⟨w.heap.size, 0, none⟩) l m) (w.alloc (.cells ((Array.range (m * n)).map (z.cells[· % z.cells.size]!)) e)) := by
  have hm1 : m ≤ 140737488355328 := by
    have : m * 1 ≤ m * by_ := Nat.mul_le_mul_left _ hb0
    omega
  have hw1 : IntKind.i64.wrap (m : Int) = m := by rw [IntKind.wrap_i64]; omega
  have hw0 : IntKind.i64.wrap (l : Int) = l := by rw [IntKind.wrap_i64]; omega
  have h48 : ¬ ((281474976710656 : Int) < (by_ : Int) * (m : Int)) := by
    have : (by_ * m : Nat) ≤ 140737488355328 := by rw [Nat.mul_comm]; exact hmb
    have h2 : ((by_ * m : Nat) : Int) ≤ 140737488355328 := by omega
    rw [Int.natCast_mul] at h2
    omega
  unfold Instr.makeSlice
  by_cases hm0 : m * n = 0
  · have hm00 : m = 0 := by rcases Nat.mul_eq_zero.1 hm0 with h | h <;> omega
    subst hm00
    have hl0 : l = 0 := by omega
    subst hl0
    have ez : ∀ (f g : Nat → Value), (Array.range 0).map f = (Array.range 0).map g := fun f g => by apply Array.ext'; simp
    have hw00 : IntKind.i64.wrap 0 = 0 := by rw [IntKind.wrap_i64]; omega
    simp [run_underlying ht, asInt, asIntOf, typeInfo, hi, hw00, hbb, newRow, sizeOf, hsz]
    exact congrArg (fun c => w.alloc (Obj.cells c e)) (ez _ _)
  · simp only [Sem.run_bind, run_underlying ht, asInt, asIntOf, Sem.run_pure, Result.andThen_ok, typeInfo, hi, run_program, hw1, hw0, hbb]
    have hlt : ¬ ((m : Int) < 0) := by omega
    have hlt2 : ¬ ((l : Int) < 0) := by omega
    have hlt3 : ¬ ((m : Int) < (l : Int)) := by omega
    have hlt4 : ¬ (m < l) := by omega
    simp [hlt, hlt2, hlt3, hlt4, h48, sizeOf, typeInfo, hi, hsz, hm0, run_zc hi hz, newRow]
/-- make([]T, l, c), to be written -/
def amakeM (P : Program) (σ : AS) (t : TypeId) (l c : AV) (K : AV → AS → Prop) : Prop :=
  match aelt P t, (el P t).bind (zc P), l, c with
  | some (e, n, by_), some zz, .int _ l, .int _ c => 0 ≤ l ∧ l ≤ c ∧ c * by_ ≤ 140737488355328 ∧ ∀ b, σ.fresh b → K (.bs b l.toNat n e) (σ.setBox b (List.replicate l.toNat zz).flatten)
  | _, _, _, _ => False
theorem rep_at {zz : List AV} {n : Nat} (hn : zz.length = n) : ∀ (l j : Nat), (hj : j < (List.replicate l zz).flatten.length) → ∃ h : j % n < zz.length, (List.replicate l zz).flatten[j] = zz[j % n]
  | 0, j, hj => by simp at hj
  | l + 1, j, hj => by
    have hlen : (List.replicate (l + 1) zz).flatten = zz ++ (List.replicate l zz).flatten := by simp [List.replicate_succ]
    simp only [hlen] at hj ⊢
    by_cases hjz : j < zz.length
    · have : j % n = j := Nat.mod_eq_of_lt (by omega)
      refine ⟨by omega, ?_⟩
      rw [List.getElem_append_left hjz]
      simp only [this]
    · have hj2 : j - zz.length < (List.replicate l zz).flatten.length := by simp only [List.length_append] at hj; omega
      obtain ⟨h1, h2⟩ := rep_at hn l (j - zz.length) hj2
      have e : (j - zz.length) % n = j % n := by
        rw [hn] at hjz ⊢
        rw [← Nat.mod_eq_sub_mod (by omega)]
      simp only [e] at h1 h2
      refine ⟨h1, ?_⟩
      rw [List.getElem_append_right (by omega)]
      exact h2
theorem amakeM_sound {P : Program} {G : Nat → AV} {K : Ctx} {σ : AS} {w : World} (hr : Rel G K σ w) {t : TypeId} {l c : AV} {Kc : AV → AS → Prop} (h : amakeM P σ t l c Kc) {v u : Value} (hv : VR K l v) (hu : VR K c u) :
    ∃ z w' K' r σ', (Instr.makeSlice t v u).run P w = .ok z w' ∧ K.le K' ∧ Rel G K' σ' w' ∧ VR K' r z ∧ Kc r σ' := by
  unfold amakeM at h
  split at h
  case h_2 => exact h.elim
  rename_i e n by_ zz k l k' c hel hzz
  obtain ⟨h0, hlc, hby, hK⟩ := h
  rw [VR.int_iff] at hv hu; subst hv hu
  obtain ⟨ht, i, z, hi, hz, hsz, hbb, hzs, hn0, hb0, hcr⟩ := aelt_spec (K := K) hel
  have hel2 : el P t = some e := by unfold el; rw [ht]
  rw [hel2, Option.bind_some] at hzz
  have hcrz := hcr zz hzz
  obtain ⟨l, rfl⟩ := Int.eq_ofNat_of_zero_le h0
  obtain ⟨m, rfl⟩ := Int.eq_ofNat_of_zero_le (Int.le_trans h0 hlc)
  have hmb : m * by_ ≤ 140737488355328 := by
    have h := hby
    rw [← Int.natCast_mul] at h
    omega
  have hm1 : m ≤ 140737488355328 := by
    have : m * 1 ≤ m * by_ := Nat.mul_le_mul_left _ hb0
    omega
  have hrun := run_make (P := P) w (k := k) (k' := k') ht hi hz hsz hbb hn0 hb0 l m (by omega) hmb
  have hzl : zz.length = n := by rw [← hcrz.size]; exact hzs
  have hsize : ((Array.range (m * n)).map (z.cells[· % z.cells.size]!)).size = m * n := by simp
  have hflen : (List.replicate l zz).flatten.length = l * n := by simp [hzl]
  have hlm : l * n ≤ m * n := Nat.mul_le_mul_right _ (by omega)
  obtain ⟨K', hle, hrel, hrow⟩ := hr.addMut ((Array.range (m * n)).map (z.cells[· % z.cells.size]!)) e m n hsize (by unfold maxLen; omega) (List.replicate l zz).flatten (by rw [hsize, hflen]; exact hlm)
    (fun a ha => by
      obtain ⟨x, hx, hax⟩ := List.mem_flatten.1 ha
      rw [List.mem_replicate] at hx
      rw [hx.2] at hax
      exact hcrz.one a hax)
    (fun j hj => by
      obtain ⟨h1, h2⟩ := rep_at hzl l j hj
      rw [h2]
      have h3 := hcrz.at_ (j % n) h1
      have hjm : j < m * n := by omega
      have : ((Array.range (m * n)).map (z.cells[· % z.cells.size]!)).getD j Go.undef = z.cells.getD (j % n) Go.undef := by
        have hlt : j % n < z.cells.size := by rw [hzs]; exact Nat.mod_lt _ hn0
        simp [hjm, hzs, Nat.mod_lt _ hn0]
      rw [this]; exact h3)
  refine ⟨_, _, K', _, _, hrun, hle, hrel, ?_, hK _ (hr.fresh (Nat.le_refl _))⟩
  exact .bs _ _ n m e hrow (by omega) (by unfold maxLen; omega)

/-- append, to be written afterwards (its box holds just what it has) -/
def aappendN (P : Program) (σ : AS) (t tx : TypeId) (s x : AV) (K : AV → AS → Prop) : Prop :=
  match aelt P t, asrc P tx x with
  | some (e, n, by_), some ys =>
    (∀ a, a ∈ ys → (flat a).length = n) ∧
    match s with
    | .nil => ys ≠ [] ∧ ys.length * by_ ≤ 140737488355328 ∧ ∀ b, σ.fresh b → K (.bs b ys.length n e) (σ.setBox b (ys.flatMap flat))
    | .bs b m q F => (q = n ∧ F = e) ∧ ∃ cs, σ.box b = some cs ∧ cs.length = m * n ∧ (m + ys.length) * by_ ≤ 140737488355328 ∧
        ∀ b', (b' = b ∨ σ.fresh b') → K (.bs b' (m + ys.length) n e) ((σ.delBox b).setBox b' (cs ++ ys.flatMap flat))
    | _ => False
  | _, _ => False
/-- a new row: what was there, and what is put behind -/
theorem appendM_new {P : Program} {G : Nat → AV} {K : Ctx} {σ : AS} {w : World} (hr : Rel G K σ w) {cs nas : List AV} {n by_ xl yl : Nat} {t tx ty e : TypeId} {i : TypeInfo} {z : Value}
    (ht : P.underlying t = some (.slice e)) (hi : P.info? e = some i) (hz : i.zero = some z) (hsz : i.size = n) (hby : i.bytes = by_) (hzs : z.cells.size = n) (hn0 : 0 < n) (hb0 : 0 < by_)
    (hcl : cs.length = xl * n) (hnn : nas.length = yl * n) (hc1 : ∀ c, c ∈ cs → one c = true) (hn1 : ∀ c, c ∈ nas → one c = true)
    (base : Option Addr) (sCap : Nat) (olds : List Value) (hol : olds.length = cs.length) (hov : ∀ j (hj : j < cs.length), VR K cs[j] (olds.getD j Go.undef))
    (hold : (Builtin.firstCells i.size xl (.slice base xl sCap)).run P w.drew = .ok olds.toArray w.drew)
    (v : Value) (news : List Value) (hsrc : Src P i.size tx v yl news w) (hnl : news.length = nas.length) (hnv : ∀ j (hj : j < nas.length), VR K nas[j] (news.getD j Go.undef))
    (hg : sCap < xl + yl) (hbytes : (xl + yl) * by_ ≤ 140737488355328) :
    ∃ u w' K', (Builtin.append_ #[t, tx] ty #[.slice base xl sCap, v]).run P w = .ok u w' ∧ K.le K' ∧ Rel G K' (σ.setBox w.heap.size (cs ++ nas)) w' ∧ VR K' (.bs w.heap.size (xl + yl) n e) u := by
  have hmax : xl + yl ≤ 140737488355328 := by
    have : (xl + yl) * 1 ≤ (xl + yl) * by_ := Nat.mul_le_mul_left _ hb0
    omega
  have hrun := run_append_grow_src (P := P) w t tx ty e i z ht hi hz base xl sCap olds hold v yl news hsrc hg (by omega) (by rw [hby]; exact growslice_fits hg hbytes)
  have hge := grownCap_ge w (xl + yl) sCap e
  have hcm : grownCap w (xl + yl) sCap e ≤ maxLen := grownCap_le_maxLen w _ sCap e (by unfold maxLen; omega)
  generalize grownCap w (xl + yl) sCap e = cap at hrun hge hcm
  have hsize : ((olds ++ news).toArray ++ Builtin.zeroCells z.cells (cap - (xl + yl))).size = cap * n := by
    simp only [Array.size_append, List.size_toArray, List.length_append, size_zeroCells, hzs, hol, hnl, hcl, hnn, ← Nat.add_mul]
    congr 1; omega
  have hge2 : (xl + yl) * n ≤ cap * n := Nat.mul_le_mul_right _ hge
  obtain ⟨K', hle, hrel, hrow⟩ := hr.drew.addMut ((olds ++ news).toArray ++ Builtin.zeroCells z.cells (cap - (xl + yl))) e cap n hsize hcm (cs ++ nas) (by rw [hsize, List.length_append, hcl, hnn, ← Nat.add_mul]; exact hge2)
    (fun a ha => by rcases List.mem_append.1 ha with ha | ha; exact hc1 a ha; exact hn1 a ha)
    (fun j hj => by
      have hjl : j < (olds ++ news).length := by simp only [List.length_append] at hj ⊢; omega
      have e1 : ((olds ++ news).toArray ++ Builtin.zeroCells z.cells (cap - (xl + yl))).getD j Go.undef = (olds ++ news).getD j Go.undef := by
        simp only [Array.getD_eq_getD_getElem?, List.getD_eq_getElem?_getD]
        rw [Array.getElem?_append_left (by simpa using hjl)]
        simp
      rw [e1]
      by_cases hjx : j < cs.length
      · have e2 : (olds ++ news).getD j Go.undef = olds.getD j Go.undef := by
          simp only [List.getD_eq_getElem?_getD]; rw [List.getElem?_append_left (by omega)]
        rw [e2, List.getElem_append_left hjx]; exact hov j hjx
      · have e2 : (olds ++ news).getD j Go.undef = news.getD (j - cs.length) Go.undef := by
          simp only [List.getD_eq_getElem?_getD]; rw [List.getElem?_append_right (by omega), hol]
        have hj2 : j - cs.length < nas.length := by simp only [List.length_append] at hj; omega
        rw [e2, List.getElem_append_right (by omega)]; exact hnv _ hj2)
  exact ⟨_, _, K', hrun, hle, hrel, .bs _ _ n cap e hrow hge hcm⟩
theorem flatMap_one {ys : List AV} (h : ∀ a, a ∈ ys → isv a = true ∧ ∀ c, c ∈ flat a → one c = true) : ∀ c, c ∈ ys.flatMap flat → one c = true := fun c hc => by
  obtain ⟨a, ha, hca⟩ := List.mem_flatMap.1 hc
  exact (h a ha).2 c hca
theorem aappendN_sound {P : Program} {G : Nat → AV} {K : Ctx} {σ : AS} {w : World} (hr : Rel G K σ w) {t tx ty : TypeId} {s x : AV} {Kc : AV → AS → Prop} (h : aappendN P σ t tx s x Kc)
    {v u : Value} (hv : VR K s v) (hu : VR K x u) :
    ∃ z w' K' r σ', (Builtin.append_ #[t, tx] ty #[v, u]).run P w = .ok z w' ∧ K.le K' ∧ Rel G K' σ' w' ∧ VR K' r z ∧ Kc r σ' := by
  unfold aappendN at h
  split at h
  case h_2 => exact h.elim
  rename_i e n by_ ys hel hsrc
  obtain ⟨hys, h⟩ := h
  obtain ⟨ht, i, z, hi, hz, hsz, hby, hzs, hn0, hb0, _⟩ := aelt_spec (K := K) hel
  obtain ⟨news, hS, hnl, hyv, hnv⟩ := asrc_sound hr hsrc hys hu
  subst hsz
  have hyl := flatMap_length (sz := i.size) ys hys
  split at h
  · obtain ⟨hne, hbytes, hK⟩ := h
    rw [VR.nil_iff] at hv; subst hv
    obtain ⟨z', w', K', h2, h3, h4, h5⟩ := appendM_new (cs := []) (nas := ys.flatMap flat) (xl := 0) (yl := ys.length) (P := P) (ty := ty) hr ht hi hz rfl hby hzs hn0 hb0 (by simp) hyl (fun a ha => by cases ha) (flatMap_one hyv) none 0 [] rfl (fun j hj => by cases hj)
      (by simp [Builtin.firstCells]) u news hS hnl hnv (by have := List.length_pos_iff.2 hne; omega) (by simpa using hbytes)
    refine ⟨z', w', K', _, _, h2, h3, h4, h5, ?_⟩
    have := hK w.heap.size (hr.fresh (Nat.le_refl _))
    simpa using this
  · rename_i b m q F0
    obtain ⟨⟨hq, hF0⟩, cs, hb, hcl, hbytes, hK⟩ := h
    subst hq
    obtain ⟨g1, g2, g3, g4, g5, c, F, hc, hs, hvv⟩ := hr.box b cs hb
    cases hv with
    | bs _ _ _ cap _ hrow hn hm =>
      rw [hF0] at hrow
      obtain ⟨cur, fz, hcur, hcsz, hml, _⟩ := hr.row b cap i.size e hrow
      rw [hc] at hcur
      simp only [Option.some.injEq, Obj.cells.injEq] at hcur
      obtain ⟨rfl, hFe, _⟩ := hcur
      rw [hFe] at hc
      by_cases hroom : m + ys.length ≤ cap
      · have hle2 : (m + ys.length) * i.size ≤ cap * i.size := Nat.mul_le_mul_right _ hroom
        have hadd : (m + ys.length) * i.size = m * i.size + ys.length * i.size := Nat.add_mul _ _ _
        have hrun := run_append_room_src (P := P) w t tx ty e i ht hi b 0 m cap u ys.length news hS hroom
          (fun j hj => by
            rw [cell_of_row w b _ c e (0, 0) hc]
            have : m * i.size + j < c.size := by omega
            simp [this])
          (fun j hj => by simp [World.frozen?, hc])
        rw [Nat.zero_add] at hrun
        have hrel := hr.growMut hb hrow hcl news (ys.flatMap flat) ys.length (by rw [hnl, hyl]) hnl.symm hroom (flatMap_one hyv) hnv
        have h2 := hK b (.inl rfl)
        have e1 : (σ.delBox b).setBox b (cs ++ ys.flatMap flat) = σ.setBox b (cs ++ ys.flatMap flat) := by
          unfold AS.setBox AS.delBox
          congr 1
          funext j
          show (if j = b then some (cs ++ ys.flatMap flat) else if j = b then none else σ.box j) = (if j = b then some (cs ++ ys.flatMap flat) else σ.box j)
          split <;> rfl
        rw [e1] at h2
        exact ⟨_, _, K, _, _, hrun, Ctx.le.refl K, hrel, .bs b _ i.size cap e hrow hroom hm, h2⟩
      · obtain ⟨z', w', K', h2, h3, h4, h5⟩ := appendM_new (cs := cs) (nas := ys.flatMap flat) (xl := m) (yl := ys.length) (P := P) (ty := ty) hr ht hi hz rfl hby hzs hn0 hb0 hcl hyl g5 (flatMap_one hyv) (some ⟨b, 0, none⟩) cap (valsOf (fun j => c.getD j Go.undef) cs.length) (by simp [valsOf])
          (fun j hj => by rw [valsOf_getD _ _ j hj]; exact hvv j hj)
          (by
            refine run_firstCells_some w.drew i.size m ⟨b, 0, none⟩ m cap _ (by simp [valsOf, hcl]) (fun j y hy => ?_)
            obtain ⟨hj, rfl⟩ := List.getElem?_eq_some_iff.1 hy
            have hj' : j < cs.length := by simpa [valsOf] using hj
            rw [Addr.add_lit]
            simp only [valsOf, List.getElem_map, List.getElem_range]
            have : w.drew.cell? ⟨b, 0 + j, none⟩ = w.cell? ⟨b, j, none⟩ := by rw [Nat.zero_add]; rfl
            rw [this, cell_of_row w b j c e (0, 0) hc]
            have : j < c.size := by omega
            simp [this]) u news hS hnl hnv (by omega) hbytes
        have hf := hr.fresh (Nat.le_refl w.heap.size)
        have hne : w.heap.size ≠ b := fun e => by rw [e] at hf; rw [hf.1] at hb; cases hb
        have h6 := hK w.heap.size (.inr hf)
        refine ⟨z', w', K', _, _, h2, h3, ?_, h5, h6⟩
        have h7 := h4.delBox b
        have e2 : (σ.setBox w.heap.size (cs ++ ys.flatMap flat)).delBox b = (σ.delBox b).setBox w.heap.size (cs ++ ys.flatMap flat) := by
          unfold AS.setBox AS.delBox
          congr 1
          funext j
          show (if j = b then none else if j = w.heap.size then some (cs ++ ys.flatMap flat) else σ.box j) = (if j = w.heap.size then some (cs ++ ys.flatMap flat) else if j = b then none else σ.box j)
          by_cases h1 : j = b
          · rw [if_pos h1, if_neg (by rw [h1]; exact Ne.symm hne), if_pos h1]
          · rw [if_neg h1, if_neg h1]
        rw [e2] at h7
        exact h7
  · exact h.elim

theorem Rel.shrink {G : Nat → AV} {K : Ctx} {σ : AS} {w : World} (h : Rel G K σ w) {b : Nat} {cs : List AV} (hb : σ.box b = some cs) (k : Nat) : Rel G K (σ.setBox b (cs.take k)) w := by
  refine ⟨h.imm, h.row, fun i ds hi => ?_, h.tip, h.ty, h.glob, h.below, h.bs⟩
  have hi' : (if i = b then some (cs.take k) else σ.box i) = some ds := hi
  split at hi'
  · rename_i hib
    subst hib
    simp only [Option.some.injEq] at hi'
    subst hi'
    obtain ⟨g1, g2, g3, g4, g5, c, F, hc, hs, hvv⟩ := h.box i cs hb
    refine ⟨g1, g2, g3, g4, fun a ha => g5 a (List.mem_of_mem_take ha), c, F, hc, by simp only [List.length_take]; omega, fun j hj => ?_⟩
    rw [List.getElem_take]
    exact hvv j (by simp only [List.length_take] at hj; omega)
  · exact h.box i ds hi'
/-- append, to be written afterwards -/
def aappendM (P : Program) (σ : AS) (t tx : TypeId) (s x : AV) (K : AV → AS → Prop) : Prop :=
  match aelt P t, asrc P tx x with
  | some (e, n, by_), some ys =>
    (∀ a, a ∈ ys → (flat a).length = n) ∧
    match s with
    | .nil => ys ≠ [] ∧ ys.length * by_ ≤ 140737488355328 ∧ ∀ b, σ.fresh b → K (.bs b ys.length n e) (σ.setBox b (ys.flatMap flat))
    | .bs b m q F => (q = n ∧ F = e) ∧ ∃ cs, σ.box b = some cs ∧ m * n ≤ cs.length ∧ (m + ys.length) * by_ ≤ 140737488355328 ∧
        ∀ b', (b' = b ∨ σ.fresh b') → K (.bs b' (m + ys.length) n e) ((σ.delBox b).setBox b' (cs.take (m * n) ++ ys.flatMap flat))
    | _ => False
  | _, _ => False
theorem aappendM_sound {P : Program} {G : Nat → AV} {K : Ctx} {σ : AS} {w : World} (hr : Rel G K σ w) {t tx ty : TypeId} {s x : AV} {Kc : AV → AS → Prop} (h : aappendM P σ t tx s x Kc)
    {v u : Value} (hv : VR K s v) (hu : VR K x u) :
    ∃ z w' K' r σ', (Builtin.append_ #[t, tx] ty #[v, u]).run P w = .ok z w' ∧ K.le K' ∧ Rel G K' σ' w' ∧ VR K' r z ∧ Kc r σ' := by
  unfold aappendM at h
  split at h
  case h_2 => exact h.elim
  rename_i e n by_ ys hel hsrc
  obtain ⟨hys, h⟩ := h
  split at h
  · exact aappendN_sound (ty := ty) hr (by unfold aappendN; rw [hel, hsrc]; exact ⟨hys, h⟩) hv hu
  · rename_i b m q F0
    obtain ⟨hq, cs, hb, hcl, hbytes, hK⟩ := h
    refine aappendN_sound (ty := ty) (σ := σ.setBox b (cs.take (m * n))) (hr.shrink hb _) ?_ hv hu
    unfold aappendN
    rw [hel, hsrc]
    refine ⟨hys, hq, cs.take (m * n), by simp [AS.setBox], by simp only [List.length_take]; omega, hbytes, fun b' hb' => ?_⟩
    have e1 : ((σ.setBox b (cs.take (m * n))).delBox b).setBox b' (cs.take (m * n) ++ ys.flatMap flat) = (σ.delBox b).setBox b' (cs.take (m * n) ++ ys.flatMap flat) := by
      unfold AS.setBox AS.delBox
      congr 1
      funext j
      show (if j = b' then _ else if j = b then none else if j = b then _ else σ.box j) = (if j = b' then _ else if j = b then none else σ.box j)
      split
      · rfl
      · split <;> rfl
    rw [e1]
    refine hK b' (hb'.imp id fun hf => ?_)
    have hbb : b' ≠ b := fun e => by
      subst e
      have := hf.1
      simp [AS.setBox] at this
    refine ⟨?_, hf.2.1, hf.2.2⟩
    have h1 : (if b' = b then some (cs.take (m * n)) else σ.box b') = none := hf.1
    rw [if_neg hbb] at h1; exact h1
  · exact h.elim
/-- append(nil, make([]T, k)...): a new row, of which nothing is told but its room -/
def aappendZ (P : Program) (σ : AS) (t tx : TypeId) (s x : AV) (K : AV → AS → Prop) : Prop :=
  match aelt P t, sk P tx, s, x with
  | some (e, n, by_), .int _, .nil, .int _ k => 0 < k ∧ k * by_ ≤ 140737488355328 ∧ ∀ b, σ.fresh b → K (.bs b k.toNat n e) (σ.setBox b [])
  | _, _, _, _ => False
theorem aappendZ_sound {P : Program} {G : Nat → AV} {K : Ctx} {σ : AS} {w : World} (hr : Rel G K σ w) {t tx ty : TypeId} {s x : AV} {Kc : AV → AS → Prop} (h : aappendZ P σ t tx s x Kc)
    {v u : Value} (hv : VR K s v) (hu : VR K x u) :
    ∃ z w' K' r σ', (Builtin.append_ #[t, tx] ty #[v, u]).run P w = .ok z w' ∧ K.le K' ∧ Rel G K' σ' w' ∧ VR K' r z ∧ Kc r σ' := by
  unfold aappendZ at h
  split at h
  case h_2 => exact h.elim
  rename_i e n by_ kk k' k hel hsk
  obtain ⟨h0, hby, hK⟩ := h
  rw [VR.nil_iff] at hv; subst hv
  rw [VR.int_iff] at hu; subst hu
  obtain ⟨ht, i, z, hi, hz, hsz, hbb, hzs, hn0, hb0, _⟩ := aelt_spec (K := K) hel
  obtain ⟨m, rfl⟩ := Int.eq_ofNat_of_zero_le (Int.le_of_lt h0)
  have hmb : m * by_ ≤ 140737488355328 := by
    have h := hby
    rw [← Int.natCast_mul] at h
    omega
  have hm1 : m ≤ 140737488355328 := by
    have : m * 1 ≤ m * by_ := Nat.mul_le_mul_left _ hb0
    omega
  have hw1 : IntKind.i64.wrap (m : Int) = m := by rw [IntKind.wrap_i64]; omega
  have hge := grownCap_ge w m 0 e
  have hcm : grownCap w m 0 e ≤ maxLen := grownCap_le_maxLen w _ 0 e (by unfold maxLen; omega)
  have hlt : ¬ ((m : Int) < 0) := by omega
  have h48 : ¬ ((281474976710656 : Int) < (m : Int) * (by_ : Int)) := by rw [← Int.natCast_mul]; omega
  have hmn : ¬ (m ≤ 0) := by omega
  have h63 : ¬ ((9223372036854775807 : Int) < (m : Int)) := by omega
  have hfit := growslice_fits (need := m) (old := 0) (bytes := by_) (by omega) hmb
  have hfit' : ¬ (281474976710656 < Builtin.nextslicecap m 0 * by_) := by omega
  have hmn0 : m * n ≠ 0 := Nat.mul_ne_zero (by omega) (by omega)
  have hrun : (Builtin.append_ #[t, tx] ty #[.slice none 0 0, .int k' (m : Int)]).run P w = .ok (.slice (some ⟨w.heap.size, 0, none⟩) m (grownCap w m 0 e))
      (w.drew.alloc (.cells (Builtin.zeroCells z.cells m ++ Builtin.zeroCells z.cells (grownCap w m 0 e - m)) e)) := by
    simp [Builtin.append_, run_underlying ht, run_underlying (sk_int hsk), sizeOf, typeInfo, zeroValue, hi, hz, hsz, hbb, asInt, asIntOf, hw1, hlt, h48, hmn, h63, hfit', hmn0, Question.forced, newRow, grownCap, Builtin.firstCells]
    omega
  have hsize : (Builtin.zeroCells z.cells m ++ Builtin.zeroCells z.cells (grownCap w m 0 e - m)).size = grownCap w m 0 e * n := by
    simp only [Array.size_append, size_zeroCells, hzs, ← Nat.add_mul]
    congr 1; omega
  obtain ⟨K', hle, hrel, hrow⟩ := hr.drew.addMut (Builtin.zeroCells z.cells m ++ Builtin.zeroCells z.cells (grownCap w m 0 e - m)) e (grownCap w m 0 e) n hsize hcm [] (Nat.zero_le _) (fun a ha => by cases ha) (fun j hj => by cases hj)
  refine ⟨_, _, K', _, _, hrun, hle, hrel, .bs _ _ n _ e hrow hge hcm, ?_⟩
  have := hK w.heap.size (hr.fresh (Nat.le_refl _))
  simpa using this
/-- the ways to append what may be written -/
def aappendX (P : Program) (σ : AS) (t tx : TypeId) (s x : AV) (K : AV → AS → Prop) : Prop := aappendM P σ t tx s x K ∨ aappendZ P σ t tx s x K
theorem aappendX_sound {P : Program} {G : Nat → AV} {K : Ctx} {σ : AS} {w : World} (hr : Rel G K σ w) {t tx ty : TypeId} {s x : AV} {Kc : AV → AS → Prop} (h : aappendX P σ t tx s x Kc)
    {v u : Value} (hv : VR K s v) (hu : VR K x u) :
    ∃ z w' K' r σ', (Builtin.append_ #[t, tx] ty #[v, u]).run P w = .ok z w' ∧ K.le K' ∧ Rel G K' σ' w' ∧ VR K' r z ∧ Kc r σ' := by
  rcases h with h | h
  · exact aappendM_sound hr h hv hu
  · exact aappendZ_sound hr h hv hu

theorem aappendX_mono {P : Program} {σ : AS} {t tx : TypeId} {s x : AV} {K K' : AV → AS → Prop} (hk : ∀ r s, K r s → K' r s) (h : aappendX P σ t tx s x K) : aappendX P σ t tx s x K' := by
  rcases h with h | h
  · refine .inl ?_
    unfold aappendM at h ⊢
    split at h
    · refine ⟨h.1, ?_⟩
      have h2 := h.2
      split at h2
      · exact ⟨h2.1, h2.2.1, fun b hb => hk _ _ (h2.2.2 b hb)⟩
      · obtain ⟨g0, cs, g1, g2, g3, g4⟩ := h2
        exact ⟨g0, cs, g1, g2, g3, fun b hb => hk _ _ (g4 b hb)⟩
      · exact h2.elim
    · exact h.elim
  · refine .inr ?_
    unfold aappendZ at h ⊢
    split at h
    · exact ⟨h.1, h.2.1, fun b hb => hk _ _ (h.2.2 b hb)⟩
    · exact h.elim

/-- unsafe.String of a row's head: its bytes as a text; the row is not written any more -/
def auStr (P : Program) (σ : AS) (pt : TypeId) (x n : AV) (K : AV → AS → Prop) : Prop :=
  match x, n with
  | .nilptr, .int k n => (k = .i64 ∧ n = 0) ∧ K (.str []) σ
  | .bp b s E, .int k n => k = .i64 ∧ s = 1 ∧ sk P pt = .ptr E ∧ P.cellsOf E = 1 ∧ ∃ l : List UInt8, σ.box b = some (l.map fun c => .int .u8 c.toNat) ∧ l ≠ [] ∧ n = l.length ∧ K (.str l) (σ.delBox b)
  | _, _ => False
theorem auStr_mono {P : Program} {σ : AS} {pt : TypeId} {x n : AV} {K K' : AV → AS → Prop} (hk : ∀ r s, K r s → K' r s) (h : auStr P σ pt x n K) : auStr P σ pt x n K' := by
  unfold auStr at h ⊢
  split at h
  · exact ⟨h.1, hk _ _ h.2⟩
  · obtain ⟨g0, g1, g2, g3, l, g4, g5, g6, g7⟩ := h
    exact ⟨g0, g1, g2, g3, l, g4, g5, g6, hk _ _ g7⟩
  · exact h.elim
theorem auStr_sound {P : Program} {G : Nat → AV} {K : Ctx} {σ : AS} {w : World} (hr : Rel G K σ w) {pt it ty : TypeId} {x n : AV} {Kc : AV → AS → Prop} (h : auStr P σ pt x n Kc)
    {v u : Value} (hv : VR K x v) (hu : VR K n u) :
    ∃ z w' r σ', (Builtin.unsafeString_ #[pt, it] ty #[v, u]).run P w = .ok z w' ∧ Rel G K σ' w' ∧ VR K r z ∧ Kc r σ' := by
  unfold auStr at h
  split at h
  · rename_i k n
    obtain ⟨⟨rfl, rfl⟩, hK⟩ := h
    rw [VR.nilptr_iff] at hv; subst hv
    rw [VR.int_iff] at hu; subst hu
    exact ⟨_, w, _, σ, Lib.run_unsafeString_none w _ _ _ none, hr, .str [], hK⟩
  · rename_i b s E k n
    obtain ⟨rfl, rfl, hp, hc1, l, hb, hl0, rfl, hK⟩ := h
    rw [VR.int_iff] at hu; subst hu
    cases hv with
    | bp _ _ cap _ hrow =>
      obtain ⟨g1, g2, g3, g4, g5, c, F, hc, hs, hvv⟩ := hr.box b _ hb
      obtain ⟨cur, fz, hcur, hcsz, hml, _⟩ := hr.row b cap 1 E hrow
      rw [hc] at hcur
      simp only [Option.some.injEq, Obj.cells.injEq] at hcur
      obtain ⟨rfl, rfl, _⟩ := hcur
      simp only [List.length_map] at hs
      have hrun := Lib.run_unsafeString_row (P := P) w pt it ty F (sk_ptr hp) hc1 b c.size (by simp [World.shape?, hc]) l hl0 hs (by unfold maxLen at hml; omega) (fun j y hy => by
        obtain ⟨hj, rfl⟩ := List.getElem?_eq_some_iff.1 hy
        have h1 := hvv j (by simpa using hj)
        simp only [List.getElem_map, VR.int_iff] at h1
        rw [Addr.add_lit, Nat.zero_add, cell_of_row w b j c F (0, 0) hc]
        have hjc : j < c.size := by omega
        simp only [Array.getD_eq_getD_getElem?, Array.getElem?_eq_getElem hjc, Option.getD_some] at h1
        rw [Array.getElem?_eq_getElem hjc, h1])
      refine ⟨_, _, _, σ.delBox b, hrun, (hr.delBox b).marked g1 (by simp [AS.delBox]) g2, .str _, hK⟩
  · exact h.elim

/-! texts of bytes -/
def byteOf : AV → Option UInt8
  | .int .u8 n => some (UInt8.ofNat n.toNat)
  | _ => none
def bytesOf : List AV → Option (List UInt8)
  | [] => some []
  | a :: l => match byteOf a, bytesOf l with
    | some b, some r => some (b :: r)
    | _, _ => none
def isBytes (P : Program) (s d : TypeId) : Bool := decide (sk P d = .str) && (el P s).any fun e => decide (sk P e = .int .u8)
def aconvZ (P : Program) (σ : AS) (s d : TypeId) (x : AV) : Option AV :=
  match x with
  | .nil => if isBytes P s d = true then some (.str []) else none
  | .sl _ xs _ => if isBytes P s d = true then (bytesOf xs).map .str else none
  | .bs b n q _ => if isBytes P s d = true ∧ q = 1 then (match σ.box b with | some cs => if cs.length = n then (bytesOf cs).map .str else none | none => none) else none
  | _ => aconvW P s d x
theorem bytesOf_ints : ∀ (as : List AV) (r : List UInt8), bytesOf as = some r → ∃ ns : List Int, as = ns.map (AV.int .u8) ∧ r = ns.map fun n => UInt8.ofNat n.toNat
  | [], r, h => by simp only [bytesOf, Option.some.injEq] at h; exact ⟨[], rfl, h.symm⟩
  | a :: as, r, h => by
    unfold bytesOf at h
    split at h
    case h_2 => cases h
    rename_i b r' hb hr
    simp only [Option.some.injEq] at h
    subst h
    obtain ⟨ns, rfl, rfl⟩ := bytesOf_ints as r' hr
    unfold byteOf at hb
    split at hb
    · rename_i n
      simp only [Option.some.injEq] at hb
      subst hb
      exact ⟨n :: ns, rfl, rfl⟩
    · cases hb
theorem fold_bytes : ∀ (ns : List Int) (s : ByteArray), ns.foldl (fun r n => r.push (UInt8.ofNat n.toNat)) s = ⟨⟨s.data.toList ++ ns.map fun n => UInt8.ofNat n.toNat⟩⟩
  | [], s => by simp
  | n :: ns, s => by
    rw [List.foldl_cons, fold_bytes ns]
    simp [ByteArray.push]
theorem conv_text {P : Program} {w : World} {s d : TypeId} (hb : isBytes P s d = true) {a : Addr} {n c : Nat} {f : Nat → Value} {as : List AV} {r : List UInt8} {K : Ctx} (hl : as.length = n) (hcell : ∀ j, j < n → w.cell? (a.add j) = some (f j))
    (hv : ∀ j (h : j < as.length), VR K as[j] (f j)) (hr : bytesOf as = some r) : (convert s d (.slice (some a) n c)).run P w = .ok (.string ⟨⟨r⟩⟩) w := by
  simp only [isBytes, Bool.and_eq_true, decide_eq_true_eq, Option.any_eq_true] at hb
  obtain ⟨h1, e, h2, h3⟩ := hb
  obtain ⟨ns, rfl, rfl⟩ := bytesOf_ints as r hr
  rw [run_convert_bytes_string w s d e (some a) n c (run_el h2) (sk_int h3) (sk_str h1)]
  have hnl : ns.length = n := by simpa using hl
  have hlist : (List.range n).map f = ns.map (Value.int .u8) := by
    apply List.ext_getElem
    · simp [hnl]
    · intro j hj1 hj2
      have hj : j < ns.length := by simpa using hj2
      have := hv j (by simpa using hj)
      simp only [List.getElem_map, VR.int_iff] at this
      simp [this]
  have hload := run_loadCells (P := P) w a n f hcell
  rw [hlist] at hload
  rw [run_bytesToString w a n c ns hload, fold_bytes]
  simp [ByteArray.empty, ByteArray.emptyWithCapacity]; rfl
theorem flatMap_ints (ns : List Int) : (ns.map (AV.int .u8)).flatMap flat = ns.map (AV.int .u8) := by
  induction ns with
  | nil => rfl
  | cons n ns ih => simp only [List.map_cons, List.flatMap_cons, ih]; rfl
theorem aconvZ_sound {P : Program} {G : Nat → AV} {K : Ctx} {σ : AS} {w : World} (hr : Rel G K σ w) {s d : TypeId} {x r : AV} (h : aconvZ P σ s d x = some r) {v : Value} (hv : VR K x v) :
    ∃ z w' K', (convert s d v).run P w = .ok z w' ∧ K.le K' ∧ Rel G K' σ w' ∧ VR K' r z := by
  have none_ : ∀ (hb : isBytes P s d = true) (l c : Nat), (convert s d (.slice none l c)).run P w = .ok (.string ⟨⟨[]⟩⟩) w := fun hb l c => by
    simp only [isBytes, Bool.and_eq_true, decide_eq_true_eq, Option.any_eq_true] at hb
    obtain ⟨h1, e, h2, h3⟩ := hb
    rw [run_convert_bytes_string w s d e none l c (run_el h2) (sk_int h3) (sk_str h1)]
    rfl
  unfold aconvZ at h
  split at h
  · split at h
    case isFalse => cases h
    rename_i hb
    simp only [Option.some.injEq] at h; subst h
    rw [VR.nil_iff] at hv; subst hv
    exact ⟨_, w, K, none_ hb 0 0, Ctx.le.refl K, hr, .str _⟩
  · rename_i g xs sp
    split at h
    case isFalse => cases h
    rename_i hb
    simp only [Option.map_eq_some_iff] at h
    obtain ⟨l, h1, rfl⟩ := h
    cases hv with
    | sl0 a =>
      simp only [bytesOf, Option.some.injEq] at h1; subst h1
      cases a with
      | none => exact ⟨_, w, K, none_ hb 0 0, Ctx.le.refl K, hr, .str _⟩
      | some a => exact ⟨_, w, K, conv_text (K := K) (f := fun _ => Go.undef) (as := []) hb rfl (fun j hj => by omega) (fun j hj => by cases hj) rfl, Ctx.le.refl K, hr, .str _⟩
    | sl _ _ _ sz b off cap f hsz hcap hml himm hvv hg =>
      obtain ⟨ns, rfl, e⟩ := bytesOf_ints xs l h1
      have hfl : ((ns.map (AV.int .u8)) ++ sp).flatMap flat = ns.map (AV.int .u8) ++ sp.flatMap flat := by rw [List.flatMap_append, flatMap_ints]
      refine ⟨_, w, K, conv_text (K := K) (f := f) hb rfl (fun j hj => ?_) (fun j hj => ?_) h1, Ctx.le.refl K, hr, .str _⟩
      · rw [Addr.add_lit]
        exact hr.imm _ _ _ (himm j (by rw [hfl, List.length_append]; omega))
      · have hj2 : j < (((ns.map (AV.int .u8)) ++ sp).flatMap flat).length := by rw [hfl, List.length_append]; omega
        have h2 := hvv j hj2
        have e3 : (((ns.map (AV.int .u8)) ++ sp).flatMap flat)[j] = (ns.map (AV.int .u8))[j] := by
          simp only [hfl]; rw [List.getElem_append_left hj]
        rw [e3] at h2; exact h2
  · rename_i b n q F0
    split at h
    case isFalse => cases h
    rename_i hb
    split at h
    case h_2 => cases h
    rename_i cs hcs
    split at h
    case isFalse => cases h
    rename_i hn
    simp only [Option.map_eq_some_iff] at h
    obtain ⟨l, h1, rfl⟩ := h
    obtain ⟨g1, g2, g3, g4, g5, c, F, hc, hs, hvv⟩ := hr.box b cs hcs
    cases hv with
    | bs _ _ _ cap E hrow hnc hm =>
      refine ⟨_, w, K, conv_text (K := K) (f := fun j => c.getD j Go.undef) hb.1 hn (fun j hj => ?_) hvv h1, Ctx.le.refl K, hr, .str _⟩
      rw [Addr.add_lit, Nat.zero_add, cell_of_row w b j c F (0, 0) hc]
      have : j < c.size := by omega
      simp [this]
  · exact aconvW_sound hr h hv
end Go.Av
set_option linter.unusedVariables false
set_option linter.unusedSimpArgs false
namespace Go.Av
open Go Go.RowKit

def callable (P : Program) (k : FuncId) : Bool :=
  match P.funcs[k]? with
  | some fn => !(fn.name == "runtime.NumGoroutine") && fn.body.isSome
  | none => false

/-- called with these, in this state, it returns, and what it returns, with the state behind it, is as Q says -/
def Tri (P : Program) (G : Nat → AV) (f : FuncId) (args : List AV) (σ : AS) (Q : AV → AS → Prop) : Prop :=
  callable P f = true ∧ ∀ (K : Ctx) (w : World) (vals : List Value), Rel G K σ w → VRl K args vals →
    Calls P f vals.toArray w fun e w' => ∃ v r σ' K', e = .returned v ∧ Q r σ' ∧ VR K' r v ∧ Rel G K' σ' w' ∧ K.le K'

theorem Tri.mono {P : Program} {G : Nat → AV} {f : FuncId} {args : List AV} {σ : AS} {Q Q' : AV → AS → Prop} (h : Tri P G f args σ Q) (hq : ∀ r σ', Q r σ' → Q' r σ') : Tri P G f args σ Q' :=
  ⟨h.1, fun K w vals hr hv => (h.2 K w vals hr hv).mono fun e w' ⟨v, r, σ', K', he, hQ, h1⟩ => ⟨v, r, σ', K', he, hq _ _ hQ, h1⟩⟩

def pairs (G : Nat → AV) (e : Env) (ps : List (Nat × Operand)) : List (Nat × AV) := ps.map fun p => (p.1, ev G e p.2)

def acall (P : Program) (G : Nat → AV) (e : Env) (σ : AS) (Kc : AV → AS → Prop) (c : Callee) (args : List Operand) (ts : List TypeId) : Prop :=
  match c with
  | .value f => (match ev G e f with
      | .fn k caps => Tri P G k (args.map (ev G e) ++ caps) σ Kc
      | _ => False)
  | .builtin b => if b = .append then (match args, ts with
      | [s, x], [t, tx] => aappend P σ t tx (ev G e s) (ev G e x) Kc ∨ aappendX P σ t tx (ev G e s) (ev G e x) Kc
      | _, _ => False)
    else if b = .unsafeString then (match args, ts with
      | [x, n], [pt, it] => auStr P σ pt (ev G e x) (ev G e n) Kc
      | _, _ => False)
    else ∃ r, ablt P b ts.toArray (args.map (ev G e)) = some r ∧ Kc r σ
  | .invoke _ _ => False

def aop (P : Program) (G : Nat → AV) (o : Oper) (e : Env) (σ : AS) (Kc : AV → AS → Prop) : Prop :=
  match o.op with
  | .move x => Kc (ev G e x) σ
  | .assign x => Kc (ev G e x) σ
  | .pick c a b => ∃ t, ev G e c = .bool t ∧ Kc (if t = true then ev G e a else ev G e b) σ
  | .alloc E => ∃ z, zc P E = some z ∧ ((∀ b, σ.fresh b → Kc (.ptr b 0) (σ.setBox b z)) ∨ (∀ b, σ.fresh b → Kc (.ptr b 0) ((σ.setBox b z).setTy b (E, z.length))))
  | .box E x => isv (ev G e x) = true ∧ ∀ b, σ.fresh b → Kc (.ptr b 0) (σ.setBox b (flat (ev G e x)))
  | .build t ps => ∃ r, abuild P t (pairs G e ps.toList) = some r ∧ Kc r σ
  | .buildSlice t n ps => ∃ r, abuildSlice P t n (pairs G e ps.toList) = some r ∧ Kc r σ
  | .load t x => ∃ r, aload P σ t (ev G e x) = some r ∧ Kc r σ
  | .store t p x => ∃ σ', astore P σ t (ev G e p) (ev G e x) = some σ' ∧ Kc .undef σ'
  | .nilCheck x => (match ev G e x with | .ptr .. => True | .rp .. => True | .fn .. => True | _ => False) ∧ Kc (ev G e x) σ
  | .binOp op t x y _ => ∃ r, abin P op t (ev G e x) (ev G e y) = some r ∧ Kc r σ
  | .unOp op _ x => ∃ r, aun op (ev G e x) = some r ∧ Kc r σ
  | .convert s d x => ∃ r, aconvZ P σ s d (ev G e x) = some r ∧ Kc r σ
  | .makeFunc fn first caps => (match fn, first.toList with
      | .func f, [] => Kc (.fn f (caps.toList.map (ev G e))) σ
      | _, _ => False)
  | .slice t x lo hi none => ∃ r, aslice P t (ev G e x) (lo.map (ev G e)) (hi.map (ev G e)) = some r ∧ Kc r σ
  | .fieldAddr t x i => ∃ r, afield P t (ev G e x) i = some r ∧ Kc r σ
  | .field t x i => ∃ r, afieldv P t (ev G e x) i = some r ∧ Kc r σ
  | .indexAddr t x i => ∃ r, aindexA P t (ev G e x) (ev G e i) = some r ∧ Kc r σ
  | .index t x i => ∃ r, aindex P t (ev G e x) (ev G e i) = some r ∧ Kc r σ
  | .extract x i => ∃ r, aextract (ev G e x) i = some r ∧ Kc r σ
  | .call c => acall P G e σ Kc c.callee c.args.toList c.argTypes.toList
  | .makeSlice t l c => amake P σ t (ev G e l) (ev G e c) Kc ∨ amakeM P σ t (ev G e l) (ev G e c) Kc
  | _ => False

/-- what came of an operation -/
def Outs (P : Program) (G : Nat → AV) (K : Ctx) (Kc : AV → AS → Prop) : Result Next → Prop
  | .ok (.value v) w' => ∃ r σ' K', Kc r σ' ∧ VR K' r v ∧ Rel G K' σ' w' ∧ K.le K'
  | .ok .skip w' => ∃ σ' K', Kc .undef σ' ∧ Rel G K' σ' w' ∧ K.le K'
  | .ok (.enter f args) w' => Calls P f args w' fun e w'' => ∃ v r σ' K', e = .returned v ∧ Kc r σ' ∧ VR K' r v ∧ Rel G K' σ' w'' ∧ K.le K'
  | _ => False

theorem Outs.value {P : Program} {G : Nat → AV} {K : Ctx} {Kc : AV → AS → Prop} {s : Sem Value} {w : World} {σ : AS} {r : AV} (hr : Rel G K σ w) (hK : Kc r σ)
    (h : ∃ z, s.run P w = .ok z w ∧ VR K r z) : Outs P G K Kc ((do pure (.value (← s)) : Sem Next).run P w) := by
  obtain ⟨z, h1, h2⟩ := h
  simp only [Sem.run_bind, h1, Result.andThen_ok, Sem.run_pure]
  exact ⟨r, σ, K, hK, h2, hr, Ctx.le.refl K⟩
theorem Outs.value' {P : Program} {G : Nat → AV} {K : Ctx} {Kc : AV → AS → Prop} {s : Sem Value} {w w' : World} {z : Value} (h1 : s.run P w = .ok z w')
    (h : ∃ r σ' K', Kc r σ' ∧ VR K' r z ∧ Rel G K' σ' w' ∧ K.le K') : Outs P G K Kc ((do pure (.value (← s)) : Sem Next).run P w) := by
  simp only [Sem.run_bind, h1, Result.andThen_ok, Sem.run_pure]
  exact h

theorem VRp.map {K : Ctx} {G : Nat → AV} {σ : AS} {w : World} {e : Env} {a : Act} (h : ER K e a) (hr : Rel G K σ w) : ∀ (l : List (Nat × Operand)), VRp K (pairs G e l) (l.map fun p => (p.1, a.eval p.2))
  | [] => trivial
  | (i, x) :: l => ⟨rfl, h.eval hr x, VRp.map h hr l⟩

theorem aop_sound {P : Program} {G : Nat → AV} {K : Ctx} {σ : AS} {w : World} {e : Env} {a : Act} {o : Oper} {Kc : AV → AS → Prop} (h : aop P G o e σ Kc) (he : ER K e a) (hr : Rel G K σ w) :
    Outs P G K Kc ((execOp a.eval o).run P w) := by
  unfold aop at h
  unfold execOp
  split at h
  · rename_i x hop; rw [hop]
    exact ⟨_, σ, K, h, he.eval hr x, hr, Ctx.le.refl K⟩
  · rename_i x hop; rw [hop]
    exact ⟨_, σ, K, h, he.eval hr x, hr, Ctx.le.refl K⟩
  · rename_i c x y hop; rw [hop]
    obtain ⟨t, ht, hK⟩ := h
    have hc := he.eval hr c
    rw [ht, VR.bool_iff] at hc
    simp only [hc, asBool, Sem.run_bind, Sem.run_pure, Result.andThen_ok]
    refine ⟨_, σ, K, hK, ?_, hr, Ctx.le.refl K⟩
    cases t
    · exact he.eval hr y
    · exact he.eval hr x
  · rename_i E hop; rw [hop]
    obtain ⟨z, hz, hK⟩ := h
    obtain ⟨h1, h2⟩ := alloc_sound hr hz
    rcases hK with hK | hK
    · exact Outs.value' h1 ⟨_, _, K, hK _ (hr.fresh (Nat.le_refl _)), .ptr _ _, h2, Ctx.le.refl K⟩
    · refine Outs.value' h1 ⟨_, _, K, hK _ (hr.fresh (Nat.le_refl _)), .ptr _ _, ?_, Ctx.le.refl K⟩
      refine h2.typed (heap_alloc_new w _) ?_
      obtain ⟨i, zv, hi, hzv, hcr⟩ := zc_spec (K := K) hz
      have e : ((P.info? E).bind (·.zero)).getD default = zv := by simp [hi, hzv]
      rw [e]; exact hcr.size
  · rename_i E x hop; rw [hop]
    obtain ⟨h1, hK⟩ := h
    obtain ⟨h2, h3⟩ := box_sound (P := P) hr E (he.eval hr x) h1
    exact Outs.value' h2 ⟨_, _, K, hK _ (hr.fresh (Nat.le_refl _)), .ptr _ _, h3, Ctx.le.refl K⟩
  · rename_i t ps hop; rw [hop]
    obtain ⟨r, h1, hK⟩ := h
    have := abuild_sound (w := w) h1 (VRp.map he hr ps.toList)
    have e1 : (ps.toList.map fun p => (p.1, a.eval p.2)).toArray = ps.map fun (x : Nat × Operand) => match x with | (i, x) => (i, a.eval x) := by
      apply Array.ext'; simp
    rw [e1] at this
    exact Outs.value hr hK this
  · rename_i t n ps hop; rw [hop]
    obtain ⟨r, h1, hK⟩ := h
    obtain ⟨z, w', K', h2, h3, h4, h5⟩ := abuildSlice_sound hr h1 (VRp.map he hr ps.toList)
    have e1 : (ps.toList.map fun p => (p.1, a.eval p.2)).toArray = ps.map fun (x : Nat × Operand) => match x with | (i, x) => (i, a.eval x) := by
      apply Array.ext'; simp
    rw [e1] at h2
    exact Outs.value' h2 ⟨r, σ, K', hK, h5, h4, h3⟩
  · rename_i t x hop; rw [hop]
    obtain ⟨r, h1, hK⟩ := h
    exact Outs.value hr hK (aload_sound hr h1 (he.eval hr x))
  · rename_i t p x hop; rw [hop]
    obtain ⟨σ', h1, hK⟩ := h
    obtain ⟨w', h2, h3⟩ := astore_sound hr h1 (he.eval hr p) (he.eval hr x)
    simp only [Sem.run_bind, h2, Result.andThen_ok, Sem.run_pure]
    exact ⟨σ', K, hK, h3, Ctx.le.refl K⟩
  · rename_i x hop; rw [hop]
    obtain ⟨h1, hK⟩ := h
    have hv := he.eval hr x
    have hx : ∀ v, a.eval x = v → (∃ p, v = .pointer (some p)) ∨ (∃ f vs, v = .func (.func f) #[] vs) → VR K (ev G e x) v → Outs P G K Kc (Result.ok (Next.value v) w) := fun v _ _ hv => ⟨_, σ, K, hK, hv, hr, Ctx.le.refl K⟩
    generalize hy : ev G e x = y at h1 hv
    generalize hz : a.eval x = v at hv
    cases y <;> simp only at h1
    case ptr b o =>
      rw [VR.ptr_iff] at hv; subst hv
      simp only [hz]
      exact hx _ hz (.inl ⟨_, rfl⟩) (hy ▸ .ptr b o)
    case rp cs =>
      have hv' := hv
      cases hv with
      | rp _ b off f h2 h3 h4 =>
        simp only [hz]
        exact hx _ hz (.inl ⟨_, rfl⟩) (hy ▸ hv')
    case fn f caps =>
      have hv' := hv
      cases hv with
      | fn _ _ vs h2 h3 =>
        simp only [hz]
        exact hx _ hz (.inr ⟨_, _, rfl⟩) (hy ▸ hv')
  · rename_i op t x y yt hop; rw [hop]
    obtain ⟨r, h1, hK⟩ := h
    exact Outs.value hr hK (abin_sound h1 (he.eval hr x) (he.eval hr y) x y)
  · rename_i op t x hop; rw [hop]
    obtain ⟨r, h1, hK⟩ := h
    exact Outs.value hr hK (aun_sound h1 (he.eval hr x))
  · rename_i s d x hop; rw [hop]
    obtain ⟨r, h1, hK⟩ := h
    obtain ⟨z, w', K', h2, h3, h4, h5⟩ := aconvZ_sound hr h1 (he.eval hr x)
    exact Outs.value' h2 ⟨r, σ, K', hK, h5, h4, h3⟩
  · rename_i fn first caps hop; rw [hop]
    split at h
    case h_2 => exact h.elim
    rename_i f hfirst
    have hl := VRl.map he hr caps.toList
    have hf0 : first = #[] := by apply Array.ext'; simpa using hfirst
    subst hf0
    refine Outs.value' (z := .func (.func f) #[] (caps.map a.eval)) (w' := w) (by simp [Instr.makeFunc]) ⟨_, σ, K, h, .fn f _ _ (by simp) (fun j hj => ?_), hr, Ctx.le.refl K⟩
    have := hl.get j hj
    simpa [Array.getD_eq_getD_getElem?, List.getD_eq_getElem?_getD] using this
  · rename_i t x lo hi hop; rw [hop]
    obtain ⟨r, h1, hK⟩ := h
    refine Outs.value hr hK (aslice_sound h1 (he.eval hr x) (vlo := lo.map a.eval) (vhi := hi.map a.eval) ?_ ?_ ?_ ?_)
    · intro b hb; cases lo with
      | none => cases hb
      | some l => simp only [Option.map_some, Option.some.injEq] at hb; subst hb; exact ⟨_, rfl, he.eval hr l⟩
    · intro hb; cases lo with | none => rfl | some l => cases hb
    · intro b hb; cases hi with
      | none => cases hb
      | some l => simp only [Option.map_some, Option.some.injEq] at hb; subst hb; exact ⟨_, rfl, he.eval hr l⟩
    · intro hb; cases hi with | none => rfl | some l => cases hb
  · rename_i t x i hop; rw [hop]
    obtain ⟨r, h1, hK⟩ := h
    exact Outs.value hr hK (afield_sound h1 (he.eval hr x))
  · rename_i t x i hop; rw [hop]
    obtain ⟨r, h1, hK⟩ := h
    exact Outs.value hr hK (afieldv_sound h1 (he.eval hr x))
  · rename_i t x i hop; rw [hop]
    obtain ⟨r, h1, hK⟩ := h
    exact Outs.value hr hK (aindexA_sound hr.imm h1 (he.eval hr x) (he.eval hr i))
  · rename_i t x i hop; rw [hop]
    obtain ⟨r, h1, hK⟩ := h
    exact Outs.value hr hK (aindex_sound h1 (he.eval hr x) (he.eval hr i))
  · rename_i x i hop; rw [hop]
    obtain ⟨r, h1, hK⟩ := h
    exact Outs.value hr hK (aextract_sound h1 (he.eval hr x))
  · rename_i c hop; rw [hop]
    obtain ⟨callee, args, ts⟩ := c
    change Outs P G K Kc (Sem.run P (do let d ← resolve a.eval { callee := callee, args := args, argTypes := ts } o.type; invoke d.target d.args) w)
    cases callee with
    | value f =>
      simp only [acall] at h
      split at h
      case h_2 => exact h.elim
      rename_i k caps hf
      have hv := he.eval hr f
      rw [hf] at hv
      generalize hfe : a.eval f = fv at hv
      cases hv with
      | fn _ _ vs hl hvv =>
        obtain ⟨hc, hT⟩ := h
        have hargs : VRl K (args.toList.map (ev G e) ++ caps) (args.toList.map a.eval ++ vs.toList) := by
          refine VRl.append (VRl.map he hr args.toList) (VRl.of (by simpa using hl.symm) (fun j hj => ?_))
          have := hvv j hj
          simpa [Array.getD_eq_getD_getElem?, List.getD_eq_getElem?_getD] using this
        have hcall := hT K w _ hr hargs
        have e1 : (args.toList.map a.eval ++ vs.toList).toArray = args.map a.eval ++ vs := by apply Array.ext'; simp
        rw [e1] at hcall
        unfold callable at hc
        split at hc
        case h_2 => cases hc
        rename_i fn hfn
        simp only [Bool.and_eq_true, Bool.not_eq_true'] at hc
        have hb : fn.body.isNone = false := by cases hx : fn.body with | none => rw [hx] at hc; simp at hc | some _ => rfl
        have hrun : ((do let d ← resolve a.eval { callee := .value f, args := args, argTypes := ts } o.type; invoke d.target d.args : Sem Next)).run P w = .ok (.enter k (args.map a.eval ++ vs)) w := by
          have hn1 : ¬ (fn.name = "runtime.NumGoroutine") := by have := hc.1; simpa using this
          have hn2 : ¬ (fn.body = none) := by intro hx; rw [hx] at hb; cases hb
          simp [resolve, hfe, Deferred.ofValue, invoke, callFunc, hfn, hn1, hn2]
        rw [hrun]
        exact hcall
    | builtin b =>
      simp only [acall] at h
      by_cases hb : b = .append
      · rw [if_pos hb] at h
        subst hb
        split at h
        case h_2 => exact h.elim
        rename_i s x t tx hargs hts
        have hboth : ∃ z w' K' r σ', (Builtin.append_ #[t, tx] o.type #[a.eval s, a.eval x]).run P w = .ok z w' ∧ K.le K' ∧ Rel G K' σ' w' ∧ VR K' r z ∧ Kc r σ' := by
          rcases h with h | h
          · exact aappend_sound (ty := o.type) hr h (he.eval hr s) (he.eval hr x)
          · exact aappendX_sound (ty := o.type) hr h (he.eval hr s) (he.eval hr x)
        obtain ⟨z, w', K', r, σ', h1, h2, h3, h4, h5⟩ := hboth
        have ea : args = #[s, x] := by apply Array.ext'; simpa using hargs
        have et : ts = #[t, tx] := by apply Array.ext'; simpa using hts
        subst ea et
        have hrun : ((do let d ← resolve a.eval { callee := .builtin .append, args := #[s, x], argTypes := #[t, tx] } o.type; invoke d.target d.args : Sem Next)).run P w = .ok (.value z) w' := by
          simp [resolve, invoke, builtin, h1]
        rw [hrun]
        exact ⟨r, σ', K', h5, h4, h3, h2⟩
      · rw [if_neg hb] at h
        by_cases hb2 : b = .unsafeString
        · rw [if_pos hb2] at h
          subst hb2
          split at h
          case h_2 => exact h.elim
          rename_i x n pt it hargs hts
          obtain ⟨z, w', r, σ', h1, h3, h4, h5⟩ := auStr_sound (it := it) (ty := o.type) hr h (he.eval hr x) (he.eval hr n)
          have ea : args = #[x, n] := by apply Array.ext'; simpa using hargs
          have et : ts = #[pt, it] := by apply Array.ext'; simpa using hts
          subst ea et
          have hrun : ((do let d ← resolve a.eval { callee := .builtin .unsafeString, args := #[x, n], argTypes := #[pt, it] } o.type; invoke d.target d.args : Sem Next)).run P w = .ok (.value z) w' := by
            simp [resolve, invoke, builtin, h1]
          rw [hrun]
          exact ⟨r, σ', K, h5, h4, h3, Ctx.le.refl K⟩
        rw [if_neg hb2] at h
        obtain ⟨r, h1, hK⟩ := h
        obtain ⟨z, h2, h3⟩ := ablt_sound (P := P) (w := w) (ty := o.type) (cn := args.map fun | .const _ => true | _ => false) h1 (VRl.map he hr args.toList)
        have e1 : (args.toList.map a.eval).toArray = args.map a.eval := by apply Array.ext'; simp
        have e2 : ts.toList.toArray = ts := by simp
        rw [e1, e2] at h2
        have hrun : ((do let d ← resolve a.eval { callee := .builtin b, args := args, argTypes := ts } o.type; invoke d.target d.args : Sem Next)).run P w = .ok (.value z) w := by
          simp only [resolve, invoke, Sem.run_bind, Sem.run_pure, Result.andThen_ok]
          exact h2
        rw [hrun]
        exact ⟨r, σ, K, hK, h3, hr, Ctx.le.refl K⟩
    | invoke r m => exact h.elim
  · rename_i t l c hop; rw [hop]
    have hboth : ∃ z w' K' r σ', (Instr.makeSlice t (a.eval l) (a.eval c)).run P w = .ok z w' ∧ K.le K' ∧ Rel G K' σ' w' ∧ VR K' r z ∧ Kc r σ' := by
      rcases h with h | h
      · exact amake_sound hr h (he.eval hr l) (he.eval hr c)
      · exact amakeM_sound hr h (he.eval hr l) (he.eval hr c)
    obtain ⟨z, w', K', r, σ', h1, h2, h3, h4, h5⟩ := hboth
    exact Outs.value' h1 ⟨r, σ', K', h5, h4, h3, h2⟩
  · exact h.elim
end Go.Av
set_option linter.unusedVariables false
set_option linter.unusedSimpArgs false
namespace Go.Av
open Go Go.RowKit

def awanted (ops : List Oper) (e : Env) (g : Option (Nat × Bool)) : Option Bool :=
  match g with
  | none => some true
  | some (j, want) => match (ops[j]?).bind (·.dst) with
    | some t => match e t with
      | .bool b => some (b == want)
      | .tup [] => some false
      | _ => none
    | none => none

theorem VR.skipped {K : Ctx} : VR K (.tup []) Go.undef := .tup [] #[] rfl (fun j h => by cases h)
theorem awanted_sound {ops : Array Oper} {K : Ctx} {e : Env} {a : Act} {o : Oper} {b : Bool} (h : awanted ops.toList e o.guard = some b) (he : ER K e a) : Region.wanted o (yielded ops a.tmps) = b := by
  unfold awanted at h
  unfold Region.wanted
  split at h
  · rename_i hg; rw [hg]; simpa using h
  · rename_i j want hg
    rw [hg]
    simp only
    split at h
    · rename_i t ht
      split at h
      · rename_i b' hb
        simp only [Option.some.injEq] at h
        have ht' : (ops[j]?).bind (·.dst) = some t := by simpa using ht
        have hv := he t
        rw [hb, VR.bool_iff] at hv
        have hget : a.tmps[t]? = some (.bool b') := by
          cases hx : a.tmps[t]? with
          | none => simp [hx] at hv; cases hv
          | some v => simp [hx] at hv; rw [hv]
        have hy : yielded ops a.tmps j = some b' := by
          unfold yielded
          rw [ht']
          simp [hget]
        rw [hy, ← h]
        simp
      · rename_i hb
        simp only [Option.some.injEq] at h; subst h
        have ht' : (ops[j]?).bind (·.dst) = some t := by simpa using ht
        have hv := he t
        rw [hb] at hv
        have hget : ∀ b', a.tmps[t]? ≠ some (.bool b') := fun b' hx => by
          have : a.tmps.getD t Go.undef = .bool b' := by simp [Array.getD_eq_getD_getElem?, hx]
          rw [this] at hv; cases hv
        have hy : yielded ops a.tmps j = none := by
          unfold yielded
          rw [ht']
          cases hx : a.tmps[t]? with
          | none => simp [hx]
          | some v => cases v <;> first | (simp [hx]; done) | exact absurd hx (hget _)
        rw [hy]
        rfl
      · cases h
    · cases h

/-- operations one behind the other -/
def awpOps (P : Program) (G : Nat → AV) (ops : List Oper) (Q : Env → AS → Prop) : List Oper → Env → AS → Prop
  | [], e, σ => Q e σ
  | o :: rest, e, σ => ∃ b, awanted ops e o.guard = some b ∧ (b = true → aop P G o e σ fun r σ' => awpOps P G ops Q rest (e.upd o.dst r) σ') ∧
      (b = false → awpOps P G ops Q rest (e.upd o.dst (.tup [])) σ)

/-- the state of a frame, seen -/
structure St (P : Program) (G : Nat → AV) (K : Ctx) (N : Nat) (ds : List Deferred) (e : Env) (σ : AS) (a : Act) (w : World) : Prop where
  er : ER K e a
  rel : Rel G K σ w
  size : N ≤ a.tmps.size
  defers : a.defers = ds
theorem St.put {P : Program} {G : Nat → AV} {K K' : Ctx} {N : Nat} {ds : List Deferred} {e : Env} {σ σ' : AS} {a : Act} {w w' : World} (h : St P G K N ds e σ a w) (hK : K.le K') {d : Option Tmp} (hd : ∀ t, d = some t → t < N)
    {r : AV} {v : Value} (hv : VR K' r v) (hr : Rel G K' σ' w') : St P G K' N ds (e.upd d r) σ' (a.put d v) w' := by
  refine ⟨(h.er.mono hK).put (fun t ht => Nat.lt_of_lt_of_le (hd t ht) h.size) hv, hr, ?_, ?_⟩
  · cases d with
    | none => exact h.size
    | some t => simpa [Act.put] using h.size
  · cases d with
    | none => exact h.defers
    | some t => exact h.defers

/-- what came of an operation, carried on -/
theorem Outs.wp {P : Program} {G : Nat → AV} {K : Ctx} {Kc : AV → AS → Prop} {o : Oper} {a : Act} {w : World} (h : Outs P G K Kc ((execOp a.eval o).run P w)) {next : Act → World → Prop} {Q : Exit → Act → World → Prop}
    (hn : ∀ r σ' K' v w', Kc r σ' → VR K' r v → Rel G K' σ' w' → K.le K' → next (a.put o.dst v) w') : o.wp P a w next Q := by
  unfold Oper.wp
  generalize (execOp a.eval o).run P w = res at h
  unfold Outs at h
  split at h
  · obtain ⟨r, σ', K', h1, h2, h3, h4⟩ := h
    exact hn r σ' K' _ _ h1 h2 h3 h4
  · obtain ⟨σ', K', h1, h2, h3⟩ := h
    exact hn .undef σ' K' _ _ h1 (.undef _) h2 h3
  · simp only [Oper.upon]
    refine h.mono ?_
    rintro e w' ⟨v, r, σ', K', rfl, h1, h2, h3, h4⟩
    exact hn r σ' K' _ _ h1 h2 h3 h4
  · exact h.elim

def dstLt (N : Nat) (o : Oper) : Bool := match o.dst with | some t => decide (t < N) | none => true
theorem dstLt_spec {N : Nat} {o : Oper} (h : dstLt N o = true) : ∀ t, o.dst = some t → t < N := by
  intro t ht
  unfold dstLt at h
  rw [ht] at h
  simpa using h

theorem awpOps_sound {P : Program} {G : Nat → AV} {N : Nat} {ds : List Deferred} {ops : Array Oper} {Q : Env → AS → Prop} {R : Exit → Act → World → Prop} {K0 : Ctx}
    (hR : ∀ e σ K a w, Q e σ → St P G K N ds e σ a w → K0.le K → R .normal a w) :
    ∀ (l : List Oper) (e : Env) (σ : AS) (K : Ctx) (a : Act) (w : World), l.all (dstLt N) = true → awpOps P G ops.toList Q l e σ → St P G K N ds e σ a w → K0.le K → wpList P ops R l a w
  | [], e, σ, K, a, w, _, h, hs, hk => hR e σ K a w h hs hk
  | o :: rest, e, σ, K, a, w, hd, h, hs, hk => by
    simp only [List.all_cons, Bool.and_eq_true] at hd
    obtain ⟨b, hb, h1, h2⟩ := h
    have hw := awanted_sound hb hs.er
    unfold wpList
    cases b with
    | true =>
      rw [if_pos hw]
      refine .inl ((aop_sound (h1 rfl) hs.er hs.rel).wp fun r σ' K' v w' hq hv hr hle => ?_)
      exact awpOps_sound hR rest _ _ K' _ _ hd.2 hq (hs.put hle (dstLt_spec hd.1) hv hr) (hk.trans hle)
    | false =>
      rw [if_neg (by rw [hw]; simp)]
      exact awpOps_sound hR rest _ _ K _ _ hd.2 (h2 rfl) (hs.put (Ctx.le.refl K) (dstLt_spec hd.1) VR.skipped hs.rel) hk

def opsWrites (l : List Oper) : List Nat := l.filterMap (·.dst)
def cWrites : Code → List Nat
  | .region _ ops _ => opsWrites ops.toList
  | .seq a b => cWrites a ++ cWrites b
  | .cond _ a b => cWrites a ++ cWrites b
  | .block _ c => cWrites c
  | .loop c => cWrites c
  | _ => []
def cOK (N : Nat) : Code → Bool
  | .region _ ops _ => ops.toList.all (dstLt N)
  | .seq a b => cOK N a && cOK N b
  | .cond _ a b => cOK N a && cOK N b
  | .block _ c => cOK N c
  | .loop c => cOK N c
  | _ => true
def mrg (W : List Nat) (v e : Env) : Env := fun t => if W.contains t then v t else e t

section awp
variable (P : Program) (G : Nat → AV) (D : Array Oper → (Env → AS → Prop) → Env → AS → Prop)
/-- what is to be shown of a piece of code. D: of a row of operations whose order is drawn. -/
def awp : Code → (Exit → Env → AS → Prop) → Env → AS → Prop
  | .skip, Q, e, σ => Q .normal e σ
  | .label _, Q, e, σ => Q .normal e σ
  | .region _ ops false, Q, e, σ => awpOps P G ops.toList (Q .normal) ops.toList e σ
  | .region _ ops true, Q, e, σ => D ops (Q .normal) e σ
  | .seq a b, Q, e, σ => awp a (fun x e σ => match x with | .normal => awp b Q e σ | x => Q x e σ) e σ
  | .cond c a b, Q, e, σ => ∃ t, ev G e c = .bool t ∧ (t = true → awp a Q e σ) ∧ (t = false → awp b Q e σ)
  | .block id c, Q, e, σ => awp c (fun x e σ => match x with | .exit i => if i = id then Q .normal e σ else Q (.exit i) e σ | x => Q x e σ) e σ
  | .loop c, Q, e, σ => ∃ I : Nat → Env → AS → Prop, (∃ n, I n e σ) ∧ ∀ n v σ', I n (mrg (cWrites c) v e) σ' →
      awp c (fun x e' σ' => match x with | .normal => ∃ m, m < n ∧ I m e' σ' | x => Q x e' σ') (mrg (cWrites c) v e) σ'
  | .exit id, Q, e, σ => Q (.exit id) e σ
  | .ret, Q, e, σ => Q .ret e σ
  | _, _, _, _ => False
end awp

theorem Env.upd_other {e : Env} {d : Option Tmp} {r : AV} {t : Nat} (h : ∀ x, d = some x → x ≠ t) : e.upd d r t = e t := by
  cases d with
  | none => rfl
  | some x =>
    show (if t = x then r else e t) = e t
    rw [if_neg (Ne.symm (h x rfl))]

theorem aop_mono {P : Program} {G : Nat → AV} {o : Oper} {e : Env} {σ : AS} {K K' : AV → AS → Prop} (hk : ∀ r s, K r s → K' r s) (h : aop P G o e σ K) : aop P G o e σ K' := by
  unfold aop at h ⊢
  generalize o.op = op at h ⊢
  cases op <;> first | exact h.elim | exact hk _ _ h | (obtain ⟨x, h1, h2⟩ := h; exact ⟨x, h1, hk _ _ h2⟩) | skip
  case alloc E =>
    obtain ⟨z, h1, h2⟩ := h
    rcases h2 with h2 | h2
    · exact ⟨z, h1, .inl fun b hb => hk _ _ (h2 b hb)⟩
    · exact ⟨z, h1, .inr fun b hb => hk _ _ (h2 b hb)⟩
  case box E x => exact ⟨h.1, fun b hb => hk _ _ (h.2 b hb)⟩
  case nilCheck x => exact ⟨h.1, hk _ _ h.2⟩
  case makeSlice t l c =>
    simp only at h ⊢
    rcases h with h | h
    · refine .inl ?_
      unfold amake at h ⊢
      split at h
      · exact ⟨h.1, h.2.1, h.2.2.1, fun b hb => hk _ _ (h.2.2.2 b hb)⟩
      · exact h.elim
    · refine .inr ?_
      unfold amakeM at h ⊢
      split at h
      · exact ⟨h.1, h.2.1, h.2.2.1, fun b hb => hk _ _ (h.2.2.2 b hb)⟩
      · exact h.elim
  case makeFunc fn first caps =>
    simp only at h ⊢
    split at h
    · exact hk _ _ h
    · exact h.elim
  case slice t x lo hi mx =>
    cases mx with
    | none => obtain ⟨x, h1, h2⟩ := h; exact ⟨x, h1, hk _ _ h2⟩
    | some m => exact h.elim
  case call c =>
    simp only at h ⊢
    unfold acall at h ⊢
    split at h
    · split at h
      · exact h.mono hk
      · exact h.elim
    · split at h
      · rename_i hb
        simp only [if_pos hb]
        split at h
        · rcases h with h | h
          · refine .inl ?_
            unfold aappend at h ⊢
            split at h
            · refine ⟨h.1, ?_⟩
              have h2 := h.2
              split at h2
              · exact ⟨h2.1, fun x => hk _ _ (h2.2.1 x), fun x b hb => hk _ _ (h2.2.2 x b hb)⟩
              · exact ⟨h2.1, h2.2.1, fun x => hk _ _ (h2.2.2.1 x), fun x b hb => hk _ _ (h2.2.2.2 x b hb)⟩
              · exact ⟨h2.1, h2.2.1, h2.2.2.1, fun b hb => hk _ _ (h2.2.2.2 b hb)⟩
              · exact h2.elim
            · exact h.elim
          · exact .inr (aappendX_mono hk h)
        · exact h.elim
      · rename_i hb
        simp only [if_neg hb]
        split at h
        · rename_i hb2
          simp only [if_pos hb2]
          split at h
          · exact auStr_mono hk h
          · exact h.elim
        · rename_i hb2
          simp only [if_neg hb2]
          obtain ⟨r, h1, h2⟩ := h
          exact ⟨r, h1, hk _ _ h2⟩
    · exact h.elim

theorem awpOps_frame {P : Program} {G : Nat → AV} {ops : List Oper} {Q : Env → AS → Prop} : ∀ (l : List Oper) (e : Env) (σ : AS), awpOps P G ops Q l e σ →
    awpOps P G ops (fun e' σ' => Q e' σ' ∧ ∀ t, t ∉ opsWrites l → e' t = e t) l e σ
  | [], e, σ, h => ⟨h, fun _ _ => rfl⟩
  | o :: rest, e, σ, h => by
    obtain ⟨b, hb, h1, h2⟩ := h
    have key : ∀ r σ', awpOps P G ops Q rest (e.upd o.dst r) σ' → awpOps P G ops (fun e' σ' => Q e' σ' ∧ ∀ t, t ∉ opsWrites (o :: rest) → e' t = e t) rest (e.upd o.dst r) σ' := by
      intro r σ' hh
      have h3 := awpOps_frame rest _ _ hh
      have mono : ∀ (l : List Oper) (Q Q' : Env → AS → Prop), (∀ e s, Q e s → Q' e s) → ∀ e s, awpOps P G ops Q l e s → awpOps P G ops Q' l e s := by
        intro l
        induction l with
        | nil => intro Q Q' hq e s h; exact hq _ _ h
        | cons o' l ih =>
          intro Q Q' hq e s h
          obtain ⟨b, hb, h1, h2⟩ := h
          exact ⟨b, hb, fun x => aop_mono (fun r s' h => ih Q Q' hq _ _ h) (h1 x), fun x => ih Q Q' hq _ _ (h2 x)⟩
      refine mono rest _ _ (fun e' s' hq => ⟨hq.1, fun t ht => ?_⟩) _ _ h3
      have ht1 : t ∉ opsWrites rest := fun hm => ht (by
        unfold opsWrites at *
        rw [List.filterMap_cons]
        split
        · exact hm
        · exact List.mem_cons_of_mem _ hm)
      rw [hq.2 t ht1]
      refine Env.upd_other fun x hx hxt => ht ?_
      unfold opsWrites
      rw [List.filterMap_cons, hx]
      subst hxt
      exact List.mem_cons_self
    exact ⟨b, hb, fun x => aop_mono (fun r s' hh => key r s' hh) (h1 x), fun x => key _ _ (h2 x)⟩

/-- what a way of meeting drawn rows must bear -/
structure DrawOK (P : Program) (G : Nat → AV) (D : Array Oper → (Env → AS → Prop) → Env → AS → Prop) : Prop where
  sound : ∀ (N : Nat) (ds : List Deferred) (id : Nat) (ops : Array Oper) (Q : Env → AS → Prop) (R : Exit → Act → World → Prop) (e : Env) (σ : AS) (K : Ctx) (a : Act) (w : World),
    ops.toList.all (dstLt N) = true → D ops Q e σ → St P G K N ds e σ a w → (∀ e σ K' a w, Q e σ → St P G K' N ds e σ a w → K.le K' → R .normal a w) → (Code.region id ops true).wp P R a w
  frame : ∀ (ops : Array Oper) (Q : Env → AS → Prop) (e : Env) (σ : AS), D ops Q e σ → D ops (fun e' σ' => Q e' σ' ∧ ∀ t, t ∉ opsWrites ops.toList → e' t = e t) e σ
  mono : ∀ (ops : Array Oper) (Q Q' : Env → AS → Prop) (e : Env) (σ : AS), (∀ e s, Q e s → Q' e s) → D ops Q e σ → D ops Q' e σ

section
variable {P : Program} {G : Nat → AV} {D : Array Oper → (Env → AS → Prop) → Env → AS → Prop}

theorem awpOps_mono {ops : List Oper} : ∀ (l : List Oper) {Q Q' : Env → AS → Prop}, (∀ e s, Q e s → Q' e s) → ∀ e s, awpOps P G ops Q l e s → awpOps P G ops Q' l e s
  | [], _, _, hq, e, s, h => hq _ _ h
  | o :: l, _, _, hq, e, s, ⟨b, hb, h1, h2⟩ => ⟨b, hb, fun x => aop_mono (fun r s' h => awpOps_mono l hq _ _ h) (h1 x), fun x => awpOps_mono l hq _ _ (h2 x)⟩

theorem awp_mono (hD : DrawOK P G D) : ∀ (c : Code) {Q Q' : Exit → Env → AS → Prop} (e : Env) (σ : AS), (∀ x e s, Q x e s → Q' x e s) → awp P G D c Q e σ → awp P G D c Q' e σ := by
  intro c
  induction c with
  | skip => intro Q Q' e σ hq h; exact hq _ _ _ h
  | label l => intro Q Q' e σ hq h; exact hq _ _ _ h
  | region id ops d =>
    intro Q Q' e σ hq h
    cases d with
    | false => exact awpOps_mono _ (fun e s h => hq _ _ _ h) _ _ h
    | true => exact hD.mono _ _ _ _ _ (fun e s h => hq _ _ _ h) h
  | seq a b iha ihb =>
    intro Q Q' e σ hq h
    refine iha e σ (fun x e s hx => ?_) h
    cases x <;> first | exact ihb _ _ hq hx | exact hq _ _ _ hx
  | cond c a b iha ihb =>
    intro Q Q' e σ hq h
    obtain ⟨t, ht, h1, h2⟩ := h
    exact ⟨t, ht, fun x => iha _ _ hq (h1 x), fun x => ihb _ _ hq (h2 x)⟩
  | block id c ih =>
    intro Q Q' e σ hq h
    refine ih e σ (fun x e s hx => ?_) h
    cases x <;> first | exact hq _ _ _ hx | skip
    simp only at hx ⊢
    split at hx
    · rename_i hi; rw [if_pos hi]; exact hq _ _ _ hx
    · rename_i hi; rw [if_neg hi]; exact hq _ _ _ hx
  | loop c ih =>
    intro Q Q' e σ hq h
    obtain ⟨I, h0, h1⟩ := h
    refine ⟨I, h0, fun n v σ' hI => ih _ _ (fun x e s hx => ?_) (h1 n v σ' hI)⟩
    cases x <;> first | exact hx | exact hq _ _ _ hx
  | exit id => intro Q Q' e σ hq h; exact hq _ _ _ h
  | ret => intro Q Q' e σ hq h; exact hq _ _ _ h
  | rangeFunc f ps a b _ _ => intro Q Q' e σ hq h; exact h.elim
  | scope c _ => intro Q Q' e σ hq h; exact h.elim
  | goto l => intro Q Q' e σ hq h; exact h.elim
  | refuse w => intro Q Q' e σ hq h; exact h.elim

theorem awp_frame (hD : DrawOK P G D) : ∀ (c : Code) {Q : Exit → Env → AS → Prop} (e : Env) (σ : AS), awp P G D c Q e σ →
    awp P G D c (fun x e' σ' => Q x e' σ' ∧ ∀ t, t ∉ cWrites c → e' t = e t) e σ := by
  intro c
  induction c with
  | skip => intro Q e σ h; exact ⟨h, fun _ _ => rfl⟩
  | label l => intro Q e σ h; exact ⟨h, fun _ _ => rfl⟩
  | region id ops d =>
    intro Q e σ h
    cases d with
    | false => exact awpOps_frame _ _ _ h
    | true => exact hD.frame _ _ _ _ h
  | seq a b iha ihb =>
    intro Q e σ h
    refine awp_mono hD a e σ (fun x e' s hx => ?_) (iha e σ h)
    obtain ⟨hx, hw⟩ := hx
    cases x with
    | normal =>
      refine awp_mono hD b e' s (fun y e'' s' hy => ⟨hy.1, fun t ht => ?_⟩) (ihb e' s hx)
      simp only [cWrites, List.mem_append, not_or] at ht
      rw [hy.2 t ht.2, hw t ht.1]
    | _ => exact ⟨hx, fun t ht => hw t (fun hm => ht (by simp only [cWrites, List.mem_append]; exact .inl hm))⟩
  | cond c a b iha ihb =>
    intro Q e σ h
    obtain ⟨t, ht, h1, h2⟩ := h
    refine ⟨t, ht, fun x => awp_mono hD a e σ (fun y e' s hy => ⟨hy.1, fun t ht => hy.2 t (fun hm => ht (by simp only [cWrites, List.mem_append]; exact .inl hm))⟩) (iha _ _ (h1 x)),
      fun x => awp_mono hD b e σ (fun y e' s hy => ⟨hy.1, fun t ht => hy.2 t (fun hm => ht (by simp only [cWrites, List.mem_append]; exact .inr hm))⟩) (ihb _ _ (h2 x))⟩
  | block id c ih =>
    intro Q e σ h
    refine awp_mono hD c e σ (fun x e' s hx => ?_) (ih e σ h)
    obtain ⟨hx, hw⟩ := hx
    cases x <;> first | exact ⟨hx, hw⟩ | skip
    simp only at hx ⊢
    split at hx
    · rename_i hi; rw [if_pos hi]; exact ⟨hx, hw⟩
    · rename_i hi; rw [if_neg hi]; exact ⟨hx, hw⟩
  | loop c ih =>
    intro Q e σ h
    obtain ⟨I, h0, h1⟩ := h
    have hmrg : ∀ v t, t ∉ cWrites c → mrg (cWrites c) v e t = e t := by
      intro v t ht
      unfold mrg
      rw [if_neg (by simpa using ht)]
    refine ⟨I, h0, fun n v σ' hI => ?_⟩
    refine awp_mono hD c _ _ (fun x e' s hx => ?_) (ih _ _ (h1 n v σ' hI))
    obtain ⟨hx, hw⟩ := hx
    have hx2 : ∀ t, t ∉ cWrites (Code.loop c) → e' t = e t := fun t ht => (hw t ht).trans (hmrg v t ht)
    cases x <;> first | exact hx | exact ⟨hx, hx2⟩
  | exit id => intro Q e σ h; exact ⟨h, fun _ _ => rfl⟩
  | ret => intro Q e σ h; exact ⟨h, fun _ _ => rfl⟩
  | rangeFunc f ps a b _ _ => intro Q e σ h; exact h.elim
  | scope c _ => intro Q e σ h; exact h.elim
  | goto l => intro Q e σ h; exact h.elim
  | refuse w => intro Q e σ h; exact h.elim

/-- WHAT IS SHOWN ON ABSTRACT VALUES HOLDS ON THE MACHINE. -/
theorem awp_sound (hD : DrawOK P G D) (N : Nat) (ds : List Deferred) : ∀ (c : Code) (Q : Exit → Env → AS → Prop) (e : Env) (σ : AS) (K : Ctx) (a : Act) (w : World), cOK N c = true → awp P G D c Q e σ → St P G K N ds e σ a w →
    c.wp P (fun x a' w' => ∃ e' σ' K', Q x e' σ' ∧ St P G K' N ds e' σ' a' w' ∧ K.le K') a w := by
  intro c
  induction c with
  | skip => intro Q e σ K a w _ h hs; exact wp_skip ⟨e, σ, K, h, hs, Ctx.le.refl K⟩
  | label l => intro Q e σ K a w _ h hs; exact wp_label ⟨e, σ, K, h, hs, Ctx.le.refl K⟩
  | region id ops d =>
    intro Q e σ K a w hok h hs
    cases d with
    | false =>
      refine wp_region_list ?_
      exact awpOps_sound (K0 := K) (fun e' σ' K' a' w' hq hs' hk => ⟨e', σ', K', hq, hs', hk⟩) ops.toList e σ K a w hok h hs (Ctx.le.refl K)
    | true => exact hD.sound N ds id ops _ _ e σ K a w hok h hs (fun e' σ' K' a' w' hq hs' hk => ⟨e', σ', K', hq, hs', hk⟩)
  | seq x y ihx ihy =>
    intro Q e σ K a w hok h hs
    simp only [cOK, Bool.and_eq_true] at hok
    refine wp_seq (wp_mono (ihx _ e σ K a w hok.1 h hs) ?_)
    intro ex a' w' ⟨e', σ', K', hq, hs', hk⟩
    cases ex with
    | normal =>
      refine wp_mono (ihy Q e' σ' K' a' w' hok.2 hq hs') ?_
      intro ex2 a2 w2 ⟨e2, σ2, K2, hq2, hs2, hk2⟩
      exact ⟨e2, σ2, K2, hq2, hs2, hk.trans hk2⟩
    | _ => exact ⟨e', σ', K', hq, hs', hk⟩
  | cond c x y ihx ihy =>
    intro Q e σ K a w hok h hs
    simp only [cOK, Bool.and_eq_true] at hok
    obtain ⟨t, ht, h1, h2⟩ := h
    have hc := hs.er.eval hs.rel c
    rw [ht, VR.bool_iff] at hc
    cases t with
    | true => exact wp_cond_true hc (ihx Q e σ K a w hok.1 (h1 rfl) hs)
    | false => exact wp_cond_false hc (ihy Q e σ K a w hok.2 (h2 rfl) hs)
  | block id c ih =>
    intro Q e σ K a w hok h hs
    refine wp_block (wp_mono (ih _ e σ K a w hok h hs) ?_)
    intro ex a' w' ⟨e', σ', K', hq, hs', hk⟩
    cases ex <;> first | exact ⟨e', σ', K', hq, hs', hk⟩ | skip
    rename_i i
    simp only [Exit.inBlock] at hq ⊢
    split at hq
    · rename_i hi; rw [if_pos hi]; exact ⟨e', σ', K', hq, hs', hk⟩
    · rename_i hi; rw [if_neg hi]; exact ⟨e', σ', K', hq, hs', hk⟩
  | loop c ih =>
    intro Q e σ K a w hok h hs
    obtain ⟨I, ⟨n0, h0⟩, h1⟩ := h
    refine wp_loop_ghost (fun n a' w' => ∃ e' σ' K', I n e' σ' ∧ St P G K' N ds e' σ' a' w' ∧ K.le K' ∧ ∀ t, t ∉ cWrites c → e' t = e t) n0 ⟨e, σ, K, h0, hs, Ctx.le.refl K, fun _ _ => rfl⟩ ?_
    intro n a' w' ⟨e', σ', K', hI, hs', hk, hw⟩
    have hm : mrg (cWrites c) e' e = e' := by
      funext t
      unfold mrg
      split
      · rfl
      · rename_i ht; exact (hw t (by simpa using ht)).symm
    have h2 := h1 n e' σ' (by rw [hm]; exact hI)
    rw [hm] at h2
    refine wp_mono (ih _ e' σ' K' a' w' hok (awp_frame hD c _ _ h2) hs') ?_
    intro ex a2 w2 ⟨e2, σ2, K2, ⟨hq, hw2⟩, hs2, hk2⟩
    cases ex with
    | normal =>
      obtain ⟨m, hm, hIm⟩ := hq
      exact ⟨m, hm, e2, σ2, K2, hIm, hs2, hk.trans hk2, fun t ht => (hw2 t ht).trans (hw t ht)⟩
    | _ => exact ⟨e2, σ2, K2, hq, hs2, hk.trans hk2⟩
  | exit id => intro Q e σ K a w _ h hs; exact wp_exit ⟨e, σ, K, h, hs, Ctx.le.refl K⟩
  | ret => intro Q e σ K a w _ h hs; exact wp_ret ⟨e, σ, K, h, hs, Ctx.le.refl K⟩
  | rangeFunc f ps a b _ _ => intro Q e σ K a w _ h hs; exact h.elim
  | scope c _ => intro Q e σ K a w _ h hs; exact h.elim
  | goto l => intro Q e σ K a w _ h hs; exact h.elim
  | refuse w => intro Q e σ K a w _ h hs; exact h.elim
end
end Go.Av
