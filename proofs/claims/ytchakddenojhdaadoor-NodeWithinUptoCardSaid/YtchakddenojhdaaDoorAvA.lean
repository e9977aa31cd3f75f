/- Abstract values, what it means that a value of the machine is seen as one, and the relation between an abstract state and a world. No program is named here. -/
import Derived.WalkKit
import Derived.Deep.LoopGhost
import Derived.StillTail
import Derived.Deep.AppendSrc
set_option linter.unusedVariables false
set_option linter.unusedSimpArgs false
namespace Go.Av
open Go Go.RowKit

/-- whose spare room a slice's is: nobody knows; there is none (its capacity is its length); its own, in row number b -/
inductive Gh where
  | none | full | own (b : Nat)

inductive AV where
  | undef
  | bool (b : Bool)
  | int (k : IntKind) (n : Int)
  | str (s : List UInt8)
  | nil
  | sl (g : Gh) (xs sp : List AV)
  | agg (cs : List AV)
  | tup (vs : List AV)
  | ptr (b o : Nat)
  | rp (cs : List AV)
  | nilptr
  | fn (f : FuncId) (caps : List AV)
  | nilfn
  | raw (v : Value)
instance : Inhabited AV := ⟨.undef⟩

def flat : AV → List AV
  | .agg cs => cs
  | a => [a]
/-- one cell holds it -/
def one : AV → Bool
  | .undef => false
  | .agg _ => false
  | .tup _ => false
  | .raw v => v.oneCell'
  | _ => true
/-- it may be stored: one cell, or a struct's or an array's cells -/
def isv : AV → Bool
  | .agg _ => true
  | a => one a

structure Ctx where
  imm : Nat → Nat → Option Value
  row : Nat → Option (Nat × Nat × TypeId)
  base : Nat
  W : World

structure Ctx.le (K K' : Ctx) : Prop where
  imm : ∀ b o v, K.imm b o = some v → K'.imm b o = some v
  row : ∀ b x, K.row b = some x → K'.row b = some x
  base : K'.base = K.base
  W : K'.W = K.W
theorem Ctx.le.refl (K : Ctx) : K.le K := ⟨fun _ _ _ h => h, fun _ _ h => h, rfl, rfl⟩
theorem Ctx.le.trans {A B C : Ctx} (h : A.le B) (k : B.le C) : A.le C :=
  ⟨fun _ _ _ x => k.imm _ _ _ (h.imm _ _ _ x), fun _ _ x => k.row _ _ (h.row _ _ x), k.base.trans h.base, k.W.trans h.W⟩

def Gh.ok (K : Ctx) (b off len cap : Nat) : Gh → Prop
  | .none => True
  | .full => cap = len
  | .own b' => b' = b ∧ off = 0 ∧ ∃ E s, K.row b = some (cap, s, E)

inductive VR (K : Ctx) : AV → Value → Prop
  | undef (v : Value) : VR K .undef v
  | bool (b : Bool) : VR K (.bool b) (.bool b)
  | int (k : IntKind) (n : Int) : VR K (.int k n) (.int k n)
  | str (s : List UInt8) : VR K (.str s) (.string ⟨⟨s⟩⟩)
  | nil : VR K .nil (.slice none 0 0)
  | sl (g : Gh) (xs sp : List AV) (sz b off cap : Nat) (f : Nat → Value)
      (hsz : ∀ e, e ∈ xs ++ sp → (flat e).length = sz ∧ isv e = true ∧ ∀ c, c ∈ flat e → one c = true) (hcap : xs.length + sp.length ≤ cap) (hml : cap ≤ maxLen)
      (himm : ∀ j, j < ((xs ++ sp).flatMap flat).length → K.imm b (off + j) = some (f j))
      (hv : ∀ j (h : j < ((xs ++ sp).flatMap flat).length), VR K (((xs ++ sp).flatMap flat)[j]) (f j))
      (hg : g.ok K b off xs.length cap) : VR K (.sl g xs sp) (.slice (some ⟨b, off, none⟩) xs.length cap)
  | sl0 (a : Option Addr) : VR K (.sl .none [] []) (.slice a 0 0)
  | agg (cs : List AV) (vs : Array Value) (hl : vs.size = cs.length) (h1 : ∀ c, c ∈ cs → one c = true)
      (hv : ∀ j (h : j < cs.length), VR K cs[j] (vs.getD j undef)) : VR K (.agg cs) (.agg vs)
  | tup (cs : List AV) (vs : Array Value) (hl : vs.size = cs.length)
      (hv : ∀ j (h : j < cs.length), VR K cs[j] (vs.getD j undef)) : VR K (.tup cs) (.tuple vs)
  | ptr (b o : Nat) : VR K (.ptr b o) (.pointer (some ⟨b, o, none⟩))
  | rp (cs : List AV) (b off : Nat) (f : Nat → Value) (h1 : ∀ c, c ∈ cs → one c = true)
      (himm : ∀ j, j < cs.length → K.imm b (off + j) = some (f j))
      (hv : ∀ j (h : j < cs.length), VR K cs[j] (f j)) : VR K (.rp cs) (.pointer (some ⟨b, off, none⟩))
  | nilptr : VR K .nilptr (.pointer none)
  | fn (f : FuncId) (caps : List AV) (vs : Array Value) (hl : vs.size = caps.length)
      (hv : ∀ j (h : j < caps.length), VR K caps[j] (vs.getD j undef)) : VR K (.fn f caps) (.func (.func f) #[] vs)
  | nilfn : VR K .nilfn .nilFunc
  | raw (v : Value) : VR K (.raw v) v

theorem Gh.ok.mono {K K' : Ctx} (h : K.le K') {b off len cap : Nat} {g : Gh} (k : g.ok K b off len cap) : g.ok K' b off len cap := by
  cases g with
  | none => exact k
  | full => exact k
  | own b' => obtain ⟨h1, h2, E, s, h3⟩ := k; exact ⟨h1, h2, E, s, h.row _ _ h3⟩

theorem VR.mono {K K' : Ctx} (h : K.le K') {a : AV} {v : Value} (k : VR K a v) : VR K' a v := by
  induction k with
  | undef v => exact .undef v
  | bool b => exact .bool b
  | int k n => exact .int k n
  | str s => exact .str s
  | nil => exact .nil
  | sl g xs sp sz b off cap f hsz hcap hml himm hv hg ih => exact .sl g xs sp sz b off cap f hsz hcap hml (fun j hj => h.imm _ _ _ (himm j hj)) ih (hg.mono h)
  | sl0 a => exact .sl0 a
  | agg cs vs hl h1 hv ih => exact .agg cs vs hl h1 ih
  | tup cs vs hl hv ih => exact .tup cs vs hl ih
  | ptr b o => exact .ptr b o
  | rp cs b off f h1 himm hv ih => exact .rp cs b off f h1 (fun j hj => h.imm _ _ _ (himm j hj)) ih
  | nilptr => exact .nilptr
  | fn f caps vs hl hv ih => exact .fn f caps vs hl ih
  | nilfn => exact .nilfn
  | raw v => exact .raw v

section inv
variable {K : Ctx} {v : Value}
theorem VR.bool_iff {b : Bool} : VR K (.bool b) v ↔ v = .bool b := ⟨fun h => by cases h; rfl, fun h => h ▸ .bool b⟩
theorem VR.int_iff {k : IntKind} {n : Int} : VR K (.int k n) v ↔ v = .int k n := ⟨fun h => by cases h; rfl, fun h => h ▸ .int k n⟩
theorem VR.str_iff {s : List UInt8} : VR K (.str s) v ↔ v = .string ⟨⟨s⟩⟩ := ⟨fun h => by cases h; rfl, fun h => h ▸ .str s⟩
theorem VR.nil_iff : VR K .nil v ↔ v = .slice none 0 0 := ⟨fun h => by cases h; rfl, fun h => h ▸ .nil⟩
theorem VR.ptr_iff {b o : Nat} : VR K (.ptr b o) v ↔ v = .pointer (some ⟨b, o, none⟩) := ⟨fun h => by cases h; rfl, fun h => h ▸ .ptr b o⟩
theorem VR.nilptr_iff : VR K .nilptr v ↔ v = .pointer none := ⟨fun h => by cases h; rfl, fun h => h ▸ .nilptr⟩
theorem VR.nilfn_iff : VR K .nilfn v ↔ v = .nilFunc := ⟨fun h => by cases h; rfl, fun h => h ▸ .nilfn⟩
theorem VR.raw_iff {u : Value} : VR K (.raw u) v ↔ v = u := ⟨fun h => by cases h; rfl, fun h => by subst h; exact .raw v⟩
end inv

theorem VR.oneCell {K : Ctx} {a : AV} {v : Value} (h : VR K a v) (h1 : one a = true) : v.oneCell' = true := by
  cases h <;> first | rfl | (simp [one] at h1; done) | exact h1

/-- a stored value's cells are the abstract one's -/
theorem VR.cells {K : Ctx} {a : AV} {v : Value} (h : VR K a v) (h1 : isv a = true) :
    v.cells.size = (flat a).length ∧ (∀ c, c ∈ flat a → one c = true) ∧ ∀ j (hj : j < (flat a).length), VR K (flat a)[j] (v.cells.getD j Go.undef) := by
  cases a with
  | agg cs => cases h with | agg _ vs hl h1 hv => exact ⟨hl, h1, hv⟩
  | undef => cases h1
  | tup vs => cases h1
  | raw u =>
    cases h
    have hc : v.cells = #[v] := by cases v <;> first | rfl | cases h1
    rw [hc]
    exact ⟨rfl, fun c hc => by simp [flat] at hc; subst hc; exact h1, fun j hj => by
      have : j = 0 := by simpa [flat] using hj
      subst this; exact .raw v⟩
  | _ =>
    have hc : v.cells = #[v] := by cases h <;> rfl
    rw [hc]
    refine ⟨rfl, fun c hc => by simp [flat] at hc; subst hc; rfl, fun j hj => ?_⟩
    have : j = 0 := by simpa [flat] using hj
    subst this
    exact h

/-- and back: cells of a scalar, cells of a struct -/
theorem VR.agg_of {K : Ctx} (cs : List AV) (vs : Array Value) (hl : vs.size = cs.length) (h1 : ∀ c, c ∈ cs → one c = true)
    (hv : ∀ j (h : j < cs.length), VR K cs[j] (vs.getD j Go.undef)) : VR K (.agg cs) (.agg vs) := .agg cs vs hl h1 hv

structure AS where
  box : Nat → Option (List AV)
  tip : Nat → Option (Nat × Nat)

def AS.fresh (σ : AS) (b : Nat) : Prop := σ.box b = none ∧ σ.tip b = none
def AS.setBox (σ : AS) (b : Nat) (cs : List AV) : AS := { σ with box := fun i => if i = b then some cs else σ.box i }
def AS.setTip (σ : AS) (b : Nat) (n : Nat × Nat) : AS := { σ with tip := fun i => if i = b then some n else σ.tip i }
def AS.delTip (σ : AS) (b : Nat) : AS := { σ with tip := fun i => if i = b then none else σ.tip i }
/-- σ' holds all that σ holds -/
structure AS.le (σ σ' : AS) : Prop where
  box : ∀ b cs, σ.box b = some cs → σ'.box b = some cs
  tip : ∀ b n, σ.tip b = some n → σ'.tip b = some n
theorem AS.le.refl (σ : AS) : σ.le σ := ⟨fun _ _ h => h, fun _ _ h => h⟩
theorem AS.le.trans {a b c : AS} (h : a.le b) (k : b.le c) : a.le c := ⟨fun _ _ x => k.box _ _ (h.box _ _ x), fun _ _ x => k.tip _ _ (h.tip _ _ x)⟩
theorem AS.le.setBox {σ σ' : AS} (h : σ.le σ') {b : Nat} (hb : σ.box b = none) (cs : List AV) : σ.le (σ'.setBox b cs) := by
  refine ⟨fun i c hi => ?_, fun i n hi => h.tip _ _ hi⟩
  have hne : i ≠ b := fun e => by subst e; rw [hb] at hi; cases hi
  simp only [AS.setBox, if_neg hne]
  exact h.box _ _ hi
theorem AS.le.setTip {σ σ' : AS} (h : σ.le σ') {b : Nat} (hb : σ.tip b = none) (n : Nat × Nat) : σ.le (σ'.setTip b n) := by
  refine ⟨fun i c hi => h.box _ _ hi, fun i m hi => ?_⟩
  have hne : i ≠ b := fun e => by subst e; rw [hb] at hi; cases hi
  simp only [AS.setTip, if_neg hne]
  exact h.tip _ _ hi
theorem AS.le.delTip {σ σ' : AS} (h : σ.le σ') {b : Nat} (hb : σ.tip b = none) : σ.le (σ'.delTip b) := by
  refine ⟨fun i c hi => h.box _ _ hi, fun i m hi => ?_⟩
  have hne : i ≠ b := fun e => by subst e; rw [hb] at hi; cases hi
  simp only [AS.delTip, if_neg hne]
  exact h.tip _ _ hi
theorem AS.le.fresh {σ σ' : AS} (h : σ.le σ') {b : Nat} (hb : σ'.fresh b) : σ.fresh b := by
  refine ⟨?_, ?_⟩
  · cases e : σ.box b with
    | none => rfl
    | some c => have := h.box _ _ e; rw [hb.1] at this; cases this
  · cases e : σ.tip b with
    | none => rfl
    | some c => have := h.tip _ _ e; rw [hb.2] at this; cases this

structure Rel (G : Nat → AV) (K : Ctx) (σ : AS) (w : World) : Prop where
  imm : ∀ b o v, K.imm b o = some v → w.cell? ⟨b, o, none⟩ = some v
  row : ∀ b cap s E, K.row b = some (cap, s, E) → ∃ cur, w.heap[b]? = some (.cells cur E (0, 0)) ∧ cur.size = cap * s ∧ cap ≤ maxLen
  box : ∀ b cs, σ.box b = some cs → K.base ≤ b ∧ σ.tip b = none ∧ K.row b = none ∧ (∀ o, K.imm b o = none) ∧ (∀ c, c ∈ cs → one c = true) ∧
    ∃ c E, w.heap[b]? = some (.cells c E (0, 0)) ∧ c.size = cs.length ∧ ∀ j (h : j < cs.length), VR K cs[j] (c.getD j Go.undef)
  tip : ∀ b n s, σ.tip b = some (n, s) → K.base ≤ b ∧ ∃ cap E, K.row b = some (cap, s, E) ∧ n ≤ cap ∧ ∀ o, n * s ≤ o → K.imm b o = none
  glob : ∀ g, VR K (G g) (.pointer (some ⟨g, 0, none⟩))
  below : Below K.base K.W w
  bs : K.base ≤ w.heap.size

section rel
variable {G : Nat → AV} {K : Ctx} {σ : AS} {w : World}

theorem Rel.drew (h : Rel G K σ w) : Rel G K σ w.drew :=
  ⟨h.imm, h.row, h.box, h.tip, h.glob, h.below.drew, h.bs⟩

theorem Rel.imm_lt (h : Rel G K σ w) {b o : Nat} {v : Value} (hi : K.imm b o = some v) : b < w.heap.size :=
  World.block_lt_of_cell? w _ (h.imm b o v hi)
theorem Rel.imm_none (h : Rel G K σ w) {b : Nat} (hb : w.heap.size ≤ b) (o : Nat) : K.imm b o = none := by
  cases e : K.imm b o with
  | none => rfl
  | some v => have := h.imm_lt e; omega
theorem Rel.row_lt (h : Rel G K σ w) {b : Nat} {x : Nat × Nat × TypeId} (hi : K.row b = some x) : b < w.heap.size := by
  obtain ⟨cap, s, E⟩ := x
  obtain ⟨cur, hc, _⟩ := h.row b cap s E hi
  exact (Array.getElem?_eq_some_iff.1 hc).1
theorem Rel.row_none (h : Rel G K σ w) {b : Nat} (hb : w.heap.size ≤ b) : K.row b = none := by
  cases e : K.row b with
  | none => rfl
  | some v => have := h.row_lt e; omega
theorem Rel.fresh (h : Rel G K σ w) {b : Nat} (hb : w.heap.size ≤ b) : σ.fresh b := by
  refine ⟨?_, ?_⟩
  · cases e : σ.box b with
    | none => rfl
    | some cs =>
      obtain ⟨_, _, _, _, _, c, E, hc, _⟩ := h.box b cs e
      have := (Array.getElem?_eq_some_iff.1 hc).1
      omega
  · cases e : σ.tip b with
    | none => rfl
    | some n =>
      obtain ⟨_, cap, E, hr, _⟩ := h.tip b n.1 n.2 e
      have := h.row_lt hr
      omega

/-- a new block of which nothing is kept -/
theorem Rel.alloc (h : Rel G K σ w) (o : Obj) : Rel G K σ (w.alloc o) := by
  have old : ∀ b, b < w.heap.size → (w.alloc o).heap[b]? = w.heap[b]? := fun b hb => heap_alloc_old w o hb
  refine ⟨fun b o' v hv => ?_, fun b cap s E hr => ?_, fun b cs hb => ?_, h.tip, h.glob, h.below.alloc h.bs o, ?_⟩
  · rw [World.cell?_of_block (w := w) (old b (h.imm_lt hv))]; exact h.imm b o' v hv
  · obtain ⟨cur, hc, hs⟩ := h.row b cap s E hr
    exact ⟨cur, by rw [old b (h.row_lt hr)]; exact hc, hs⟩
  · obtain ⟨h1, h2, h3, h4, h5, c, E, hc, hs, hv⟩ := h.box b cs hb
    exact ⟨h1, h2, h3, h4, h5, c, E, by rw [old b (Array.getElem?_eq_some_iff.1 hc).1]; exact hc, hs, hv⟩
  · have := h.bs; simp only [World.size_alloc]; omega

/-- cells that nobody will write any more are kept as they are -/
theorem Rel.keep (h : Rel G K σ w) (b : Nat) (p : Nat → Bool) (hbase : σ.box b = none) (htip : ∀ n s, σ.tip b = some (n, s) → ∀ o, p o = true → o < n * s) :
    let K' : Ctx := { K with imm := fun i o => if i = b ∧ p o = true then w.cell? ⟨b, o, none⟩ else K.imm i o }
    K.le K' ∧ Rel G K' σ w := by
  intro K'
  have hle : K.le K' := by
    refine ⟨fun i o v hv => ?_, fun _ _ h => h, rfl, rfl⟩
    show (if i = b ∧ p o = true then w.cell? ⟨b, o, none⟩ else K.imm i o) = some v
    split
    · rename_i hi; obtain ⟨rfl, _⟩ := hi; exact h.imm _ _ _ hv
    · exact hv
  refine ⟨hle, fun i o v hv => ?_, h.row, fun i cs hi => ?_, fun i n s hi => ?_, fun g => (h.glob g).mono hle, h.below, h.bs⟩
  · have hv' : (if i = b ∧ p o = true then w.cell? ⟨b, o, none⟩ else K.imm i o) = some v := hv
    split at hv'
    · rename_i hi; obtain ⟨rfl, _⟩ := hi; exact hv'
    · exact h.imm _ _ _ hv'
  · obtain ⟨h1, h2, h3, h4, h5, c, E, hc, hs, hvv⟩ := h.box i cs hi
    have hne : i ≠ b := fun e => by subst e; rw [hbase] at hi; cases hi
    refine ⟨h1, h2, h3, fun o => ?_, h5, c, E, hc, hs, fun j hj => (hvv j hj).mono hle⟩
    show (if i = b ∧ p o = true then _ else K.imm i o) = none
    rw [if_neg (fun x => hne x.1)]; exact h4 o
  · obtain ⟨h1, cap, E, hr, hn, ho⟩ := h.tip i n s hi
    refine ⟨h1, cap, E, hr, hn, fun o hlo => ?_⟩
    show (if i = b ∧ p o = true then _ else K.imm i o) = none
    split
    · rename_i hx
      obtain ⟨rfl, hp⟩ := hx
      have := htip n s hi o hp
      omega
    · exact ho o hlo

/-- a new box -/
theorem Rel.addBox (h : Rel G K σ w) (c : Array Value) (E : TypeId) (cs : List AV) (hl : c.size = cs.length) (h1 : ∀ a, a ∈ cs → one a = true)
    (hv : ∀ j (hj : j < cs.length), VR K cs[j] (c.getD j Go.undef)) : Rel G K (σ.setBox w.heap.size cs) (w.alloc (.cells c E)) := by
  have h' := h.alloc (.cells c E)
  have hf := h.fresh (Nat.le_refl w.heap.size)
  refine ⟨h'.imm, h'.row, fun b cs' hb => ?_, fun b n s hb => h'.tip b n s hb, h'.glob, h'.below, h'.bs⟩
  by_cases hbe : b = w.heap.size
  · subst hbe
    simp only [AS.setBox, if_true, Option.some.injEq] at hb
    subst hb
    exact ⟨h.bs, hf.2, h.row_none (Nat.le_refl _), h.imm_none (Nat.le_refl _), h1, c, E, heap_alloc_new w _, hl, hv⟩
  · simp only [AS.setBox, if_neg hbe] at hb
    exact h'.box b cs' hb

/-- what is left of a state when some of it is let go -/
theorem Rel.weaken (h : Rel G K σ w) {σ' : AS} (hl : σ'.le σ) : Rel G K σ' w := by
  refine ⟨h.imm, h.row, fun b cs hb => ?_, fun b n s hb => h.tip b n s (hl.tip _ _ hb), h.glob, h.below, h.bs⟩
  obtain ⟨h1, h2, h3, h4⟩ := h.box b cs (hl.box _ _ hb)
  refine ⟨h1, ?_, h3, h4⟩
  cases e : σ'.tip b with
  | none => rfl
  | some n => have := hl.tip _ _ e; rw [h2] at this; cases this

/-- a store into a box -/
theorem Rel.setBox (h : Rel G K σ w) {b : Nat} {cs cs' : List AV} (hb : σ.box b = some cs) (c' : Array Value) (hl : c'.size = cs'.length)
    (h1 : ∀ a, a ∈ cs' → one a = true) (hv : ∀ j (hj : j < cs'.length), VR K cs'[j] (c'.getD j Go.undef)) : Rel G K (σ.setBox b cs') (w.setRow b c') := by
  obtain ⟨g1, g2, g3, g4, g5, c, E, hc, hs, hvv⟩ := h.box b cs hb
  have hnew : (w.setRow b c').heap[b]? = some (.cells c' E (0, 0)) := setRow_heap w b c c' E (0, 0) hc
  have old : ∀ i, i ≠ b → (w.setRow b c').heap[i]? = w.heap[i]? := fun i hi => setRow_other w b i c' hi
  have hsize : (w.setRow b c').heap.size = w.heap.size := by simp [World.setRow]
  refine ⟨fun i o v hi => ?_, fun i cap s F hr => ?_, fun i ds hi => ?_, h.tip, h.glob, ?_, by rw [hsize]; exact h.bs⟩
  · have hne : i ≠ b := fun e => by subst e; rw [g4 o] at hi; cases hi
    rw [World.cell?_of_block (w := w) (old i hne)]; exact h.imm i o v hi
  · have hne : i ≠ b := fun e => by subst e; rw [g3] at hr; cases hr
    obtain ⟨cur, hcur, hx⟩ := h.row i cap s F hr
    exact ⟨cur, by rw [old i hne]; exact hcur, hx⟩
  · by_cases hib : i = b
    · subst hib
      simp only [AS.setBox, if_true, Option.some.injEq] at hi
      subst hi
      exact ⟨g1, g2, g3, g4, h1, c', E, hnew, hl, hv⟩
    · simp only [AS.setBox, if_neg hib] at hi
      obtain ⟨k1, k2, k3, k4, k5, d, F, hd, hds, hdv⟩ := h.box i ds hi
      exact ⟨k1, k2, k3, k4, k5, d, F, by rw [old i hib]; exact hd, hds, hdv⟩
  · exact h.below.trans ⟨rfl, rfl, rfl, by rw [hsize]; exact Nat.le_refl _, fun k hk => old k (by omega)⟩
end rel
end Go.Av
