/- Abstract values, what it means that a value of the machine is seen as one, and the relation between an abstract state and a world. No program is named here. -/
import Derived.WalkKit
import Derived.Deep.LoopGhost
import Derived.StillTail
import Derived.Deep.AppendSrc
set_option linter.unusedVariables false
set_option linter.unusedSimpArgs false
namespace Go.Av
open Go Go.RowKit
inductive Gh where
 | none | full | own (b : Nat)
inductive AV where
 | undef
 | bool (b : Bool)
 | int (k : IntKind) (n : Int)
 | str (s : List UInt8)
 | nil
 | sl (g : Gh) (xs sp : List AV)
 | agg (cs : List AV)
 | tup (vs : List AV)
 | ptr (b o : Nat)
 | rp (cs : List AV)
 | nilptr
 | fn (f : FuncId) (caps : List AV)
 | nilfn
 | bs (b n s : Nat) (E : TypeId)
 | bp (b s : Nat) (E : TypeId)
 | raw (v : Value)
 | tab (vs : List Value)
instance : Inhabited AV := ⟨.undef⟩
def flat : AV -> List AV
 | .agg cs => cs
 | a => [a]
def one : AV -> Bool
 | .undef => false
 | .agg _ => false
 | .tup _ => false
 | .raw v => v.oneCell'
 | _ => true
def isv : AV -> Bool
 | .agg _ => true
 | a => one a
structure Ctx where
 imm : Nat -> Nat -> Option Value
 row : Nat -> Option (Nat × Nat × TypeId)
 base : Nat
 W : World
structure Ctx.le (K K' : Ctx) : Prop where
 imm : ∀ b o v, K.imm b o = some v -> K'.imm b o = some v
 row : ∀ b x, K.row b = some x -> K'.row b = some x
 base : K'.base = K.base
 W : K'.W = K.W
theorem Ctx.le.refl (K : Ctx) : K.le K := ⟨fun _ _ _ h => h, fun _ _ h => h, rfl, rfl⟩
theorem Ctx.le.trans {A B C : Ctx} (h : A.le B) (k : B.le C) : A.le C :=
 ⟨fun _ _ _ x => k.imm _ _ _ (h.imm _ _ _ x), fun _ _ x => k.row _ _ (h.row _ _ x), k.base.trans h.base, k.W.trans h.W⟩
def Gh.ok (K : Ctx) (b off len cap : Nat) : Gh -> Prop
 | .none => True
 | .full => cap = len
 | .own b' => b' = b /\ off = 0 /\ ∃ E s, K.row b = some (cap, s, E)
inductive VR (K : Ctx) : AV -> Value -> Prop
 | undef (v : Value) : VR K .undef v
 | bool (b : Bool) : VR K (.bool b) (.bool b)
 | int (k : IntKind) (n : Int) : VR K (.int k n) (.int k n)
 | str (s : List UInt8) : VR K (.str s) (.string ⟨⟨s⟩⟩)
 | nil : VR K .nil (.slice none 0 0)
 | sl (g : Gh) (xs sp : List AV) (sz b off cap : Nat) (f : Nat -> Value)
   (hsz : ∀ e, e ∈ xs ++ sp -> (flat e).length = sz /\ isv e = true /\ ∀ c, c ∈ flat e -> one c = true) (hcap : xs.length + sp.length <= cap) (hml : cap <= maxLen)
   (himm : ∀ j, j < ((xs ++ sp).flatMap flat).length -> K.imm b (off + j) = some (f j))
   (hv : ∀ j (h : j < ((xs ++ sp).flatMap flat).length), VR K (((xs ++ sp).flatMap flat)[j]) (f j))
   (hg : g.ok K b off xs.length cap) : VR K (.sl g xs sp) (.slice (some ⟨b, off, none⟩) xs.length cap)
 | sl0 (a : Option Addr) : VR K (.sl .none [] []) (.slice a 0 0)
 | agg (cs : List AV) (vs : Array Value) (hl : vs.size = cs.length) (h1 : ∀ c, c ∈ cs -> one c = true)
   (hv : ∀ j (h : j < cs.length), VR K cs[j] (vs.getD j undef)) : VR K (.agg cs) (.agg vs)
 | tup (cs : List AV) (vs : Array Value) (hl : vs.size = cs.length)
   (hv : ∀ j (h : j < cs.length), VR K cs[j] (vs.getD j undef)) : VR K (.tup cs) (.tuple vs)
 | ptr (b o : Nat) : VR K (.ptr b o) (.pointer (some ⟨b, o, none⟩))
 | rp (cs : List AV) (b off : Nat) (f : Nat -> Value) (h1 : ∀ c, c ∈ cs -> one c = true)
   (himm : ∀ j, j < cs.length -> K.imm b (off + j) = some (f j))
   (hv : ∀ j (h : j < cs.length), VR K cs[j] (f j)) : VR K (.rp cs) (.pointer (some ⟨b, off, none⟩))
 | nilptr : VR K .nilptr (.pointer none)
 | fn (f : FuncId) (caps : List AV) (vs : Array Value) (hl : vs.size = caps.length)
   (hv : ∀ j (h : j < caps.length), VR K caps[j] (vs.getD j undef)) : VR K (.fn f caps) (.func (.func f) #[] vs)
 | nilfn : VR K .nilfn .nilFunc
 | bs (b n s cap : Nat) (E : TypeId) (hr : K.row b = some (cap, s, E)) (hn : n <= cap) (hm : cap <= maxLen) : VR K (.bs b n s E) (.slice (some ⟨b, 0, none⟩) n cap)
 | bp (b s cap : Nat) (E : TypeId) (hr : K.row b = some (cap, s, E)) : VR K (.bp b s E) (.pointer (some ⟨b, 0, none⟩))
 | raw (v : Value) : VR K (.raw v) v
 | tab (vs : List Value) (b : Nat) (E : TypeId) (fz : Nat × Nat) (hb : b < K.base) (hw : K.W.heap[b]? = some (.cells vs.toArray E fz)) : VR K (.tab vs) (.pointer (some ⟨b, 0, none⟩))
theorem Gh.ok.mono {K K' : Ctx} (h : K.le K') {b off len cap : Nat} {g : Gh} (k : g.ok K b off len cap) : g.ok K' b off len cap := by
 cases g with
 | none => exact k
 | full => exact k
 | own b' => obtain ⟨h1, h2, E, s, h3⟩ := k; exact ⟨h1, h2, E, s, h.row _ _ h3⟩
theorem VR.mono {K K' : Ctx} (h : K.le K') {a : AV} {v : Value} (k : VR K a v) : VR K' a v := by
 induction k with
 | undef v => exact .undef v
 | bool b => exact .bool b
 | int k n => exact .int k n
 | str s => exact .str s
 | nil => exact .nil
 | sl g xs sp sz b off cap f hsz hcap hml himm hv hg ih => exact .sl g xs sp sz b off cap f hsz hcap hml (fun j hj => h.imm _ _ _ (himm j hj)) ih (hg.mono h)
 | sl0 a => exact .sl0 a
 | agg cs vs hl h1 hv ih => exact .agg cs vs hl h1 ih
 | tup cs vs hl hv ih => exact .tup cs vs hl ih
 | ptr b o => exact .ptr b o
 | rp cs b off f h1 himm hv ih => exact .rp cs b off f h1 (fun j hj => h.imm _ _ _ (himm j hj)) ih
 | nilptr => exact .nilptr
 | fn f caps vs hl hv ih => exact .fn f caps vs hl ih
 | nilfn => exact .nilfn
 | bs b n s cap E hr hn hm => exact .bs b n s cap E (h.row _ _ hr) hn hm
 | bp b s cap E hr => exact .bp b s cap E (h.row _ _ hr)
 | raw v => exact .raw v
 | tab vs b E fz hb hw => exact .tab vs b E fz (by rw [h.base]; exact hb) (by rw [h.W]; exact hw)
section inv
variable {K : Ctx} {v : Value}
theorem VR.bool_iff {b : Bool} : VR K (.bool b) v ↔ v = .bool b := ⟨fun h => by cases h; rfl, fun h => h ▸ .bool b⟩
theorem VR.int_iff {k : IntKind} {n : Int} : VR K (.int k n) v ↔ v = .int k n := ⟨fun h => by cases h; rfl, fun h => h ▸ .int k n⟩
theorem VR.str_iff {s : List UInt8} : VR K (.str s) v ↔ v = .string ⟨⟨s⟩⟩ := ⟨fun h => by cases h; rfl, fun h => h ▸ .str s⟩
theorem VR.nil_iff : VR K .nil v ↔ v = .slice none 0 0 := ⟨fun h => by cases h; rfl, fun h => h ▸ .nil⟩
theorem VR.ptr_iff {b o : Nat} : VR K (.ptr b o) v ↔ v = .pointer (some ⟨b, o, none⟩) := ⟨fun h => by cases h; rfl, fun h => h ▸ .ptr b o⟩
theorem VR.nilptr_iff : VR K .nilptr v ↔ v = .pointer none := ⟨fun h => by cases h; rfl, fun h => h ▸ .nilptr⟩
theorem VR.nilfn_iff : VR K .nilfn v ↔ v = .nilFunc := ⟨fun h => by cases h; rfl, fun h => h ▸ .nilfn⟩
theorem VR.raw_iff {u : Value} : VR K (.raw u) v ↔ v = u := ⟨fun h => by cases h; rfl, fun h => by subst h; exact .raw v⟩
end inv
theorem VR.oneCell {K : Ctx} {a : AV} {v : Value} (h : VR K a v) (h1 : one a = true) : v.oneCell' = true := by
 cases h <;> first | rfl | (simp [one] at h1; done) | exact h1
theorem VR.cells {K : Ctx} {a : AV} {v : Value} (h : VR K a v) (h1 : isv a = true) :
  v.cells.size = (flat a).length /\ (∀ c, c ∈ flat a -> one c = true) /\ ∀ j (hj : j < (flat a).length), VR K (flat a)[j] (v.cells.getD j Go.undef) := by
 cases a with
 | agg cs => cases h with | agg _ vs hl h1 hv => exact ⟨hl, h1, hv⟩
 | undef => cases h1
 | tup vs => cases h1
 | raw u =>
  cases h
  have hc : v.cells = #[v] := by cases v <;> first | rfl | cases h1
  rw [hc]
  exact ⟨rfl, fun c hc => by simp [flat] at hc; subst hc; exact h1, fun j hj => by
   have : j = 0 := by simpa [flat] using hj
   subst this; exact .raw v⟩
 | _ =>
  have hc : v.cells = #[v] := by cases h <;> rfl
  rw [hc]
  refine ⟨rfl, fun c hc => by simp [flat] at hc; subst hc; rfl, fun j hj => ?_⟩
  have : j = 0 := by simpa [flat] using hj
  subst this
  exact h
theorem VR.agg_of {K : Ctx} (cs : List AV) (vs : Array Value) (hl : vs.size = cs.length) (h1 : ∀ c, c ∈ cs -> one c = true)
  (hv : ∀ j (h : j < cs.length), VR K cs[j] (vs.getD j Go.undef)) : VR K (.agg cs) (.agg vs) := .agg cs vs hl h1 hv
inductive AO where
 | iter (s : List UInt8) (pos : Nat)
inductive TyE where
 | t (E : TypeId)
 | ob (o : AO)
instance : Coe TypeId TyE := ⟨.t⟩
inductive OR (K : Ctx) : AO -> Obj -> Prop
 | iter (s : List UInt8) (pos : Nat) : OR K (.iter s pos) (.stringIter ⟨⟨s⟩⟩ pos)
theorem OR.mono {K K' : Ctx} (h : K.le K') {o : AO} {x : Obj} (k : OR K o x) : OR K' o x := by cases k; exact .iter _ _
theorem OR.cells {K : Ctx} {o : AO} {c : Array Value} {E : TypeId} {fz : Nat × Nat} (k : OR K o (.cells c E fz)) : False := by cases k
def tyOK (K : Ctx) (w : World) (b : Nat) : TyE -> Nat -> Prop
 | .t E, n => ∃ c fz, w.heap[b]? = some (.cells c E fz) /\ c.size = n
 | .ob o, _ => K.base <= b /\ ∃ x, w.heap[b]? = some x /\ OR K o x
theorem tyOK.lt {K : Ctx} {w : World} {b : Nat} {E : TyE} {n : Nat} (h : tyOK K w b E n) : b < w.heap.size := by
 cases E with
 | t E => obtain ⟨c, fz, hc, _⟩ := h; exact (Array.getElem?_eq_some_iff.1 hc).1
 | ob o => obtain ⟨_, x, hx, _⟩ := h; exact (Array.getElem?_eq_some_iff.1 hx).1
theorem tyOK.mono {K K' : Ctx} (hk : K.le K') {w : World} {b : Nat} {E : TyE} {n : Nat} (h : tyOK K w b E n) : tyOK K' w b E n := by
 cases E with
 | t E => exact h
 | ob o => obtain ⟨hb, x, hx, ho⟩ := h; exact ⟨by rw [hk.base]; exact hb, x, hx, ho.mono hk⟩
theorem tyOK.old {K : Ctx} {w w' : World} {b : Nat} {E : TyE} {n : Nat} (h : tyOK K w b E n) (he : w'.heap[b]? = w.heap[b]?) : tyOK K w' b E n := by
 cases E with
 | t E => obtain ⟨c, fz, hc, hn⟩ := h; exact ⟨c, fz, by rw [he]; exact hc, hn⟩
 | ob o => obtain ⟨hb, x, hx, ho⟩ := h; exact ⟨hb, x, by rw [he]; exact hx, ho⟩
theorem tyOK.wrote {K : Ctx} {w w' : World} {b : Nat} {E : TyE} {n : Nat} (h : tyOK K w b E n) {c c' : Array Value} {F : TypeId} {fz fz' : Nat × Nat} (hc : w.heap[b]? = some (.cells c F fz)) (hc' : w'.heap[b]? = some (.cells c' F fz')) (hs : c'.size = c.size) : tyOK K w' b E n := by
 cases E with
 | t E =>
  obtain ⟨d, fz, hd, hn⟩ := h
  rw [hc] at hd
  simp only [Option.some.injEq, Obj.cells.injEq] at hd
  obtain ⟨rfl, rfl, rfl⟩ := hd
  exact ⟨c', fz', hc', by rw [hs]; exact hn⟩
 | ob o =>
  obtain ⟨_, x, hx, ho⟩ := h
  rw [hc] at hx
  simp only [Option.some.injEq] at hx
  subst hx
  exact ho.cells.elim
structure AS where
 box : Nat -> Option (List AV)
 tip : Nat -> Option (Nat × Nat)
 ty : Nat -> Option (TyE × Nat)
def AS.fresh (σ : AS) (b : Nat) : Prop := σ.box b = none /\ σ.tip b = none /\ σ.ty b = none
def AS.setBox (σ : AS) (b : Nat) (cs : List AV) : AS := { σ with box := fun i => if i = b then some cs else σ.box i }
def AS.setTip (σ : AS) (b : Nat) (n : Nat × Nat) : AS := { σ with tip := fun i => if i = b then some n else σ.tip i }
def AS.setTy (σ : AS) (b : Nat) (n : TyE × Nat) : AS := { σ with ty := fun i => if i = b then some n else σ.ty i }
def AS.delTip (σ : AS) (b : Nat) : AS := { σ with tip := fun i => if i = b then none else σ.tip i }
structure AS.le (σ σ' : AS) : Prop where
 box : ∀ b cs, σ.box b = some cs -> σ'.box b = some cs
 tip : ∀ b n, σ.tip b = some n -> σ'.tip b = some n
 ty : ∀ b n, σ.ty b = some n -> σ'.ty b = some n
theorem AS.le.refl (σ : AS) : σ.le σ := ⟨fun _ _ h => h, fun _ _ h => h, fun _ _ h => h⟩
theorem AS.le.trans {a b c : AS} (h : a.le b) (k : b.le c) : a.le c := ⟨fun _ _ x => k.box _ _ (h.box _ _ x), fun _ _ x => k.tip _ _ (h.tip _ _ x), fun _ _ x => k.ty _ _ (h.ty _ _ x)⟩
theorem AS.le.setTy {σ σ' : AS} (h : σ.le σ') {b : Nat} (hb : σ.ty b = none) (n : TyE × Nat) : σ.le (σ'.setTy b n) := by
 refine ⟨h.box, h.tip, fun i m hi => ?_⟩
 have hne : i ≠ b := fun e => by subst e; rw [hb] at hi; cases hi
 simp only [AS.setTy, if_neg hne]
 exact h.ty _ _ hi
theorem AS.le.setBox {σ σ' : AS} (h : σ.le σ') {b : Nat} (hb : σ.box b = none) (cs : List AV) : σ.le (σ'.setBox b cs) := by
 refine ⟨fun i c hi => ?_, fun i n hi => h.tip _ _ hi, h.ty⟩
 have hne : i ≠ b := fun e => by subst e; rw [hb] at hi; cases hi
 simp only [AS.setBox, if_neg hne]
 exact h.box _ _ hi
theorem AS.le.setTip {σ σ' : AS} (h : σ.le σ') {b : Nat} (hb : σ.tip b = none) (n : Nat × Nat) : σ.le (σ'.setTip b n) := by
 refine ⟨fun i c hi => h.box _ _ hi, fun i m hi => ?_, h.ty⟩
 have hne : i ≠ b := fun e => by subst e; rw [hb] at hi; cases hi
 simp only [AS.setTip, if_neg hne]
 exact h.tip _ _ hi
theorem AS.le.delTip {σ σ' : AS} (h : σ.le σ') {b : Nat} (hb : σ.tip b = none) : σ.le (σ'.delTip b) := by
 refine ⟨fun i c hi => h.box _ _ hi, fun i m hi => ?_, h.ty⟩
 have hne : i ≠ b := fun e => by subst e; rw [hb] at hi; cases hi
 simp only [AS.delTip, if_neg hne]
 exact h.tip _ _ hi
theorem AS.le.fresh {σ σ' : AS} (h : σ.le σ') {b : Nat} (hb : σ'.fresh b) : σ.fresh b := by
 refine ⟨?_, ?_, ?_⟩
 ·cases e : σ.box b with
  | none => rfl
  | some c => have := h.box _ _ e; rw [hb.1] at this; cases this
 ·cases e : σ.tip b with
  | none => rfl
  | some c => have := h.tip _ _ e; rw [hb.2.1] at this; cases this
 ·cases e : σ.ty b with
  | none => rfl
  | some c => have := h.ty _ _ e; rw [hb.2.2] at this; cases this
structure Rel (G : Nat -> AV) (K : Ctx) (σ : AS) (w : World) : Prop where
 imm : ∀ b o v, K.imm b o = some v -> w.cell? ⟨b, o, none⟩ = some v
 row : ∀ b cap s E, K.row b = some (cap, s, E) -> ∃ cur fz, w.heap[b]? = some (.cells cur E fz) /\ cur.size = cap * s /\ cap <= maxLen /\ ((∃ x, σ.tip b = some x) -> fz = (0, 0) \/ cap * s <= fz.1)
 box : ∀ b cs, σ.box b = some cs -> K.base <= b /\ σ.tip b = none /\ True /\ (∀ o, K.imm b o = none) /\ (∀ c, c ∈ cs -> one c = true) /\
  ∃ c E, w.heap[b]? = some (.cells c E (0, 0)) /\ cs.length <= c.size /\ ∀ j (h : j < cs.length), VR K cs[j] (c.getD j Go.undef)
 tip : ∀ b n s, σ.tip b = some (n, s) -> K.base <= b /\ ∃ cap E, K.row b = some (cap, s, E) /\ n <= cap /\ ∀ o, n * s <= o -> K.imm b o = none
 ty : ∀ b E n, σ.ty b = some (E, n) -> tyOK K w b E n
 glob : ∀ g, VR K (G g) (.pointer (some ⟨g, 0, none⟩))
 below : Below K.base K.W w
 bs : K.base <= w.heap.size
section rel
variable {G : Nat -> AV} {K : Ctx} {σ : AS} {w : World}
theorem Rel.drew (h : Rel G K σ w) : Rel G K σ w.drew :=
 ⟨h.imm, h.row, h.box, h.tip, h.ty, h.glob, h.below.drew, h.bs⟩
theorem Rel.imm_lt (h : Rel G K σ w) {b o : Nat} {v : Value} (hi : K.imm b o = some v) : b < w.heap.size :=
 World.block_lt_of_cell? w _ (h.imm b o v hi)
theorem Rel.imm_none (h : Rel G K σ w) {b : Nat} (hb : w.heap.size <= b) (o : Nat) : K.imm b o = none := by
 cases e : K.imm b o with
 | none => rfl
 | some v => have := h.imm_lt e; omega
theorem Rel.row_lt (h : Rel G K σ w) {b : Nat} {x : Nat × Nat × TypeId} (hi : K.row b = some x) : b < w.heap.size := by
 obtain ⟨cap, s, E⟩ := x
 obtain ⟨cur, fz, hc, _⟩ := h.row b cap s E hi
 exact (Array.getElem?_eq_some_iff.1 hc).1
theorem Rel.row_none (h : Rel G K σ w) {b : Nat} (hb : w.heap.size <= b) : K.row b = none := by
 cases e : K.row b with
 | none => rfl
 | some v => have := h.row_lt e; omega
theorem Rel.fresh (h : Rel G K σ w) {b : Nat} (hb : w.heap.size <= b) : σ.fresh b := by
 refine ⟨?_, ?_, ?_⟩
 ·cases e : σ.box b with
  | none => rfl
  | some cs =>
   obtain ⟨_, _, _, _, _, c, E, hc, _⟩ := h.box b cs e
   have := (Array.getElem?_eq_some_iff.1 hc).1
   omega
 ·cases e : σ.tip b with
  | none => rfl
  | some n =>
   obtain ⟨_, cap, E, hr, _⟩ := h.tip b n.1 n.2 e
   have := h.row_lt hr
   omega
 ·cases e : σ.ty b with
  | none => rfl
  | some n =>
   have := (h.ty b n.1 n.2 e).lt
   omega
theorem Rel.alloc (h : Rel G K σ w) (o : Obj) : Rel G K σ (w.alloc o) := by
 have old : ∀ b, b < w.heap.size -> (w.alloc o).heap[b]? = w.heap[b]? := fun b hb => heap_alloc_old w o hb
 refine ⟨fun b o' v hv => ?_, fun b cap s E hr => ?_, fun b cs hb => ?_, h.tip, fun b E n ht => ?_, h.glob, h.below.alloc h.bs o, ?_⟩
 ·rw [World.cell?_of_block (w := w) (old b (h.imm_lt hv))]; exact h.imm b o' v hv
 ·obtain ⟨cur, fz, hc, hs⟩ := h.row b cap s E hr
  exact ⟨cur, fz, by rw [old b (h.row_lt hr)]; exact hc, hs⟩
 ·obtain ⟨h1, h2, h3, h4, h5, c, E, hc, hs, hv⟩ := h.box b cs hb
  exact ⟨h1, h2, h3, h4, h5, c, E, by rw [old b (Array.getElem?_eq_some_iff.1 hc).1]; exact hc, hs, hv⟩
 ·have h1 := h.ty b E n ht
  exact h1.old (old b h1.lt)
 ·have := h.bs; simp only [World.size_alloc]; omega
theorem Rel.keep (h : Rel G K σ w) (b : Nat) (p : Nat -> Bool) (hbase : σ.box b = none) (htip : ∀ n s, σ.tip b = some (n, s) -> ∀ o, p o = true -> o < n * s) :
  let K' : Ctx := { K with imm := fun i o => if i = b /\ p o = true then w.cell? ⟨b, o, none⟩ else K.imm i o }
  K.le K' /\ Rel G K' σ w := by
 intro K'
 have hle : K.le K' := by
  refine ⟨fun i o v hv => ?_, fun _ _ h => h, rfl, rfl⟩
  show (if i = b /\ p o = true then w.cell? ⟨b, o, none⟩ else K.imm i o) = some v
  split
  ·rename_i hi; obtain ⟨rfl, _⟩ := hi; exact h.imm _ _ _ hv
  ·exact hv
 refine ⟨hle, fun i o v hv => ?_, h.row, fun i cs hi => ?_, fun i n s hi => ?_, fun i E n hi => (h.ty i E n hi).mono hle, fun g => (h.glob g).mono hle, h.below, h.bs⟩
 ·have hv' : (if i = b /\ p o = true then w.cell? ⟨b, o, none⟩ else K.imm i o) = some v := hv
  split at hv'
  ·rename_i hi; obtain ⟨rfl, _⟩ := hi; exact hv'
  ·exact h.imm _ _ _ hv'
 ·obtain ⟨h1, h2, h3, h4, h5, c, E, hc, hs, hvv⟩ := h.box i cs hi
  have hne : i ≠ b := fun e => by subst e; rw [hbase] at hi; cases hi
  refine ⟨h1, h2, h3, fun o => ?_, h5, c, E, hc, hs, fun j hj => (hvv j hj).mono hle⟩
  show (if i = b /\ p o = true then _ else K.imm i o) = none
  rw [if_neg (fun x => hne x.1)]; exact h4 o
 ·obtain ⟨h1, cap, E, hr, hn, ho⟩ := h.tip i n s hi
  refine ⟨h1, cap, E, hr, hn, fun o hlo => ?_⟩
  show (if i = b /\ p o = true then _ else K.imm i o) = none
  split
  ·rename_i hx
   obtain ⟨rfl, hp⟩ := hx
   have := htip n s hi o hp
   omega
  ·exact ho o hlo
theorem Rel.addBox (h : Rel G K σ w) (c : Array Value) (E : TypeId) (cs : List AV) (hl : cs.length <= c.size) (h1 : ∀ a, a ∈ cs -> one a = true)
  (hv : ∀ j (hj : j < cs.length), VR K cs[j] (c.getD j Go.undef)) : Rel G K (σ.setBox w.heap.size cs) (w.alloc (.cells c E)) := by
 have h' := h.alloc (.cells c E)
 have hf := h.fresh (Nat.le_refl w.heap.size)
 refine ⟨h'.imm, h'.row, fun b cs' hb => ?_, fun b n s hb => h'.tip b n s hb, h'.ty, h'.glob, h'.below, h'.bs⟩
 by_cases hbe : b = w.heap.size
 ·subst hbe
  simp only [AS.setBox, if_true, Option.some.injEq] at hb
  subst hb
  exact ⟨h.bs, hf.2.1, trivial, h.imm_none (Nat.le_refl _), h1, c, E, heap_alloc_new w _, hl, hv⟩
 ·simp only [AS.setBox, if_neg hbe] at hb
  exact h'.box b cs' hb
theorem Rel.weaken (h : Rel G K σ w) {σ' : AS} (hl : σ'.le σ) : Rel G K σ' w := by
 refine ⟨h.imm, fun b cap s E hr => ?_, fun b cs hb => ?_, fun b n s hb => h.tip b n s (hl.tip _ _ hb), fun b E n hb => h.ty b E n (hl.ty _ _ hb), h.glob, h.below, h.bs⟩
 ·obtain ⟨cur, fz, h1, h2, h3, h4⟩ := h.row b cap s E hr
  exact ⟨cur, fz, h1, h2, h3, fun ⟨x, hx⟩ => h4 ⟨x, hl.tip _ _ hx⟩⟩
 obtain ⟨h1, h2, h3, h4⟩ := h.box b cs (hl.box _ _ hb)
 refine ⟨h1, ?_, h3, h4⟩
 cases e : σ'.tip b with
 | none => rfl
 | some n => have := hl.tip _ _ e; rw [h2] at this; cases this
theorem Rel.typed (h : Rel G K σ w) {b : Nat} {c : Array Value} {E : TypeId} {fz : Nat × Nat} {n : Nat} (hc : w.heap[b]? = some (.cells c E fz)) (hn : c.size = n) : Rel G K (σ.setTy b (E, n)) w := by
 refine ⟨h.imm, h.row, h.box, h.tip, fun i F m hi => ?_, h.glob, h.below, h.bs⟩
 have hi' : (if i = b then some ((E : TyE), n) else σ.ty i) = some (F, m) := hi
 split at hi'
 ·rename_i he
  subst he
  simp only [Option.some.injEq, Prod.mk.injEq] at hi'
  obtain ⟨rfl, rfl⟩ := hi'
  exact ⟨c, fz, hc, hn⟩
 ·exact h.ty i F m hi'
theorem Rel.setBox (h : Rel G K σ w) {b : Nat} {cs cs' : List AV} (hb : σ.box b = some cs) {c : Array Value} {E : TypeId} (hc : w.heap[b]? = some (.cells c E (0, 0))) (c' : Array Value) (hcs : c'.size = c.size) (hl : cs'.length <= c'.size)
  (h1 : ∀ a, a ∈ cs' -> one a = true) (hv : ∀ j (hj : j < cs'.length), VR K cs'[j] (c'.getD j Go.undef)) : Rel G K (σ.setBox b cs') (w.setRow b c') := by
 obtain ⟨g1, g2, g3, g4, g5, _⟩ := h.box b cs hb
 have hnew : (w.setRow b c').heap[b]? = some (.cells c' E (0, 0)) := setRow_heap w b c c' E (0, 0) hc
 have old : ∀ i, i ≠ b -> (w.setRow b c').heap[i]? = w.heap[i]? := fun i hi => setRow_other w b i c' hi
 have hsize : (w.setRow b c').heap.size = w.heap.size := by simp [World.setRow]
 refine ⟨fun i o v hi => ?_, fun i cap s F hr => ?_, fun i ds hi => ?_, h.tip, fun i F n ht => ?_, h.glob, ?_, by rw [hsize]; exact h.bs⟩
 ·have hne : i ≠ b := fun e => by subst e; rw [g4 o] at hi; cases hi
  rw [World.cell?_of_block (w := w) (old i hne)]; exact h.imm i o v hi
 ·obtain ⟨cur, fz, hcur, hx⟩ := h.row i cap s F hr
  by_cases hib : i = b
  ·subst hib
   rw [hc] at hcur
   simp only [Option.some.injEq, Obj.cells.injEq] at hcur
   obtain ⟨rfl, rfl, rfl⟩ := hcur
   exact ⟨c', _, hnew, by rw [hcs]; exact hx.1, hx.2⟩
  ·exact ⟨cur, fz, by rw [old i hib]; exact hcur, hx⟩
 ·by_cases hib : i = b
  ·subst hib
   simp only [AS.setBox, if_true, Option.some.injEq] at hi
   subst hi
   exact ⟨g1, g2, g3, g4, h1, c', E, hnew, hl, hv⟩
  ·simp only [AS.setBox, if_neg hib] at hi
   obtain ⟨k1, k2, k3, k4, k5, d, F, hd, hds, hdv⟩ := h.box i ds hi
   exact ⟨k1, k2, k3, k4, k5, d, F, by rw [old i hib]; exact hd, hds, hdv⟩
 ·have h1 := h.ty i F n ht
  by_cases hib : i = b
  ·subst hib
   exact h1.wrote hc hnew hcs
  ·exact h1.old (old i hib)
 ·exact h.below.trans ⟨rfl, rfl, rfl, by rw [hsize]; exact Nat.le_refl _, fun k hk => old k (by omega)⟩
end rel
end Go.Av
namespace Go.Av
open Go Go.RowKit
def ofCell : Value -> AV
 | .bool b => .bool b
 | .int k n => .int k n
 | .string s => .str s.data.toList
 | .slice none 0 0 => .nil
 | .pointer none => .nilptr
 | .nilFunc => .nilfn
 | v => .raw v
def ofConst : Value -> AV
 | .agg cs => if cs.toList.all (fun c => one (ofCell c)) then .agg (cs.toList.map ofCell) else .raw (.agg cs)
 | .tuple cs => .tup (cs.toList.map ofCell)
 | v => ofCell v
theorem VR.ofCell (K : Ctx) (v : Value) : VR K (ofCell v) v := by
 unfold Av.ofCell
 split <;> first | exact .bool _ | exact .int _ _ | exact .nil | exact .nilptr | exact .nilfn | exact .raw _ | exact .str _
theorem VR.ofCells (K : Ctx) (cs : Array Value) : ∀ j (h : j < (cs.toList.map Av.ofCell).length), VR K (cs.toList.map Av.ofCell)[j] (cs.getD j Go.undef) := by
 intro j h
 have hj : j < cs.size := by simpa using h
 simp only [List.getElem_map, Array.getElem_toList]
 rw [show cs.getD j Go.undef = cs[j] by simp [Array.getD, hj]]
 exact VR.ofCell K _
theorem VR.ofConst (K : Ctx) (v : Value) : VR K (ofConst v) v := by
 unfold Av.ofConst
 split
 ·rename_i cs
  split
  ·rename_i h
   refine .agg _ _ (by simp) (fun c hc => ?_) (VR.ofCells K cs)
   obtain ⟨x, hx, rfl⟩ := List.mem_map.1 hc
   exact List.all_eq_true.1 h x hx
  ·exact .raw _
 ·rename_i cs
  exact .tup _ _ (by simp) (VR.ofCells K cs)
 ·exact VR.ofCell K v
abbrev Env := Nat -> AV
def ev (G : Nat -> AV) (e : Env) : Operand -> AV
 | .tmp t => e t
 | .const v => ofConst v
 | .global g => G g
 | .func f => .fn f []
def Env.upd (e : Env) (d : Option Tmp) (v : AV) : Env :=
 match d with
 | some d => fun j => if j = d then v else e j
 | none => e
def ER (K : Ctx) (e : Env) (a : Act) : Prop := ∀ t, VR K (e t) (a.tmps.getD t Go.undef)
theorem ER.mono {K K' : Ctx} (h : K.le K') {e : Env} {a : Act} (k : ER K e a) : ER K' e a := fun t => (k t).mono h
theorem ER.eval {G : Nat -> AV} {K : Ctx} {σ : AS} {w : World} {e : Env} {a : Act} (h : ER K e a) (hr : Rel G K σ w) (x : Operand) : VR K (ev G e x) (a.eval x) := by
 cases x with
 | tmp t => exact h t
 | const v => exact VR.ofConst K v
 | global g => exact hr.glob g
 | func f => exact .fn f [] #[] rfl (fun j h => by cases h)
theorem ER.put {K : Ctx} {e : Env} {a : Act} (h : ER K e a) {d : Option Tmp} (hd : ∀ t, d = some t -> t < a.tmps.size) {r : AV} {v : Value} (hv : VR K r v) :
  ER K (e.upd d r) (a.put d v) := by
 cases d with
 | none => exact h
 | some d =>
  intro t
  have hlt := hd d rfl
  simp only [Env.upd, Act.put]
  by_cases htd : t = d
  ·subst htd; simpa [hlt] using hv
  ·rw [if_neg htd]
   have := h t
   simp only [Array.getD_eq_getD_getElem?] at this ⊢
   rw [Array.getElem?_setIfInBounds_ne (Ne.symm htd)]
   exact this
section tables
variable (P : Program)
def tk (t : TypeId) : Option (Bool × Nat) :=
 match P.underlying t, P.info? t with
 | some d, some i => some ((match d with | .struct _ => true | .array _ _ => true | _ => false), i.size)
 | _, _ => none
def el (t : TypeId) : Option TypeId :=
 match P.underlying t with
 | some (.slice e) => some e
 | _ => none
def fld (t : TypeId) (i : Nat) : Option (Nat × Bool × Nat) :=
 match P.underlying t with
 | some (.struct fs) => match fs[i]? with
  | some f => (tk P f.type).map fun x => (f.offset, x)
  | none => none
 | _ => none
def arrT (t : TypeId) : Option (Nat × Nat) :=
 match P.underlying t with
 | some (.array m e) => (P.info? e).map fun i => (m, i.size)
 | _ => none
end tables
theorem run_tk {P : Program} {t : TypeId} {b : Bool} {n : Nat} (h : tk P t = some (b, n)) (w : World) :
  (isAgg t).run P w = .ok b w /\ (sizeOf t).run P w = .ok n w /\ (P.info? t).map (·.size) = some n := by
 unfold tk at h
 split at h
 ·rename_i d i hd hi
  simp only [Option.some.injEq, Prod.mk.injEq] at h
  obtain ⟨h1, h2⟩ := h
  refine ⟨?_, by simp [sizeOf, typeInfo, hi, h2], by simp [hi, h2]⟩
  unfold isAgg
  simp only [Sem.run_bind, run_underlying hd]
  subst h1
  cases d <;> rfl
 ·cases h
theorem run_el {P : Program} {t e : TypeId} (h : el P t = some e) : P.underlying t = some (.slice e) := by
 unfold el at h
 split at h
 ·rename_i x hx; simp only [Option.some.injEq] at h; subst h; exact hx
 ·cases h
def rd (ag : Bool) (n : Nat) (cs : List AV) : Option AV :=
 if ag then (if n <= cs.length then some (.agg (cs.take n)) else none) else cs.head?
def aload (P : Program) (σ : AS) (t : TypeId) (p : AV) : Option AV :=
 match tk P t with
 | none => none
 | some (ag, n) =>
  match p with
  | .ptr b o => match σ.box b with
   | some cs => rd ag n (cs.drop o)
   | none => none
  | .rp cs => rd ag n cs
  | _ => none
theorem run_load_cell {P : Program} {w : World} {a : Addr} {v : Value} (h : w.cell? a = some v) : (load a).run P w = .ok v w := by simp [run_load, h]
theorem rd_sound {P : Program} {K : Ctx} {w : World} {t : TypeId} {ag : Bool} {n : Nat} (ht : tk P t = some (ag, n)) {cs : List AV} {b o : Nat} {f : Nat -> Value}
  (hc : ∀ j, j < cs.length -> w.cell? ⟨b, o + j, none⟩ = some (f j)) (h1 : ∀ c, c ∈ cs -> one c = true) (hv : ∀ j (h : j < cs.length), VR K cs[j] (f j)) {r : AV} (hr : rd ag n cs = some r) :
  ∃ v, (loadVar t ⟨b, o, none⟩).run P w = .ok v w /\ VR K r v := by
 obtain ⟨ht1, ht2, _⟩ := run_tk ht w
 unfold rd at hr
 cases ag with
 | true =>
  simp only [if_true] at hr
  split at hr
  ·rename_i hn
   simp only [Option.some.injEq] at hr
   subst hr
   have hl := run_loadCells (P := P) w ⟨b, o, none⟩ n f (fun j hj => by rw [Addr.add_lit]; exact hc j (by omega))
   refine ⟨.agg ((List.range n).map f).toArray, ?_, .agg _ _ (by simp [hn]) (fun c hcm => h1 c (List.mem_of_mem_take hcm)) (fun j hj => ?_)⟩
   ·unfold loadVar
    simp [ht1, ht2, hl]
   ·have hjn : j < n := by simp at hj; omega
    have hjc : j < cs.length := by omega
    simpa [Array.getD, hjn] using hv j hjc
  ·cases hr
 | false =>
  simp only [Bool.false_eq_true, if_false] at hr
  cases cs with
  | nil => cases hr
  | cons c rest =>
   simp only [List.head?_cons, Option.some.injEq] at hr
   subst hr
   have h0 := hc 0 (by simp)
   simp only [Nat.add_zero] at h0
   refine ⟨f 0, ?_, hv 0 (by simp)⟩
   unfold loadVar
   simp only [Sem.run_bind, ht1, Bool.false_eq_true, if_false]
   exact run_load_cell h0
theorem aload_sound {P : Program} {G : Nat -> AV} {K : Ctx} {σ : AS} {w : World} (hr : Rel G K σ w) {t : TypeId} {p r : AV} (h : aload P σ t p = some r) {v : Value} (hv : VR K p v) :
  ∃ u, (Instr.loadAt t v).run P w = .ok u w /\ VR K r u := by
 unfold aload at h
 split at h
 ·cases h
 rename_i ag n ht
 cases p with
 | ptr b o =>
  rw [VR.ptr_iff] at hv; subst hv
  simp only at h
  split at h
  ·rename_i cs hb
   obtain ⟨_, _, _, _, h1, c, E, hc, hs, hvv⟩ := hr.box b cs hb
   have := rd_sound (P := P) (K := K) (w := w) ht (cs := cs.drop o) (b := b) (o := o) (f := fun j => c.getD (o + j) Go.undef)
    (fun j hj => by
      have hj' : o + j < c.size := by simp at hj; omega
      rw [cell_of_row w b (o + j) c E (0, 0) hc]; simp [Array.getD, hj'])
    (fun x hx => h1 x (List.mem_of_mem_drop hx)) (fun j hj => by
      have hj' : o + j < cs.length := by simp at hj; omega
      simpa using hvv (o + j) hj') h
   obtain ⟨u, hu, hru⟩ := this
   exact ⟨u, by simpa [Instr.loadAt, Instr.sureAddr] using hu, hru⟩
  ·cases h
 | rp cs =>
  simp only at h
  cases hv with
  | rp _ b off f h1 himm hvv =>
   obtain ⟨u, hu, hru⟩ := rd_sound (P := P) (K := K) (w := w) ht (cs := cs) (b := b) (o := off) (f := f) (fun j hj => hr.imm _ _ _ (himm j hj)) h1 hvv h
   exact ⟨u, by simpa [Instr.loadAt, Instr.sureAddr] using hu, hru⟩
 | _ => cases h
def afield (P : Program) (t : TypeId) (p : AV) (i : Nat) : Option AV :=
 match fld P t i with
 | some (off, _, n) => if n = 0 then none else
  match p with
  | .ptr b o => some (.ptr b (o + off))
  | .rp cs => some (.rp (cs.drop off))
  | _ => none
 | none => none
theorem afield_sound {P : Program} {K : Ctx} {w : World} {t : TypeId} {p r : AV} {i : Nat} (h : afield P t p i = some r) {v : Value} (hv : VR K p v) :
  ∃ u, (Instr.fieldAt t v i).run P w = .ok u w /\ VR K r u := by
 unfold afield at h
 split at h
 ·rename_i off ag n hf
  split at h
  ·cases h
  rename_i hn
  unfold fld at hf
  split at hf
  ·rename_i fs hu
   split at hf
   ·rename_i f hfi
    cases htk : tk P f.type with
    | none => rw [htk] at hf; cases hf
    | some x =>
     rw [htk] at hf
     simp only [Option.map_some, Option.some.injEq, Prod.mk.injEq] at hf
     obtain ⟨rfl, hx⟩ := hf
     obtain ⟨_, hs, _⟩ := run_tk (b := x.1) (n := x.2) htk w
     have hxn : x.2 = n := by rw [hx]
     have key : ∀ b o, (Instr.fieldAt t (.pointer (some ⟨b, o, none⟩)) i).run P w = .ok (.pointer (some ⟨b, o + f.offset, none⟩)) w := by
      intro b o
      have hz : ¬ (x.2 = 0) := by rw [hxn]; exact hn
      simp [Instr.fieldAt, run_underlying hu, hfi, Instr.sureAddr, fieldPlace, hs, hz, Addr.add_lit]
     cases p with
     | ptr b o =>
      rw [VR.ptr_iff] at hv; subst hv
      simp only [Option.some.injEq] at h; subst h
      exact ⟨_, key b o, .ptr _ _⟩
     | rp cs =>
      simp only [Option.some.injEq] at h; subst h
      cases hv with
      | rp _ b o g h1 himm hvv =>
       refine ⟨_, key b o, .rp _ _ _ (fun j => g (f.offset + j)) (fun c hc => h1 c (List.mem_of_mem_drop hc)) (fun j hj => ?_) (fun j hj => ?_)⟩
       ·have hj' : f.offset + j < cs.length := by simp at hj; omega
        rw [Nat.add_assoc]; exact himm _ hj'
       ·have hj' : f.offset + j < cs.length := by simp at hj; omega
        simpa using hvv _ hj'
     | _ => cases h
   ·cases hf
  ·cases hf
 ·cases h
theorem flatMap_at {sz : Nat} : ∀ (l : List AV), (∀ e, e ∈ l -> (flat e).length = sz) -> ∀ i (hi : i < l.length) j, j < sz ->
  (l.flatMap flat)[i * sz + j]? = (flat l[i])[j]? := by
 intro l
 induction l with
 | nil => intro _ i hi; cases hi
 | cons x l ih =>
  intro h i hi j hj
  have hx := h x (by simp)
  cases i with
  | zero => simp only [List.flatMap_cons, Nat.zero_mul, Nat.zero_add, List.getElem_cons_zero]; rw [List.getElem?_append_left (by omega)]
  | succ i =>
   simp only [List.flatMap_cons, List.getElem_cons_succ]
   rw [List.getElem?_append_right (by rw [hx, Nat.succ_mul]; omega)]
   rw [show (i + 1) * sz + j - (flat x).length = i * sz + j by rw [hx, Nat.succ_mul]; omega]
   exact ih (fun e he => h e (by simp [he])) i (by simpa using hi) j hj
theorem flatMap_length {sz : Nat} : ∀ (l : List AV), (∀ e, e ∈ l -> (flat e).length = sz) -> (l.flatMap flat).length = l.length * sz := by
 intro l
 induction l with
 | nil => intro _; simp
 | cons x l ih =>
  intro h
  simp only [List.flatMap_cons, List.length_append, h x (by simp), ih (fun e he => h e (by simp [he])), List.length_cons, Nat.succ_mul]
  omega
def aindexA (P : Program) (t : TypeId) (x i : AV) : Option AV :=
 match x, i with
 | .sl _ xs _, .int _ i => (match el P t with
  | none => none
  | some e => match tk P e with
   | some (_, n) => if 0 <= i then match xs[i.toNat]? with
     | some a => if (flat a).length = n then some (.rp (flat a)) else none
     | none => none
    else none
   | none => none)
 | .rp cs, .int _ i => (match arrT P t with
  | some (m, n) => if 0 <= i /\ i < m then some (.rp (cs.drop (i.toNat * n))) else none
  | none => none)
 | .ptr b o, .int _ i => (match arrT P t with
  | some (m, n) => if 0 <= i /\ i < m then some (.ptr b (o + i.toNat * n)) else none
  | none => none)
 | .bs b m s _, .int _ i => (match el P t with
  | none => none
  | some e => match tk P e with
   | some (_, n) => if 0 <= i /\ i < m then some (.ptr b (i.toNat * n)) else none
   | none => none)
 | _, _ => none
theorem sl_item {K : Ctx} {g : Gh} {xs sp : List AV} {v : Value} (hv : VR K (.sl g xs sp) v) {i : Nat} (hi : i < xs.length) :
  ∃ b off cap, ∃ f : Nat -> Value, v = .slice (some ⟨b, off, none⟩) xs.length cap /\ (∀ j, j < (flat xs[i]).length -> K.imm b (off + i * (flat xs[i]).length + j) = some (f j)) /\
   (∀ j (h : j < (flat xs[i]).length), VR K (flat xs[i])[j] (f j)) /\ isv xs[i] = true /\ (∀ c, c ∈ flat xs[i] -> one c = true) := by
 cases hv with
 | sl0 a => cases hi
 | sl _ _ _ sz b off cap f hsz hcap hml himm hv hg =>
  have hm : xs[i] ∈ xs ++ sp := List.mem_append_left _ (List.getElem_mem hi)
  have hl := (hsz _ hm).1
  have hlen := flatMap_length (sz := sz) (xs ++ sp) (fun e he => (hsz e he).1)
  refine ⟨b, off, cap, fun j => f (i * sz + j), rfl, fun j hj => ?_, fun j hj => ?_, (hsz _ hm).2⟩
  ·rw [hl] at hj ⊢
   have : i * sz + j < ((xs ++ sp).flatMap flat).length := by
    rw [hlen, List.length_append]
    have h1 : (i + 1) * sz <= (xs.length + sp.length) * sz := Nat.mul_le_mul_right _ (by omega)
    rw [Nat.succ_mul] at h1; omega
   rw [Nat.add_assoc]; exact himm _ this
  ·have hj' : j < sz := by rw [hl] at hj; exact hj
   have hlt : i * sz + j < ((xs ++ sp).flatMap flat).length := by
    rw [hlen, List.length_append]
    have h1 : (i + 1) * sz <= (xs.length + sp.length) * sz := Nat.mul_le_mul_right _ (by omega)
    rw [Nat.succ_mul] at h1; omega
   have h2 := flatMap_at (sz := sz) (xs ++ sp) (fun e he => (hsz e he).1) i (by simp; omega) j hj'
   rw [List.getElem?_eq_getElem hlt] at h2
   have h3 : (xs ++ sp)[i]'(by simp; omega) = xs[i] := List.getElem_append_left hi
   rw [h3, List.getElem?_eq_getElem hj] at h2
   have h4 := hv _ hlt
   rw [Option.some.inj h2] at h4
   exact h4
theorem run_indexAt_sl {P : Program} (w : World) {t e : TypeId} {ag : Bool} {n : Nat} (ht : el P t = some e) (hn : tk P e = some (ag, n)) (b off len cap : Nat) (k : IntKind) (i : Nat) (hi : i < len) :
  (Instr.indexAt t (.slice (some ⟨b, off, none⟩) len cap) (.int k i)).run P w = .ok (.pointer (some ⟨b, off + i * n, none⟩)) w := by
 obtain ⟨_, hs, _⟩ := run_tk hn w
 have hu := run_el ht
 have h1 : (0 : Int) <= (i : Int) /\ (i : Int) < (len : Int) := by omega
 simp [Instr.indexAt, asIntOf, run_underlying hu, h1, hs, Addr.add_lit]
 omega
theorem run_indexAt_arr {P : Program} (w : World) {t : TypeId} {m n : Nat} (ht : arrT P t = some (m, n)) (b off : Nat) (k : IntKind) (i : Int) (h0 : 0 <= i) (h1 : i < m) :
  (Instr.indexAt t (.pointer (some ⟨b, off, none⟩)) (.int k i)).run P w = .ok (.pointer (some ⟨b, off + i.toNat * n, none⟩)) w := by
 unfold arrT at ht
 split at ht
 ·rename_i m' e hu
  cases hi : P.info? e with
  | none => rw [hi] at ht; cases ht
  | some inf =>
   rw [hi] at ht
   simp only [Option.map_some, Option.some.injEq, Prod.mk.injEq] at ht
   obtain ⟨rfl, rfl⟩ := ht
   simp [Instr.indexAt, asIntOf, run_underlying hu, Instr.sureAddr, sizeOf, typeInfo, hi, h0, h1, Addr.add_lit]
 ·cases ht
theorem aindexA_sound {P : Program} {K : Ctx} {w : World} (hK : ∀ b o v, K.imm b o = some v -> w.cell? ⟨b, o, none⟩ = some v) {t : TypeId} {x i r : AV} (h : aindexA P t x i = some r) {v u : Value} (hv : VR K x v) (hu : VR K i u) :
  ∃ z, (Instr.indexAt t v u).run P w = .ok z w /\ VR K r z := by
 unfold aindexA at h
 split at h
 ·rename_i g xs sp k i
  split at h
  ·cases h
  rename_i e he
  split at h
  case h_2 => cases h
  rename_i ag n hn
  split at h
  case isFalse => cases h
  rename_i h0
  split at h
  case h_2 => cases h
  rename_i a ha
  split at h
  case isFalse => cases h
  rename_i hlen
  simp only [Option.some.injEq] at h
  subst h
  rw [VR.int_iff] at hu; subst hu
  obtain ⟨hi, hai⟩ := List.getElem?_eq_some_iff.1 ha
  obtain ⟨b, off, cap, f, rfl, h1, h2, h3, h4⟩ := sl_item hv hi
  rw [hai] at h1 h2 h4
  rw [hlen] at h1
  have hrun := run_indexAt_sl (P := P) w he hn b off xs.length cap k i.toNat hi
  rw [Int.toNat_of_nonneg h0] at hrun
  exact ⟨_, hrun, .rp _ _ _ f h4 (fun j hj => h1 j (by omega)) h2⟩
 ·rename_i cs k i
  split at h
  case h_2 => cases h
  rename_i m n hm
  split at h
  case isFalse => cases h
  rename_i hc
  simp only [Option.some.injEq] at h
  subst h
  rw [VR.int_iff] at hu; subst hu
  cases hv with
  | rp _ b o g h1 himm hvv =>
   refine ⟨_, run_indexAt_arr w hm b o k i hc.1 hc.2, .rp _ _ _ (fun j => g (i.toNat * n + j)) (fun c hcm => h1 c (List.mem_of_mem_drop hcm)) (fun j hj => ?_) (fun j hj => ?_)⟩
   ·have hj' : i.toNat * n + j < cs.length := by simp at hj; omega
    rw [Nat.add_assoc]; exact himm _ hj'
   ·have hj' : i.toNat * n + j < cs.length := by simp at hj; omega
    simpa using hvv _ hj'
 ·rename_i b o k i
  split at h
  case h_2 => cases h
  rename_i m n hm
  split at h
  case isFalse => cases h
  rename_i hc
  simp only [Option.some.injEq] at h
  subst h
  rw [VR.int_iff] at hu; subst hu
  rw [VR.ptr_iff] at hv; subst hv
  exact ⟨_, run_indexAt_arr w hm b o k i hc.1 hc.2, .ptr _ _⟩
 ·rename_i b m q E0 k i
  split at h
  ·cases h
  rename_i e he
  split at h
  case h_2 => cases h
  rename_i ag n hn
  split at h
  case isFalse => cases h
  rename_i hc
  simp only [Option.some.injEq] at h
  subst h
  rw [VR.int_iff] at hu; subst hu
  cases hv with
  | bs _ _ _ cap E hr hnn hm =>
   have hrun := run_indexAt_sl (P := P) w he hn b 0 m cap k i.toNat (by omega)
   rw [Int.toNat_of_nonneg hc.1, Nat.zero_add] at hrun
   exact ⟨_, hrun, .ptr _ _⟩
 ·cases h
end Go.Av
