/- What the program's tables say of its types: each by the kernel. Written by a program of ours (facts.py). -/
import Derived.Test.YtldmniappliepaaDoorX09
import Derived.Test.YtldmniappliepaaDoorChecked
import Derived.KernelRfl
import Derived.Shelf.Strings.BuilderX
import Derived.Lib.Strings
import Derived.Lib.Slices
import Derived.Lib.Walk
import Derived.Lib.Builder
import Derived.Lib.AppendStr
import Derived.Lib.UnsafeStr
import Derived.Lib.MakeNoZero
import Derived.Laws.Externs
set_option maxRecDepth 100000
set_option linter.defProp false
namespace Go.Proofs.YtldmniappliepaaDoor
open Go Go.Av
theorem tf3 : tk Tryd.prog 3 = some (false, 1) ∧ sk Tryd.prog 3 = .int .i64 ∧ (Tryd.prog.underlying 3).isSome = true ∧ el Tryd.prog 3 = none ∧ zc Tryd.prog 3 = some [.int .i64 0] ∧ by_ Tryd.prog 3 = some 8 := ⟨by kernel_rfl, by kernel_rfl, by kernel_rfl, by kernel_rfl, by kernel_rfl, by kernel_rfl⟩
theorem tf4 : tk Tryd.prog 4 = some (false, 1) ∧ sk Tryd.prog 4 = .bool ∧ (Tryd.prog.underlying 4).isSome = true ∧ el Tryd.prog 4 = none ∧ zc Tryd.prog 4 = some [.bool false] ∧ by_ Tryd.prog 4 = some 1 := ⟨by kernel_rfl, by kernel_rfl, by kernel_rfl, by kernel_rfl, by kernel_rfl, by kernel_rfl⟩
theorem tf5 : tk Tryd.prog 5 = some (false, 1) ∧ sk Tryd.prog 5 = .int .u8 ∧ (Tryd.prog.underlying 5).isSome = true ∧ el Tryd.prog 5 = none ∧ zc Tryd.prog 5 = some [.int .u8 0] ∧ by_ Tryd.prog 5 = some 1 := ⟨by kernel_rfl, by kernel_rfl, by kernel_rfl, by kernel_rfl, by kernel_rfl, by kernel_rfl⟩
theorem tf9 : tk Tryd.prog 9 = some (false, 1) ∧ sk Tryd.prog 9 = .str ∧ (Tryd.prog.underlying 9).isSome = true ∧ el Tryd.prog 9 = none ∧ zc Tryd.prog 9 = some [.str []] ∧ by_ Tryd.prog 9 = some 16 := ⟨by kernel_rfl, by kernel_rfl, by kernel_rfl, by kernel_rfl, by kernel_rfl, by kernel_rfl⟩
theorem tf23 : tk Tryd.prog 23 = some (false, 1) ∧ sk Tryd.prog 23 = .sl 31 ∧ (Tryd.prog.underlying 23).isSome = true ∧ el Tryd.prog 23 = some 31 ∧ zc Tryd.prog 23 = some [.nil] ∧ by_ Tryd.prog 23 = some 24 ∧ aelt Tryd.prog 23 = some (31, 3, 32) := ⟨by kernel_rfl, by kernel_rfl, by kernel_rfl, by kernel_rfl, by kernel_rfl, by kernel_rfl, by kernel_rfl⟩
theorem tf24 : tk Tryd.prog 24 = some (false, 1) ∧ sk Tryd.prog 24 = .int .i64 ∧ (Tryd.prog.underlying 24).isSome = true ∧ el Tryd.prog 24 = none ∧ zc Tryd.prog 24 = some [.int .i64 0] ∧ by_ Tryd.prog 24 = some 8 := ⟨by kernel_rfl, by kernel_rfl, by kernel_rfl, by kernel_rfl, by kernel_rfl, by kernel_rfl⟩
theorem tf26 : tk Tryd.prog 26 = some (true, 2) ∧ sk Tryd.prog 26 = .st ∧ (Tryd.prog.underlying 26).isSome = true ∧ el Tryd.prog 26 = none ∧ zc Tryd.prog 26 = some [.int .i64 0, .int .i64 0] ∧ by_ Tryd.prog 26 = some 16 ∧ places Tryd.prog 26 = some [(0, 1), (1, 1)] ∧ fld Tryd.prog 26 0 = some (0, false, 1) ∧ fld Tryd.prog 26 1 = some (1, false, 1) := ⟨by kernel_rfl, by kernel_rfl, by kernel_rfl, by kernel_rfl, by kernel_rfl, by kernel_rfl, by kernel_rfl, by kernel_rfl, by kernel_rfl⟩
theorem tf29 : tk Tryd.prog 29 = some (false, 1) ∧ sk Tryd.prog 29 = .int .u8 ∧ (Tryd.prog.underlying 29).isSome = true ∧ el Tryd.prog 29 = none ∧ zc Tryd.prog 29 = some [.int .u8 0] ∧ by_ Tryd.prog 29 = some 1 := ⟨by kernel_rfl, by kernel_rfl, by kernel_rfl, by kernel_rfl, by kernel_rfl, by kernel_rfl⟩
theorem tf31 : tk Tryd.prog 31 = some (true, 3) ∧ sk Tryd.prog 31 = .st ∧ (Tryd.prog.underlying 31).isSome = true ∧ el Tryd.prog 31 = none ∧ zc Tryd.prog 31 = some [.int .u8 0, .str [], .int .i64 0] ∧ by_ Tryd.prog 31 = some 32 ∧ places Tryd.prog 31 = some [(0, 1), (1, 1), (2, 1)] ∧ fld Tryd.prog 31 0 = some (0, false, 1) ∧ fld Tryd.prog 31 1 = some (1, false, 1) ∧ fld Tryd.prog 31 2 = some (2, false, 1) := ⟨by kernel_rfl, by kernel_rfl, by kernel_rfl, by kernel_rfl, by kernel_rfl, by kernel_rfl, by kernel_rfl, by kernel_rfl, by kernel_rfl, by kernel_rfl⟩
theorem tf39 : tk Tryd.prog 39 = some (false, 1) ∧ sk Tryd.prog 39 = .sl 9 ∧ (Tryd.prog.underlying 39).isSome = true ∧ el Tryd.prog 39 = some 9 ∧ zc Tryd.prog 39 = some [.nil] ∧ by_ Tryd.prog 39 = some 24 ∧ aelt Tryd.prog 39 = some (9, 1, 16) := ⟨by kernel_rfl, by kernel_rfl, by kernel_rfl, by kernel_rfl, by kernel_rfl, by kernel_rfl, by kernel_rfl⟩
theorem tf44 : tk Tryd.prog 44 = some (false, 1) ∧ sk Tryd.prog 44 = .sl 5 ∧ (Tryd.prog.underlying 44).isSome = true ∧ el Tryd.prog 44 = some 5 ∧ zc Tryd.prog 44 = some [.nil] ∧ by_ Tryd.prog 44 = some 24 ∧ aelt Tryd.prog 44 = some (5, 1, 1) := ⟨by kernel_rfl, by kernel_rfl, by kernel_rfl, by kernel_rfl, by kernel_rfl, by kernel_rfl, by kernel_rfl⟩
theorem tf46 : tk Tryd.prog 46 = some (true, 19) ∧ sk Tryd.prog 46 = .arr 19 9 ∧ (Tryd.prog.underlying 46).isSome = true ∧ el Tryd.prog 46 = none ∧ zc Tryd.prog 46 = some [.str [], .str [], .str [], .str [], .str [], .str [], .str [], .str [], .str [], .str [], .str [], .str [], .str [], .str [], .str [], .str [], .str [], .str [], .str []] ∧ by_ Tryd.prog 46 = some 304 ∧ arrT Tryd.prog 46 = some (19, 1) ∧ arrX Tryd.prog 46 = some (19, false, 1) := ⟨by kernel_rfl, by kernel_rfl, by kernel_rfl, by kernel_rfl, by kernel_rfl, by kernel_rfl, by kernel_rfl, by kernel_rfl⟩
theorem tf52 : tk Tryd.prog 52 = some (true, 29) ∧ sk Tryd.prog 52 = .arr 29 9 ∧ (Tryd.prog.underlying 52).isSome = true ∧ el Tryd.prog 52 = none ∧ zc Tryd.prog 52 = some [.str [], .str [], .str [], .str [], .str [], .str [], .str [], .str [], .str [], .str [], .str [], .str [], .str [], .str [], .str [], .str [], .str [], .str [], .str [], .str [], .str [], .str [], .str [], .str [], .str [], .str [], .str [], .str [], .str []] ∧ by_ Tryd.prog 52 = some 464 ∧ arrT Tryd.prog 52 = some (29, 1) ∧ arrX Tryd.prog 52 = some (29, false, 1) := ⟨by kernel_rfl, by kernel_rfl, by kernel_rfl, by kernel_rfl, by kernel_rfl, by kernel_rfl, by kernel_rfl, by kernel_rfl⟩
theorem tf55 : tk Tryd.prog 55 = some (false, 1) ∧ sk Tryd.prog 55 = .int .u64 ∧ (Tryd.prog.underlying 55).isSome = true ∧ el Tryd.prog 55 = none ∧ zc Tryd.prog 55 = some [.int .u64 0] ∧ by_ Tryd.prog 55 = some 8 := ⟨by kernel_rfl, by kernel_rfl, by kernel_rfl, by kernel_rfl, by kernel_rfl, by kernel_rfl⟩
theorem tf74 : tk Tryd.prog 74 = some (false, 1) ∧ sk Tryd.prog 74 = .int .u64 ∧ (Tryd.prog.underlying 74).isSome = true ∧ el Tryd.prog 74 = none ∧ zc Tryd.prog 74 = some [.int .u64 0] ∧ by_ Tryd.prog 74 = some 8 := ⟨by kernel_rfl, by kernel_rfl, by kernel_rfl, by kernel_rfl, by kernel_rfl, by kernel_rfl⟩
theorem mixed : Tryd.prog.follows .mixedOrders = true := by kernel_rfl
end Go.Proofs.YtldmniappliepaaDoor
set_option linter.unusedVariables false
set_option linter.unusedSimpArgs false
namespace Go.Proofs.YtldmniappliepaaDoor
open Go Go.Av
inductive Term where
  | mk (kind : UInt8) (neg : Bool) (limbs : List UInt32) (text : List UInt8) (num : Int) (items tail : List Term)
instance : Inhabited Term := ⟨.mk 0 false [] [] 0 [] []⟩
def Term.kind : Term → UInt8 | .mk k _ _ _ _ _ _ => k
def Term.neg : Term → Bool | .mk _ g _ _ _ _ _ => g
def Term.limbs : Term → List UInt32 | .mk _ _ l _ _ _ _ => l
def Term.text : Term → List UInt8 | .mk _ _ _ s _ _ _ => s
def Term.num : Term → Int | .mk _ _ _ _ n _ _ => n
def Term.items : Term → List Term | .mk _ _ _ _ _ ks _ => ks
def Term.tail : Term → List Term | .mk _ _ _ _ _ _ ts => ts
def Term.knd (t : Term) : Int := t.kind.toNat
def limA (x : UInt32) : AV := .int .u32 x.toNat
def lims (l : List UInt32) : AV := .sl .none (l.map limA) []
def Term.enc : Term → AV
  | .mk k g l s n ks ts => .agg [.int .u8 k.toNat, .bool g, lims l, .str s, .int .i64 n, .sl .none (ks.map Term.enc) [], .sl .none (ts.map Term.enc) []]
theorem Term.ind {P : Term → Prop} (h : ∀ t, (∀ k, k ∈ t.items → P k) → (∀ k, k ∈ t.tail → P k) → P t) : ∀ t, P t := by
  have key : ∀ n, ∀ t : Term, SizeOf.sizeOf t ≤ n → P t := by
    intro n
    induction n with
    | zero => intro t ht; cases t; simp at ht
    | succ n ih =>
      intro t ht
      cases t with
      | mk a b c d e ks ts =>
        refine h _ (fun k hk => ih k ?_) (fun k hk => ih k ?_)
        · have := List.sizeOf_lt_of_mem (show k ∈ ks from hk)
          simp at ht
          omega
        · have := List.sizeOf_lt_of_mem (show k ∈ ts from hk)
          simp at ht
          omega
  exact fun t => key _ t (Nat.le_refl _)
theorem wrap_nat {x : Int} (h0 : -9223372036854775808 ≤ x) (h1 : x ≤ 9223372036854775807) : IntKind.i64.wrap x = x := by
  rw [IntKind.wrap_i64]; omega
theorem take_succ_get {α : Type} (l : List α) (i : Nat) (x : α) (h : l[i]? = some x) : l.take (i + 1) = l.take i ++ [x] := by
  rw [List.take_add_one, h]; rfl
theorem drop_get {α : Type} (l : List α) (i : Nat) (x : α) (h : l[i]? = some x) : l.drop i = x :: l.drop (i + 1) := by
  obtain ⟨hi, rfl⟩ := List.getElem?_eq_some_iff.1 h
  exact List.drop_eq_getElem_cons hi
end Go.Proofs.YtldmniappliepaaDoor
namespace Go.Proofs.YtldmniappliepaaDoor
open Go Go.Av
variable (G : Nat → AV)
theorem take_next {α : Type} {l r : List α} {i : Nat} {x : α} (h : l.take i = r.take i) (hl : l[i]? = some x) (hr : r[i]? = some x) : l.take (i + 1) = r.take (i + 1) := by
  rw [take_succ_get _ _ _ hl, take_succ_get _ _ _ hr, h]
theorem take_all {α : Type} {l r : List α} (hl : l.length = r.length) (h : l.take l.length = r.take l.length) : l = r := by
  rw [List.take_length] at h
  rw [h, hl, List.take_length]
end Go.Proofs.YtldmniappliepaaDoor
set_option maxRecDepth 20000
namespace Go.Proofs.YtldmniappliepaaDoor
open Go Go.Av
variable (G : Nat → AV)
mutual
def same : Term → Term → Bool
  | .mk k g l s n ks ts, u => decide ((k.toNat : Int) = u.knd) && (g == u.neg) && decide (l = u.limbs) && decide (s = u.text) && decide (n = u.num) && sames ks u.items && sames ts u.tail
def sames : List Term → List Term → Bool
  | [], [] => true
  | a :: l, b :: r => same a b && sames l r
  | _, _ => false
end
theorem same_eq (t u : Term) : same t u = (decide (t.knd = u.knd) && (t.neg == u.neg) && decide (t.limbs = u.limbs) && decide (t.text = u.text) && decide (t.num = u.num) && sames t.items u.items && sames t.tail u.tail) := by
  cases t; rw [same]; rfl
theorem sames_iff_of {l : List Term} (h : ∀ t, t ∈ l → ∀ u, same t u = true ↔ t = u) : ∀ r, sames l r = true ↔ l = r := by
  induction l with
  | nil => intro r; cases r <;> simp [sames]
  | cons a l ih =>
    intro r
    cases r with
    | nil => simp [sames]
    | cons b r => simp only [sames, Bool.and_eq_true, h a (by simp) b, ih (fun t ht => h t (by simp [ht])) r, List.cons.injEq]
theorem same_iff (t : Term) : ∀ u, same t u = true ↔ t = u := by
  refine Term.ind (P := fun t => ∀ u, same t u = true ↔ t = u) (fun t h1 h2 u => ?_) t
  rw [same_eq]
  simp only [Bool.and_eq_true, decide_eq_true_eq, beq_iff_eq, sames_iff_of h1, sames_iff_of h2]
  constructor
  · rintro ⟨⟨⟨⟨⟨⟨h, rfl2⟩, h3⟩, h4⟩, h5⟩, h6⟩, h7⟩
    cases t; cases u
    simp only [Term.knd, Term.kind, Term.neg, Term.limbs, Term.text, Term.num, Term.items, Term.tail] at *
    simp only [Term.mk.injEq]
    exact ⟨UInt8.toNat_inj.1 (by omega), rfl2, h3, h4, h5, h6, h7⟩
  · rintro rfl; simp
end Go.Proofs.YtldmniappliepaaDoor
namespace Go.Proofs.YtldmniappliepaaDoor
open Go Go.Av
section rows
variable {α : Type}
def rowOf (enc : α → AV) (l : List α) : AV := .sl .none (l.map enc) []
theorem isv_rowOf (enc : α → AV) (l : List α) : isv (rowOf enc l) = true := rfl
theorem flat_rowOf (enc : α → AV) (l : List α) : flat (rowOf enc l) = [rowOf enc l] := rfl
theorem len_rowOf {P : Program} {t : TypeId} (enc : α → AV) (l : List α) : ablt P .len #[t] [rowOf enc l] = if (el P t).isSome then some (.int .i64 l.length) else none := by
  simp [rowOf, l_sl]
theorem ix_rowOf {P : Program} {t : TypeId} {k : IntKind} (enc : α → AV) (l : List α) (i : Nat) : aindexA P t (rowOf enc l) (.int k (i : Int)) = ixk ((el P t).bind (tk P)) ((l[i]?).map enc) := by
  simp [rowOf, aindexA_sl]
end rows
instance : DecidableEq Term := fun a b => decidable_of_iff _ (same_iff a b)
end Go.Proofs.YtldmniappliepaaDoor
namespace Go.Proofs.YtldmniappliepaaDoor
open Go
def lowB (c : UInt8) : Bool := decide ((97 : Int) ≤ c.toNat) && decide ((c.toNat : Int) ≤ 122)
def highB (c : UInt8) : Bool := decide ((65 : Int) ≤ c.toNat) && decide ((c.toNat : Int) ≤ 90) || decide ((c.toNat : Int) = 95)
def digitB (c : UInt8) : Bool := decide ((48 : Int) ≤ c.toNat) && decide ((c.toNat : Int) ≤ 57)
def namedB (c : UInt8) : Bool := lowB c || highB c || digitB c || decide ((c.toNat : Int) = 64)
def hexB (c : UInt8) : Bool := digitB c || decide ((97 : Int) ≤ c.toNat) && decide ((c.toNat : Int) ≤ 102) || decide ((65 : Int) ≤ c.toNat) && decide ((c.toNat : Int) ≤ 70)
def hexV (c : UInt8) : Nat := if digitB c then c.toNat - 48 else if 97 ≤ c.toNat then c.toNat - 87 else c.toNat - 55
def blankB (c : UInt8) : Bool := c = 32 || c = 9 || c = 13 || c = 10
def escB (e : UInt8) : Option UInt8 := if e = 110 then some 10 else if e = 116 then some 9 else if e = 92 ∨ e = 39 ∨ e = 34 then some e else none
def qscan (q : UInt8) : List UInt8 → Option (List UInt8 × Nat)
  | [] => none
  | c :: r =>
    if c = q then some ([], 1)
    else if c.toNat < 32 then none
    else if c = 92 then match r with
      | [] => none
      | e :: r1 => match escB e with
        | some b => (qscan q r1).map fun p => (b :: p.1, p.2 + 2)
        | none => if e = 120 then match r1 with
            | h :: l :: r2 => if hexB h && hexB l then (qscan q r2).map fun p => (UInt8.ofNat (16 * hexV h + hexV l) :: p.1, p.2 + 4) else none
            | _ => none
          else none
    else (qscan q r).map fun p => (c :: p.1, p.2 + 1)
def scanWords : List (List UInt8) := [[97, 102, 116, 101, 114], [97, 110, 100], [97, 110, 100, 97, 108, 115, 111], [98, 101, 103, 105, 110], [99, 97, 115, 101], [100, 105, 118], [101, 110, 100], [102, 117, 110], [105, 102], [110, 111, 116], [111, 102], [111, 114], [111, 114, 101, 108, 115, 101], [114, 101, 99, 101, 105, 118, 101], [114, 101, 109], [116, 114, 121], [99, 97, 116, 99, 104], [119, 104, 101, 110], [120, 111, 114]]
def scanSigns : List (List UInt8) := [[61, 58, 61], [61, 47, 61], [45, 62], [60, 45], [124, 124], [61, 61], [47, 61], [61, 60], [62, 61], [43, 43], [45, 45], [40], [41], [123], [125], [91], [93], [44], [59], [58], [124], [61], [60], [62], [43], [45], [42], [47], [33]]
inductive Tk where
  | tok (k : Nat) (t : List UInt8) (n : Nat)
  | err (e : Nat)
deriving DecidableEq
def qMost (c : UInt8) : Nat := if c = 34 then 400 else 40
def qKind (c : UInt8) : Nat := if c = 34 then 4 else 2
def tokS : List UInt8 → Tk
  | [] => .err 200
  | c :: r =>
    if lowB c || highB c then
      if 40 < ((c :: r).takeWhile namedB).length then .err 201
      else .tok (if highB c then 3 else if scanWords.contains ((c :: r).takeWhile namedB) then 6 else 2) ((c :: r).takeWhile namedB) ((c :: r).takeWhile namedB).length
    else if digitB c then
      if 400 < ((c :: r).takeWhile digitB).length ∨ ((c :: r).takeWhile digitB).length < ((c :: r).takeWhile namedB).length then .err 201
      else .tok 1 ((c :: r).takeWhile digitB) ((c :: r).takeWhile digitB).length
    else if c = 39 ∨ c = 34 then match qscan c r with
      | none => .err 201
      | some p => if qMost c < p.1.length then .err 201 else .tok (qKind c) p.1 (p.2 + 1)
    else if c = 46 then match r with
      | [] => .tok 7 [46] 1
      | d :: _ => if d = 32 ∨ d = 9 ∨ d = 13 ∨ d = 10 ∨ d = 37 then .tok 7 [46] 1 else .err 200
    else match scanSigns.find? (fun g => g.isPrefixOf (c :: r)) with
      | some g => .tok 5 g g.length
      | none => .err 200
theorem tokS_cons (c : UInt8) (r : List UInt8) : tokS (c :: r) = (if lowB c || highB c then
      if 40 < ((c :: r).takeWhile namedB).length then .err 201
      else .tok (if highB c then 3 else if scanWords.contains ((c :: r).takeWhile namedB) then 6 else 2) ((c :: r).takeWhile namedB) ((c :: r).takeWhile namedB).length
    else if digitB c then
      if 400 < ((c :: r).takeWhile digitB).length ∨ ((c :: r).takeWhile digitB).length < ((c :: r).takeWhile namedB).length then .err 201
      else .tok 1 ((c :: r).takeWhile digitB) ((c :: r).takeWhile digitB).length
    else if c = 39 ∨ c = 34 then match qscan c r with
      | none => .err 201
      | some p => if qMost c < p.1.length then .err 201 else .tok (qKind c) p.1 (p.2 + 1)
    else if c = 46 then match r with
      | [] => .tok 7 [46] 1
      | d :: _ => if d = 32 ∨ d = 9 ∨ d = 13 ∨ d = 10 ∨ d = 37 then .tok 7 [46] 1 else .err 200
    else match scanSigns.find? (fun g => g.isPrefixOf (c :: r)) with
      | some g => .tok 5 g g.length
      | none => .err 200) := rfl
structure Tok where
  kind : Nat
  text : List UInt8
  pos : Nat
deriving DecidableEq
inductive Tks where
  | ok (l : List Tok)
  | bad (e : Nat) (pos : Nat)
deriving DecidableEq
def Tks.pre (l : List Tok) : Tks → Tks
  | .ok m => .ok (l ++ m)
  | .bad e p => .bad e p
theorem Tks.pre_nil (x : Tks) : x.pre [] = x := by cases x <;> simp [Tks.pre]
theorem Tks.pre_pre (l m : List Tok) (x : Tks) : (x.pre m).pre l = x.pre (l ++ m) := by cases x <;> simp [Tks.pre]
def notNL (c : UInt8) : Bool := !(c == 10)
def toksF : Nat → Nat → List UInt8 → Tks
  | 0, _, _ => .ok []
  | _ + 1, _, [] => .ok []
  | f + 1, pos, c :: r =>
    if blankB c then toksF f (pos + 1) r
    else if c = 37 then toksF f (pos + ((c :: r).takeWhile notNL).length) ((c :: r).drop ((c :: r).takeWhile notNL).length)
    else match tokS (c :: r) with
      | .err e => .bad e pos
      | .tok k t n => (toksF f (pos + n) ((c :: r).drop n)).pre [⟨k, t, pos⟩]
def lexAt (pos : Nat) (s : List UInt8) : Tks := toksF s.length pos s
def scanT (s : List UInt8) : Tks :=
  if 65536 < s.length then .bad 3 0
  else match lexAt 0 s with
    | .ok l => .ok (l ++ [⟨8, [], s.length⟩])
    | .bad e p => .bad e p
theorem qscan_cons (q c : UInt8) (r : List UInt8) : qscan q (c :: r) = (if c = q then some ([], 1)
    else if c.toNat < 32 then none
    else if c = 92 then match r with
      | [] => none
      | e :: r1 => match escB e with
        | some b => (qscan q r1).map fun p => (b :: p.1, p.2 + 2)
        | none => if e = 120 then match r1 with
            | h :: l :: r2 => if hexB h && hexB l then (qscan q r2).map fun p => (UInt8.ofNat (16 * hexV h + hexV l) :: p.1, p.2 + 4) else none
            | _ => none
          else none
    else (qscan q r).map fun p => (c :: p.1, p.2 + 1)) := by
  rw [qscan.eq_def]
theorem qscan_len (q : UInt8) : ∀ (m : Nat) (s : List UInt8), s.length ≤ m → ∀ p, qscan q s = some p → 0 < p.2 ∧ p.2 ≤ s.length ∧ p.1.length < p.2 := by
  intro m
  induction m with
  | zero => intro s hs p hp; cases s with | nil => simp [qscan] at hp | cons c r => simp at hs
  | succ m ih =>
    intro s hs p hp
    match s, hs, hp with
    | [], _, hp => simp [qscan] at hp
    | c :: r, hs, hp =>
      rw [qscan_cons] at hp
      simp only [List.length_cons] at hs ⊢
      split at hp
      · cases hp; simp
      split at hp
      · cases hp
      split at hp
      · split at hp
        · cases hp
        · rename_i e r1
          simp only [List.length_cons] at hs ⊢
          split at hp
          · rw [Option.map_eq_some_iff] at hp
            obtain ⟨x, hx, rfl⟩ := hp
            have := ih _ (by omega) x hx
            simp only [List.length_cons]; omega
          · split at hp
            · split at hp
              · simp only [List.length_cons] at hs ⊢
                split at hp
                · rw [Option.map_eq_some_iff] at hp
                  obtain ⟨x, hx, rfl⟩ := hp
                  have := ih _ (by omega) x hx
                  simp only [List.length_cons]; omega
                · cases hp
              · cases hp
            · cases hp
      · rw [Option.map_eq_some_iff] at hp
        obtain ⟨x, hx, rfl⟩ := hp
        have := ih _ (by omega) x hx
        simp only [List.length_cons]; omega
theorem takeWhile_len {p : UInt8 → Bool} (s : List UInt8) : (s.takeWhile p).length ≤ s.length := (List.takeWhile_prefix p).length_le
theorem takeWhile_pos {p : UInt8 → Bool} {c : UInt8} (r : List UInt8) (h : p c = true) : 0 < ((c :: r).takeWhile p).length := by
  rw [List.takeWhile_cons, if_pos h]; simp
theorem signs_pos : ∀ g, g ∈ scanSigns → 0 < g.length ∧ g.length ≤ 3 := by decide
theorem tokS_len {s : List UInt8} {k n : Nat} {t : List UInt8} (h : tokS s = .tok k t n) : 0 < n ∧ n ≤ s.length ∧ t.length ≤ n := by
  unfold tokS at h
  split at h
  · cases h
  rename_i c r
  have hw := takeWhile_len (p := namedB) (c :: r)
  have hd := takeWhile_len (p := digitB) (c :: r)
  split at h
  · rename_i hc
    split at h
    · cases h
    · cases h
      refine ⟨takeWhile_pos r ?_, hw, Nat.le_refl _⟩
      unfold namedB
      simp only [Bool.or_eq_true] at hc ⊢
      exact .inl (.inl hc)
  split at h
  · rename_i hc
    split at h
    · cases h
    · cases h
      exact ⟨takeWhile_pos r hc, hd, Nat.le_refl _⟩
  split at h
  · split at h
    · cases h
    · rename_i p hp
      split at h
      · cases h
      · cases h
        have := qscan_len c r.length r (Nat.le_refl _) p hp
        simp only [List.length_cons]; omega
  split at h
  · split at h
    · cases h; simp
    · split at h
      · cases h; simp
      · cases h
  split at h
  · rename_i g hg
    injection h with _ h4 h5
    subst h4 h5
    have h1 := List.mem_of_find?_eq_some hg
    have h2 := List.find?_some hg
    have h3 := (List.isPrefixOf_iff_prefix.1 h2).length_le
    exact ⟨(signs_pos g h1).1, h3, Nat.le_refl _⟩
  · cases h
theorem toksF_two : ∀ (f g : Nat) (pos : Nat) (s : List UInt8), s.length ≤ f → s.length ≤ g → toksF f pos s = toksF g pos s := by
  intro f
  induction f with
  | zero =>
    intro g pos s hs _
    cases s with
    | nil => cases g <;> rfl
    | cons c r => simp at hs
  | succ f ih =>
    intro g pos s hs hg
    match s, hs, hg with
    | [], _, _ => cases g <;> rfl
    | c :: r, hs, hg =>
      match g, hg with
      | 0, hg => simp at hg
      | g + 1, hg =>
        simp only [List.length_cons] at hs hg
        simp only [toksF]
        split
        · exact ih g _ _ (by omega) (by omega)
        split
        · rename_i hc
          have h1 : 0 < ((c :: r).takeWhile notNL).length := takeWhile_pos r (by subst hc; decide)
          have h2 : ((c :: r).drop ((c :: r).takeWhile notNL).length).length ≤ r.length := by rw [List.length_drop, List.length_cons]; omega
          exact ih g _ _ (by omega) (by omega)
        · split
          · rfl
          · rename_i k t n hk
            have h0 := tokS_len hk
            have h2 : ((c :: r).drop n).length ≤ r.length := by rw [List.length_drop, List.length_cons]; omega
            rw [ih g _ _ (by omega) (by omega)]
theorem lexAt_nil (pos : Nat) : lexAt pos [] = .ok [] := rfl
theorem lexAt_blank {pos : Nat} {c : UInt8} {r : List UInt8} (h : blankB c = true) : lexAt pos (c :: r) = lexAt (pos + 1) r := by
  unfold lexAt
  rw [List.length_cons, toksF, if_pos h]
theorem lexAt_note {pos : Nat} {r : List UInt8} : lexAt pos (37 :: r) = lexAt (pos + ((37 :: r).takeWhile notNL).length) ((37 :: r).drop ((37 :: r).takeWhile notNL).length) := by
  have h1 : 0 < (((37 : UInt8) :: r).takeWhile notNL).length := takeWhile_pos r (by decide)
  have e : lexAt pos (37 :: r) = toksF r.length (pos + ((37 :: r).takeWhile notNL).length) ((37 :: r).drop ((37 :: r).takeWhile notNL).length) := by
    unfold lexAt
    rw [List.length_cons, toksF, if_neg (by decide), if_pos rfl]
  rw [e]
  exact toksF_two _ _ _ _ (by rw [List.length_drop, List.length_cons]; omega) (Nat.le_refl _)
theorem lexAt_tok {pos : Nat} {c : UInt8} {r : List UInt8} {k n : Nat} {t : List UInt8} (h1 : blankB c = false) (h2 : c ≠ 37) (h : tokS (c :: r) = .tok k t n) : lexAt pos (c :: r) = (lexAt (pos + n) ((c :: r).drop n)).pre [⟨k, t, pos⟩] := by
  have h0 := tokS_len h
  have e : lexAt pos (c :: r) = (toksF r.length (pos + n) ((c :: r).drop n)).pre [⟨k, t, pos⟩] := by
    unfold lexAt
    rw [List.length_cons, toksF, if_neg (by rw [h1]; simp), if_neg h2, h]
  rw [e, toksF_two r.length _ _ _ (by rw [List.length_drop, List.length_cons]; omega) (Nat.le_refl _)]
  rfl
theorem lexAt_err {pos : Nat} {c : UInt8} {r : List UInt8} {e : Nat} (h1 : blankB c = false) (h2 : c ≠ 37) (h : tokS (c :: r) = .err e) : lexAt pos (c :: r) = .bad e pos := by
  unfold lexAt
  rw [List.length_cons, toksF, if_neg (by rw [h1]; simp), if_neg h2, h]
end Go.Proofs.YtldmniappliepaaDoor
set_option maxRecDepth 20000
namespace Go.Proofs.YtldmniappliepaaDoor
open Go Go.Av
def tbScnD := And.intro (And.intro (And.intro @tf3 @tf4) (And.intro @tf5 (And.intro @tf9 @tf31))) (And.intro (And.intro @tf23 (And.intro @tf29 @isv_rowOf)) (And.intro @flat_rowOf (And.intro @len_rowOf @ix_rowOf)))
variable (G : Nat → AV)
def Tok.enc (x : Tok) : AV := .agg [.int .u8 x.kind, .str x.text, .int .i64 x.pos]
theorem Tok.flat_enc (x : Tok) : flat x.enc = [.int .u8 x.kind, .str x.text, .int .i64 x.pos] := by simp only [Tok.enc, flat]
theorem Tok.isv_enc (x : Tok) : isv x.enc = true := by simp only [Tok.enc, isv]
theorem Tok.fold_enc (x : Tok) : AV.agg [.int .u8 x.kind, .str x.text, .int .i64 x.pos] = x.enc := by simp only [Tok.enc]
theorem Tok.len_flat (x : Tok) : (flat x.enc).length = 3 := by rw [x.flat_enc]; rfl
theorem eqK_tok : eqK Tryd.prog 31 = some [.int .u8, .str, .int .i64] := by decide +kernel
theorem neqTok (x y : Tok) : abin Tryd.prog .neq 31 x.enc y.enc = some (.bool (decide (¬ x = y))) := by
  have e : fldEq [.int .u8, .str, .int .i64] [.int .u8 x.kind, .str x.text, .int .i64 x.pos] [.int .u8 y.kind, .str y.text, .int .i64 y.pos] = some (decide ((x.kind : Int) = y.kind) && (decide (x.text = y.text) && (decide ((x.pos : Int) = y.pos) && true))) := by
    rw [fe_int, fe_str, fe_int, fe_nil]; rfl
  unfold Tok.enc
  rw [abin_agg, eqK_tok]
  simp only [Option.bind_some, e]
  have : (decide ((x.kind : Int) = y.kind) && (decide (x.text = y.text) && (decide ((x.pos : Int) = y.pos) && true))) = decide (x = y) := by
    rw [Bool.eq_iff_iff]
    simp only [Bool.and_eq_true, decide_eq_true_eq, and_true]
    constructor
    · rintro ⟨h1, h2, h3⟩; cases x; cases y; simp only at h1 h2 h3; rw [h2, Int.ofNat_inj.1 h1, Int.ofNat_inj.1 h3]
    · rintro rfl; exact ⟨rfl, rfl, rfl⟩
  rw [this]
  simp [aeq]
set_option maxHeartbeats 1000000 in
theorem sameToks_pure (l r : List Tok) (hl : l.length ≤ 1000000000) (hr : r.length ≤ 1000000000) : Pure Tryd.prog G 9 [rowOf Tok.enc l, rowOf Tok.enc r] (.bool (decide (l = r))) := by
  intro σ
  refine Tri.of_awp mixed Tryd.func9 rfl (by kernel_rfl) (by kernel_rfl) (by simp [Tryd.ntmps9]) Tryd.results9 ?_
  repeat' (first | refine xs ?_ ?_ <;> intros | ((first | refine xh ?_ | refine xi ?_); intro bx hbx; (try simp only [fb] at hbx)) | refine xj ?_ | refine cv_plain ?_ | ((with_reducible refine And.intro ?_ ?_); omega) | refine bo_buildSlice (d' := ⟨⟩) ?_ | refine xk (by kernel_rfl) ?_ | refine xf ?_ (by repeat' first | exact lr _ | assumption | refine ls ?_ ?_ | refine lt ?_ ?_ | simp only [*]; done | simp only [fb, *, not_false_eq_true, and_self]; done | exact lf ‹_› (by simp only [*])) | refine finish_two ?_ (by repeat' first | exact lr _ | assumption | refine ls ?_ ?_ | refine lt ?_ ?_ | simp only [*]; done | simp only [fb, *, not_false_eq_true, and_self]; done | exact lf ‹_› (by simp only [*])) | simp -dsimp only [↓bp, bq, br, seval, tbScnD, Tok.flat_enc, Tok.isv_enc, Tok.fold_enc, *] | refine cv_any ?_)
  rotate_right
  · skip
    refine loop_keep mixed (fun n e => ∃ i : Nat, i ≤ (l).length ∧ n = (l).length - i ∧ e 5 = .int .i64 i ∧ l.take i = r.take i) (l).length
        ⟨0, by omega, by omega, by simp -dsimp only [↓bp, bq, br, seval, tbScnD, Tok.flat_enc, Tok.isv_enc, Tok.fold_enc]; first | done | rfl, rfl⟩ ?_
    rintro n v ⟨i, hi, rfl, h5, htk⟩
    simp -dsimp only [↓bp, bq, br, seval, tbScnD, Tok.flat_enc, Tok.isv_enc, Tok.fold_enc] at h5
    simp -dsimp only [↓bp, bq, br, seval, tbScnD, Tok.flat_enc, Tok.isv_enc, Tok.fold_enc, h5]
    refine condW_dec (fun hlt => ?_) (fun hge => ?_)
    · obtain ⟨x, hx⟩ : ∃ x, l[i]? = some x := ⟨_, List.getElem?_eq_getElem (by omega)⟩
      obtain ⟨y, hy⟩ : ∃ y, r[i]? = some y := ⟨_, List.getElem?_eq_getElem (by omega)⟩
      have hq := neqTok x y
      clear hi hlt
      repeat' (first | refine xs ?_ ?_ <;> intros | ((first | refine xh ?_ | refine xi ?_); intro bx hbx; (try simp only [fb] at hbx)) | refine xj ?_ | refine cv_plain ?_ | ((with_reducible refine And.intro ?_ ?_); omega) | refine bo_buildSlice (d' := ⟨⟩) ?_ | refine xk (by kernel_rfl) ?_ | refine xf ?_ (by repeat' first | exact lr _ | assumption | refine ls ?_ ?_ | refine lt ?_ ?_ | simp only [*]; done | simp only [fb, *, not_false_eq_true, and_self]; done | exact lf ‹_› (by simp only [*])) | refine finish_two ?_ (by repeat' first | exact lr _ | assumption | refine ls ?_ ?_ | refine lt ?_ ?_ | simp only [*]; done | simp only [fb, *, not_false_eq_true, and_self]; done | exact lf ‹_› (by simp only [*])) | simp -dsimp only [↓bp, bq, br, seval, tbScnD, Tok.flat_enc, Tok.isv_enc, Tok.fold_enc, hq, *] | refine cv_any ?_)
      · have hxy : l ≠ r := fun e => by subst e; rw [hx] at hy; simp only [Option.some.injEq] at hy; subst hy; simp_all
        simp [hxy]
      · have hxy : x = y := by simp_all
        subst hxy
        have hlt := (List.getElem?_eq_some_iff.1 hx).1
        exact ⟨l.length - (i + 1), by omega, i + 1, by omega, rfl, by rw [wrap_nat (by omega) (by omega)]; rfl, take_next htk hx hy⟩
    · have : i = l.length := by omega
      subst this
      have hlr : l = r := take_all (by omega) htk
      clear hi hge
      repeat' (first | refine xs ?_ ?_ <;> intros | ((first | refine xh ?_ | refine xi ?_); intro bx hbx; (try simp only [fb] at hbx)) | refine xj ?_ | refine cv_plain ?_ | ((with_reducible refine And.intro ?_ ?_); omega) | refine bo_buildSlice (d' := ⟨⟩) ?_ | refine xk (by kernel_rfl) ?_ | refine xf ?_ (by repeat' first | exact lr _ | assumption | refine ls ?_ ?_ | refine lt ?_ ?_ | simp only [*]; done | simp only [fb, *, not_false_eq_true, and_self]; done | exact lf ‹_› (by simp only [*])) | refine finish_two ?_ (by repeat' first | exact lr _ | assumption | refine ls ?_ ?_ | refine lt ?_ ?_ | simp only [*]; done | simp only [fb, *, not_false_eq_true, and_self]; done | exact lf ‹_› (by simp only [*])) | simp -dsimp only [↓bp, bq, br, seval, tbScnD, Tok.flat_enc, Tok.isv_enc, Tok.fold_enc, *] | refine cv_any ?_)
      all_goals simp [hlr]
  · have : l ≠ r := fun e => by subst e; simp_all
    simp [this]
end Go.Proofs.YtldmniappliepaaDoor
namespace Go.Proofs.YtldmniappliepaaDoor
open Go Go.RowKit
end Go.Proofs.YtldmniappliepaaDoor
namespace Go.Av
open Go Go.RowKit
theorem fresh_ne {σ : AS} {b c : Nat} {z : List AV} (h : σ.box b = some z) (hc : σ.fresh c) : ¬ b = c ∧ ¬ c = b := by
  have : ¬ b = c := fun e => by subst e; rw [hc.1] at h; cases h
  exact ⟨this, fun e => this e.symm⟩
theorem Tri.back {P : Program} {G : Nat → AV} {f : FuncId} {args : List AV} {σ : AS} {Q : AV → Prop} (h : Tri P G f args σ fun r σ' => Q r ∧ σ.le σ') : Tri P G f args σ fun r σ' => Q r ∧ σ' = σ :=
  ⟨h.1, fun K w vals hr hv => (h.2 K w vals hr hv).mono fun e w' ⟨v, r, σ', K', he, ⟨hQ, hl⟩, h1, h2, h3⟩ => ⟨v, r, σ, K', he, ⟨hQ, rfl⟩, h1, h2.weaken hl, h3⟩⟩
inductive WBuf (n : Nat) (E : TypeId) (σ0 σ : AS) : AV → List AV → Prop
  | nil (h : σ0.le σ) : WBuf n E σ0 σ .nil []
  | row (b : Nat) (xs : List AV) (h : σ0.le σ) (h0 : σ0.box b = none) (h1 : σ0.tip b = none) (hb : σ.box b = some (xs.flatMap flat)) (hx : ∀ a, a ∈ xs → (flat a).length = n ∧ isv a = true) : WBuf n E σ0 σ (.bs b xs.length n E) xs
theorem WBuf.le {n : Nat} {E : TypeId} {σ0 σ : AS} {v : AV} {xs : List AV} (h : WBuf n E σ0 σ v xs) : σ0.le σ := by cases h <;> assumption
theorem flatMap_len {n : Nat} : ∀ (xs : List AV), (∀ a, a ∈ xs → (flat a).length = n) → (xs.flatMap flat).length = xs.length * n
  | [], _ => by simp
  | x :: xs, h => by
    rw [List.flatMap_cons, List.length_append, h x (by simp), flatMap_len xs fun a ha => h a (by simp [ha]), List.length_cons, Nat.succ_mul, Nat.add_comm]
theorem AS.le.delSet {σ0 σ : AS} (h : σ0.le σ) {b b' : Nat} (hb : σ0.box b = none) (hb' : σ0.box b' = none) (z : List AV) : σ0.le ((σ.delBox b).setBox b' z) := by
  refine ⟨fun i cs hi => ?_, fun i m hi => h.tip _ _ hi, h.ty⟩
  have h1 : i ≠ b := fun e => by subst e; rw [hb] at hi; cases hi
  have h2 : i ≠ b' := fun e => by subst e; rw [hb'] at hi; cases hi
  show (if i = b' then _ else if i = b then none else σ.box i) = some cs
  rw [if_neg h2, if_neg h1]; exact h.box _ _ hi
end Go.Av
namespace Go.Av
open Go Go.RowKit
variable {P : Program} {e : Env} {σ : AS}
end Go.Av
