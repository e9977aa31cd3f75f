/- What the program's tables say of its types: each by the kernel. Written by a program of ours (facts.py). -/
import Derived.Test.YtpginpbcndlfmaaDoorZB
import Derived.Test.YtpginpbcndlfmaaDoorChecked
import Derived.KernelRfl
set_option maxRecDepth 100000
set_option linter.defProp false
namespace Go.Proofs.YtpginpbcndlfmaaDoor
open Go Go.Av
/-- int -/
theorem tf3 : tk Tryd.prog 3 = some (false, 1) ∧ sk Tryd.prog 3 = .int .i64 ∧ (Tryd.prog.underlying 3).isSome = true ∧ el Tryd.prog 3 = none ∧ zc Tryd.prog 3 = some [.int .i64 0] ∧ by_ Tryd.prog 3 = some 8 := ⟨by kernel_rfl, by kernel_rfl, by kernel_rfl, by kernel_rfl, by kernel_rfl, by kernel_rfl⟩
/-- bool -/
theorem tf4 : tk Tryd.prog 4 = some (false, 1) ∧ sk Tryd.prog 4 = .bool ∧ (Tryd.prog.underlying 4).isSome = true ∧ el Tryd.prog 4 = none ∧ zc Tryd.prog 4 = some [.bool false] ∧ by_ Tryd.prog 4 = some 1 := ⟨by kernel_rfl, by kernel_rfl, by kernel_rfl, by kernel_rfl, by kernel_rfl, by kernel_rfl⟩
/-- uint8 -/
theorem tf5 : tk Tryd.prog 5 = some (false, 1) ∧ sk Tryd.prog 5 = .int .u8 ∧ (Tryd.prog.underlying 5).isSome = true ∧ el Tryd.prog 5 = none ∧ zc Tryd.prog 5 = some [.int .u8 0] ∧ by_ Tryd.prog 5 = some 1 := ⟨by kernel_rfl, by kernel_rfl, by kernel_rfl, by kernel_rfl, by kernel_rfl, by kernel_rfl⟩
/-- string -/
theorem tf9 : tk Tryd.prog 9 = some (false, 1) ∧ sk Tryd.prog 9 = .str ∧ (Tryd.prog.underlying 9).isSome = true ∧ el Tryd.prog 9 = none ∧ zc Tryd.prog 9 = some [.str []] ∧ by_ Tryd.prog 9 = some 16 := ⟨by kernel_rfl, by kernel_rfl, by kernel_rfl, by kernel_rfl, by kernel_rfl, by kernel_rfl⟩
/-- []api.Term -/
theorem tf22 : tk Tryd.prog 22 = some (false, 1) ∧ sk Tryd.prog 22 = .sl 40 ∧ (Tryd.prog.underlying 22).isSome = true ∧ el Tryd.prog 22 = some 40 ∧ zc Tryd.prog 22 = some [.nil] ∧ by_ Tryd.prog 22 = some 24 ∧ aelt Tryd.prog 22 = some (40, 7, 104) := ⟨by kernel_rfl, by kernel_rfl, by kernel_rfl, by kernel_rfl, by kernel_rfl, by kernel_rfl, by kernel_rfl⟩
/-- []api.Ended -/
theorem tf23 : tk Tryd.prog 23 = some (false, 1) ∧ sk Tryd.prog 23 = .sl 44 ∧ (Tryd.prog.underlying 23).isSome = true ∧ el Tryd.prog 23 = some 44 ∧ zc Tryd.prog 23 = some [.nil] ∧ by_ Tryd.prog 23 = some 24 ∧ aelt Tryd.prog 23 = some (44, 8, 112) := ⟨by kernel_rfl, by kernel_rfl, by kernel_rfl, by kernel_rfl, by kernel_rfl, by kernel_rfl, by kernel_rfl⟩
/-- []api.Named -/
theorem tf24 : tk Tryd.prog 24 = some (false, 1) ∧ sk Tryd.prog 24 = .sl 46 ∧ (Tryd.prog.underlying 24).isSome = true ∧ el Tryd.prog 24 = some 46 ∧ zc Tryd.prog 24 = some [.nil] ∧ by_ Tryd.prog 24 = some 24 ∧ aelt Tryd.prog 24 = some (46, 2, 24) := ⟨by kernel_rfl, by kernel_rfl, by kernel_rfl, by kernel_rfl, by kernel_rfl, by kernel_rfl, by kernel_rfl⟩
/-- api.Seen -/
theorem tf26 : tk Tryd.prog 26 = some (true, 6) ∧ sk Tryd.prog 26 = .st ∧ (Tryd.prog.underlying 26).isSome = true ∧ el Tryd.prog 26 = none ∧ zc Tryd.prog 26 = some [.nil, .nil, .nil, .int .i64 0, .int .i64 0, .int .i64 0] ∧ by_ Tryd.prog 26 = some 96 ∧ places Tryd.prog 26 = some [(0, 1), (1, 1), (2, 1), (3, 1), (4, 1), (5, 1)] ∧ fld Tryd.prog 26 0 = some (0, false, 1) ∧ fld Tryd.prog 26 1 = some (1, false, 1) ∧ fld Tryd.prog 26 2 = some (2, false, 1) ∧ fld Tryd.prog 26 3 = some (3, false, 1) ∧ fld Tryd.prog 26 4 = some (4, false, 1) ∧ fld Tryd.prog 26 5 = some (5, false, 1) := ⟨by kernel_rfl, by kernel_rfl, by kernel_rfl, by kernel_rfl, by kernel_rfl, by kernel_rfl, by kernel_rfl, by kernel_rfl, by kernel_rfl, by kernel_rfl, by kernel_rfl, by kernel_rfl, by kernel_rfl⟩
/-- []string -/
theorem tf31 : tk Tryd.prog 31 = some (false, 1) ∧ sk Tryd.prog 31 = .sl 9 ∧ (Tryd.prog.underlying 31).isSome = true ∧ el Tryd.prog 31 = some 9 ∧ zc Tryd.prog 31 = some [.nil] ∧ by_ Tryd.prog 31 = some 24 ∧ aelt Tryd.prog 31 = some (9, 1, 16) := ⟨by kernel_rfl, by kernel_rfl, by kernel_rfl, by kernel_rfl, by kernel_rfl, by kernel_rfl, by kernel_rfl⟩
/-- api.Kind -/
theorem tf37 : tk Tryd.prog 37 = some (false, 1) ∧ sk Tryd.prog 37 = .int .u8 ∧ (Tryd.prog.underlying 37).isSome = true ∧ el Tryd.prog 37 = none ∧ zc Tryd.prog 37 = some [.int .u8 0] ∧ by_ Tryd.prog 37 = some 1 := ⟨by kernel_rfl, by kernel_rfl, by kernel_rfl, by kernel_rfl, by kernel_rfl, by kernel_rfl⟩
/-- []uint32 -/
theorem tf38 : tk Tryd.prog 38 = some (false, 1) ∧ sk Tryd.prog 38 = .sl 61 ∧ (Tryd.prog.underlying 38).isSome = true ∧ el Tryd.prog 38 = some 61 ∧ zc Tryd.prog 38 = some [.nil] ∧ by_ Tryd.prog 38 = some 24 ∧ aelt Tryd.prog 38 = some (61, 1, 4) := ⟨by kernel_rfl, by kernel_rfl, by kernel_rfl, by kernel_rfl, by kernel_rfl, by kernel_rfl, by kernel_rfl⟩
/-- api.Term -/
theorem tf40 : tk Tryd.prog 40 = some (true, 7) ∧ sk Tryd.prog 40 = .st ∧ (Tryd.prog.underlying 40).isSome = true ∧ el Tryd.prog 40 = none ∧ zc Tryd.prog 40 = some [.int .u8 0, .bool false, .nil, .str [], .int .i64 0, .nil, .nil] ∧ by_ Tryd.prog 40 = some 104 ∧ places Tryd.prog 40 = some [(0, 1), (1, 1), (2, 1), (3, 1), (4, 1), (5, 1), (6, 1)] ∧ fld Tryd.prog 40 0 = some (0, false, 1) ∧ fld Tryd.prog 40 1 = some (1, false, 1) ∧ fld Tryd.prog 40 2 = some (2, false, 1) ∧ fld Tryd.prog 40 3 = some (3, false, 1) ∧ fld Tryd.prog 40 4 = some (4, false, 1) ∧ fld Tryd.prog 40 5 = some (5, false, 1) ∧ fld Tryd.prog 40 6 = some (6, false, 1) := ⟨by kernel_rfl, by kernel_rfl, by kernel_rfl, by kernel_rfl, by kernel_rfl, by kernel_rfl, by kernel_rfl, by kernel_rfl, by kernel_rfl, by kernel_rfl, by kernel_rfl, by kernel_rfl, by kernel_rfl, by kernel_rfl⟩
/-- api.Ended -/
theorem tf44 : tk Tryd.prog 44 = some (true, 8) ∧ sk Tryd.prog 44 = .st ∧ (Tryd.prog.underlying 44).isSome = true ∧ el Tryd.prog 44 = none ∧ zc Tryd.prog 44 = some [.int .i64 0, .int .u8 0, .bool false, .nil, .str [], .int .i64 0, .nil, .nil] ∧ by_ Tryd.prog 44 = some 112 ∧ places Tryd.prog 44 = some [(0, 1), (1, 7)] ∧ fld Tryd.prog 44 0 = some (0, false, 1) ∧ fld Tryd.prog 44 1 = some (1, true, 7) := ⟨by kernel_rfl, by kernel_rfl, by kernel_rfl, by kernel_rfl, by kernel_rfl, by kernel_rfl, by kernel_rfl, by kernel_rfl, by kernel_rfl⟩
/-- api.Named -/
theorem tf46 : tk Tryd.prog 46 = some (true, 2) ∧ sk Tryd.prog 46 = .st ∧ (Tryd.prog.underlying 46).isSome = true ∧ el Tryd.prog 46 = none ∧ zc Tryd.prog 46 = some [.str [], .int .i64 0] ∧ by_ Tryd.prog 46 = some 24 ∧ places Tryd.prog 46 = some [(0, 1), (1, 1)] ∧ fld Tryd.prog 46 0 = some (0, false, 1) ∧ fld Tryd.prog 46 1 = some (1, false, 1) := ⟨by kernel_rfl, by kernel_rfl, by kernel_rfl, by kernel_rfl, by kernel_rfl, by kernel_rfl, by kernel_rfl, by kernel_rfl, by kernel_rfl⟩
/-- func(api.Term, api.Term) bool -/
theorem tf47 : tk Tryd.prog 47 = some (false, 1) ∧ sk Tryd.prog 47 = .fn ∧ (Tryd.prog.underlying 47).isSome = true ∧ el Tryd.prog 47 = none ∧ zc Tryd.prog 47 = some [.nilfn] ∧ by_ Tryd.prog 47 = some 8 := ⟨by kernel_rfl, by kernel_rfl, by kernel_rfl, by kernel_rfl, by kernel_rfl, by kernel_rfl⟩
/-- func(api.Ended, api.Ended) bool -/
theorem tf48 : tk Tryd.prog 48 = some (false, 1) ∧ sk Tryd.prog 48 = .fn ∧ (Tryd.prog.underlying 48).isSome = true ∧ el Tryd.prog 48 = none ∧ zc Tryd.prog 48 = some [.nilfn] ∧ by_ Tryd.prog 48 = some 8 := ⟨by kernel_rfl, by kernel_rfl, by kernel_rfl, by kernel_rfl, by kernel_rfl, by kernel_rfl⟩
/-- func(...string) -/
theorem tf53 : tk Tryd.prog 53 = some (false, 1) ∧ sk Tryd.prog 53 = .fn ∧ (Tryd.prog.underlying 53).isSome = true ∧ el Tryd.prog 53 = none ∧ zc Tryd.prog 53 = some [.nilfn] ∧ by_ Tryd.prog 53 = some 8 := ⟨by kernel_rfl, by kernel_rfl, by kernel_rfl, by kernel_rfl, by kernel_rfl, by kernel_rfl⟩
/-- uint32 -/
theorem tf61 : tk Tryd.prog 61 = some (false, 1) ∧ sk Tryd.prog 61 = .int .u32 ∧ (Tryd.prog.underlying 61).isSome = true ∧ el Tryd.prog 61 = none ∧ zc Tryd.prog 61 = some [.int .u32 0] ∧ by_ Tryd.prog 61 = some 4 := ⟨by kernel_rfl, by kernel_rfl, by kernel_rfl, by kernel_rfl, by kernel_rfl, by kernel_rfl⟩
/-- *strings.Builder -/
theorem tf62 : tk Tryd.prog 62 = some (false, 1) ∧ sk Tryd.prog 62 = .ptr 65 ∧ (Tryd.prog.underlying 62).isSome = true ∧ el Tryd.prog 62 = none ∧ zc Tryd.prog 62 = some [.nilptr] ∧ by_ Tryd.prog 62 = some 8 := ⟨by kernel_rfl, by kernel_rfl, by kernel_rfl, by kernel_rfl, by kernel_rfl, by kernel_rfl⟩
/-- []uint8 -/
theorem tf63 : tk Tryd.prog 63 = some (false, 1) ∧ sk Tryd.prog 63 = .sl 5 ∧ (Tryd.prog.underlying 63).isSome = true ∧ el Tryd.prog 63 = some 5 ∧ zc Tryd.prog 63 = some [.nil] ∧ by_ Tryd.prog 63 = some 24 ∧ aelt Tryd.prog 63 = some (5, 1, 1) := ⟨by kernel_rfl, by kernel_rfl, by kernel_rfl, by kernel_rfl, by kernel_rfl, by kernel_rfl, by kernel_rfl⟩
/-- strings.Builder -/
theorem tf65 : tk Tryd.prog 65 = some (true, 2) ∧ sk Tryd.prog 65 = .st ∧ (Tryd.prog.underlying 65).isSome = true ∧ el Tryd.prog 65 = none ∧ zc Tryd.prog 65 = some [.nilptr, .nil] ∧ by_ Tryd.prog 65 = some 32 ∧ places Tryd.prog 65 = some [(0, 1), (1, 1)] ∧ fld Tryd.prog 65 0 = some (0, false, 1) ∧ fld Tryd.prog 65 1 = some (1, false, 1) := ⟨by kernel_rfl, by kernel_rfl, by kernel_rfl, by kernel_rfl, by kernel_rfl, by kernel_rfl, by kernel_rfl, by kernel_rfl, by kernel_rfl⟩
/-- [19]string -/
theorem tf94 : tk Tryd.prog 94 = some (true, 19) ∧ sk Tryd.prog 94 = .arr 19 9 ∧ (Tryd.prog.underlying 94).isSome = true ∧ el Tryd.prog 94 = none ∧ zc Tryd.prog 94 = some [.str [], .str [], .str [], .str [], .str [], .str [], .str [], .str [], .str [], .str [], .str [], .str [], .str [], .str [], .str [], .str [], .str [], .str [], .str []] ∧ by_ Tryd.prog 94 = some 304 ∧ arrT Tryd.prog 94 = some (19, 1) := ⟨by kernel_rfl, by kernel_rfl, by kernel_rfl, by kernel_rfl, by kernel_rfl, by kernel_rfl, by kernel_rfl⟩
/-- uint -/
theorem tf95 : tk Tryd.prog 95 = some (false, 1) ∧ sk Tryd.prog 95 = .int .u64 ∧ (Tryd.prog.underlying 95).isSome = true ∧ el Tryd.prog 95 = none ∧ zc Tryd.prog 95 = some [.int .u64 0] ∧ by_ Tryd.prog 95 = some 8 := ⟨by kernel_rfl, by kernel_rfl, by kernel_rfl, by kernel_rfl, by kernel_rfl, by kernel_rfl⟩
/-- uint64 -/
theorem tf97 : tk Tryd.prog 97 = some (false, 1) ∧ sk Tryd.prog 97 = .int .u64 ∧ (Tryd.prog.underlying 97).isSome = true ∧ el Tryd.prog 97 = none ∧ zc Tryd.prog 97 = some [.int .u64 0] ∧ by_ Tryd.prog 97 = some 8 := ⟨by kernel_rfl, by kernel_rfl, by kernel_rfl, by kernel_rfl, by kernel_rfl, by kernel_rfl⟩
theorem mixed : Tryd.prog.follows .mixedOrders = true := by kernel_rfl
end Go.Proofs.YtpginpbcndlfmaaDoor
set_option linter.unusedVariables false
set_option linter.unusedSimpArgs false
namespace Go.Proofs.YtpginpbcndlfmaaDoor
open Go Go.Av

inductive Term where
  | mk (kind : UInt8) (neg : Bool) (limbs : List UInt32) (text : List UInt8) (num : Int) (items tail : List Term)
instance : Inhabited Term := ⟨.mk 0 false [] [] 0 [] []⟩
def Term.kind : Term → UInt8 | .mk k _ _ _ _ _ _ => k
def Term.neg : Term → Bool | .mk _ g _ _ _ _ _ => g
def Term.limbs : Term → List UInt32 | .mk _ _ l _ _ _ _ => l
def Term.text : Term → List UInt8 | .mk _ _ _ s _ _ _ => s
def Term.num : Term → Int | .mk _ _ _ _ n _ _ => n
def Term.items : Term → List Term | .mk _ _ _ _ _ ks _ => ks
def Term.tail : Term → List Term | .mk _ _ _ _ _ _ ts => ts
/-- its kind, as a number -/
def Term.knd (t : Term) : Int := t.kind.toNat
theorem Term.knd_nn (t : Term) : 0 ≤ t.knd := Int.natCast_nonneg _
def limA (x : UInt32) : AV := .int .u32 x.toNat
def lims (l : List UInt32) : AV := .sl .none (l.map limA) []
def Term.enc : Term → AV
  | .mk k g l s n ks ts => .agg [.int .u8 k.toNat, .bool g, lims l, .str s, .int .i64 n, .sl .none (ks.map Term.enc) [], .sl .none (ts.map Term.enc) []]
def encs (l : List Term) : AV := .sl .none (l.map Term.enc) []
theorem Term.flat_enc (t : Term) : flat t.enc = [.int .u8 t.knd, .bool t.neg, lims t.limbs, .str t.text, .int .i64 t.num, encs t.items, encs t.tail] := by
  cases t; simp [Term.enc, flat, Term.knd, Term.kind, Term.neg, Term.limbs, Term.text, Term.num, Term.items, Term.tail, encs]
theorem Term.isv_enc (t : Term) : isv t.enc = true := by cases t; simp [Term.enc, isv]
theorem Term.fold_enc (t : Term) : AV.agg [.int .u8 t.knd, .bool t.neg, lims t.limbs, .str t.text, .int .i64 t.num, encs t.items, encs t.tail] = t.enc := by
  cases t; simp [Term.enc, Term.knd, Term.kind, Term.neg, Term.limbs, Term.text, Term.num, Term.items, Term.tail, encs]
theorem isv_encs (l : List Term) : isv (encs l) = true := rfl
theorem flat_encs (l : List Term) : flat (encs l) = [encs l] := rfl
theorem isv_lims (l : List UInt32) : isv (lims l) = true := rfl
theorem flat_lims (l : List UInt32) : flat (lims l) = [lims l] := rfl
theorem len_encs {P : Program} {t : TypeId} (l : List Term) : ablt P .len #[t] [encs l] = if (el P t).isSome then some (.int .i64 l.length) else none := by
  simp [encs, l_sl]
theorem len_lims {P : Program} {t : TypeId} (l : List UInt32) : ablt P .len #[t] [lims l] = if (el P t).isSome then some (.int .i64 l.length) else none := by
  simp [lims, l_sl]
theorem ix_encs {P : Program} {t : TypeId} {k : IntKind} (l : List Term) (i : Nat) : aindexA P t (encs l) (.int k (i : Int)) = ixk ((el P t).bind (tk P)) ((l[i]?).map Term.enc) := by
  simp [encs, aindexA_sl]
theorem ix_encs' {P : Program} {t : TypeId} {k : IntKind} (l : List Term) (i : Int) (h : 0 ≤ i) : aindexA P t (encs l) (.int k i) = ixk ((el P t).bind (tk P)) ((l[i.toNat]?).map Term.enc) := by
  simp [encs, aindexA_sl, h]
theorem ix_lims {P : Program} {t : TypeId} {k : IntKind} (l : List UInt32) (i : Nat) : aindexA P t (lims l) (.int k (i : Int)) = ixk ((el P t).bind (tk P)) ((l[i]?).map limA) := by
  simp [lims, aindexA_sl]
theorem ix_lims' {P : Program} {t : TypeId} {k : IntKind} (l : List UInt32) (i : Int) (h : 0 ≤ i) : aindexA P t (lims l) (.int k i) = ixk ((el P t).bind (tk P)) ((l[i.toNat]?).map limA) := by
  simp [lims, aindexA_sl, h]
theorem flat_limA (x : UInt32) : flat (limA x) = [limA x] := rfl
theorem Term.ind {P : Term → Prop} (h : ∀ t, (∀ k, k ∈ t.items → P k) → (∀ k, k ∈ t.tail → P k) → P t) : ∀ t, P t := by
  have key : ∀ n, ∀ t : Term, SizeOf.sizeOf t ≤ n → P t := by
    intro n
    induction n with
    | zero => intro t ht; cases t; simp at ht
    | succ n ih =>
      intro t ht
      cases t with
      | mk a b c d e ks ts =>
        refine h _ (fun k hk => ih k ?_) (fun k hk => ih k ?_)
        · have := List.sizeOf_lt_of_mem (show k ∈ ks from hk)
          simp at ht
          omega
        · have := List.sizeOf_lt_of_mem (show k ∈ ts from hk)
          simp at ht
          omega
  exact fun t => key _ t (Nat.le_refl _)

mutual
/-- how much a term is: parts, limbs and letters -/
def Term.bulk : Term → Nat
  | .mk _ _ l s _ ks ts => l.length + s.length + bulks ks + bulks ts + 1
def bulks : List Term → Nat
  | [] => 0
  | k :: ks => k.bulk + bulks ks
end
theorem Term.bulk_eq (t : Term) : t.bulk = t.limbs.length + t.text.length + bulks t.items + bulks t.tail + 1 := by cases t; simp [Term.bulk, Term.limbs, Term.text, Term.items, Term.tail]
theorem bulk_mem {l : List Term} {k : Term} (h : k ∈ l) : k.bulk ≤ bulks l := by
  induction l with
  | nil => cases h
  | cons x l ih =>
    simp only [bulks]
    rcases List.mem_cons.1 h with rfl | h
    · omega
    · have := ih h; omega
theorem bulks_append (l r : List Term) : bulks (l ++ r) = bulks l + bulks r := by
  induction l with
  | nil => simp [bulks]
  | cons x l ih => simp only [List.cons_append, bulks, ih]; omega
theorem len_le_bulks (l : List Term) : l.length ≤ bulks l := by
  induction l with
  | nil => simp [bulks]
  | cons x l ih => have := x.bulk_eq; simp only [List.length_cons, bulks]; omega
theorem bulk_item {k t : Term} (h : k ∈ t.items) : k.bulk < t.bulk := by
  have := bulk_mem h; have := t.bulk_eq; omega
theorem bulk_tail {k t : Term} (h : k ∈ t.tail) : k.bulk < t.bulk := by
  have := bulk_mem h; have := t.bulk_eq; omega
theorem len_items (t : Term) : t.items.length < t.bulk := by
  have := len_le_bulks t.items; have := t.bulk_eq; omega
theorem len_tail (t : Term) : t.tail.length < t.bulk := by
  have := len_le_bulks t.tail; have := t.bulk_eq; omega
theorem len_limbs (t : Term) : t.limbs.length < t.bulk := by
  have := t.bulk_eq; omega
theorem len_text (t : Term) : t.text.length < t.bulk := by
  have := t.bulk_eq; omega
theorem wrap_nat {x : Int} (h0 : -9223372036854775808 ≤ x) (h1 : x ≤ 9223372036854775807) : IntKind.i64.wrap x = x := by
  rw [IntKind.wrap_i64]; omega
theorem take_succ_get {α : Type} (l : List α) (i : Nat) (x : α) (h : l[i]? = some x) : l.take (i + 1) = l.take i ++ [x] := by
  rw [List.take_add_one, h]; rfl
theorem drop_get {α : Type} (l : List α) (i : Nat) (x : α) (h : l[i]? = some x) : l.drop i = x :: l.drop (i + 1) := by
  obtain ⟨hi, rfl⟩ := List.getElem?_eq_some_iff.1 h
  exact List.drop_eq_getElem_cons hi
theorem flat7 {l : List Term} : ∀ a, a ∈ l.map Term.enc → (flat a).length = 7 := fun a ha => by
  obtain ⟨x, _, rfl⟩ := List.mem_map.1 ha
  rw [x.flat_enc]; rfl
theorem flat1 {l : List UInt32} : ∀ a, a ∈ l.map limA → (flat a).length = 1 := fun a ha => by
  obtain ⟨x, _, rfl⟩ := List.mem_map.1 ha
  rfl
theorem ones (t : Term) : ∀ d, d ∈ flat t.enc → Av.one d = true := fun d hd => by rw [t.flat_enc] at hd; simp at hd; rcases hd with rfl | rfl | rfl | rfl | rfl | rfl | rfl <;> rfl
/-- pieces -/
theorem sl_encs {P : Program} {t : TypeId} (l : List Term) (lo hi : Option AV) (ht : ((el P t).bind (tk P)) = some (true, 7)) : aslice P t (encs l) lo hi = match abnd lo 0, abnd hi l.length with
    | some a, some b => if a ≤ b ∧ b ≤ l.length then some (encs ((l.take b).drop a)) else none
    | _, _ => none := by
  unfold encs
  rw [aslice_sl, ht, List.length_map]
  cases abnd lo 0 with
  | none => cases abnd hi l.length <;> rfl
  | some a =>
    cases abnd hi l.length with
    | none => rfl
    | some b =>
      rw [slk_plain flat7]
      simp only [List.length_map, List.map_drop, List.map_take]
theorem sl_lims {P : Program} {t : TypeId} (l : List UInt32) (lo hi : Option AV) (ht : ((el P t).bind (tk P)) = some (false, 1)) : aslice P t (lims l) lo hi = match abnd lo 0, abnd hi l.length with
    | some a, some b => if a ≤ b ∧ b ≤ l.length then some (lims ((l.take b).drop a)) else none
    | _, _ => none := by
  unfold lims
  rw [aslice_sl, ht, List.length_map]
  cases abnd lo 0 with
  | none => cases abnd hi l.length <;> rfl
  | some a =>
    cases abnd hi l.length with
    | none => rfl
    | some b =>
      rw [slk_plain flat1]
      simp only [List.length_map, List.map_drop, List.map_take]
end Go.Proofs.YtpginpbcndlfmaaDoor
set_option linter.unusedVariables false
set_option linter.unusedSimpArgs false
namespace Go.Proofs.YtpginpbcndlfmaaDoor
open Go Go.Av
def tbLims := And.intro (And.intro (And.intro @tf3 (And.intro @tf4 @tf5)) (And.intro @tf61 (And.intro @tf9 @tf38))) (And.intro (And.intro @isv_lims (And.intro @flat_lims @len_lims)) (And.intro @ix_lims (And.intro @ix_lims' @flat_limA)))
variable (G : Nat → AV)
def markI (k i : Int) : Int := IntKind.i64.wrap (IntKind.i64.wrap (1000003 * IntKind.i64.wrap (k + 7)) + i)
/-! with twelve marks behind -/
def lmk (i : Int) : AV := .int .u32 (IntKind.u32.wrap (markI 1 i))
def lmarksTo (i : Nat) : List AV := (List.range i).map fun (i : Nat) => lmk (i : Int)
def lmarks : List AV := lmarksTo 12
def lentLims (l : List UInt32) : AV := .sl .none (l.map limA) lmarks
theorem tfL : aelt Tryd.prog 38 = some (61, 1, 4) := tf38.2.2.2.2.2.2
theorem tfLE : el Tryd.prog 38 = some 61 := tf38.2.2.2.1
/-- a row in memory of its own -/
theorem clone_tri (l : List UInt32) (hl : l.length ≤ 1000000000) (σ : AS) : Tri Tryd.prog G 67 [lims l] σ fun r σ' => Le r (lims l) ∧ σ' = σ := by
  have key : ∀ x, (∀ op t, (el Tryd.prog t).isSome = true → abin Tryd.prog op t x .nil = aeq op false) → asrc Tryd.prog 38 x = some (l.map limA) → Tri Tryd.prog G 67 [x] σ fun r σ' => Le r (lims l) ∧ σ' = σ := by
    intro x h1 h2
    have h3 := h1 .eql 38 (by rw [tfLE]; rfl)
    refine Tri.of_awp mixed Tryd.func67 rfl (by kernel_rfl) (by kernel_rfl) (by simp [Tryd.ntmps67]) Tryd.results67 ?_
    simp -dsimp only [↓bp, bq, br, afin, bsk, cWrites, opsWrites, pieceGh, rsk, ne_eq, if_true, if_false, exists_eq_left', forall_const, forall_eq, Nat.reduceLT, Int.reduceSub, Nat.reduceAdd, Nat.reduceSub, Nat.reduceMul, Nat.reduceLeDiff, Nat.reduceEqDiff, Nat.reduceBEq, Nat.reduceBNe, Int.reduceNeg, Int.reduceAdd, Int.reduceMul, Int.reduceLE, Int.reduceLT, Int.reduceEq, Int.reduceToNat, reduceIte, reduceCtorEq, tbLims, h3]
    refine build_none tfL ?_
    simp -dsimp only [↓bp, bq, br, afin, bsk, cWrites, opsWrites, pieceGh, rsk, ne_eq, if_true, if_false, exists_eq_left', forall_const, forall_eq, Nat.reduceLT, Int.reduceSub, Nat.reduceAdd, Nat.reduceSub, Nat.reduceMul, Nat.reduceLeDiff, Nat.reduceEqDiff, Nat.reduceBEq, Nat.reduceBNe, Int.reduceNeg, Int.reduceAdd, Int.reduceMul, Int.reduceLE, Int.reduceLT, Int.reduceEq, Int.reduceToNat, reduceIte, reduceCtorEq, tbLims]
    refine app_full (σ0 := σ) (AS.le.refl σ) (fun a ha => by cases ha) tfL h2 flat1 (by simp; omega) (fun he => ?_) (fun v σ1 hB hx => ?_)
    · simp -dsimp only [↓bp, bq, br, afin, bsk, cWrites, opsWrites, pieceGh, rsk, ne_eq, if_true, if_false, exists_eq_left', forall_const, forall_eq, Nat.reduceLT, Int.reduceSub, Nat.reduceAdd, Nat.reduceSub, Nat.reduceMul, Nat.reduceLeDiff, Nat.reduceEqDiff, Nat.reduceBEq, Nat.reduceBNe, Int.reduceNeg, Int.reduceAdd, Int.reduceMul, Int.reduceLE, Int.reduceLT, Int.reduceEq, Int.reduceToNat, reduceIte, reduceCtorEq, tbLims]
      have e : lims l = .sl .none [] [] := by unfold lims; rw [he]
      rw [e]
      exact finish_le Le.gh (AS.le.refl σ)
    · simp -dsimp only [↓bp, bq, br, afin, bsk, cWrites, opsWrites, pieceGh, rsk, ne_eq, if_true, if_false, exists_eq_left', forall_const, forall_eq, Nat.reduceLT, Int.reduceSub, Nat.reduceAdd, Nat.reduceSub, Nat.reduceMul, Nat.reduceLeDiff, Nat.reduceEqDiff, Nat.reduceBEq, Nat.reduceBNe, Int.reduceNeg, Int.reduceAdd, Int.reduceMul, Int.reduceLE, Int.reduceLT, Int.reduceEq, Int.reduceToNat, reduceIte, reduceCtorEq, tbLims]
      exact finish_le hB.told hB.le
  cases l with
  | nil =>
    refine Tri.nil_or ?_ fun a c => ?_
    · refine Tri.of_awp mixed Tryd.func67 rfl (by kernel_rfl) (by kernel_rfl) (by simp [Tryd.ntmps67]) Tryd.results67 ?_
      simp -dsimp only [↓bp, bq, br, afin, bsk, cWrites, opsWrites, pieceGh, rsk, ne_eq, if_true, if_false, exists_eq_left', forall_const, forall_eq, Nat.reduceLT, Int.reduceSub, Nat.reduceAdd, Nat.reduceSub, Nat.reduceMul, Nat.reduceLeDiff, Nat.reduceEqDiff, Nat.reduceBEq, Nat.reduceBNe, Int.reduceNeg, Int.reduceAdd, Int.reduceMul, Int.reduceLE, Int.reduceLT, Int.reduceEq, Int.reduceToNat, reduceIte, reduceCtorEq, tbLims]
      exact finish_le Le.nil (AS.le.refl σ)
    · exact key _ (fun op t h => by rw [abin_raw_nil, if_pos h]) (by simp [asrc, tfLE])
  | cons x l => exact key _ (fun op t h => by simp [lims, abin, isNil, h]) (asrc_sl tfLE)
end Go.Proofs.YtpginpbcndlfmaaDoor
set_option maxRecDepth 100000
namespace Go.Proofs.YtpginpbcndlfmaaDoor
open Go Go.Av
/-- error -/
theorem tf68 : tk Tryd.prog 68 = some (false, 1) ∧ sk Tryd.prog 68 = .oth ∧ (Tryd.prog.underlying 68).isSome = true ∧ el Tryd.prog 68 = none ∧ by_ Tryd.prog 68 = some 16 := ⟨by kernel_rfl, by kernel_rfl, by kernel_rfl, by kernel_rfl, by kernel_rfl⟩
/-- *uint8 -/
theorem tf74 : tk Tryd.prog 74 = some (false, 1) ∧ sk Tryd.prog 74 = .ptr 5 ∧ (Tryd.prog.underlying 74).isSome = true ∧ el Tryd.prog 74 = none ∧ zc Tryd.prog 74 = some [.nilptr] ∧ by_ Tryd.prog 74 = some 8 := ⟨by kernel_rfl, by kernel_rfl, by kernel_rfl, by kernel_rfl, by kernel_rfl, by kernel_rfl⟩
/-- func(api.Term) -/
theorem tf76 : tk Tryd.prog 76 = some (false, 1) ∧ sk Tryd.prog 76 = .fn ∧ (Tryd.prog.underlying 76).isSome = true ∧ el Tryd.prog 76 = none ∧ zc Tryd.prog 76 = some [.nilfn] ∧ by_ Tryd.prog 76 = some 8 := ⟨by kernel_rfl, by kernel_rfl, by kernel_rfl, by kernel_rfl, by kernel_rfl, by kernel_rfl⟩
/-- func(api.Term, string, string) -/
theorem tf78 : tk Tryd.prog 78 = some (false, 1) ∧ sk Tryd.prog 78 = .fn ∧ (Tryd.prog.underlying 78).isSome = true ∧ el Tryd.prog 78 = none ∧ zc Tryd.prog 78 = some [.nilfn] ∧ by_ Tryd.prog 78 = some 8 := ⟨by kernel_rfl, by kernel_rfl, by kernel_rfl, by kernel_rfl, by kernel_rfl, by kernel_rfl⟩
end Go.Proofs.YtpginpbcndlfmaaDoor
