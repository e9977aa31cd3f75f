/- What the program's tables say of its types: each by the kernel. Written by a program of ours (facts.py). -/
import Derived.Test.YtjnhalmeddafdaaDoorZB
import Derived.Test.YtjnhalmeddafdaaDoorChecked
import Derived.KernelRfl
set_option maxRecDepth 100000
set_option linter.defProp false
namespace Go.Proofs.YtjnhalmeddafdaaDoor
open Go Go.Av
/-- int -/
theorem tf3 : tk Tryd.prog 3 = some (false, 1) ∧ sk Tryd.prog 3 = .int .i64 ∧ (Tryd.prog.underlying 3).isSome = true ∧ el Tryd.prog 3 = none ∧ zc Tryd.prog 3 = some [.int .i64 0] ∧ by_ Tryd.prog 3 = some 8 := ⟨by kernel_rfl, by kernel_rfl, by kernel_rfl, by kernel_rfl, by kernel_rfl, by kernel_rfl⟩
/-- bool -/
theorem tf4 : tk Tryd.prog 4 = some (false, 1) ∧ sk Tryd.prog 4 = .bool ∧ (Tryd.prog.underlying 4).isSome = true ∧ el Tryd.prog 4 = none ∧ zc Tryd.prog 4 = some [.bool false] ∧ by_ Tryd.prog 4 = some 1 := ⟨by kernel_rfl, by kernel_rfl, by kernel_rfl, by kernel_rfl, by kernel_rfl, by kernel_rfl⟩
/-- uint8 -/
theorem tf5 : tk Tryd.prog 5 = some (false, 1) ∧ sk Tryd.prog 5 = .int .u8 ∧ (Tryd.prog.underlying 5).isSome = true ∧ el Tryd.prog 5 = none ∧ zc Tryd.prog 5 = some [.int .u8 0] ∧ by_ Tryd.prog 5 = some 1 := ⟨by kernel_rfl, by kernel_rfl, by kernel_rfl, by kernel_rfl, by kernel_rfl, by kernel_rfl⟩
/-- string -/
theorem tf9 : tk Tryd.prog 9 = some (false, 1) ∧ sk Tryd.prog 9 = .str ∧ (Tryd.prog.underlying 9).isSome = true ∧ el Tryd.prog 9 = none ∧ zc Tryd.prog 9 = some [.str []] ∧ by_ Tryd.prog 9 = some 16 := ⟨by kernel_rfl, by kernel_rfl, by kernel_rfl, by kernel_rfl, by kernel_rfl, by kernel_rfl⟩
/-- api.Kind -/
theorem tf22 : tk Tryd.prog 22 = some (false, 1) ∧ sk Tryd.prog 22 = .int .u8 ∧ (Tryd.prog.underlying 22).isSome = true ∧ el Tryd.prog 22 = none ∧ zc Tryd.prog 22 = some [.int .u8 0] ∧ by_ Tryd.prog 22 = some 1 := ⟨by kernel_rfl, by kernel_rfl, by kernel_rfl, by kernel_rfl, by kernel_rfl, by kernel_rfl⟩
/-- []uint32 -/
theorem tf23 : tk Tryd.prog 23 = some (false, 1) ∧ sk Tryd.prog 23 = .sl 44 ∧ (Tryd.prog.underlying 23).isSome = true ∧ el Tryd.prog 23 = some 44 ∧ zc Tryd.prog 23 = some [.nil] ∧ by_ Tryd.prog 23 = some 24 ∧ aelt Tryd.prog 23 = some (44, 1, 4) := ⟨by kernel_rfl, by kernel_rfl, by kernel_rfl, by kernel_rfl, by kernel_rfl, by kernel_rfl, by kernel_rfl⟩
/-- []api.Term -/
theorem tf24 : tk Tryd.prog 24 = some (false, 1) ∧ sk Tryd.prog 24 = .sl 26 ∧ (Tryd.prog.underlying 24).isSome = true ∧ el Tryd.prog 24 = some 26 ∧ zc Tryd.prog 24 = some [.nil] ∧ by_ Tryd.prog 24 = some 24 ∧ aelt Tryd.prog 24 = some (26, 7, 104) := ⟨by kernel_rfl, by kernel_rfl, by kernel_rfl, by kernel_rfl, by kernel_rfl, by kernel_rfl, by kernel_rfl⟩
/-- api.Term -/
theorem tf26 : tk Tryd.prog 26 = some (true, 7) ∧ sk Tryd.prog 26 = .st ∧ (Tryd.prog.underlying 26).isSome = true ∧ el Tryd.prog 26 = none ∧ zc Tryd.prog 26 = some [.int .u8 0, .bool false, .nil, .str [], .int .i64 0, .nil, .nil] ∧ by_ Tryd.prog 26 = some 104 ∧ places Tryd.prog 26 = some [(0, 1), (1, 1), (2, 1), (3, 1), (4, 1), (5, 1), (6, 1)] ∧ fld Tryd.prog 26 0 = some (0, false, 1) ∧ fld Tryd.prog 26 1 = some (1, false, 1) ∧ fld Tryd.prog 26 2 = some (2, false, 1) ∧ fld Tryd.prog 26 3 = some (3, false, 1) ∧ fld Tryd.prog 26 4 = some (4, false, 1) ∧ fld Tryd.prog 26 5 = some (5, false, 1) ∧ fld Tryd.prog 26 6 = some (6, false, 1) := ⟨by kernel_rfl, by kernel_rfl, by kernel_rfl, by kernel_rfl, by kernel_rfl, by kernel_rfl, by kernel_rfl, by kernel_rfl, by kernel_rfl, by kernel_rfl, by kernel_rfl, by kernel_rfl, by kernel_rfl, by kernel_rfl⟩
/-- uint32 -/
theorem tf44 : tk Tryd.prog 44 = some (false, 1) ∧ sk Tryd.prog 44 = .int .u32 ∧ (Tryd.prog.underlying 44).isSome = true ∧ el Tryd.prog 44 = none ∧ zc Tryd.prog 44 = some [.int .u32 0] ∧ by_ Tryd.prog 44 = some 4 := ⟨by kernel_rfl, by kernel_rfl, by kernel_rfl, by kernel_rfl, by kernel_rfl, by kernel_rfl⟩
/-- *strings.Builder -/
theorem tf50 : tk Tryd.prog 50 = some (false, 1) ∧ sk Tryd.prog 50 = .ptr 53 ∧ (Tryd.prog.underlying 50).isSome = true ∧ el Tryd.prog 50 = none ∧ zc Tryd.prog 50 = some [.nilptr] ∧ by_ Tryd.prog 50 = some 8 := ⟨by kernel_rfl, by kernel_rfl, by kernel_rfl, by kernel_rfl, by kernel_rfl, by kernel_rfl⟩
/-- []uint8 -/
theorem tf51 : tk Tryd.prog 51 = some (false, 1) ∧ sk Tryd.prog 51 = .sl 5 ∧ (Tryd.prog.underlying 51).isSome = true ∧ el Tryd.prog 51 = some 5 ∧ zc Tryd.prog 51 = some [.nil] ∧ by_ Tryd.prog 51 = some 24 ∧ aelt Tryd.prog 51 = some (5, 1, 1) := ⟨by kernel_rfl, by kernel_rfl, by kernel_rfl, by kernel_rfl, by kernel_rfl, by kernel_rfl, by kernel_rfl⟩
/-- strings.Builder -/
theorem tf53 : tk Tryd.prog 53 = some (true, 2) ∧ sk Tryd.prog 53 = .st ∧ (Tryd.prog.underlying 53).isSome = true ∧ el Tryd.prog 53 = none ∧ zc Tryd.prog 53 = some [.nilptr, .nil] ∧ by_ Tryd.prog 53 = some 32 ∧ places Tryd.prog 53 = some [(0, 1), (1, 1)] ∧ fld Tryd.prog 53 0 = some (0, false, 1) ∧ fld Tryd.prog 53 1 = some (1, false, 1) := ⟨by kernel_rfl, by kernel_rfl, by kernel_rfl, by kernel_rfl, by kernel_rfl, by kernel_rfl, by kernel_rfl, by kernel_rfl, by kernel_rfl⟩
/-- func(api.Term) -/
theorem tf54 : tk Tryd.prog 54 = some (false, 1) ∧ sk Tryd.prog 54 = .fn ∧ (Tryd.prog.underlying 54).isSome = true ∧ el Tryd.prog 54 = none ∧ zc Tryd.prog 54 = some [.nilfn] ∧ by_ Tryd.prog 54 = some 8 := ⟨by kernel_rfl, by kernel_rfl, by kernel_rfl, by kernel_rfl, by kernel_rfl, by kernel_rfl⟩
/-- [][]api.Term -/
theorem tf75 : tk Tryd.prog 75 = some (false, 1) ∧ sk Tryd.prog 75 = .sl 24 ∧ (Tryd.prog.underlying 75).isSome = true ∧ el Tryd.prog 75 = some 24 ∧ zc Tryd.prog 75 = some [.nil] ∧ by_ Tryd.prog 75 = some 24 ∧ aelt Tryd.prog 75 = some (24, 1, 24) := ⟨by kernel_rfl, by kernel_rfl, by kernel_rfl, by kernel_rfl, by kernel_rfl, by kernel_rfl, by kernel_rfl⟩
/-- []string -/
theorem tf82 : tk Tryd.prog 82 = some (false, 1) ∧ sk Tryd.prog 82 = .sl 9 ∧ (Tryd.prog.underlying 82).isSome = true ∧ el Tryd.prog 82 = some 9 ∧ zc Tryd.prog 82 = some [.nil] ∧ by_ Tryd.prog 82 = some 24 ∧ aelt Tryd.prog 82 = some (9, 1, 16) := ⟨by kernel_rfl, by kernel_rfl, by kernel_rfl, by kernel_rfl, by kernel_rfl, by kernel_rfl, by kernel_rfl⟩
/-- [19]string -/
theorem tf83 : tk Tryd.prog 83 = some (true, 19) ∧ sk Tryd.prog 83 = .arr 19 9 ∧ (Tryd.prog.underlying 83).isSome = true ∧ el Tryd.prog 83 = none ∧ zc Tryd.prog 83 = some [.str [], .str [], .str [], .str [], .str [], .str [], .str [], .str [], .str [], .str [], .str [], .str [], .str [], .str [], .str [], .str [], .str [], .str [], .str []] ∧ by_ Tryd.prog 83 = some 304 ∧ arrT Tryd.prog 83 = some (19, 1) := ⟨by kernel_rfl, by kernel_rfl, by kernel_rfl, by kernel_rfl, by kernel_rfl, by kernel_rfl, by kernel_rfl⟩
/-- uint -/
theorem tf84 : tk Tryd.prog 84 = some (false, 1) ∧ sk Tryd.prog 84 = .int .u64 ∧ (Tryd.prog.underlying 84).isSome = true ∧ el Tryd.prog 84 = none ∧ zc Tryd.prog 84 = some [.int .u64 0] ∧ by_ Tryd.prog 84 = some 8 := ⟨by kernel_rfl, by kernel_rfl, by kernel_rfl, by kernel_rfl, by kernel_rfl, by kernel_rfl⟩
/-- []int -/
theorem tf89 : tk Tryd.prog 89 = some (false, 1) ∧ sk Tryd.prog 89 = .sl 3 ∧ (Tryd.prog.underlying 89).isSome = true ∧ el Tryd.prog 89 = some 3 ∧ zc Tryd.prog 89 = some [.nil] ∧ by_ Tryd.prog 89 = some 24 ∧ aelt Tryd.prog 89 = some (3, 1, 8) := ⟨by kernel_rfl, by kernel_rfl, by kernel_rfl, by kernel_rfl, by kernel_rfl, by kernel_rfl, by kernel_rfl⟩
/-- []bool -/
theorem tf91 : tk Tryd.prog 91 = some (false, 1) ∧ sk Tryd.prog 91 = .sl 4 ∧ (Tryd.prog.underlying 91).isSome = true ∧ el Tryd.prog 91 = some 4 ∧ zc Tryd.prog 91 = some [.nil] ∧ by_ Tryd.prog 91 = some 24 ∧ aelt Tryd.prog 91 = some (4, 1, 1) := ⟨by kernel_rfl, by kernel_rfl, by kernel_rfl, by kernel_rfl, by kernel_rfl, by kernel_rfl, by kernel_rfl⟩
/-- uint64 -/
theorem tf103 : tk Tryd.prog 103 = some (false, 1) ∧ sk Tryd.prog 103 = .int .u64 ∧ (Tryd.prog.underlying 103).isSome = true ∧ el Tryd.prog 103 = none ∧ zc Tryd.prog 103 = some [.int .u64 0] ∧ by_ Tryd.prog 103 = some 8 := ⟨by kernel_rfl, by kernel_rfl, by kernel_rfl, by kernel_rfl, by kernel_rfl, by kernel_rfl⟩
theorem mixed : Tryd.prog.follows .mixedOrders = true := by kernel_rfl
end Go.Proofs.YtjnhalmeddafdaaDoor
set_option maxRecDepth 100000
namespace Go.Proofs.YtjnhalmeddafdaaDoor
open Go Go.Av
/-- error -/
theorem tf56 : tk Tryd.prog 56 = some (false, 1) ∧ sk Tryd.prog 56 = .oth ∧ (Tryd.prog.underlying 56).isSome = true ∧ el Tryd.prog 56 = none ∧ by_ Tryd.prog 56 = some 16 := ⟨by kernel_rfl, by kernel_rfl, by kernel_rfl, by kernel_rfl, by kernel_rfl⟩
/-- func(api.Term, string, string) -/
theorem tf60 : tk Tryd.prog 60 = some (false, 1) ∧ sk Tryd.prog 60 = .fn ∧ (Tryd.prog.underlying 60).isSome = true ∧ el Tryd.prog 60 = none ∧ zc Tryd.prog 60 = some [.nilfn] ∧ by_ Tryd.prog 60 = some 8 := ⟨by kernel_rfl, by kernel_rfl, by kernel_rfl, by kernel_rfl, by kernel_rfl, by kernel_rfl⟩
/-- *uint8 -/
theorem tf85 : tk Tryd.prog 85 = some (false, 1) ∧ sk Tryd.prog 85 = .ptr 5 ∧ (Tryd.prog.underlying 85).isSome = true ∧ el Tryd.prog 85 = none ∧ zc Tryd.prog 85 = some [.nilptr] ∧ by_ Tryd.prog 85 = some 8 := ⟨by kernel_rfl, by kernel_rfl, by kernel_rfl, by kernel_rfl, by kernel_rfl, by kernel_rfl⟩
end Go.Proofs.YtjnhalmeddafdaaDoor
set_option linter.unusedVariables false
set_option linter.unusedSimpArgs false
namespace Go.Proofs.YtjnhalmeddafdaaDoor
open Go Go.Av

inductive Term where
  | mk (kind : UInt8) (neg : Bool) (limbs : List UInt32) (text : List UInt8) (num : Int) (items tail : List Term)
instance : Inhabited Term := ⟨.mk 0 false [] [] 0 [] []⟩
def Term.kind : Term → UInt8 | .mk k _ _ _ _ _ _ => k
def Term.neg : Term → Bool | .mk _ g _ _ _ _ _ => g
def Term.limbs : Term → List UInt32 | .mk _ _ l _ _ _ _ => l
def Term.text : Term → List UInt8 | .mk _ _ _ s _ _ _ => s
def Term.num : Term → Int | .mk _ _ _ _ n _ _ => n
def Term.items : Term → List Term | .mk _ _ _ _ _ ks _ => ks
def Term.tail : Term → List Term | .mk _ _ _ _ _ _ ts => ts
/-- its kind, as a number -/
def Term.knd (t : Term) : Int := t.kind.toNat
theorem Term.knd_nn (t : Term) : 0 ≤ t.knd := Int.natCast_nonneg _
def limA (x : UInt32) : AV := .int .u32 x.toNat
def lims (l : List UInt32) : AV := .sl .none (l.map limA) []
def Term.enc : Term → AV
  | .mk k g l s n ks ts => .agg [.int .u8 k.toNat, .bool g, lims l, .str s, .int .i64 n, .sl .none (ks.map Term.enc) [], .sl .none (ts.map Term.enc) []]
def encs (l : List Term) : AV := .sl .none (l.map Term.enc) []
theorem Term.flat_enc (t : Term) : flat t.enc = [.int .u8 t.knd, .bool t.neg, lims t.limbs, .str t.text, .int .i64 t.num, encs t.items, encs t.tail] := by
  cases t; simp [Term.enc, flat, Term.knd, Term.kind, Term.neg, Term.limbs, Term.text, Term.num, Term.items, Term.tail, encs]
theorem Term.isv_enc (t : Term) : isv t.enc = true := by cases t; simp [Term.enc, isv]
theorem Term.fold_enc (t : Term) : AV.agg [.int .u8 t.knd, .bool t.neg, lims t.limbs, .str t.text, .int .i64 t.num, encs t.items, encs t.tail] = t.enc := by
  cases t; simp [Term.enc, Term.knd, Term.kind, Term.neg, Term.limbs, Term.text, Term.num, Term.items, Term.tail, encs]
theorem isv_encs (l : List Term) : isv (encs l) = true := rfl
theorem flat_encs (l : List Term) : flat (encs l) = [encs l] := rfl
theorem isv_lims (l : List UInt32) : isv (lims l) = true := rfl
theorem flat_lims (l : List UInt32) : flat (lims l) = [lims l] := rfl
theorem len_encs {P : Program} {t : TypeId} (l : List Term) : ablt P .len #[t] [encs l] = if (el P t).isSome then some (.int .i64 l.length) else none := by
  simp [encs, l_sl]
theorem len_lims {P : Program} {t : TypeId} (l : List UInt32) : ablt P .len #[t] [lims l] = if (el P t).isSome then some (.int .i64 l.length) else none := by
  simp [lims, l_sl]
theorem ix_encs {P : Program} {t : TypeId} {k : IntKind} (l : List Term) (i : Nat) : aindexA P t (encs l) (.int k (i : Int)) = ixk ((el P t).bind (tk P)) ((l[i]?).map Term.enc) := by
  simp [encs, aindexA_sl]
theorem ix_encs' {P : Program} {t : TypeId} {k : IntKind} (l : List Term) (i : Int) (h : 0 ≤ i) : aindexA P t (encs l) (.int k i) = ixk ((el P t).bind (tk P)) ((l[i.toNat]?).map Term.enc) := by
  simp [encs, aindexA_sl, h]
theorem ix_lims {P : Program} {t : TypeId} {k : IntKind} (l : List UInt32) (i : Nat) : aindexA P t (lims l) (.int k (i : Int)) = ixk ((el P t).bind (tk P)) ((l[i]?).map limA) := by
  simp [lims, aindexA_sl]
theorem ix_lims' {P : Program} {t : TypeId} {k : IntKind} (l : List UInt32) (i : Int) (h : 0 ≤ i) : aindexA P t (lims l) (.int k i) = ixk ((el P t).bind (tk P)) ((l[i.toNat]?).map limA) := by
  simp [lims, aindexA_sl, h]
theorem flat_limA (x : UInt32) : flat (limA x) = [limA x] := rfl
theorem Term.ind {P : Term → Prop} (h : ∀ t, (∀ k, k ∈ t.items → P k) → (∀ k, k ∈ t.tail → P k) → P t) : ∀ t, P t := by
  have key : ∀ n, ∀ t : Term, SizeOf.sizeOf t ≤ n → P t := by
    intro n
    induction n with
    | zero => intro t ht; cases t; simp at ht
    | succ n ih =>
      intro t ht
      cases t with
      | mk a b c d e ks ts =>
        refine h _ (fun k hk => ih k ?_) (fun k hk => ih k ?_)
        · have := List.sizeOf_lt_of_mem (show k ∈ ks from hk)
          simp at ht
          omega
        · have := List.sizeOf_lt_of_mem (show k ∈ ts from hk)
          simp at ht
          omega
  exact fun t => key _ t (Nat.le_refl _)

mutual
/-- how much a term is: parts, limbs and letters -/
def Term.bulk : Term → Nat
  | .mk _ _ l s _ ks ts => l.length + s.length + bulks ks + bulks ts + 1
def bulks : List Term → Nat
  | [] => 0
  | k :: ks => k.bulk + bulks ks
end
theorem Term.bulk_eq (t : Term) : t.bulk = t.limbs.length + t.text.length + bulks t.items + bulks t.tail + 1 := by cases t; simp [Term.bulk, Term.limbs, Term.text, Term.items, Term.tail]
theorem bulk_mem {l : List Term} {k : Term} (h : k ∈ l) : k.bulk ≤ bulks l := by
  induction l with
  | nil => cases h
  | cons x l ih =>
    simp only [bulks]
    rcases List.mem_cons.1 h with rfl | h
    · omega
    · have := ih h; omega
theorem bulks_append (l r : List Term) : bulks (l ++ r) = bulks l + bulks r := by
  induction l with
  | nil => simp [bulks]
  | cons x l ih => simp only [List.cons_append, bulks, ih]; omega
theorem len_le_bulks (l : List Term) : l.length ≤ bulks l := by
  induction l with
  | nil => simp [bulks]
  | cons x l ih => have := x.bulk_eq; simp only [List.length_cons, bulks]; omega
theorem bulk_item {k t : Term} (h : k ∈ t.items) : k.bulk < t.bulk := by
  have := bulk_mem h; have := t.bulk_eq; omega
theorem bulk_tail {k t : Term} (h : k ∈ t.tail) : k.bulk < t.bulk := by
  have := bulk_mem h; have := t.bulk_eq; omega
theorem len_items (t : Term) : t.items.length < t.bulk := by
  have := len_le_bulks t.items; have := t.bulk_eq; omega
theorem len_tail (t : Term) : t.tail.length < t.bulk := by
  have := len_le_bulks t.tail; have := t.bulk_eq; omega
theorem len_limbs (t : Term) : t.limbs.length < t.bulk := by
  have := t.bulk_eq; omega
theorem len_text (t : Term) : t.text.length < t.bulk := by
  have := t.bulk_eq; omega
theorem wrap_nat {x : Int} (h0 : -9223372036854775808 ≤ x) (h1 : x ≤ 9223372036854775807) : IntKind.i64.wrap x = x := by
  rw [IntKind.wrap_i64]; omega
theorem take_succ_get {α : Type} (l : List α) (i : Nat) (x : α) (h : l[i]? = some x) : l.take (i + 1) = l.take i ++ [x] := by
  rw [List.take_add_one, h]; rfl
theorem drop_get {α : Type} (l : List α) (i : Nat) (x : α) (h : l[i]? = some x) : l.drop i = x :: l.drop (i + 1) := by
  obtain ⟨hi, rfl⟩ := List.getElem?_eq_some_iff.1 h
  exact List.drop_eq_getElem_cons hi
theorem flat7 {l : List Term} : ∀ a, a ∈ l.map Term.enc → (flat a).length = 7 := fun a ha => by
  obtain ⟨x, _, rfl⟩ := List.mem_map.1 ha
  rw [x.flat_enc]; rfl
theorem flat1 {l : List UInt32} : ∀ a, a ∈ l.map limA → (flat a).length = 1 := fun a ha => by
  obtain ⟨x, _, rfl⟩ := List.mem_map.1 ha
  rfl
theorem ones (t : Term) : ∀ d, d ∈ flat t.enc → Av.one d = true := fun d hd => by rw [t.flat_enc] at hd; simp at hd; rcases hd with rfl | rfl | rfl | rfl | rfl | rfl | rfl <;> rfl
/-- pieces -/
theorem sl_encs {P : Program} {t : TypeId} (l : List Term) (lo hi : Option AV) (ht : ((el P t).bind (tk P)) = some (true, 7)) : aslice P t (encs l) lo hi = match abnd lo 0, abnd hi l.length with
    | some a, some b => if a ≤ b ∧ b ≤ l.length then some (encs ((l.take b).drop a)) else none
    | _, _ => none := by
  unfold encs
  rw [aslice_sl, ht, List.length_map]
  cases abnd lo 0 with
  | none => cases abnd hi l.length <;> rfl
  | some a =>
    cases abnd hi l.length with
    | none => rfl
    | some b =>
      rw [slk_plain flat7]
      simp only [List.length_map, List.map_drop, List.map_take]
theorem sl_lims {P : Program} {t : TypeId} (l : List UInt32) (lo hi : Option AV) (ht : ((el P t).bind (tk P)) = some (false, 1)) : aslice P t (lims l) lo hi = match abnd lo 0, abnd hi l.length with
    | some a, some b => if a ≤ b ∧ b ≤ l.length then some (lims ((l.take b).drop a)) else none
    | _, _ => none := by
  unfold lims
  rw [aslice_sl, ht, List.length_map]
  cases abnd lo 0 with
  | none => cases abnd hi l.length <;> rfl
  | some a =>
    cases abnd hi l.length with
    | none => rfl
    | some b =>
      rw [slk_plain flat1]
      simp only [List.length_map, List.map_drop, List.map_take]
end Go.Proofs.YtjnhalmeddafdaaDoor
set_option linter.unusedVariables false
set_option linter.unusedSimpArgs false
namespace Go.Proofs.YtjnhalmeddafdaaDoor
open Go Go.Av
def tbLims := And.intro (And.intro (And.intro @tf3 (And.intro @tf4 @tf5)) (And.intro @tf44 (And.intro @tf9 @tf23))) (And.intro (And.intro @isv_lims (And.intro @flat_lims @len_lims)) (And.intro @ix_lims (And.intro @ix_lims' @flat_limA)))
variable (G : Nat → AV)
def markI (k i : Int) : Int := IntKind.i64.wrap (IntKind.i64.wrap (1000003 * IntKind.i64.wrap (k + 7)) + i)
theorem mark_pure (k i : Int) : Pure Tryd.prog G 51 [.int .i64 k, .int .i64 i] (.int .i64 (markI k i)) := by
  intro σ
  refine Tri.of_awp mixed Tryd.func51 rfl (by kernel_rfl) (by kernel_rfl) (by simp [Tryd.ntmps51]) Tryd.results51 ?_
  repeat' (first
    | with_reducible refine condW_both (fun _ _ => ?_) (fun _ _ => ?_)
    | with_reducible refine gW_both (fun _ _ => ?_) (fun _ _ => ?_)
    | with_reducible refine condW_split (fun _ => ?_) (fun _ => ?_)
    | with_reducible refine gW_split (fun _ => ?_) (fun _ => ?_)
    | with_reducible refine pickW_split (fun _ => ?_) (fun _ => ?_)
    | (refine newW_intro ?_; intro bx hbx; (try simp only [fresh_box, fresh_tip, fresh_ty] at hbx))
    | (refine newT_plain ?_; intro bx hbx; (try simp only [fresh_box, fresh_tip, fresh_ty] at hbx))
    | refine storeX_w ?_
    | ((with_reducible refine And.intro ?_ ?_); omega)
    | refine bo_buildSlice (d' := ⟨⟩) ?_
    | (refine draw_all (by kernel_rfl) ?_)
    | refine finish_pure ?_ (by repeat' (first | exact AS.le.refl _ | assumption | (refine le_set (by first | assumption | (simp only [*]; done) | exact AS.le.fresh (by assumption) (by simp only [*])) ?_) | (refine le_ty (by first | assumption | (simp only [*]; done) | exact AS.le.fresh (by assumption) (by simp only [*])) ?_)))
    | simp -dsimp only [↓bp, bq, br, afin, bsk, cWrites, opsWrites, pieceGh, rsk, ne_eq, if_true, if_false, exists_eq_left', forall_const, forall_eq, Nat.reduceLT, Int.reduceSub, Nat.reduceAdd, Nat.reduceSub, Nat.reduceMul, Nat.reduceLeDiff, Nat.reduceEqDiff, Nat.reduceBEq, Nat.reduceBNe, Int.reduceNeg, Int.reduceAdd, Int.reduceMul, Int.reduceLE, Int.reduceLT, Int.reduceEq, Int.reduceToNat, reduceIte, reduceCtorEq, tbLims, *])
  all_goals rfl
theorem limA_ne {x y : UInt32} : ((x.toNat : Int) = (y.toNat : Int)) ↔ x = y := by
  constructor
  · intro h; exact UInt32.toNat_inj.1 (by omega)
  · rintro rfl; rfl
theorem take_next {α : Type} {l r : List α} {i : Nat} {x : α} (h : l.take i = r.take i) (hl : l[i]? = some x) (hr : r[i]? = some x) : l.take (i + 1) = r.take (i + 1) := by
  rw [take_succ_get _ _ _ hl, take_succ_get _ _ _ hr, h]
theorem take_all {α : Type} {l r : List α} (hl : l.length = r.length) (h : l.take l.length = r.take l.length) : l = r := by
  rw [List.take_length] at h
  rw [h, hl, List.take_length]
theorem samelims_pure (l r : List UInt32) (hl : l.length ≤ 1000000000) (hr : r.length ≤ 1000000000) : Pure Tryd.prog G 37 [lims l, lims r] (.bool (decide (l = r))) := by
  intro σ
  refine Tri.of_awp mixed Tryd.func37 rfl (by kernel_rfl) (by kernel_rfl) (by simp [Tryd.ntmps37]) Tryd.results37 ?_
  repeat' (first
    | with_reducible refine condW_both (fun _ _ => ?_) (fun _ _ => ?_)
    | with_reducible refine gW_both (fun _ _ => ?_) (fun _ _ => ?_)
    | with_reducible refine condW_split (fun _ => ?_) (fun _ => ?_)
    | with_reducible refine gW_split (fun _ => ?_) (fun _ => ?_)
    | with_reducible refine pickW_split (fun _ => ?_) (fun _ => ?_)
    | (refine newW_intro ?_; intro bx hbx; (try simp only [fresh_box, fresh_tip, fresh_ty] at hbx))
    | (refine newT_plain ?_; intro bx hbx; (try simp only [fresh_box, fresh_tip, fresh_ty] at hbx))
    | refine storeX_w ?_
    | ((with_reducible refine And.intro ?_ ?_); omega)
    | refine bo_buildSlice (d' := ⟨⟩) ?_
    | (refine draw_all (by kernel_rfl) ?_)
    | refine finish_pure ?_ (by repeat' (first | exact AS.le.refl _ | assumption | (refine le_set (by first | assumption | (simp only [*]; done) | exact AS.le.fresh (by assumption) (by simp only [*])) ?_) | (refine le_ty (by first | assumption | (simp only [*]; done) | exact AS.le.fresh (by assumption) (by simp only [*])) ?_)))
    | simp -dsimp only [↓bp, bq, br, afin, bsk, cWrites, opsWrites, pieceGh, rsk, ne_eq, if_true, if_false, exists_eq_left', forall_const, forall_eq, Nat.reduceLT, Int.reduceSub, Nat.reduceAdd, Nat.reduceSub, Nat.reduceMul, Nat.reduceLeDiff, Nat.reduceEqDiff, Nat.reduceBEq, Nat.reduceBNe, Int.reduceNeg, Int.reduceAdd, Int.reduceMul, Int.reduceLE, Int.reduceLT, Int.reduceEq, Int.reduceToNat, reduceIte, reduceCtorEq, tbLims, *])
  rotate_right
  · skip
    refine loop_keep mixed (fun n e => ∃ i : Nat, i ≤ (l).length ∧ n = (l).length - i ∧ e 5 = .int .i64 i ∧ l.take i = r.take i) (l).length
        ⟨0, by omega, by omega, by simp -dsimp only [↓bp, bq, br, afin, bsk, cWrites, opsWrites, pieceGh, rsk, ne_eq, if_true, if_false, exists_eq_left', forall_const, forall_eq, Nat.reduceLT, Int.reduceSub, Nat.reduceAdd, Nat.reduceSub, Nat.reduceMul, Nat.reduceLeDiff, Nat.reduceEqDiff, Nat.reduceBEq, Nat.reduceBNe, Int.reduceNeg, Int.reduceAdd, Int.reduceMul, Int.reduceLE, Int.reduceLT, Int.reduceEq, Int.reduceToNat, reduceIte, reduceCtorEq, tbLims]; first | done | rfl, rfl⟩ ?_
    rintro n v ⟨i, hi, rfl, h5, htk⟩
    simp -dsimp only [↓bp, bq, br, afin, bsk, cWrites, opsWrites, pieceGh, rsk, ne_eq, if_true, if_false, exists_eq_left', forall_const, forall_eq, Nat.reduceLT, Int.reduceSub, Nat.reduceAdd, Nat.reduceSub, Nat.reduceMul, Nat.reduceLeDiff, Nat.reduceEqDiff, Nat.reduceBEq, Nat.reduceBNe, Int.reduceNeg, Int.reduceAdd, Int.reduceMul, Int.reduceLE, Int.reduceLT, Int.reduceEq, Int.reduceToNat, reduceIte, reduceCtorEq, tbLims] at h5
    simp -dsimp only [↓bp, bq, br, afin, bsk, cWrites, opsWrites, pieceGh, rsk, ne_eq, if_true, if_false, exists_eq_left', forall_const, forall_eq, Nat.reduceLT, Int.reduceSub, Nat.reduceAdd, Nat.reduceSub, Nat.reduceMul, Nat.reduceLeDiff, Nat.reduceEqDiff, Nat.reduceBEq, Nat.reduceBNe, Int.reduceNeg, Int.reduceAdd, Int.reduceMul, Int.reduceLE, Int.reduceLT, Int.reduceEq, Int.reduceToNat, reduceIte, reduceCtorEq, tbLims, h5]
    refine condW_dec (fun hlt => ?_) (fun hge => ?_)
    · obtain ⟨x, hx⟩ : ∃ x, l[i]? = some x := ⟨_, List.getElem?_eq_getElem (by omega)⟩
      obtain ⟨y, hy⟩ : ∃ y, r[i]? = some y := ⟨_, List.getElem?_eq_getElem (by omega)⟩
      clear hi hlt
      repeat' (first
    | with_reducible refine condW_both (fun _ _ => ?_) (fun _ _ => ?_)
    | with_reducible refine gW_both (fun _ _ => ?_) (fun _ _ => ?_)
    | with_reducible refine condW_split (fun _ => ?_) (fun _ => ?_)
    | with_reducible refine gW_split (fun _ => ?_) (fun _ => ?_)
    | with_reducible refine pickW_split (fun _ => ?_) (fun _ => ?_)
    | (refine newW_intro ?_; intro bx hbx; (try simp only [fresh_box, fresh_tip, fresh_ty] at hbx))
    | (refine newT_plain ?_; intro bx hbx; (try simp only [fresh_box, fresh_tip, fresh_ty] at hbx))
    | refine storeX_w ?_
    | ((with_reducible refine And.intro ?_ ?_); omega)
    | refine bo_buildSlice (d' := ⟨⟩) ?_
    | (refine draw_all (by kernel_rfl) ?_)
    | refine finish_pure ?_ (by repeat' (first | exact AS.le.refl _ | assumption | (refine le_set (by first | assumption | (simp only [*]; done) | exact AS.le.fresh (by assumption) (by simp only [*])) ?_) | (refine le_ty (by first | assumption | (simp only [*]; done) | exact AS.le.fresh (by assumption) (by simp only [*])) ?_)))
    | simp -dsimp only [↓bp, bq, br, afin, bsk, cWrites, opsWrites, pieceGh, rsk, ne_eq, if_true, if_false, exists_eq_left', forall_const, forall_eq, Nat.reduceLT, Int.reduceSub, Nat.reduceAdd, Nat.reduceSub, Nat.reduceMul, Nat.reduceLeDiff, Nat.reduceEqDiff, Nat.reduceBEq, Nat.reduceBNe, Int.reduceNeg, Int.reduceAdd, Int.reduceMul, Int.reduceLE, Int.reduceLT, Int.reduceEq, Int.reduceToNat, reduceIte, reduceCtorEq, tbLims, limA, *])
      · have hxy : l ≠ r := fun e => by subst e; rw [hx] at hy; simp only [Option.some.injEq] at hy; subst hy; simp_all
        simp [hxy]
      · have hxy : x = y := limA_ne.1 (by simp_all)
        subst hxy
        have hlt := (List.getElem?_eq_some_iff.1 hx).1
        exact ⟨l.length - (i + 1), by omega, i + 1, by omega, rfl, by rw [wrap_nat (by omega) (by omega)]; rfl, take_next htk hx hy⟩
    · have : i = l.length := by omega
      subst this
      have hlr : l = r := take_all (by omega) htk
      clear hi hge
      repeat' (first
    | with_reducible refine condW_both (fun _ _ => ?_) (fun _ _ => ?_)
    | with_reducible refine gW_both (fun _ _ => ?_) (fun _ _ => ?_)
    | with_reducible refine condW_split (fun _ => ?_) (fun _ => ?_)
    | with_reducible refine gW_split (fun _ => ?_) (fun _ => ?_)
    | with_reducible refine pickW_split (fun _ => ?_) (fun _ => ?_)
    | (refine newW_intro ?_; intro bx hbx; (try simp only [fresh_box, fresh_tip, fresh_ty] at hbx))
    | (refine newT_plain ?_; intro bx hbx; (try simp only [fresh_box, fresh_tip, fresh_ty] at hbx))
    | refine storeX_w ?_
    | ((with_reducible refine And.intro ?_ ?_); omega)
    | refine bo_buildSlice (d' := ⟨⟩) ?_
    | (refine draw_all (by kernel_rfl) ?_)
    | refine finish_pure ?_ (by repeat' (first | exact AS.le.refl _ | assumption | (refine le_set (by first | assumption | (simp only [*]; done) | exact AS.le.fresh (by assumption) (by simp only [*])) ?_) | (refine le_ty (by first | assumption | (simp only [*]; done) | exact AS.le.fresh (by assumption) (by simp only [*])) ?_)))
    | simp -dsimp only [↓bp, bq, br, afin, bsk, cWrites, opsWrites, pieceGh, rsk, ne_eq, if_true, if_false, exists_eq_left', forall_const, forall_eq, Nat.reduceLT, Int.reduceSub, Nat.reduceAdd, Nat.reduceSub, Nat.reduceMul, Nat.reduceLeDiff, Nat.reduceEqDiff, Nat.reduceBEq, Nat.reduceBNe, Int.reduceNeg, Int.reduceAdd, Int.reduceMul, Int.reduceLE, Int.reduceLT, Int.reduceEq, Int.reduceToNat, reduceIte, reduceCtorEq, tbLims, *])
      all_goals simp [hlr]
  · have : l ≠ r := fun e => by subst e; simp_all
    simp [this]
/-! with twelve marks behind -/
def lmk (i : Int) : AV := .int .u32 (IntKind.u32.wrap (markI 1 i))
def lmarksTo (i : Nat) : List AV := (List.range i).map fun (i : Nat) => lmk (i : Int)
theorem lmarksTo_succ (i : Nat) : lmarksTo (i + 1) = lmarksTo i ++ [lmk (i : Int)] := by simp [lmarksTo, List.range_succ]
theorem lmarksTo_len (i : Nat) : (lmarksTo i).length = i := by simp [lmarksTo]
def lmarks : List AV := lmarksTo 12
def lentLims (l : List UInt32) : AV := .sl .none (l.map limA) lmarks
theorem isv_lentLims (l : List UInt32) : isv (lentLims l) = true := rfl
theorem flat_lentLims (l : List UInt32) : flat (lentLims l) = [lentLims l] := rfl
theorem lentLims_le (l : List UInt32) : Le (lentLims l) (lims l) := Le.spare
theorem tfL : aelt Tryd.prog 23 = some (44, 1, 4) := tf23.2.2.2.2.2.2
theorem tfLE : el Tryd.prog 23 = some 44 := tf23.2.2.2.1
theorem lentlims_pure (l : List UInt32) (hl : l.length ≤ 1000000000) : Pure Tryd.prog G 29 [lims l] (lentLims l) := by
  refine Pure.of_le fun σ => ?_
  have hw0 : IntKind.i64.wrap ((l.length : Int) + 12) = l.length + 12 := wrap_nat (by omega) (by omega)
  refine Tri.of_awp mixed Tryd.func29 rfl (by kernel_rfl) (by kernel_rfl) (by simp [Tryd.ntmps29]) Tryd.results29 ?_
  simp -dsimp only [↓bp, bq, br, afin, bsk, cWrites, opsWrites, pieceGh, rsk, ne_eq, if_true, if_false, exists_eq_left', forall_const, forall_eq, Nat.reduceLT, Int.reduceSub, Nat.reduceAdd, Nat.reduceSub, Nat.reduceMul, Nat.reduceLeDiff, Nat.reduceEqDiff, Nat.reduceBEq, Nat.reduceBNe, Int.reduceNeg, Int.reduceAdd, Int.reduceMul, Int.reduceLE, Int.reduceLT, Int.reduceEq, Int.reduceToNat, reduceIte, reduceCtorEq, tbLims, hw0]
  refine make_buf tfL (by omega) (by omega) (AS.le.refl σ) (fun v σ1 hB1 hx1 => ?_)
  simp -dsimp only [↓bp, bq, br, afin, bsk, cWrites, opsWrites, pieceGh, rsk, ne_eq, if_true, if_false, exists_eq_left', forall_const, forall_eq, Nat.reduceLT, Int.reduceSub, Nat.reduceAdd, Nat.reduceSub, Nat.reduceMul, Nat.reduceLeDiff, Nat.reduceEqDiff, Nat.reduceBEq, Nat.reduceBNe, Int.reduceNeg, Int.reduceAdd, Int.reduceMul, Int.reduceLE, Int.reduceLT, Int.reduceEq, Int.reduceToNat, reduceIte, reduceCtorEq, tbLims]
  refine app_buf (ys := l.map limA) hB1 tfL (asrc_sl tfLE) flat1 (by simp; omega) (fun v σ2 hB2 hx2 => ?_)
  simp -dsimp only [↓bp, bq, br, afin, bsk, cWrites, opsWrites, pieceGh, rsk, ne_eq, if_true, if_false, exists_eq_left', forall_const, forall_eq, Nat.reduceLT, Int.reduceSub, Nat.reduceAdd, Nat.reduceSub, Nat.reduceMul, Nat.reduceLeDiff, Nat.reduceEqDiff, Nat.reduceBEq, Nat.reduceBNe, Int.reduceNeg, Int.reduceAdd, Int.reduceMul, Int.reduceLE, Int.reduceLT, Int.reduceEq, Int.reduceToNat, reduceIte, reduceCtorEq, tbLims]
  rw [List.nil_append] at hB2
  refine loop_intro (fun n e σ' => ∃ (i : Nat) (v : AV), i ≤ 12 ∧ n = 12 - i ∧ e 4 = .int .i64 i ∧ e 3 = v ∧ Buf 1 σ σ' v (l.map limA ++ lmarksTo i)) 12
    ⟨0, v, by omega, by omega, by simp -dsimp only [↓bp, bq, br, afin, bsk, cWrites, opsWrites, pieceGh, rsk, ne_eq, if_true, if_false, exists_eq_left', forall_const, forall_eq, Nat.reduceLT, Int.reduceSub, Nat.reduceAdd, Nat.reduceSub, Nat.reduceMul, Nat.reduceLeDiff, Nat.reduceEqDiff, Nat.reduceBEq, Nat.reduceBNe, Int.reduceNeg, Int.reduceAdd, Int.reduceMul, Int.reduceLE, Int.reduceLT, Int.reduceEq, Int.reduceToNat, reduceIte, reduceCtorEq, tbLims]; rfl, by simp -dsimp only [↓bp, bq, br, afin, bsk, cWrites, opsWrites, pieceGh, rsk, ne_eq, if_true, if_false, exists_eq_left', forall_const, forall_eq, Nat.reduceLT, Int.reduceSub, Nat.reduceAdd, Nat.reduceSub, Nat.reduceMul, Nat.reduceLeDiff, Nat.reduceEqDiff, Nat.reduceBEq, Nat.reduceBNe, Int.reduceNeg, Int.reduceAdd, Int.reduceMul, Int.reduceLE, Int.reduceLT, Int.reduceEq, Int.reduceToNat, reduceIte, reduceCtorEq, tbLims], by simpa [lmarksTo] using hB2⟩ ?_
  rintro n e2 σ3 ⟨i, v3, hi2, rfl, h4, h3, hB3⟩
  simp -dsimp only [↓bp, bq, br, afin, bsk, cWrites, opsWrites, pieceGh, rsk, ne_eq, if_true, if_false, exists_eq_left', forall_const, forall_eq, Nat.reduceLT, Int.reduceSub, Nat.reduceAdd, Nat.reduceSub, Nat.reduceMul, Nat.reduceLeDiff, Nat.reduceEqDiff, Nat.reduceBEq, Nat.reduceBNe, Int.reduceNeg, Int.reduceAdd, Int.reduceMul, Int.reduceLE, Int.reduceLT, Int.reduceEq, Int.reduceToNat, reduceIte, reduceCtorEq, tbLims] at h4 h3
  simp -dsimp only [↓bp, bq, br, afin, bsk, cWrites, opsWrites, pieceGh, rsk, ne_eq, if_true, if_false, exists_eq_left', forall_const, forall_eq, Nat.reduceLT, Int.reduceSub, Nat.reduceAdd, Nat.reduceSub, Nat.reduceMul, Nat.reduceLeDiff, Nat.reduceEqDiff, Nat.reduceBEq, Nat.reduceBNe, Int.reduceNeg, Int.reduceAdd, Int.reduceMul, Int.reduceLE, Int.reduceLT, Int.reduceEq, Int.reduceToNat, reduceIte, reduceCtorEq, tbLims, h4, h3]
  refine condW_dec (fun hlt => ?_) (fun hge => ?_)
  · simp -dsimp only [↓bp, bq, br, afin, bsk, cWrites, opsWrites, pieceGh, rsk, ne_eq, if_true, if_false, exists_eq_left', forall_const, forall_eq, Nat.reduceLT, Int.reduceSub, Nat.reduceAdd, Nat.reduceSub, Nat.reduceMul, Nat.reduceLeDiff, Nat.reduceEqDiff, Nat.reduceBEq, Nat.reduceBNe, Int.reduceNeg, Int.reduceAdd, Int.reduceMul, Int.reduceLE, Int.reduceLT, Int.reduceEq, Int.reduceToNat, reduceIte, reduceCtorEq, tbLims, h4, h3]
    refine Pure.use (mark_pure G 1 i) ?_
    simp -dsimp only [↓bp, bq, br, afin, bsk, cWrites, opsWrites, pieceGh, rsk, ne_eq, if_true, if_false, exists_eq_left', forall_const, forall_eq, Nat.reduceLT, Int.reduceSub, Nat.reduceAdd, Nat.reduceSub, Nat.reduceMul, Nat.reduceLeDiff, Nat.reduceEqDiff, Nat.reduceBEq, Nat.reduceBNe, Int.reduceNeg, Int.reduceAdd, Int.reduceMul, Int.reduceLE, Int.reduceLT, Int.reduceEq, Int.reduceToNat, reduceIte, reduceCtorEq, tbLims, h4, h3]
    refine build_one tfL rfl rfl (by omega) ?_
    simp -dsimp only [↓bp, bq, br, afin, bsk, cWrites, opsWrites, pieceGh, rsk, ne_eq, if_true, if_false, exists_eq_left', forall_const, forall_eq, Nat.reduceLT, Int.reduceSub, Nat.reduceAdd, Nat.reduceSub, Nat.reduceMul, Nat.reduceLeDiff, Nat.reduceEqDiff, Nat.reduceBEq, Nat.reduceBNe, Int.reduceNeg, Int.reduceAdd, Int.reduceMul, Int.reduceLE, Int.reduceLT, Int.reduceEq, Int.reduceToNat, reduceIte, reduceCtorEq, tbLims, h4, h3]
    refine app_buf (ys := [lmk (i : Int)]) hB3 tfL (asrc_sl tfLE) (fun a ha => by simp at ha; subst ha; rfl) (by simp [lmarksTo_len]; omega) (fun v4 σ4 hB4 hx4 => ?_)
    simp -dsimp only [↓bp, bq, br, afin, bsk, cWrites, opsWrites, pieceGh, rsk, ne_eq, if_true, if_false, exists_eq_left', forall_const, forall_eq, Nat.reduceLT, Int.reduceSub, Nat.reduceAdd, Nat.reduceSub, Nat.reduceMul, Nat.reduceLeDiff, Nat.reduceEqDiff, Nat.reduceBEq, Nat.reduceBNe, Int.reduceNeg, Int.reduceAdd, Int.reduceMul, Int.reduceLE, Int.reduceLT, Int.reduceEq, Int.reduceToNat, reduceIte, reduceCtorEq, tbLims, h4, h3]
    refine ⟨12 - (i + 1), by omega, i + 1, v4, by omega, rfl, ?_, rfl, ?_⟩
    · rw [wrap_nat (by omega) (by omega)]; rfl
    · rw [lmarksTo_succ, ← List.append_assoc]; exact hB4
  · have : i = 12 := by omega
    subst this
    simp -dsimp only [↓bp, bq, br, afin, bsk, cWrites, opsWrites, pieceGh, rsk, ne_eq, if_true, if_false, exists_eq_left', forall_const, forall_eq, Nat.reduceLT, Int.reduceSub, Nat.reduceAdd, Nat.reduceSub, Nat.reduceMul, Nat.reduceLeDiff, Nat.reduceEqDiff, Nat.reduceBEq, Nat.reduceBNe, Int.reduceNeg, Int.reduceAdd, Int.reduceMul, Int.reduceLE, Int.reduceLT, Int.reduceEq, Int.reduceToNat, reduceIte, reduceCtorEq, tbLims, h4, h3]
    rcases hB3.isNil with ⟨hn, _⟩ | ⟨b, hb⟩
    · have := congrArg List.length hn; simp [lmarksTo_len] at this
    · subst hb
      refine piece (l := 0) (h := l.length) tfLE tf44.1 rfl (by simp [abnd]) (by omega) (by simp) (fun a ha => ?_) (fun g' => ?_)
      · rw [List.append_nil] at ha
        cases hB3 with
        | own _ _ _ _ _ hx => exact hx a ha
      · simp -dsimp only [↓bp, bq, br, afin, bsk, cWrites, opsWrites, pieceGh, rsk, ne_eq, if_true, if_false, exists_eq_left', forall_const, forall_eq, Nat.reduceLT, Int.reduceSub, Nat.reduceAdd, Nat.reduceSub, Nat.reduceMul, Nat.reduceLeDiff, Nat.reduceEqDiff, Nat.reduceBEq, Nat.reduceBNe, Int.reduceNeg, Int.reduceAdd, Int.reduceMul, Int.reduceLE, Int.reduceLT, Int.reduceEq, Int.reduceToNat, reduceIte, reduceCtorEq, tbLims, h4, h3]
        refine finish_le ?_ hB3.le
        have e1 : (l.map limA ++ lmarksTo 12).take l.length = l.map limA := by
          rw [List.take_append_of_le_length (by simp), List.take_of_length_le (by simp)]
        have e2 : (l.map limA ++ lmarksTo 12).drop l.length = lmarks := by
          rw [List.drop_append_of_le_length (by simp), List.drop_eq_nil_of_le (by simp)]; rfl
        rw [e1, e2]
        exact Le.gh
theorem len_lentLims {P : Program} {t : TypeId} (l : List UInt32) : ablt P .len #[t] [lentLims l] = if (el P t).isSome then some (.int .i64 l.length) else none := by
  simp [lentLims, l_sl]
theorem sl_lentLims {t : TypeId} (l : List UInt32) (h : Int) (hh : h = l.length + 12) (ht : t = 23) {K : AV → Prop} {d : Dum K} (hK : ∀ g, K (.sl g (l.map limA ++ lmarks) [])) : bo (aslice Tryd.prog t (lentLims l) none (some (.int .i64 h))) K d := by
  subst hh ht
  refine piece (l := 0) (h := l.length + 12) tfLE tf44.1 rfl (by simp [abnd]; omega) (by omega) (by simp [lmarks, lmarksTo_len]) (fun a ha => ?_) (fun g' => ?_)
  · rcases List.mem_append.1 ha with ha | ha
    · exact flat1 a ha
    · obtain ⟨i, _, rfl⟩ := List.mem_map.1 ha
      rfl
  · have e1 : ((l.map limA ++ lmarks).take (l.length + 12)).drop 0 = l.map limA ++ lmarks := by
      rw [List.drop_zero, List.take_of_length_le (by simp [lmarks, lmarksTo_len])]
    have e2 : (l.map limA ++ lmarks).drop (l.length + 12) = [] := List.drop_eq_nil_of_le (by simp [lmarks, lmarksTo_len])
    rw [e1, e2]
    have hml : lmarks.length = 12 := by simp [lmarks, lmarksTo_len]
    unfold slim
    split
    · rename_i heq _
      have h2 : lmarks = [] := by injection heq
      rw [h2] at hml
      cases hml
    · exact hK g'
theorem keptlims_pure (l : List UInt32) (hl : l.length ≤ 1000000000) : Pure Tryd.prog G 34 [lentLims l, lims l] (.bool true) := by
  intro σ
  have hw0 : IntKind.i64.wrap ((l.length : Int) + 12) = l.length + 12 := wrap_nat (by omega) (by omega)
  have hml : lmarks.length = 12 := by simp [lmarks, lmarksTo_len]
  refine Tri.of_awp mixed Tryd.func34 rfl (by kernel_rfl) (by kernel_rfl) (by simp [Tryd.ntmps34]) Tryd.results34 ?_
  simp -dsimp only [↓bp, bq, br, afin, bsk, cWrites, opsWrites, pieceGh, rsk, ne_eq, if_true, if_false, exists_eq_left', forall_const, forall_eq, Nat.reduceLT, Int.reduceSub, Nat.reduceAdd, Nat.reduceSub, Nat.reduceMul, Nat.reduceLeDiff, Nat.reduceEqDiff, Nat.reduceBEq, Nat.reduceBNe, Int.reduceNeg, Int.reduceAdd, Int.reduceMul, Int.reduceLE, Int.reduceLT, Int.reduceEq, Int.reduceToNat, reduceIte, reduceCtorEq, tbLims, hw0, len_lentLims]
  refine sl_lentLims l _ rfl rfl fun g => ?_
  simp -dsimp only [↓bp, bq, br, afin, bsk, cWrites, opsWrites, pieceGh, rsk, ne_eq, if_true, if_false, exists_eq_left', forall_const, forall_eq, Nat.reduceLT, Int.reduceSub, Nat.reduceAdd, Nat.reduceSub, Nat.reduceMul, Nat.reduceLeDiff, Nat.reduceEqDiff, Nat.reduceBEq, Nat.reduceBNe, Int.reduceNeg, Int.reduceAdd, Int.reduceMul, Int.reduceLE, Int.reduceLT, Int.reduceEq, Int.reduceToNat, reduceIte, reduceCtorEq, tbLims]
  refine loop_intro (fun n e σ' => ∃ i : Nat, i ≤ ((l.map limA ++ lmarks)).length ∧ n = ((l.map limA ++ lmarks)).length - i ∧ e 6 = .int .i64 i ∧ σ.le σ') ((l.map limA ++ lmarks)).length
      ⟨0, by omega, by omega, by simp -dsimp only [↓bp, bq, br, afin, bsk, cWrites, opsWrites, pieceGh, rsk, ne_eq, if_true, if_false, exists_eq_left', forall_const, forall_eq, Nat.reduceLT, Int.reduceSub, Nat.reduceAdd, Nat.reduceSub, Nat.reduceMul, Nat.reduceLeDiff, Nat.reduceEqDiff, Nat.reduceBEq, Nat.reduceBNe, Int.reduceNeg, Int.reduceAdd, Int.reduceMul, Int.reduceLE, Int.reduceLT, Int.reduceEq, Int.reduceToNat, reduceIte, reduceCtorEq, tbLims]; first | done | rfl, AS.le.refl σ⟩ ?_
  rintro n v σ' ⟨i, hi, rfl, h6, hle⟩
  simp -dsimp only [↓bp, bq, br, afin, bsk, cWrites, opsWrites, pieceGh, rsk, ne_eq, if_true, if_false, exists_eq_left', forall_const, forall_eq, Nat.reduceLT, Int.reduceSub, Nat.reduceAdd, Nat.reduceSub, Nat.reduceMul, Nat.reduceLeDiff, Nat.reduceEqDiff, Nat.reduceBEq, Nat.reduceBNe, Int.reduceNeg, Int.reduceAdd, Int.reduceMul, Int.reduceLE, Int.reduceLT, Int.reduceEq, Int.reduceToNat, reduceIte, reduceCtorEq, tbLims] at h6
  simp -dsimp only [↓bp, bq, br, afin, bsk, cWrites, opsWrites, pieceGh, rsk, ne_eq, if_true, if_false, exists_eq_left', forall_const, forall_eq, Nat.reduceLT, Int.reduceSub, Nat.reduceAdd, Nat.reduceSub, Nat.reduceMul, Nat.reduceLeDiff, Nat.reduceEqDiff, Nat.reduceBEq, Nat.reduceBNe, Int.reduceNeg, Int.reduceAdd, Int.reduceMul, Int.reduceLE, Int.reduceLT, Int.reduceEq, Int.reduceToNat, reduceIte, reduceCtorEq, tbLims, h6]
  refine condW_dec (fun hlt => ?_) (fun hge => ?_)
  · have hl3 : i < l.length + 12 := by rw [List.length_append, List.length_map, hml] at hlt; omega
    by_cases hi2 : (i : Int) < l.length
    · obtain ⟨k, hk⟩ : ∃ k, l[i]? = some k := ⟨_, List.getElem?_eq_getElem (by omega)⟩
      have hx : (l.map limA ++ lmarks)[i]? = some (limA k) := by rw [List.getElem?_append_left (by simp; omega), List.getElem?_map, hk]; rfl
      have hge : ¬ (l.length : Int) ≤ i := by omega
      clear hi hlt
      repeat' (first
    | with_reducible refine condW_both (fun _ _ => ?_) (fun _ _ => ?_)
    | with_reducible refine gW_both (fun _ _ => ?_) (fun _ _ => ?_)
    | with_reducible refine condW_split (fun _ => ?_) (fun _ => ?_)
    | with_reducible refine gW_split (fun _ => ?_) (fun _ => ?_)
    | with_reducible refine pickW_split (fun _ => ?_) (fun _ => ?_)
    | (refine newW_intro ?_; intro bx hbx; (try simp only [fresh_box, fresh_tip, fresh_ty] at hbx))
    | (refine newT_plain ?_; intro bx hbx; (try simp only [fresh_box, fresh_tip, fresh_ty] at hbx))
    | refine storeX_w ?_
    | ((with_reducible refine And.intro ?_ ?_); omega)
    | refine bo_buildSlice (d' := ⟨⟩) ?_
    | (refine draw_all (by kernel_rfl) ?_)
    | refine finish_pure ?_ (by repeat' (first | exact AS.le.refl _ | assumption | (refine le_set (by first | assumption | (simp only [*]; done) | exact AS.le.fresh (by assumption) (by simp only [*])) ?_) | (refine le_ty (by first | assumption | (simp only [*]; done) | exact AS.le.fresh (by assumption) (by simp only [*])) ?_)))
    | simp -dsimp only [↓bp, bq, br, afin, bsk, cWrites, opsWrites, pieceGh, rsk, ne_eq, if_true, if_false, exists_eq_left', forall_const, forall_eq, Nat.reduceLT, Int.reduceSub, Nat.reduceAdd, Nat.reduceSub, Nat.reduceMul, Nat.reduceLeDiff, Nat.reduceEqDiff, Nat.reduceBEq, Nat.reduceBNe, Int.reduceNeg, Int.reduceAdd, Int.reduceMul, Int.reduceLE, Int.reduceLT, Int.reduceEq, Int.reduceToNat, reduceIte, reduceCtorEq, tbLims, limA, isv_lentLims, flat_lentLims, len_lentLims, *])
      all_goals (have hl2 : (l.map limA ++ lmarks).length = l.length + 12 := by simp [hml])
      all_goals exact ⟨(l.map limA ++ lmarks).length - (i + 1), by omega, i + 1, by omega, rfl, by rw [wrap_nat (by omega) (by omega)]; rfl⟩
    · have hx : (l.map limA ++ lmarks)[i]? = some (lmk ((i - l.length : Nat) : Int)) := by
        rw [List.getElem?_append_right (by simp; omega), List.length_map]
        have : i - l.length < 12 := by omega
        simp [lmarks, lmarksTo, this]
      have hge : (l.length : Int) ≤ i := by omega
      have hw1 : IntKind.i64.wrap ((i : Int) - l.length) = ((i - l.length : Nat) : Int) := by rw [wrap_nat (by omega) (by omega)]; omega
      clear hi hlt
      repeat' (first
    | with_reducible refine condW_both (fun _ _ => ?_) (fun _ _ => ?_)
    | with_reducible refine gW_both (fun _ _ => ?_) (fun _ _ => ?_)
    | with_reducible refine condW_split (fun _ => ?_) (fun _ => ?_)
    | with_reducible refine gW_split (fun _ => ?_) (fun _ => ?_)
    | with_reducible refine pickW_split (fun _ => ?_) (fun _ => ?_)
    | (refine newW_intro ?_; intro bx hbx; (try simp only [fresh_box, fresh_tip, fresh_ty] at hbx))
    | (refine newT_plain ?_; intro bx hbx; (try simp only [fresh_box, fresh_tip, fresh_ty] at hbx))
    | refine Pure.use (mark_pure G 1 _) ?_
    | refine Pure.head (mark_pure G 1 _) ?_
    | refine storeX_w ?_
    | ((with_reducible refine And.intro ?_ ?_); omega)
    | refine bo_buildSlice (d' := ⟨⟩) ?_
    | (refine draw_all (by kernel_rfl) ?_)
    | refine finish_pure ?_ (by repeat' (first | exact AS.le.refl _ | assumption | (refine le_set (by first | assumption | (simp only [*]; done) | exact AS.le.fresh (by assumption) (by simp only [*])) ?_) | (refine le_ty (by first | assumption | (simp only [*]; done) | exact AS.le.fresh (by assumption) (by simp only [*])) ?_)))
    | simp -dsimp only [↓bp, bq, br, afin, bsk, cWrites, opsWrites, pieceGh, rsk, ne_eq, if_true, if_false, exists_eq_left', forall_const, forall_eq, Nat.reduceLT, Int.reduceSub, Nat.reduceAdd, Nat.reduceSub, Nat.reduceMul, Nat.reduceLeDiff, Nat.reduceEqDiff, Nat.reduceBEq, Nat.reduceBNe, Int.reduceNeg, Int.reduceAdd, Int.reduceMul, Int.reduceLE, Int.reduceLT, Int.reduceEq, Int.reduceToNat, reduceIte, reduceCtorEq, tbLims, lmk, isv_lentLims, flat_lentLims, len_lentLims, *])
      all_goals (have hl2 : (l.map limA ++ lmarks).length = l.length + 12 := by simp [hml])
      all_goals exact ⟨(l.map limA ++ lmarks).length - (i + 1), by omega, i + 1, by omega, rfl, by rw [wrap_nat (by omega) (by omega)]; rfl⟩
  · have : i = (l.map limA ++ lmarks).length := by omega
    subst this
    clear hi hge
    repeat' (first
    | with_reducible refine condW_both (fun _ _ => ?_) (fun _ _ => ?_)
    | with_reducible refine gW_both (fun _ _ => ?_) (fun _ _ => ?_)
    | with_reducible refine condW_split (fun _ => ?_) (fun _ => ?_)
    | with_reducible refine gW_split (fun _ => ?_) (fun _ => ?_)
    | with_reducible refine pickW_split (fun _ => ?_) (fun _ => ?_)
    | (refine newW_intro ?_; intro bx hbx; (try simp only [fresh_box, fresh_tip, fresh_ty] at hbx))
    | (refine newT_plain ?_; intro bx hbx; (try simp only [fresh_box, fresh_tip, fresh_ty] at hbx))
    | refine storeX_w ?_
    | ((with_reducible refine And.intro ?_ ?_); omega)
    | refine bo_buildSlice (d' := ⟨⟩) ?_
    | (refine draw_all (by kernel_rfl) ?_)
    | refine finish_pure ?_ (by repeat' (first | exact AS.le.refl _ | assumption | (refine le_set (by first | assumption | (simp only [*]; done) | exact AS.le.fresh (by assumption) (by simp only [*])) ?_) | (refine le_ty (by first | assumption | (simp only [*]; done) | exact AS.le.fresh (by assumption) (by simp only [*])) ?_)))
    | simp -dsimp only [↓bp, bq, br, afin, bsk, cWrites, opsWrites, pieceGh, rsk, ne_eq, if_true, if_false, exists_eq_left', forall_const, forall_eq, Nat.reduceLT, Int.reduceSub, Nat.reduceAdd, Nat.reduceSub, Nat.reduceMul, Nat.reduceLeDiff, Nat.reduceEqDiff, Nat.reduceBEq, Nat.reduceBNe, Int.reduceNeg, Int.reduceAdd, Int.reduceMul, Int.reduceLE, Int.reduceLT, Int.reduceEq, Int.reduceToNat, reduceIte, reduceCtorEq, tbLims, *])
    all_goals rfl
/-- a row in memory of its own -/
theorem clone_tri (l : List UInt32) (hl : l.length ≤ 1000000000) (σ : AS) : Tri Tryd.prog G 39 [lims l] σ fun r σ' => Le r (lims l) ∧ σ' = σ := by
  have key : ∀ x, (∀ op t, (el Tryd.prog t).isSome = true → abin Tryd.prog op t x .nil = aeq op false) → asrc Tryd.prog 23 x = some (l.map limA) → Tri Tryd.prog G 39 [x] σ fun r σ' => Le r (lims l) ∧ σ' = σ := by
    intro x h1 h2
    have h3 := h1 .eql 23 (by rw [tfLE]; rfl)
    refine Tri.of_awp mixed Tryd.func39 rfl (by kernel_rfl) (by kernel_rfl) (by simp [Tryd.ntmps39]) Tryd.results39 ?_
    simp -dsimp only [↓bp, bq, br, afin, bsk, cWrites, opsWrites, pieceGh, rsk, ne_eq, if_true, if_false, exists_eq_left', forall_const, forall_eq, Nat.reduceLT, Int.reduceSub, Nat.reduceAdd, Nat.reduceSub, Nat.reduceMul, Nat.reduceLeDiff, Nat.reduceEqDiff, Nat.reduceBEq, Nat.reduceBNe, Int.reduceNeg, Int.reduceAdd, Int.reduceMul, Int.reduceLE, Int.reduceLT, Int.reduceEq, Int.reduceToNat, reduceIte, reduceCtorEq, tbLims, h3]
    refine build_none tfL ?_
    simp -dsimp only [↓bp, bq, br, afin, bsk, cWrites, opsWrites, pieceGh, rsk, ne_eq, if_true, if_false, exists_eq_left', forall_const, forall_eq, Nat.reduceLT, Int.reduceSub, Nat.reduceAdd, Nat.reduceSub, Nat.reduceMul, Nat.reduceLeDiff, Nat.reduceEqDiff, Nat.reduceBEq, Nat.reduceBNe, Int.reduceNeg, Int.reduceAdd, Int.reduceMul, Int.reduceLE, Int.reduceLT, Int.reduceEq, Int.reduceToNat, reduceIte, reduceCtorEq, tbLims]
    refine app_full (σ0 := σ) (AS.le.refl σ) (fun a ha => by cases ha) tfL h2 flat1 (by simp; omega) (fun he => ?_) (fun v σ1 hB hx => ?_)
    · simp -dsimp only [↓bp, bq, br, afin, bsk, cWrites, opsWrites, pieceGh, rsk, ne_eq, if_true, if_false, exists_eq_left', forall_const, forall_eq, Nat.reduceLT, Int.reduceSub, Nat.reduceAdd, Nat.reduceSub, Nat.reduceMul, Nat.reduceLeDiff, Nat.reduceEqDiff, Nat.reduceBEq, Nat.reduceBNe, Int.reduceNeg, Int.reduceAdd, Int.reduceMul, Int.reduceLE, Int.reduceLT, Int.reduceEq, Int.reduceToNat, reduceIte, reduceCtorEq, tbLims]
      have e : lims l = .sl .none [] [] := by unfold lims; rw [he]
      rw [e]
      exact finish_le Le.gh (AS.le.refl σ)
    · simp -dsimp only [↓bp, bq, br, afin, bsk, cWrites, opsWrites, pieceGh, rsk, ne_eq, if_true, if_false, exists_eq_left', forall_const, forall_eq, Nat.reduceLT, Int.reduceSub, Nat.reduceAdd, Nat.reduceSub, Nat.reduceMul, Nat.reduceLeDiff, Nat.reduceEqDiff, Nat.reduceBEq, Nat.reduceBNe, Int.reduceNeg, Int.reduceAdd, Int.reduceMul, Int.reduceLE, Int.reduceLT, Int.reduceEq, Int.reduceToNat, reduceIte, reduceCtorEq, tbLims]
      exact finish_le hB.told hB.le
  cases l with
  | nil =>
    refine Tri.nil_or ?_ fun a c => ?_
    · refine Tri.of_awp mixed Tryd.func39 rfl (by kernel_rfl) (by kernel_rfl) (by simp [Tryd.ntmps39]) Tryd.results39 ?_
      simp -dsimp only [↓bp, bq, br, afin, bsk, cWrites, opsWrites, pieceGh, rsk, ne_eq, if_true, if_false, exists_eq_left', forall_const, forall_eq, Nat.reduceLT, Int.reduceSub, Nat.reduceAdd, Nat.reduceSub, Nat.reduceMul, Nat.reduceLeDiff, Nat.reduceEqDiff, Nat.reduceBEq, Nat.reduceBNe, Int.reduceNeg, Int.reduceAdd, Int.reduceMul, Int.reduceLE, Int.reduceLT, Int.reduceEq, Int.reduceToNat, reduceIte, reduceCtorEq, tbLims]
      exact finish_le Le.nil (AS.le.refl σ)
    · exact key _ (fun op t h => by rw [abin_raw_nil, if_pos h]) (by simp [asrc, tfLE])
  | cons x l => exact key _ (fun op t h => by simp [lims, abin, isNil, h]) (asrc_sl tfLE)
end Go.Proofs.YtjnhalmeddafdaaDoor
