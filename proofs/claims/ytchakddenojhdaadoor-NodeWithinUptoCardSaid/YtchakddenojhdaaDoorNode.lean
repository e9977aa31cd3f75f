/- Trees of the program, as plain data and as abstract values. -/
import Derived.Test.YtchakddenojhdaaDoorTf
set_option linter.unusedVariables false
set_option linter.unusedSimpArgs false
namespace Go.Proofs.YtchakddenojhdaaDoor
open Go Go.Av

inductive Node where
  | mk (kind : UInt8) (text : List UInt8) (num at_ : Int) (kids : List Node)
instance : Inhabited Node := ⟨.mk 0 [] 0 0 []⟩
def Node.kind : Node → UInt8 | .mk k _ _ _ _ => k
def Node.text : Node → List UInt8 | .mk _ s _ _ _ => s
def Node.num : Node → Int | .mk _ _ n _ _ => n
def Node.at_ : Node → Int | .mk _ _ _ a _ => a
def Node.kids : Node → List Node | .mk _ _ _ _ ks => ks
/-- its kind, as a number -/
def Node.knd (t : Node) : Int := t.kind.toNat
theorem Node.knd_nn (t : Node) : 0 ≤ t.knd := Int.natCast_nonneg _
theorem Node.knd_lt (t : Node) : t.knd < 256 := by
  have := t.kind.toNat_lt
  unfold Node.knd; omega
def Node.enc : Node → AV
  | .mk k s n a ks => .agg [.int .u8 k.toNat, .str s, .int .i64 n, .int .i64 a, .sl .none (ks.map Node.enc) []]
def encs (l : List Node) : AV := .sl .none (l.map Node.enc) []
theorem Node.flat_enc (t : Node) : flat t.enc = [.int .u8 t.knd, .str t.text, .int .i64 t.num, .int .i64 t.at_, encs t.kids] := by
  cases t; simp [Node.enc, flat, Node.knd, Node.kind, Node.text, Node.num, Node.at_, Node.kids, encs]
theorem Node.isv_enc (t : Node) : isv t.enc = true := by cases t; simp [Node.enc, isv]
theorem Node.fold_enc (t : Node) : AV.agg [.int .u8 t.knd, .str t.text, .int .i64 t.num, .int .i64 t.at_, encs t.kids] = t.enc := by
  cases t; simp [Node.enc, Node.knd, Node.kind, Node.text, Node.num, Node.at_, Node.kids, encs]
theorem isv_encs (l : List Node) : isv (encs l) = true := rfl
theorem flat_encs (l : List Node) : flat (encs l) = [encs l] := rfl
theorem len_encs {P : Program} {t : TypeId} (l : List Node) : ablt P .len #[t] [encs l] = if (el P t).isSome then some (.int .i64 l.length) else none := by
  simp [encs, l_sl]
theorem ix_encs {P : Program} {t : TypeId} {k : IntKind} (l : List Node) (i : Nat) : aindexA P t (encs l) (.int k (i : Int)) = ixk ((el P t).bind (tk P)) ((l[i]?).map Node.enc) := by
  simp [encs, aindexA_sl]
theorem Node.ind {P : Node → Prop} (h : ∀ t, (∀ k, k ∈ t.kids → P k) → P t) : ∀ t, P t := by
  have key : ∀ n, ∀ t : Node, SizeOf.sizeOf t ≤ n → P t := by
    intro n
    induction n with
    | zero => intro t ht; cases t; simp at ht
    | succ n ih =>
      intro t ht
      refine h t fun k hk => ih k ?_
      cases t with
      | mk a b c d ks =>
        have := List.sizeOf_lt_of_mem (show k ∈ ks from hk)
        simp at ht
        omega
  exact fun t => key _ t (Nat.le_refl _)

mutual
/-- how much a tree is: nodes and letters -/
def Node.bulk : Node → Nat
  | .mk _ s _ _ ks => s.length + bulks ks + 1
def bulks : List Node → Nat
  | [] => 0
  | k :: ks => k.bulk + bulks ks
end
theorem Node.bulk_eq (t : Node) : t.bulk = t.text.length + bulks t.kids + 1 := by cases t; simp [Node.bulk, Node.text, Node.kids]
theorem bulk_mem {l : List Node} {k : Node} (h : k ∈ l) : k.bulk ≤ bulks l := by
  induction l with
  | nil => cases h
  | cons x l ih =>
    simp only [bulks]
    rcases List.mem_cons.1 h with rfl | h
    · omega
    · have := ih h; omega
theorem bulks_append (l r : List Node) : bulks (l ++ r) = bulks l + bulks r := by
  induction l with
  | nil => simp [bulks]
  | cons x l ih => simp only [List.cons_append, bulks, ih]; omega
theorem len_le_bulks (l : List Node) : l.length ≤ bulks l := by
  induction l with
  | nil => simp [bulks]
  | cons x l ih => have := x.bulk_eq; simp only [List.length_cons, bulks]; omega
theorem wrap_nat {x : Int} (h0 : -9223372036854775808 ≤ x) (h1 : x ≤ 9223372036854775807) : IntKind.i64.wrap x = x := by
  rw [IntKind.wrap_i64]; omega
theorem take_succ_get {α : Type} (l : List α) (i : Nat) (x : α) (h : l[i]? = some x) : l.take (i + 1) = l.take i ++ [x] := by
  rw [List.take_add_one, h]; rfl
theorem ix_encs' {P : Program} {t : TypeId} {k : IntKind} (l : List Node) (i : Int) (h : 0 ≤ i) : aindexA P t (encs l) (.int k i) = ixk ((el P t).bind (tk P)) ((l[i.toNat]?).map Node.enc) := by
  simp [encs, aindexA_sl, h]
/-- one of the kids -/
def kid (l : List Node) (i : Nat) : Node := l.getD i default
theorem kid_get {l : List Node} {i : Nat} (h : i < l.length) : l[i]? = some (kid l i) := by simp [kid, h]
theorem kid_mem {l : List Node} {i : Nat} (h : i < l.length) : kid l i ∈ l := List.mem_of_getElem? (kid_get h)
theorem kid0 {l : List Node} (h : 0 < (l.length : Int)) : l[0]? = some (kid l 0) := kid_get (by omega)
theorem kid1 {l : List Node} (h : 1 < (l.length : Int)) : l[1]? = some (kid l 1) := kid_get (by omega)
theorem kid2 {l : List Node} (h : 2 < (l.length : Int)) : l[2]? = some (kid l 2) := kid_get (by omega)
/-- pieces of lists -/
def slN (k : Option (Bool × Nat)) (a b : Option Nat) (l : List Node) : Option AV := match k, a, b with
  | some (_, 5), some a, some b => if a ≤ b ∧ b ≤ l.length then some (encs ((l.take b).drop a)) else none
  | _, _, _ => none
theorem sl_encs {P : Program} {t : TypeId} (l : List Node) (lo hi : Option AV) (ht : ((el P t).bind (tk P)) = some (true, 5)) : aslice P t (encs l) lo hi = slN (some (true, 5)) (abnd lo 0) (abnd hi l.length) l := by
  unfold encs
  rw [aslice_sl, ht, List.length_map]
  have hall : ∀ a, a ∈ l.map Node.enc → (flat a).length = 5 := fun a ha => by
    obtain ⟨x, _, rfl⟩ := List.mem_map.1 ha
    rw [Node.flat_enc]; rfl
  cases abnd lo 0 with
  | none => cases abnd hi l.length <;> rfl
  | some a =>
    cases abnd hi l.length with
    | none => rfl
    | some b =>
      rw [slk_plain hall]
      unfold slN encs
      simp only [List.length_map, List.map_drop, List.map_take]
theorem slN_some {a b : Nat} {l : List Node} : slN (some (true, 5)) (some a) (some b) l = if a ≤ b ∧ b ≤ l.length then some (encs ((l.take b).drop a)) else none := rfl
end Go.Proofs.YtchakddenojhdaaDoor
