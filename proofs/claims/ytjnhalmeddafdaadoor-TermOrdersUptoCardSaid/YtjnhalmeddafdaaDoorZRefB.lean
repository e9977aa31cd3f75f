/- The reference's comparison of integers. -/
import Derived.Test.YtjnhalmeddafdaaDoorZRefA
import Derived.Test.YtjnhalmeddafdaaDoorZOrd
import Derived.Test.YtjnhalmeddafdaaDoorZShort
set_option linter.unusedVariables false
set_option linter.unusedSimpArgs false
set_option maxRecDepth 20000
namespace Go.Proofs.YtjnhalmeddafdaaDoor
open Go Go.Av
/-! bits and amounts -/
theorem at_bitsL : ∀ (l : List UInt32) (i : Nat), atB (bitsL l) i = (val l).testBit i
  | [], i => by simp [atB, bitsL, val]
  | x :: l, i => by
    have hx := x.toNat_lt
    have e : val (x :: l) = x.toNat + 2 ^ 32 * val l := rfl
    rw [e]
    by_cases h : i < 32
    · have e1 : atB (bitsL (x :: l)) i = bitL x i := by
        unfold atB
        simp only [bitsL]
        rw [List.getElem?_append_left (by simp; omega), List.getElem?_map, List.getElem?_range h]
        rfl
      rw [e1]
      have e2 : (x.toNat + 2 ^ 32 * val l).testBit i = x.toNat.testBit i := by
        rw [Nat.add_comm, Nat.testBit_two_pow_mul_add _ (by omega), if_pos h]
      rw [e2]
      unfold bitL
      rw [Nat.testBit, Bool.eq_iff_iff, decide_eq_true_eq, bne_iff_ne, ne_eq, Nat.and_comm]
      have : 1 &&& (x.toNat >>> i) < 2 := by rw [Nat.and_comm, Nat.and_one_is_mod]; omega
      omega
    · have e1 : atB (bitsL (x :: l)) i = atB (bitsL l) (i - 32) := by
        unfold atB
        simp only [bitsL]
        rw [List.getElem?_append_right (by simp; omega)]
        simp
      rw [e1, at_bitsL l (i - 32), Nat.add_comm, Nat.testBit_two_pow_mul_add _ (by omega), if_neg h]
/-- as far as the bits of two amounts go, one is below the other -/
theorem bel_val {x y : List Bool} {a b : Nat} (hx : ∀ i, atB x i = a.testBit i) (hy : ∀ i, atB y i = b.testBit i) : ∀ n, bel x y n = decide (a % 2 ^ n < b % 2 ^ n)
  | 0 => by simp [bel, Nat.mod_one]
  | n + 1 => by
    simp only [bel]
    rw [hx, hy, bel_val hx hy n, Nat.pow_succ, Nat.mod_mul, Nat.mod_mul, Nat.testBit_eq_decide_div_mod_eq, Nat.testBit_eq_decide_div_mod_eq]
    have h1 : a % 2 ^ n < 2 ^ n := Nat.mod_lt _ (Nat.two_pow_pos n)
    have h2 : b % 2 ^ n < 2 ^ n := Nat.mod_lt _ (Nat.two_pow_pos n)
    generalize a % 2 ^ n = p at *
    generalize b % 2 ^ n = q at *
    generalize 2 ^ n = w at *
    have h3 := Nat.mod_two_eq_zero_or_one (a / w)
    have h4 := Nat.mod_two_eq_zero_or_one (b / w)
    generalize a / w % 2 = u at *
    generalize b / w % 2 = v at *
    rcases h3 with rfl | rfl <;> rcases h4 with rfl | rfl <;> simp <;> omega
theorem lt_bits {x : List Bool} {a : Nat} (hx : ∀ i, atB x i = a.testBit i) {n : Nat} (hn : x.length ≤ n) : a < 2 ^ n := by
  apply Nat.lt_pow_two_of_testBit
  intro i hi
  rw [← hx]
  unfold atB
  rw [List.getElem?_eq_none (by omega)]; rfl
theorem below_val {x y : List Bool} {a b : Nat} (hx : ∀ i, atB x i = a.testBit i) (hy : ∀ i, atB y i = b.testBit i) : below x y = decide (a < b) := by
  unfold below
  rw [bel_val hx hy, Nat.mod_eq_of_lt (lt_bits hx (by omega)), Nat.mod_eq_of_lt (lt_bits hy (by omega))]
theorem below_bits (a b : List UInt32) : below (cutB (bitsL a)) (cutB (bitsL b)) = decide (val a < val b) :=
  below_val (fun i => by rw [at_cut, at_bitsL]) (fun i => by rw [at_cut, at_bitsL])
/-! limbs and amounts -/
theorem cmpI_R' (a b : Int) : cmpI a b = -1 ∧ a < b ∨ cmpI a b = 0 ∧ a = b ∨ cmpI a b = 1 ∧ b < a := by
  unfold cmpI
  by_cases h : a < b
  · rw [if_pos h]; exact .inl ⟨rfl, h⟩
  · rw [if_neg h]
    by_cases h2 : b < a
    · rw [if_pos h2]; exact .inr (.inr ⟨rfl, h2⟩)
    · rw [if_neg h2]; exact .inr (.inl ⟨rfl, by omega⟩)
theorem cmpL_snoc : ∀ (a b : List UInt32) (x y : UInt32), a.length = b.length → cmpL (a ++ [x]) (b ++ [y]) = lex (cmpL a b) (cmpI x.toNat y.toNat)
  | [], [], x, y, _ => by
    simp only [List.nil_append, cmpL]
    unfold lex
    split <;> simp_all
  | a :: l, b :: r, x, y, h => by
    simp only [List.cons_append, cmpL]
    rw [cmpL_snoc l r x y (by simpa using h), lex_assoc]
theorem cmpL_val : ∀ (a b : List UInt32), a.length = b.length → cmpL a.reverse b.reverse = cmpI (val a) (val b)
  | [], [], _ => by simp [cmpL, val, cmpI]
  | x :: a, y :: b, h => by
    have hl : a.length = b.length := by simpa using h
    rw [List.reverse_cons, List.reverse_cons, cmpL_snoc _ _ _ _ (by simpa using hl), cmpL_val a b hl]
    have hx := x.toNat_lt
    have hy := y.toNat_lt
    simp only [val]
    rcases cmpI_R' (val a) (val b) with h1 | h1 | h1 <;> rcases cmpI_R' x.toNat y.toNat with h2 | h2 | h2 <;> rw [h1.1, h2.1] <;> unfold lex <;> (try simp only [if_true]) <;> (try rw [if_neg (by decide)]) <;>
      rcases cmpI_R' ((x.toNat + 4294967296 * val a : Nat) : Int) ((y.toNat + 4294967296 * val b : Nat) : Int) with h3 | h3 | h3 <;> rw [h3.1] <;> first | rfl | (exfalso; omega)
theorem val_ge1 : ∀ {a : List UInt32}, a ≠ [] → lastOk a = true → 4294967296 ^ (a.length - 1) ≤ val a
  | [], h, _ => absurd rfl h
  | [x], _, h => by
    simp [lastOk] at h
    simp only [val, List.length_singleton]
    have : x.toNat ≠ 0 := fun e => h (by first | exact UInt32.toNat_inj.1 e | exact_mod_cast e)
    omega
  | x :: y :: a, _, h => by
    have ih := val_ge1 (a := y :: a) (by simp) (by simpa [lastOk] using h)
    simp only [List.length_cons, Nat.add_sub_cancel] at ih ⊢
    rw [val, Nat.pow_succ]
    omega
theorem val_lt1 : ∀ l : List UInt32, val l < 4294967296 ^ l.length
  | [] => by simp [val]
  | x :: l => by
    have ih := val_lt1 l
    have hx := x.toNat_lt
    rw [val, List.length_cons, Nat.pow_succ]
    omega
theorem val_less {a b : List UInt32} (ha : a ≠ [] → lastOk a = true) (hb : b ≠ [] → lastOk b = true) (h : a.length < b.length) : val a < val b := by
  have hne : b ≠ [] := fun e => by subst e; simp at h
  have h1 := val_ge1 hne (hb hne)
  have h2 := val_lt1 a
  have h3 : 4294967296 ^ a.length ≤ 4294967296 ^ (b.length - 1) := Nat.pow_le_pow_right (by decide) (by omega)
  omega
theorem cmpA_val {a b : List UInt32} (ha : a ≠ [] → lastOk a = true) (hb : b ≠ [] → lastOk b = true) : cmpA a b = cmpI (val a) (val b) := by
  unfold cmpA
  rcases cmpI_R' (a.length : Int) b.length with h | h | h
  · rw [h.1]
    have h1 := val_less ha hb (by omega)
    unfold lex cmpI
    rw [if_neg (by decide), if_pos (by omega)]
  · rw [h.1, cmpL_val a b (by omega)]
    unfold lex
    rw [if_pos rfl]
  · rw [h.1]
    have h1 := val_less hb ha (by omega)
    unfold lex cmpI
    rw [if_neg (by decide), if_neg (by omega), if_pos (by omega)]
end Go.Proofs.YtjnhalmeddafdaaDoor
