/- The order of terms, plainly: what it is, and that it is one. -/
import Derived.Test.YtjnhalmeddafdaaDoorZSize2
set_option linter.unusedVariables false
set_option linter.unusedSimpArgs false
namespace Go.Proofs.YtjnhalmeddafdaaDoor
open Go Go.Av
/-- -1, 0, 1 of two numbers -/
def cmpI (a b : Int) : Int := if a < b then -1 else if b < a then 1 else 0
/-- the first that is not 0 -/
def lex (a b : Int) : Int := if a = 0 then b else a
/-- of two texts -/
def cmpS : List UInt8 → List UInt8 → Int
  | [], [] => 0
  | [], _ :: _ => -1
  | _ :: _, [] => 1
  | a :: l, b :: r => lex (cmpI a.toNat b.toNat) (cmpS l r)
/-- of two rows of limbs, from the last ones on -/
def cmpL : List UInt32 → List UInt32 → Int
  | [], [] => 0
  | [], _ :: _ => -1
  | _ :: _, [] => 1
  | a :: l, b :: r => lex (cmpI a.toNat b.toNat) (cmpL l r)
/-- of two amounts -/
def cmpA (a b : List UInt32) : Int := lex (cmpI a.length b.length) (cmpL a.reverse b.reverse)
def sgn (t : Term) : Int := if t.neg = true then -1 else 1
/-- of two right integers -/
def cmpW (a b : Term) : Int := if sgn a ≠ sgn b then sgn a else cmpA a.limbs b.limbs * sgn a
/-- what three comparisons of a first, a second, a third are to each other -/
def G3 (x y z : Int) : Prop := (x = 0 → z = y) ∧ (y = 0 → z = x) ∧ (x = y → z = x)
def R3 (x : Int) : Prop := x = -1 ∨ x = 0 ∨ x = 1
theorem G3.lex {x y z x' y' z' : Int} (h : G3 x y z) (h' : G3 x' y' z') (hx : R3 x) (hy : R3 y) (hz : R3 z) : G3 (Proofs.YtjnhalmeddafdaaDoor.lex x x') (Proofs.YtjnhalmeddafdaaDoor.lex y y') (Proofs.YtjnhalmeddafdaaDoor.lex z z') := by
  obtain ⟨a, b, c⟩ := h
  obtain ⟨a', b', c'⟩ := h'
  unfold Proofs.YtjnhalmeddafdaaDoor.lex G3
  unfold R3 at hx hy hz
  rcases hx with rfl | rfl | rfl <;> rcases hy with rfl | rfl | rfl <;> simp_all
theorem R3.lex {x x' : Int} (h : R3 x) (h' : R3 x') : R3 (Proofs.YtjnhalmeddafdaaDoor.lex x x') := by
  unfold Proofs.YtjnhalmeddafdaaDoor.lex; split <;> assumption
theorem lex_neg {x y : Int} : lex (-x) (-y) = -lex x y := by
  unfold lex
  by_cases h : x = 0
  · subst h; simp
  · rw [if_neg h, if_neg (by omega)]
theorem lex_zero {x y : Int} : lex x y = 0 ↔ x = 0 ∧ y = 0 := by
  unfold lex
  by_cases h : x = 0
  · simp [h]
  · simp [h]
theorem cmpI_R (a b : Int) : R3 (cmpI a b) := by unfold cmpI R3; split <;> (try split) <;> simp
theorem cmpI_G (a b c : Int) : G3 (cmpI a b) (cmpI b c) (cmpI a c) := by
  unfold G3 cmpI
  refine ⟨fun h => ?_, fun h => ?_, fun h => ?_⟩ <;> (repeat' split at h) <;> (repeat' split) <;> first | rfl | (simp at h; done) | (exfalso; omega) | omega
theorem cmpI_neg (a b : Int) : cmpI b a = -cmpI a b := by
  unfold cmpI
  by_cases h1 : a < b
  · rw [if_pos h1, if_neg (by omega), if_pos h1]; rfl
  · by_cases h2 : b < a
    · rw [if_pos h2, if_neg h1, if_pos h2]
    · rw [if_neg h2, if_neg h1, if_neg h1, if_neg h2]; rfl
theorem cmpI_zero (a b : Int) : cmpI a b = 0 ↔ a = b := by
  unfold cmpI
  by_cases h1 : a < b
  · simp [h1]; omega
  · by_cases h2 : b < a
    · simp [h1, h2]; omega
    · simp [h1, h2]; omega
theorem cmpL_R : ∀ a b, R3 (cmpL a b)
  | [], [] => .inr (.inl rfl)
  | [], _ :: _ => .inl rfl
  | _ :: _, [] => .inr (.inr rfl)
  | a :: l, b :: r => (cmpI_R _ _).lex (cmpL_R l r)
theorem cmpL_neg : ∀ a b, cmpL b a = -cmpL a b
  | [], [] => rfl
  | [], _ :: _ => rfl
  | _ :: _, [] => rfl
  | a :: l, b :: r => by simp only [cmpL]; rw [cmpI_neg, cmpL_neg l r, lex_neg]
theorem cmpL_zero : ∀ a b, cmpL a b = 0 ↔ a = b
  | [], [] => by simp [cmpL]
  | [], _ :: _ => by simp [cmpL]
  | _ :: _, [] => by simp [cmpL]
  | a :: l, b :: r => by
    simp only [cmpL]
    rw [lex_zero, cmpI_zero, cmpL_zero l r, List.cons.injEq]
    constructor
    · rintro ⟨h, rfl⟩; exact ⟨UInt32.toNat_inj.1 (by omega), rfl⟩
    · rintro ⟨rfl, rfl⟩; exact ⟨rfl, rfl⟩
theorem cmpL_G : ∀ a b c, G3 (cmpL a b) (cmpL b c) (cmpL a c)
  | [], [], [] => by simp [cmpL, G3]
  | [], [], _ :: _ => by simp [cmpL, G3]
  | [], _ :: _, [] => by simp [cmpL, G3]
  | [], _ :: _, _ :: _ => by
    refine ⟨fun h => by simp [cmpL] at h, fun h => ?_, fun h => ?_⟩ <;> simp [cmpL]
  | _ :: _, [], [] => by simp [cmpL, G3]
  | _ :: _, [], _ :: _ => by simp [cmpL, G3]
  | _ :: _, _ :: _, [] => by
    refine ⟨fun h => ?_, fun h => by simp [cmpL] at h, fun h => ?_⟩
    · simp [cmpL]
    · simp only [cmpL] at h ⊢; exact h.symm
  | a :: l, b :: r, c :: s => (cmpI_G _ _ _).lex (cmpL_G l r s) (cmpI_R _ _) (cmpI_R _ _) (cmpI_R _ _)
theorem cmpS_R : ∀ a b, R3 (cmpS a b)
  | [], [] => .inr (.inl rfl)
  | [], _ :: _ => .inl rfl
  | _ :: _, [] => .inr (.inr rfl)
  | a :: l, b :: r => (cmpI_R _ _).lex (cmpS_R l r)
theorem cmpS_neg : ∀ a b, cmpS b a = -cmpS a b
  | [], [] => rfl
  | [], _ :: _ => rfl
  | _ :: _, [] => rfl
  | a :: l, b :: r => by simp only [cmpS]; rw [cmpI_neg, cmpS_neg l r, lex_neg]
theorem cmpS_zero : ∀ a b, cmpS a b = 0 ↔ a = b
  | [], [] => by simp [cmpS]
  | [], _ :: _ => by simp [cmpS]
  | _ :: _, [] => by simp [cmpS]
  | a :: l, b :: r => by
    simp only [cmpS]
    rw [lex_zero, cmpI_zero, cmpS_zero l r, List.cons.injEq]
    constructor
    · rintro ⟨h, rfl⟩; exact ⟨UInt8.toNat_inj.1 (by omega), rfl⟩
    · rintro ⟨rfl, rfl⟩; exact ⟨rfl, rfl⟩
theorem cmpS_G : ∀ a b c, G3 (cmpS a b) (cmpS b c) (cmpS a c)
  | [], [], [] => by simp [cmpS, G3]
  | [], [], _ :: _ => by simp [cmpS, G3]
  | [], _ :: _, [] => by simp [cmpS, G3]
  | [], _ :: _, _ :: _ => by
    refine ⟨fun h => by simp [cmpS] at h, fun h => ?_, fun h => ?_⟩ <;> simp [cmpS]
  | _ :: _, [], [] => by simp [cmpS, G3]
  | _ :: _, [], _ :: _ => by simp [cmpS, G3]
  | _ :: _, _ :: _, [] => by
    refine ⟨fun h => ?_, fun h => by simp [cmpS] at h, fun h => ?_⟩
    · simp [cmpS]
    · simp only [cmpS] at h ⊢; exact h.symm
  | a :: l, b :: r, c :: s => (cmpI_G _ _ _).lex (cmpS_G l r s) (cmpI_R _ _) (cmpI_R _ _) (cmpI_R _ _)
theorem cmpA_R (a b : List UInt32) : R3 (cmpA a b) := (cmpI_R _ _).lex (cmpL_R _ _)
theorem cmpA_neg (a b : List UInt32) : cmpA b a = -cmpA a b := by unfold cmpA; rw [cmpI_neg, cmpL_neg a.reverse, lex_neg]
theorem cmpA_zero (a b : List UInt32) : cmpA a b = 0 ↔ a = b := by
  unfold cmpA
  rw [lex_zero, cmpI_zero, cmpL_zero]
  constructor
  · rintro ⟨_, h⟩; exact List.reverse_inj.1 h
  · rintro rfl; exact ⟨rfl, rfl⟩
theorem cmpA_G (a b c : List UInt32) : G3 (cmpA a b) (cmpA b c) (cmpA a c) := (cmpI_G _ _ _).lex (cmpL_G _ _ _) (cmpI_R _ _) (cmpI_R _ _) (cmpI_R _ _)
theorem sgn_eq (a b : Term) : sgn a = sgn b ↔ a.neg = b.neg := by
  unfold sgn; cases a.neg <;> cases b.neg <;> simp
theorem sgn_or (a : Term) : sgn a = -1 ∨ sgn a = 1 := by unfold sgn; cases a.neg <;> simp
theorem cmpW_R (a b : Term) : R3 (cmpW a b) := by
  unfold cmpW R3
  have h := cmpA_R a.limbs b.limbs
  unfold R3 at h
  rcases sgn_or a with e | e <;> rw [e] <;> split <;> first | (simp; done) | omega
theorem cmpW_neg (a b : Term) : cmpW b a = -cmpW a b := by
  unfold cmpW
  rw [cmpA_neg a.limbs]
  rcases sgn_or a with e | e <;> rcases sgn_or b with f | f <;> rw [e, f] <;> simp
theorem cmpW_zero (a b : Term) : cmpW a b = 0 ↔ a.neg = b.neg ∧ a.limbs = b.limbs := by
  rw [← sgn_eq, ← cmpA_zero]
  unfold cmpW
  rcases sgn_or a with e | e <;> rcases sgn_or b with f | f <;> rw [e, f] <;> simp
theorem cmpW_G (a b c : Term) : G3 (cmpW a b) (cmpW b c) (cmpW a c) := by
  have h := cmpA_G a.limbs b.limbs c.limbs
  have r1 := cmpA_R a.limbs b.limbs
  have r2 := cmpA_R b.limbs c.limbs
  have r3 := cmpA_R a.limbs c.limbs
  unfold cmpW
  unfold G3 at h ⊢
  unfold R3 at r1 r2 r3
  rcases sgn_or a with e | e <;> rcases sgn_or b with f | f <;> rcases sgn_or c with g | g <;> rw [e, f, g] <;> simp <;> omega

mutual
/-- the order of two right terms -/
def order : Term → Term → Int
  | .mk k g l s n ks ts, b =>
    if (k.toNat : Int) ≠ b.knd then cmpI k.toNat b.knd
    else if (k.toNat : Int) = 1 then cmpW (.mk k g l s n ks ts) b
    else if (k.toNat : Int) = 7 then lex (lex (rows ks b.items) (cmpI ks.length b.items.length)) (tl ts b.tail)
    else lex (lex (cmpS s b.text) (lex (cmpI n b.num) (cmpI ks.length b.items.length))) (rows ks b.items)
/-- of what stands behind two lists' items -/
def tl : List Term → List Term → Int
  | [], [] => 0
  | [], b :: _ => cmpI 7 b.knd
  | a :: _, [] => cmpI a.knd 7
  | a :: _, b :: _ => order a b
/-- item by item, as long as both have one -/
def rows : List Term → List Term → Int
  | [], _ => 0
  | _, [] => 0
  | a :: l, b :: r => lex (order a b) (rows l r)
end
theorem order_eq (a b : Term) : order a b = if a.knd ≠ b.knd then cmpI a.knd b.knd
    else if a.knd = 1 then cmpW a b
    else if a.knd = 7 then lex (lex (rows a.items b.items) (cmpI a.items.length b.items.length)) (tl a.tail b.tail)
    else lex (lex (cmpS a.text b.text) (lex (cmpI a.num b.num) (cmpI a.items.length b.items.length))) (rows a.items b.items) := by
  cases a; rw [order]; rfl
theorem lex_assoc (a b c : Int) : lex (lex a b) c = lex a (lex b c) := by
  unfold lex; by_cases h : a = 0 <;> simp [h]
/-- two rows, the one that ends first ahead -/
def rl : List Term → List Term → Int
  | [], [] => 0
  | [], _ :: _ => -1
  | _ :: _, [] => 1
  | a :: l, b :: r => lex (order a b) (rl l r)
theorem cmpI_succ (a b : Nat) : cmpI ((a + 1 : Nat) : Int) ((b + 1 : Nat) : Int) = cmpI a b := by
  unfold cmpI
  by_cases h1 : (a : Int) < b
  · rw [if_pos h1, if_pos (by omega)]
  · by_cases h2 : (b : Int) < a
    · rw [if_neg h1, if_pos h2, if_neg (by omega), if_pos (by omega)]
    · rw [if_neg h1, if_neg h2, if_neg (by omega), if_neg (by omega)]
theorem rl_eq : ∀ l r, lex (rows l r) (cmpI l.length r.length) = rl l r
  | [], [] => by simp [rows, rl, lex, cmpI]
  | [], _ :: _ => by
    simp only [rows, rl, lex, if_true, cmpI, List.length_cons, List.length_nil]
    rw [if_pos (by omega)]
  | _ :: _, [] => by
    simp only [rows, rl, lex, if_true, cmpI, List.length_cons, List.length_nil]
    rw [if_neg (by omega), if_pos (by omega)]
  | a :: l, b :: r => by
    simp only [rows, rl, List.length_cons]
    rw [lex_assoc, cmpI_succ, rl_eq l r]
theorem rows_eq (l r : List Term) : lex (cmpI l.length r.length) (rows l r) = lex (cmpI l.length r.length) (rl l r) := by
  by_cases h : cmpI l.length r.length = 0
  · rw [← rl_eq, h]
    unfold lex
    by_cases h2 : rows l r = 0 <;> simp [h2]
  · unfold lex; rw [if_neg h, if_neg h]
theorem order_eq2 (a b : Term) : order a b = if a.knd ≠ b.knd then cmpI a.knd b.knd
    else if a.knd = 1 then cmpW a b
    else if a.knd = 7 then lex (rl a.items b.items) (tl a.tail b.tail)
    else lex (cmpS a.text b.text) (lex (cmpI a.num b.num) (lex (cmpI a.items.length b.items.length) (rl a.items b.items))) := by
  rw [order_eq, rl_eq, lex_assoc, lex_assoc, rows_eq]
theorem rl_R (l : List Term) (h : ∀ x, x ∈ l → ∀ y, R3 (order x y)) : ∀ r, R3 (rl l r) := by
  induction l with
  | nil => intro r; cases r <;> simp [rl, R3]
  | cons a l ih =>
    intro r
    cases r with
    | nil => simp [rl, R3]
    | cons b r => exact (h a (by simp) b).lex (ih (fun x hx => h x (by simp [hx])) r)
theorem order_R (a : Term) : ∀ b, R3 (order a b) := by
  refine Term.ind (P := fun a => ∀ b, R3 (order a b)) (fun a ih1 ih2 b => ?_) a
  rw [order_eq2]
  split
  · exact cmpI_R _ _
  split
  · exact cmpW_R _ _
  split
  · refine (rl_R _ ih1 _).lex ?_
    cases ha : a.tail with
    | nil => cases hb : b.tail with
      | nil => simp [tl, R3]
      | cons y r => rw [tl]; exact cmpI_R _ _
    | cons x l => cases hb : b.tail with
      | nil => rw [tl]; exact cmpI_R _ _
      | cons y r => rw [tl]; exact ih2 x (by rw [ha]; simp) y
  · exact (cmpS_R _ _).lex ((cmpI_R _ _).lex ((cmpI_R _ _).lex (rl_R _ ih1 _)))
theorem rl_neg (l : List Term) (h : ∀ x, x ∈ l → ∀ y, order y x = -order x y) : ∀ r, rl r l = -rl l r := by
  induction l with
  | nil => intro r; cases r <;> simp [rl]
  | cons a l ih =>
    intro r
    cases r with
    | nil => simp [rl]
    | cons b r => simp only [rl]; rw [h a (by simp), ih (fun x hx => h x (by simp [hx])) r, lex_neg]
theorem order_neg (a : Term) : ∀ b, order b a = -order a b := by
  refine Term.ind (P := fun a => ∀ b, order b a = -order a b) (fun a ih1 ih2 b => ?_) a
  rw [order_eq2 b a, order_eq2 a b]
  by_cases h : a.knd = b.knd
  · rw [if_neg (show ¬ b.knd ≠ a.knd by simp [h]), if_neg (show ¬ a.knd ≠ b.knd by simp [h]), h]
    by_cases h1 : b.knd = 1
    · rw [if_pos h1, if_pos h1]; exact cmpW_neg _ _
    rw [if_neg h1, if_neg h1]
    by_cases h7 : b.knd = 7
    · have ht : tl b.tail a.tail = -tl a.tail b.tail := by
        cases ha : a.tail with
        | nil => cases hb : b.tail with
          | nil => simp [tl]
          | cons y r => rw [tl, tl]; exact cmpI_neg _ _
        | cons x l => cases hb : b.tail with
          | nil => rw [tl, tl]; exact cmpI_neg _ _
          | cons y r => rw [tl, tl]; exact ih2 x (by rw [ha]; simp) y
      rw [if_pos h7, if_pos h7, rl_neg _ ih1, ht, lex_neg]
    · rw [if_neg h7, if_neg h7, cmpS_neg a.text, cmpI_neg a.num, cmpI_neg (a.items.length : Int), rl_neg _ ih1, lex_neg, lex_neg, lex_neg]
  · rw [if_pos (Ne.symm h), if_pos h]; exact cmpI_neg _ _

/-! right terms -/
def right (t : Term) : Bool := decide (0 < size t)
theorem adds_true {each : Int} : ∀ (l : List Term) (a : Int × Bool), (adds l each a).2 = true → a.2 = true ∧ ∀ x, x ∈ l → 0 < size x
  | [], a, h => ⟨h, fun x hx => by cases hx⟩
  | k :: ks, a, h => by
    simp only [adds] at h
    split at h
    · rename_i ha
      obtain ⟨h1, h2⟩ := adds_true ks _ h
      simp only [Bool.and_eq_true, decide_eq_true_eq] at h1
      refine ⟨ha, fun x hx => ?_⟩
      rcases List.mem_cons.1 hx with rfl | hx
      · exact h1.1
      · exact h2 x hx
    · rename_i ha; exact absurd h ha
structure Rt (t : Term) : Prop where
  items : ∀ x, x ∈ t.items → right x = true
  tail : ∀ x, x ∈ t.tail → right x = true
  kind : 1 ≤ t.knd ∧ t.knd ≤ 7
  int : t.knd = 1 → wr t = true
  rest : t.knd ≠ 1 → t.neg = false ∧ t.limbs = [] ∧ (t.knd ≠ 2 → t.text = []) ∧ (t.knd ≠ 7 → t.tail = []) ∧ (t.knd = 2 ∨ t.knd = 6 ∨ t.knd = 7 → t.num = 0) ∧ (t.knd = 2 ∨ t.knd = 3 ∨ t.knd = 5 → t.items = [])
  list : t.knd = 7 → t.tail.length ≤ 1 ∧ t.tail.length ≤ t.items.length ∧ ∀ x, x ∈ t.tail → x.knd ≠ 7
theorem wr_spec {t : Term} (h : wr t = true) : t.knd = 1 ∧ t.text = [] ∧ t.num = 0 ∧ t.items = [] ∧ t.tail = [] ∧ t.limbs.length ≤ 32 ∧ (t.limbs = [] → t.neg = false) ∧ (t.limbs ≠ [] → lastOk t.limbs = true) := by
  simp only [wr, Bool.and_eq_true, Bool.or_eq_true, decide_eq_true_eq, Bool.not_eq_true'] at h
  obtain ⟨⟨⟨⟨⟨h1, h2⟩, h3⟩, h4⟩, h5⟩, h6⟩ := h
  refine ⟨h1, h2, h3, List.eq_nil_of_length_eq_zero (by omega), List.eq_nil_of_length_eq_zero (by omega), by omega, fun hl => ?_, fun hl => ?_⟩
  · rcases h6 with h6 | h6
    · exact h6.2
    · rw [hl] at h6; simp at h6
  · rcases h6 with h6 | h6
    · have : t.limbs.length = 0 := by have := h6.1; omega
      exact absurd (List.eq_nil_of_length_eq_zero this) hl
    · exact h6.2
theorem bare_spec {t : Term} {a b c d : Bool} (h : bare t a b c d = true) : t.neg = false ∧ t.limbs = [] ∧ (a = false → t.text = []) ∧ (b = false → t.num = 0) ∧ (c = false → t.items = []) ∧ (d = false → t.tail = []) := by
  simp only [bare, Bool.and_eq_true, Bool.or_eq_true, decide_eq_true_eq, Bool.not_eq_true'] at h
  obtain ⟨⟨⟨⟨⟨h1, h2⟩, h3⟩, h4⟩, h5⟩, h6⟩ := h
  refine ⟨h1, List.eq_nil_of_length_eq_zero (by omega), fun e => ?_, fun e => ?_, fun e => ?_, fun e => ?_⟩
  · subst e; simpa using h3
  · subst e; simpa using h4
  · subst e; simp at h5; exact h5
  · subst e; simp at h6; exact h6
theorem right_spec {t : Term} (h : right t = true) : Rt t := by
  simp only [right, decide_eq_true_eq] at h
  rw [size_eq] at h
  by_cases h1 : t.knd = 1
  · rw [if_pos h1] at h
    split at h
    · rename_i hw
      obtain ⟨_, w2, w3, w4, w5, w6, w7, w8⟩ := wr_spec hw
      refine ⟨fun x hx => (by rw [w4] at hx; cases hx), fun x hx => (by rw [w5] at hx; cases hx), by omega, fun _ => hw, fun e => absurd h1 e, fun e => by omega⟩
    · omega
  · rw [if_neg h1] at h
    split at h
    · rename_i hf
      obtain ⟨f1, f2⟩ := adds_true _ _ hf
      obtain ⟨f3, f4⟩ := adds_true _ _ f1
      simp only at f3
      refine ⟨fun x hx => by simp [right, f4 x hx], fun x hx => by simp [right, f2 x hx], ?_, fun e => absurd e h1, fun _ => ?_, fun h7 => ?_⟩
      · have := t.knd_nn
        unfold head at f3
        by_cases e2 : t.knd = 2
        · omega
        by_cases e3 : t.knd = 3 ∨ t.knd = 5
        · omega
        by_cases e4 : t.knd = 4
        · omega
        by_cases e6 : t.knd = 6
        · omega
        by_cases e7 : t.knd = 7
        · omega
        simp [e2, e3, e4, e6, e7] at f3
      · unfold head at f3
        by_cases e2 : t.knd = 2
        · rw [if_pos e2] at f3
          simp only [Bool.and_eq_true] at f3
          obtain ⟨b1, b2, b3, b4, b5, b6⟩ := bare_spec f3.1
          exact ⟨b1, b2, fun e => absurd e2 e, fun _ => b6 rfl, fun _ => b4 rfl, fun _ => b5 rfl⟩
        rw [if_neg e2] at f3
        by_cases e3 : t.knd = 3 ∨ t.knd = 5
        · rw [if_pos e3] at f3
          simp only [Bool.and_eq_true] at f3
          obtain ⟨b1, b2, b3, b4, b5, b6⟩ := bare_spec f3.1.1
          exact ⟨b1, b2, fun _ => b3 rfl, fun _ => b6 rfl, fun e => by omega, fun _ => b5 rfl⟩
        rw [if_neg e3] at f3
        by_cases e4 : t.knd = 4
        · rw [if_pos e4] at f3
          simp only [Bool.and_eq_true] at f3
          obtain ⟨b1, b2, b3, b4, b5, b6⟩ := bare_spec f3.1.1
          exact ⟨b1, b2, fun _ => b3 rfl, fun _ => b6 rfl, fun e => by omega, fun e => by omega⟩
        rw [if_neg e4] at f3
        by_cases e6 : t.knd = 6
        · rw [if_pos e6] at f3
          obtain ⟨b1, b2, b3, b4, b5, b6⟩ := bare_spec f3
          exact ⟨b1, b2, fun _ => b3 rfl, fun _ => b6 rfl, fun _ => b4 rfl, fun e => by omega⟩
        rw [if_neg e6] at f3
        by_cases e7 : t.knd = 7
        · rw [if_pos e7] at f3
          simp only [Bool.and_eq_true] at f3
          obtain ⟨b1, b2, b3, b4, b5, b6⟩ := bare_spec f3.1.1
          exact ⟨b1, b2, fun _ => b3 rfl, fun e => absurd e7 e, fun _ => b4 rfl, fun e => by omega⟩
        rw [if_neg e7] at f3
        cases f3
      · unfold head at f3
        rw [if_neg (by omega), if_neg (by omega), if_neg (by omega), if_neg (by omega), if_pos h7] at f3
        simp only [Bool.and_eq_true, decide_eq_true_eq, List.all_eq_true] at f3
        obtain ⟨⟨_, f5⟩, f6⟩ := f3
        refine ⟨?_, ?_, fun x hx => f6 x hx⟩
        · split at f5 <;> omega
        · split at f5 <;> omega
    · omega
theorem term_ext {a b : Term} (h1 : a.knd = b.knd) (h2 : a.neg = b.neg) (h3 : a.limbs = b.limbs) (h4 : a.text = b.text) (h5 : a.num = b.num) (h6 : a.items = b.items) (h7 : a.tail = b.tail) : a = b := by
  cases a; cases b
  simp only [Term.knd, Term.kind, Term.neg, Term.limbs, Term.text, Term.num, Term.items, Term.tail] at *
  have h1' := UInt8.toNat_inj.1 (Int.ofNat.inj h1)
  subst h1' h2 h3 h4 h5 h6 h7
  rfl
theorem rl_zero (l : List Term) (h : ∀ x, x ∈ l → ∀ y, right y = true → order x y = 0 → x = y) : ∀ r, (∀ y, y ∈ r → right y = true) → rl l r = 0 → l = r := by
  induction l with
  | nil => intro r _ h; cases r <;> simp_all [rl]
  | cons a l ih =>
    intro r hr hz
    cases r with
    | nil => simp [rl] at hz
    | cons b r =>
      simp only [rl] at hz
      rw [lex_zero] at hz
      rw [h a (by simp) b (hr b (by simp)) hz.1, ih (fun x hx => h x (by simp [hx])) r (fun y hy => hr y (by simp [hy])) hz.2]
theorem order_zero (a : Term) : ∀ b, right a = true → right b = true → order a b = 0 → a = b := by
  refine Term.ind (P := fun a => ∀ b, right a = true → right b = true → order a b = 0 → a = b) (fun a ih1 ih2 b ha hb h => ?_) a
  have A := right_spec ha
  have B := right_spec hb
  rw [order_eq2] at h
  by_cases hk : a.knd = b.knd
  · rw [if_neg (by simp [hk])] at h
    by_cases h1 : a.knd = 1
    · rw [if_pos h1, cmpW_zero] at h
      obtain ⟨_, a2, a3, a4, a5, _⟩ := wr_spec (A.int h1)
      obtain ⟨_, b2, b3, b4, b5, _⟩ := wr_spec (B.int (by omega))
      exact term_ext hk h.1 h.2 (by rw [a2, b2]) (by rw [a3, b3]) (by rw [a4, b4]) (by rw [a5, b5])
    rw [if_neg h1] at h
    obtain ⟨a1, a2, a3, a4, a5, a6⟩ := A.rest h1
    obtain ⟨b1, b2, b3, b4, b5, b6⟩ := B.rest (by omega)
    by_cases h7 : a.knd = 7
    · rw [if_pos h7, lex_zero] at h
      refine term_ext hk (by rw [a1, b1]) (by rw [a2, b2]) (by rw [a3 (by omega), b3 (by omega)]) (by rw [a5 (by omega), b5 (by omega)]) (rl_zero _ (fun x hx y hy hz => ih1 x hx y (A.items x hx) hy hz) _ B.items h.1) ?_
      have h2 := h.2
      obtain ⟨c1, c2, c3⟩ := A.list h7
      obtain ⟨d1, d2, d3⟩ := B.list (by omega)
      cases ea : a.tail with
      | nil => cases eb : b.tail with
        | nil => rfl
        | cons y r =>
          rw [ea, eb, tl, cmpI_zero] at h2
          exact absurd h2.symm (d3 y (by rw [eb]; simp))
      | cons x l => cases eb : b.tail with
        | nil =>
          rw [ea, eb, tl, cmpI_zero] at h2
          exact absurd h2 (c3 x (by rw [ea]; simp))
        | cons y r =>
          rw [ea, eb, tl] at h2
          have := ih2 x (by rw [ea]; simp) y (A.tail x (by rw [ea]; simp)) (B.tail y (by rw [eb]; simp)) h2
          subst this
          rw [ea] at c1; rw [eb] at d1
          simp at c1 d1
          rw [c1, d1]
    · rw [if_neg h7, lex_zero, lex_zero, lex_zero, cmpS_zero, cmpI_zero] at h
      exact term_ext hk (by rw [a1, b1]) (by rw [a2, b2]) h.1 h.2.1 (rl_zero _ (fun x hx y hy hz => ih1 x hx y (A.items x hx) hy hz) _ B.items h.2.2.2) (by rw [a4 h7, b4 (by omega)])
  · rw [if_pos hk, cmpI_zero] at h
    exact absurd h hk
theorem cmpI_self (a : Int) : cmpI a a = 0 := (cmpI_zero a a).2 rfl
theorem order_self (a : Term) : order a a = 0 := by
  have := order_neg a a
  omega
theorem rl_G (l : List Term) (hl : ∀ x, x ∈ l → right x = true) (h : ∀ x, x ∈ l → ∀ y z, right y = true → right z = true → G3 (order x y) (order y z) (order x z)) : ∀ r s, (∀ y, y ∈ r → right y = true) → (∀ y, y ∈ s → right y = true) →
    G3 (rl l r) (rl r s) (rl l s) := by
  induction l with
  | nil =>
    intro r s _ _
    cases r with
    | nil => cases s <;> simp [rl, G3]
    | cons b r => cases s with
      | nil => simp [rl, G3]
      | cons c s =>
        have : R3 (rl (b :: r) (c :: s)) := rl_R _ (fun x _ => order_R x) _
        refine ⟨fun h => by simp [rl] at h, fun h => ?_, fun h => ?_⟩ <;> simp [rl]
  | cons a l ih =>
    intro r s hr hs
    cases r with
    | nil => cases s with
      | nil => simp [rl, G3]
      | cons c s =>
        have : rl (a :: l) ([] : List Term) = 1 := rfl
        rw [this]
        have : rl ([] : List Term) (c :: s) = -1 := rfl
        rw [this]
        refine ⟨fun h => by omega, fun h => by omega, fun h => by omega⟩
    | cons b r => cases s with
      | nil =>
        have e1 : rl (a :: l) ([] : List Term) = 1 := rfl
        have e2 : rl (b :: r) ([] : List Term) = 1 := rfl
        rw [e1, e2]
        refine ⟨fun h => rfl, fun h => by omega, fun h => h.symm⟩
      | cons c s =>
        simp only [rl]
        exact (h a (by simp) b c (hr b (by simp)) (hs c (by simp))).lex (ih (fun x hx => hl x (by simp [hx])) (fun x hx => h x (by simp [hx])) r s (fun y hy => hr y (by simp [hy])) (fun y hy => hs y (by simp [hy])))
          (order_R _ _) (order_R _ _) (order_R _ _)
theorem order_kind {a b : Term} (h : a.knd ≠ b.knd) : order a b = cmpI a.knd b.knd := by rw [order_eq2, if_pos h]
theorem order_G (a : Term) : ∀ b c, right a = true → right b = true → right c = true → G3 (order a b) (order b c) (order a c) := by
  refine Term.ind (P := fun a => ∀ b c, right a = true → right b = true → right c = true → G3 (order a b) (order b c) (order a c)) (fun a ih1 ih2 b c ha hb hc => ?_) a
  have A := right_spec ha
  have B := right_spec hb
  have C := right_spec hc
  by_cases hab : a.knd = b.knd
  · by_cases hbc : b.knd = c.knd
    · rw [order_eq2 a b, order_eq2 b c, order_eq2 a c, if_neg (show ¬ a.knd ≠ b.knd by simp [hab]), if_neg (show ¬ b.knd ≠ c.knd by simp [hbc]), if_neg (show ¬ a.knd ≠ c.knd by simp [hab, hbc]), ← hab]
      by_cases h1 : a.knd = 1
      · rw [if_pos h1, if_pos h1, if_pos h1]; exact cmpW_G _ _ _
      rw [if_neg h1, if_neg h1, if_neg h1]
      by_cases h7 : a.knd = 7
      · rw [if_pos h7, if_pos h7, if_pos h7]
        refine (rl_G _ A.items (fun x hx y z hy hz => ih1 x hx y z (A.items x hx) hy hz) _ _ B.items C.items).lex ?_ (rl_R _ (fun x _ => order_R x) _) (rl_R _ (fun x _ => order_R x) _) (rl_R _ (fun x _ => order_R x) _)
        have tA := (A.list h7).2.2
        have tB := (B.list (by omega)).2.2
        have tC := (C.list (by omega)).2.2
        cases ea : a.tail with
        | nil => cases eb : b.tail with
          | nil => refine ⟨fun h => rfl, fun h => ?_, fun h => ?_⟩
                   · rw [h]; rfl
                   · rw [← h]
          | cons y r => cases ec : c.tail with
            | nil =>
              have k1 := (right_spec (B.tail y (by rw [eb]; simp))).kind
              have k2 := tB y (by rw [eb]; simp)
              have e1 : tl ([] : List Term) (y :: r) = 1 := by rw [tl]; unfold cmpI; rw [if_neg (by omega), if_pos (by omega)]
              have e2 : tl (y :: r) ([] : List Term) = -1 := by rw [tl]; unfold cmpI; rw [if_pos (by omega)]
              rw [e1, e2]
              refine ⟨fun h => by omega, fun h => by omega, fun h => by omega⟩
            | cons z s =>
              have k1 := (right_spec (B.tail y (by rw [eb]; simp))).kind
              have k2 := tB y (by rw [eb]; simp)
              have k3 := (right_spec (C.tail z (by rw [ec]; simp))).kind
              have k4 := tC z (by rw [ec]; simp)
              have e1 : tl ([] : List Term) (y :: r) = 1 := by rw [tl]; unfold cmpI; rw [if_neg (by omega), if_pos (by omega)]
              have e2 : tl ([] : List Term) (z :: s) = 1 := by rw [tl]; unfold cmpI; rw [if_neg (by omega), if_pos (by omega)]
              rw [e1, e2]
              refine ⟨fun h => by omega, fun h => rfl, fun h => rfl⟩
        | cons x l =>
          have k5 := (right_spec (A.tail x (by rw [ea]; simp))).kind
          have k6 := tA x (by rw [ea]; simp)
          have e3 : tl (x :: l) ([] : List Term) = -1 := by rw [tl]; unfold cmpI; rw [if_pos (by omega)]
          cases eb : b.tail with
          | nil => cases ec : c.tail with
            | nil => rw [e3]; refine ⟨fun h => by omega, fun h => rfl, fun h => rfl⟩
            | cons z s =>
              have k3 := (right_spec (C.tail z (by rw [ec]; simp))).kind
              have k4 := tC z (by rw [ec]; simp)
              have e2 : tl ([] : List Term) (z :: s) = 1 := by rw [tl]; unfold cmpI; rw [if_neg (by omega), if_pos (by omega)]
              rw [e2, e3]
              refine ⟨fun h => by omega, fun h => by omega, fun h => by omega⟩
          | cons y r =>
            have k1 := (right_spec (B.tail y (by rw [eb]; simp))).kind
            have k2 := tB y (by rw [eb]; simp)
            cases ec : c.tail with
            | nil =>
              have e2 : tl (y :: r) ([] : List Term) = -1 := by rw [tl]; unfold cmpI; rw [if_pos (by omega)]
              rw [e2, e3]
              refine ⟨fun h => rfl, fun h => by omega, fun h => h.symm⟩
            | cons z s =>
              simp only [tl]
              exact ih2 x (by rw [ea]; simp) y z (A.tail x (by rw [ea]; simp)) (B.tail y (by rw [eb]; simp)) (C.tail z (by rw [ec]; simp))
      · rw [if_neg h7, if_neg h7, if_neg h7]
        exact (cmpS_G _ _ _).lex ((cmpI_G _ _ _).lex ((cmpI_G _ _ _).lex (rl_G _ A.items (fun x hx y z hy hz => ih1 x hx y z (A.items x hx) hy hz) _ _ B.items C.items) (cmpI_R _ _) (cmpI_R _ _) (cmpI_R _ _)) (cmpI_R _ _) (cmpI_R _ _) (cmpI_R _ _)) (cmpS_R _ _) (cmpS_R _ _) (cmpS_R _ _)
    · have e1 := order_kind hbc
      have e2 := order_kind (a := a) (b := c) (by omega)
      rw [e1, e2, hab]
      refine ⟨fun _ => rfl, fun h => absurd ((cmpI_zero _ _).1 h) hbc, fun h => h.symm⟩
  · have e1 := order_kind hab
    by_cases hbc : b.knd = c.knd
    · have e2 := order_kind (a := a) (b := c) (by omega)
      rw [e1, e2, ← hbc]
      refine ⟨fun h => absurd ((cmpI_zero _ _).1 h) hab, fun _ => rfl, fun _ => rfl⟩
    · have e2 := order_kind hbc
      rw [e1, e2]
      by_cases hac : a.knd = c.knd
      · rw [hac, cmpI_neg c.knd b.knd]
        have := cmpI_zero c.knd b.knd
        have hne : cmpI c.knd b.knd ≠ 0 := fun h => hbc (this.1 h).symm
        refine ⟨fun h => absurd h hne, fun h => by omega, fun h => by omega⟩
      · rw [order_kind hac]; exact cmpI_G _ _ _
/-- the list of these -/
def listT (ks ts : List Term) : Term := .mk 7 false [] [] 0 ks ts
/-- what stands behind a list's items -/
def tailOf (t : Term) : Term := match t.tail with | [] => listT [] [] | x :: _ => x
/-! what is told of two terms -/
def compare (a b : Term) : Int := if right a = true ∧ right b = true then order a b else 0
def sameT (a b : Term) : Bool := right a && right b && decide (order a b = 0)
end Go.Proofs.YtjnhalmeddafdaaDoor
