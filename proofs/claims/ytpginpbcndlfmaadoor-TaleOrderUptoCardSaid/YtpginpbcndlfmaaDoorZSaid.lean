/- The text of a term, plainly; parts put together and parted. -/
import Derived.Test.YtpginpbcndlfmaaDoorZOrd
import Derived.Test.YtpginpbcndlfmaaDoorZShort
set_option linter.unusedVariables false
set_option linter.unusedSimpArgs false
namespace Go.Proofs.YtpginpbcndlfmaaDoor
open Go Go.Av
/-- a number's digits, the lowest one first -/
def digs (n : Nat) : List UInt8 := if h : n = 0 then [] else UInt8.ofNat (48 + n % 10) :: digs (n / 10)
termination_by n
decreasing_by omega
/-- an amount's digits -/
def decT (n : Nat) : List UInt8 := if n = 0 then [48] else (digs n).reverse
/-- an integer's text -/
def wsaid (t : Term) : List UInt8 := (if t.neg = true then [45] else []) ++ decT (val t.limbs)
/-- a number's text -/
def itoa (n : Int) : List UInt8 := (if n < 0 then [45] else []) ++ decT n.natAbs
def words : List (List UInt8) := [[97, 102, 116, 101, 114], [97, 110, 100], [97, 110, 100, 97, 108, 115, 111], [98, 101, 103, 105, 110], [99, 97, 115, 101], [100, 105, 118], [101, 110, 100], [102, 117, 110], [105, 102], [110, 111, 116], [111, 102], [111, 114], [111, 114, 101, 108, 115, 101], [114, 101, 99, 101, 105, 118, 101], [114, 101, 109], [116, 114, 121], [99, 97, 116, 99, 104], [119, 104, 101, 110], [120, 111, 114]]
/-- may a byte stand in an atom without quotes? -/
def innerC (c : UInt8) : Bool := decide (97 ≤ c.toNat) && decide (c.toNat ≤ 122) || decide (65 ≤ c.toNat) && decide (c.toNat ≤ 90) || decide (48 ≤ c.toNat) && decide (c.toNat ≤ 57) || decide (c.toNat = 95) || decide (c.toNat = 64)
/-- does an atom need no quotes? -/
def plainA (s : List UInt8) : Bool := match s with
  | [] => false
  | c :: _ => decide (97 ≤ c.toNat) && decide (c.toNat ≤ 122) && !words.contains s && s.all innerC
def hexD (n : Nat) : UInt8 := if n < 10 then UInt8.ofNat (48 + n) else UInt8.ofNat (87 + n)
/-- a byte between quotes -/
def quoC (c : UInt8) : List UInt8 :=
  if c.toNat = 39 ∨ c.toNat = 92 then [92, c]
  else if c.toNat = 10 then [92, 110]
  else if c.toNat < 32 ∨ 126 < c.toNat then [92, 120, hexD (c.toNat / 16), hexD (c.toNat % 16)]
  else [c]
def quoted (s : List UInt8) : List UInt8 := 39 :: (s.flatMap quoC ++ [39])
def atomT (s : List UInt8) : List UInt8 := if plainA s = true then s else quoted s
mutual
/-- a right term's text -/
def said : Term → List UInt8
  | .mk k g l s n ks ts =>
    if (k.toNat : Int) = 1 then wsaid (.mk k g l s n ks ts)
    else if (k.toNat : Int) = 2 then atomT s
    else if (k.toNat : Int) = 3 then [35, 82, 101, 102, 60] ++ itoa n ++ [62]
    else if (k.toNat : Int) = 4 then [35, 70, 117, 110, 60] ++ itoa n ++ [62]
    else if (k.toNat : Int) = 5 then [60] ++ itoa n ++ [62]
    else if (k.toNat : Int) = 6 then [123] ++ (saidI ks ++ saidT ts) ++ [125]
    else [91] ++ (saidI ks ++ saidT ts) ++ [93]
/-- items, with commas between -/
def saidI : List Term → List UInt8
  | [] => []
  | x :: l => said x ++ saidN l
/-- more items -/
def saidN : List Term → List UInt8
  | [] => []
  | x :: l => 44 :: (said x ++ saidN l)
/-- a tail -/
def saidT : List Term → List UInt8
  | [] => []
  | x :: l => 124 :: (said x ++ saidT l)
end
theorem said_eq (t : Term) : said t = if t.knd = 1 then wsaid t
    else if t.knd = 2 then atomT t.text
    else if t.knd = 3 then [35, 82, 101, 102, 60] ++ itoa t.num ++ [62]
    else if t.knd = 4 then [35, 70, 117, 110, 60] ++ itoa t.num ++ [62]
    else if t.knd = 5 then [60] ++ itoa t.num ++ [62]
    else if t.knd = 6 then [123] ++ (saidI t.items ++ saidT t.tail) ++ [125]
    else [91] ++ (saidI t.items ++ saidT t.tail) ++ [93] := by
  cases t; rw [said]; rfl
def text (t : Term) : List UInt8 := if right t = true then said t else []

/-! which bytes are met -/
abbrev okC (c : UInt8) : Prop := 32 ≤ c.toNat ∧ c.toNat ≤ 126
def okS (s : List UInt8) : Prop := ∀ c, c ∈ s → okC c
theorem okS.append {a b : List UInt8} (h : okS a) (k : okS b) : okS (a ++ b) := fun c hc => (List.mem_append.1 hc).elim (h c) (k c)
theorem okS.cons {c : UInt8} {b : List UInt8} (h : okC c) (k : okS b) : okS (c :: b) := fun d hd => (List.mem_cons.1 hd).elim (fun e => e ▸ h) (k d)
theorem okS.nil : okS [] := fun c hc => by cases hc
theorem ofNat_toNat {n : Nat} (h : n < 256) : (UInt8.ofNat n).toNat = n := by rw [UInt8.toNat_ofNat']; omega
abbrev digC (c : UInt8) : Prop := 48 ≤ c.toNat ∧ c.toNat ≤ 57
theorem digs_dig (n : Nat) : ∀ c, c ∈ digs n → digC c := by
  induction n using Nat.strongRecOn with
  | _ n ih =>
    intro c hc
    unfold digs at hc
    split at hc
    · cases hc
    · rcases List.mem_cons.1 hc with rfl | hc
      · unfold digC; rw [ofNat_toNat (by omega)]; omega
      · exact ih (n / 10) (by omega) c hc
theorem decT_dig (n : Nat) : ∀ c, c ∈ decT n → digC c := by
  intro c hc
  unfold decT at hc
  split at hc
  · simp at hc; subst hc; decide
  · exact digs_dig n c (List.mem_reverse.1 hc)
theorem digs_ne {n : Nat} (h : n ≠ 0) : digs n ≠ [] := by unfold digs; rw [dif_neg h]; simp
theorem decT_ne (n : Nat) : decT n ≠ [] := by
  unfold decT
  split
  · simp
  · rename_i h; simpa using digs_ne h
theorem decT_ok (n : Nat) : okS (decT n) := fun c hc => by have := decT_dig n c hc; unfold digC at this; unfold okC; omega
theorem itoa_ok (n : Int) : okS (itoa n) := by
  unfold itoa
  refine okS.append ?_ (decT_ok _)
  split
  · exact okS.cons (by decide) okS.nil
  · exact okS.nil
theorem wsaid_ok (t : Term) : okS (wsaid t) := by
  unfold wsaid
  refine okS.append ?_ (decT_ok _)
  split
  · exact okS.cons (by decide) okS.nil
  · exact okS.nil
theorem hexD_ok {n : Nat} (h : n < 16) : okC (hexD n) := by
  unfold hexD okC
  split
  · rw [ofNat_toNat (by omega)]; omega
  · rw [ofNat_toNat (by omega)]; omega
theorem quoC_ok (c : UInt8) : okS (quoC c) := by
  have hc := c.toNat_lt
  unfold quoC
  split
  · rename_i h; exact okS.cons (by decide) (okS.cons (by unfold okC; omega) okS.nil)
  split
  · exact okS.cons (by decide) (okS.cons (by decide) okS.nil)
  split
  · exact okS.cons (by decide) (okS.cons (by decide) (okS.cons (hexD_ok (by omega)) (okS.cons (hexD_ok (by omega)) okS.nil)))
  · rename_i h; exact okS.cons (by unfold okC; omega) okS.nil
theorem quoted_ok (s : List UInt8) : okS (quoted s) := by
  unfold quoted
  refine okS.cons (by decide) (okS.append (fun c hc => ?_) (okS.cons (by decide) okS.nil))
  obtain ⟨d, _, hd⟩ := List.mem_flatMap.1 hc
  exact quoC_ok d c hd
theorem inner_spec {c : UInt8} (h : innerC c = true) : 48 ≤ c.toNat ∧ c.toNat ≤ 57 ∨ 64 ≤ c.toNat ∧ c.toNat ≤ 90 ∨ c.toNat = 95 ∨ 97 ≤ c.toNat ∧ c.toNat ≤ 122 := by
  simp only [innerC, Bool.or_eq_true, Bool.and_eq_true, decide_eq_true_eq] at h
  omega
theorem plainA_spec {s : List UInt8} (h : plainA s = true) : ∃ c l, s = c :: l ∧ 97 ≤ c.toNat ∧ c.toNat ≤ 122 ∧ ∀ d, d ∈ s → innerC d = true := by
  cases s with
  | nil => simp [plainA] at h
  | cons c l =>
    simp only [plainA, Bool.and_eq_true, decide_eq_true_eq] at h
    exact ⟨c, l, rfl, h.1.1.1, h.1.1.2, List.all_eq_true.1 h.2⟩
theorem atomT_ok (s : List UInt8) : okS (atomT s) := by
  unfold atomT
  split
  · rename_i h
    obtain ⟨c, l, _, _, _, h⟩ := plainA_spec h
    exact fun d hd => by have := inner_spec (h d hd); unfold okC; omega
  · exact quoted_ok s
theorem saidN_ok : ∀ (l : List Term), (∀ x, x ∈ l → okS (said x)) → okS (saidN l)
  | [], _ => by rw [saidN]; exact okS.nil
  | x :: l, h => by
    rw [saidN]
    exact okS.cons (by decide) ((h x (by simp)).append (saidN_ok l fun y hy => h y (by simp [hy])))
theorem saidI_ok (l : List Term) (h : ∀ x, x ∈ l → okS (said x)) : okS (saidI l) := by
  cases l with
  | nil => rw [saidI]; exact okS.nil
  | cons x l => rw [saidI]; exact (h x (by simp)).append (saidN_ok l fun y hy => h y (by simp [hy]))
theorem saidT_ok : ∀ (l : List Term), (∀ x, x ∈ l → okS (said x)) → okS (saidT l)
  | [], _ => by rw [saidT]; exact okS.nil
  | x :: l, h => by
    rw [saidT]
    exact okS.cons (by decide) ((h x (by simp)).append (saidT_ok l fun y hy => h y (by simp [hy])))
theorem said_ok (t : Term) : okS (said t) := by
  refine Term.ind (P := fun t => okS (said t)) (fun t ih1 ih2 => ?_) t
  rw [said_eq]
  have one : ∀ c : UInt8, okC c → okS [c] := fun c h => okS.cons h okS.nil
  have five : okS [35, 82, 101, 102, 60] := by intro c hc; simp at hc; rcases hc with rfl | rfl | rfl | rfl | rfl <;> decide
  have six : okS [35, 70, 117, 110, 60] := by intro c hc; simp at hc; rcases hc with rfl | rfl | rfl | rfl | rfl <;> decide
  split
  · exact wsaid_ok t
  split
  · exact atomT_ok _
  split
  · exact (five.append (itoa_ok _)).append (one 62 (by decide))
  split
  · exact (six.append (itoa_ok _)).append (one 62 (by decide))
  split
  · exact ((one 60 (by decide)).append (itoa_ok _)).append (one 62 (by decide))
  split
  · exact ((one 123 (by decide)).append ((saidI_ok _ ih1).append (saidT_ok _ ih2))).append (one 125 (by decide))
  · exact ((one 91 (by decide)).append ((saidI_ok _ ih1).append (saidT_ok _ ih2))).append (one 93 (by decide))
theorem text_ok (t : Term) : okS (text t) := by
  unfold text
  split
  · exact said_ok t
  · exact okS.nil
def zeroT : Term := .mk 0 false [] [] 0 [] []
/-- put together, before it is asked whether it may be -/
def cons0 (h t : Term) : Term := if t.knd = 7 then listT (h :: t.items) t.tail else listT [h] [t]
def cons (h t : Term) : Term := if right h = true ∧ right t = true ∧ right (cons0 h t) = true then cons0 h t else zeroT
/-- parted -/
def split (t : Term) : Option (Term × Term) := if right t = true ∧ t.knd = 7 then (match t.items with
  | [] => none
  | [x] => some (x, tailOf t)
  | x :: l => some (x, listT l t.tail)) else none
end Go.Proofs.YtpginpbcndlfmaaDoor
