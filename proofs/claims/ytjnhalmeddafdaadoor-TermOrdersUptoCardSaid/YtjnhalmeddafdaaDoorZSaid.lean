/- The text of a term, plainly; parts put together and parted. -/
import Derived.Test.YtjnhalmeddafdaaDoorZOrd
import Derived.Test.YtjnhalmeddafdaaDoorZShort
set_option linter.unusedVariables false
set_option linter.unusedSimpArgs false
namespace Go.Proofs.YtjnhalmeddafdaaDoor
open Go Go.Av
/-- a number's digits, the lowest one first -/
def digs (n : Nat) : List UInt8 := if h : n = 0 then [] else UInt8.ofNat (48 + n % 10) :: digs (n / 10)
termination_by n
decreasing_by omega
/-- an amount's digits -/
def decT (n : Nat) : List UInt8 := if n = 0 then [48] else (digs n).reverse
/-- an integer's text -/
def wsaid (t : Term) : List UInt8 := (if t.neg = true then [45] else []) ++ decT (val t.limbs)
/-- a number's text -/
def itoa (n : Int) : List UInt8 := (if n < 0 then [45] else []) ++ decT n.natAbs
def words : List (List UInt8) := [[97, 102, 116, 101, 114], [97, 110, 100], [97, 110, 100, 97, 108, 115, 111], [98, 101, 103, 105, 110], [99, 97, 115, 101], [100, 105, 118], [101, 110, 100], [102, 117, 110], [105, 102], [110, 111, 116], [111, 102], [111, 114], [111, 114, 101, 108, 115, 101], [114, 101, 99, 101, 105, 118, 101], [114, 101, 109], [116, 114, 121], [99, 97, 116, 99, 104], [119, 104, 101, 110], [120, 111, 114]]
/-- may a byte stand in an atom without quotes? -/
def innerC (c : UInt8) : Bool := decide (97 ≤ c.toNat) && decide (c.toNat ≤ 122) || decide (65 ≤ c.toNat) && decide (c.toNat ≤ 90) || decide (48 ≤ c.toNat) && decide (c.toNat ≤ 57) || decide (c.toNat = 95) || decide (c.toNat = 64)
/-- does an atom need no quotes? -/
def plainA (s : List UInt8) : Bool := match s with
  | [] => false
  | c :: _ => decide (97 ≤ c.toNat) && decide (c.toNat ≤ 122) && !words.contains s && s.all innerC
def hexD (n : Nat) : UInt8 := if n < 10 then UInt8.ofNat (48 + n) else UInt8.ofNat (87 + n)
/-- a byte between quotes -/
def quoC (c : UInt8) : List UInt8 :=
  if c.toNat = 39 ∨ c.toNat = 92 then [92, c]
  else if c.toNat = 10 then [92, 110]
  else if c.toNat < 32 ∨ 126 < c.toNat then [92, 120, hexD (c.toNat / 16), hexD (c.toNat % 16)]
  else [c]
def quoted (s : List UInt8) : List UInt8 := 39 :: (s.flatMap quoC ++ [39])
def atomT (s : List UInt8) : List UInt8 := if plainA s = true then s else quoted s
mutual
/-- a right term's text -/
def said : Term → List UInt8
  | .mk k g l s n ks ts =>
    if (k.toNat : Int) = 1 then wsaid (.mk k g l s n ks ts)
    else if (k.toNat : Int) = 2 then atomT s
    else if (k.toNat : Int) = 3 then [35, 82, 101, 102, 60] ++ itoa n ++ [62]
    else if (k.toNat : Int) = 4 then [35, 70, 117, 110, 60] ++ itoa n ++ [62]
    else if (k.toNat : Int) = 5 then [60] ++ itoa n ++ [62]
    else if (k.toNat : Int) = 6 then [123] ++ (saidI ks ++ saidT ts) ++ [125]
    else [91] ++ (saidI ks ++ saidT ts) ++ [93]
/-- items, with commas between -/
def saidI : List Term → List UInt8
  | [] => []
  | x :: l => said x ++ saidN l
/-- more items -/
def saidN : List Term → List UInt8
  | [] => []
  | x :: l => 44 :: (said x ++ saidN l)
/-- a tail -/
def saidT : List Term → List UInt8
  | [] => []
  | x :: l => 124 :: (said x ++ saidT l)
end
theorem said_eq (t : Term) : said t = if t.knd = 1 then wsaid t
    else if t.knd = 2 then atomT t.text
    else if t.knd = 3 then [35, 82, 101, 102, 60] ++ itoa t.num ++ [62]
    else if t.knd = 4 then [35, 70, 117, 110, 60] ++ itoa t.num ++ [62]
    else if t.knd = 5 then [60] ++ itoa t.num ++ [62]
    else if t.knd = 6 then [123] ++ (saidI t.items ++ saidT t.tail) ++ [125]
    else [91] ++ (saidI t.items ++ saidT t.tail) ++ [93] := by
  cases t; rw [said]; rfl
def text (t : Term) : List UInt8 := if right t = true then said t else []

/-! which bytes are met -/
abbrev okC (c : UInt8) : Prop := 32 ≤ c.toNat ∧ c.toNat ≤ 126
def okS (s : List UInt8) : Prop := ∀ c, c ∈ s → okC c
theorem okS.append {a b : List UInt8} (h : okS a) (k : okS b) : okS (a ++ b) := fun c hc => (List.mem_append.1 hc).elim (h c) (k c)
theorem okS.cons {c : UInt8} {b : List UInt8} (h : okC c) (k : okS b) : okS (c :: b) := fun d hd => (List.mem_cons.1 hd).elim (fun e => e ▸ h) (k d)
theorem okS.nil : okS [] := fun c hc => by cases hc
theorem digs_ne {n : Nat} (h : n ≠ 0) : digs n ≠ [] := by unfold digs; rw [dif_neg h]; simp
def zeroT : Term := .mk 0 false [] [] 0 [] []
theorem zero_bad : right zeroT = false := by decide +kernel
/-- put together, before it is asked whether it may be -/
def cons0 (h t : Term) : Term := if t.knd = 7 then listT (h :: t.items) t.tail else listT [h] [t]
def cons (h t : Term) : Term := if right h = true ∧ right t = true ∧ right (cons0 h t) = true then cons0 h t else zeroT
/-- parted -/
def split (t : Term) : Option (Term × Term) := if right t = true ∧ t.knd = 7 then (match t.items with
  | [] => none
  | [x] => some (x, tailOf t)
  | x :: l => some (x, listT l t.tail)) else none
theorem cons_bad {h t : Term} (hb : ¬ (right h = true ∧ right t = true)) : cons h t = zeroT := by
  unfold cons
  rw [if_neg (fun x => hb ⟨x.1, x.2.1⟩)]
end Go.Proofs.YtjnhalmeddafdaaDoor
