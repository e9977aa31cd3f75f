/- The order of terms, plainly: what it is, and that it is one. -/
import Derived.Test.YtldmniappliepaaGreatDoorY11
import Derived.Test.YtldmniappliepaaGreatDoorY10
set_option linter.unusedVariables false
set_option linter.unusedSimpArgs false
namespace Go.Proofs.YtldmniappliepaaGreatDoor
open Go Go.Av
section
def cmpI (a b : Int) : Int := if a < b then -1 else if b < a then 1 else 0
def lex (a b : Int) : Int := if a = 0 then b else a
def cmpS : List UInt8 → List UInt8 → Int
  | [], [] => 0
  | [], _ :: _ => -1
  | _ :: _, [] => 1
  | a :: l, b :: r => lex (cmpI a.toNat b.toNat) (cmpS l r)
def cmpL : List UInt32 → List UInt32 → Int
  | [], [] => 0
  | [], _ :: _ => -1
  | _ :: _, [] => 1
  | a :: l, b :: r => lex (cmpI a.toNat b.toNat) (cmpL l r)
def cmpA (a b : List UInt32) : Int := lex (cmpI a.length b.length) (cmpL a.reverse b.reverse)
def sgn (t : Term) : Int := if t.neg = true then -1 else 1
def cmpW (a b : Term) : Int := if sgn a ≠ sgn b then sgn a else cmpA a.limbs b.limbs * sgn a
def G3 (x y z : Int) : Prop := (x = 0 → z = y) ∧ (y = 0 → z = x) ∧ (x = y → z = x)
def R3 (x : Int) : Prop := x = -1 ∨ x = 0 ∨ x = 1
theorem G3.lex {x y z x' y' z' : Int} (h : G3 x y z) (h' : G3 x' y' z') (hx : R3 x) (hy : R3 y) (hz : R3 z) : G3 (Proofs.YtldmniappliepaaGreatDoor.lex x x') (Proofs.YtldmniappliepaaGreatDoor.lex y y') (Proofs.YtldmniappliepaaGreatDoor.lex z z') := by
  obtain ⟨a, b, c⟩ := h
  obtain ⟨a', b', c'⟩ := h'
  unfold Proofs.YtldmniappliepaaGreatDoor.lex G3
  unfold R3 at hx hy hz
  rcases hx with rfl | rfl | rfl <;> rcases hy with rfl | rfl | rfl <;> simp_all
theorem R3.lex {x x' : Int} (h : R3 x) (h' : R3 x') : R3 (Proofs.YtldmniappliepaaGreatDoor.lex x x') := by
  unfold Proofs.YtldmniappliepaaGreatDoor.lex; split <;> assumption
mutual
def order : Term → Term → Int
  | .mk k g l s n ks ts, b =>
    if (k.toNat : Int) ≠ b.knd then cmpI k.toNat b.knd
    else if (k.toNat : Int) = 1 then cmpW (.mk k g l s n ks ts) b
    else if (k.toNat : Int) = 7 then lex (lex (rows ks b.items) (cmpI ks.length b.items.length)) (tl ts b.tail)
    else lex (lex (cmpS s b.text) (lex (cmpI n b.num) (cmpI ks.length b.items.length))) (rows ks b.items)
def tl : List Term → List Term → Int
  | [], [] => 0
  | [], b :: _ => cmpI 7 b.knd
  | a :: _, [] => cmpI a.knd 7
  | a :: _, b :: _ => order a b
def rows : List Term → List Term → Int
  | [], _ => 0
  | _, [] => 0
  | a :: l, b :: r => lex (order a b) (rows l r)
end
def right (t : Term) : Bool := decide (0 < size t)
structure Rt (t : Term) : Prop where
  items : ∀ x, x ∈ t.items → right x = true
  tail : ∀ x, x ∈ t.tail → right x = true
  kind : 1 ≤ t.knd ∧ t.knd ≤ 7
  int : t.knd = 1 → wr t = true
  rest : t.knd ≠ 1 → t.neg = false ∧ t.limbs = [] ∧ (t.knd ≠ 2 → t.text = []) ∧ (t.knd ≠ 7 → t.tail = []) ∧ (t.knd = 2 ∨ t.knd = 6 ∨ t.knd = 7 → t.num = 0) ∧ (t.knd = 2 ∨ t.knd = 3 ∨ t.knd = 5 → t.items = [])
  list : t.knd = 7 → t.tail.length ≤ 1 ∧ t.tail.length ≤ t.items.length ∧ ∀ x, x ∈ t.tail → x.knd ≠ 7
def listT (ks ts : List Term) : Term := .mk 7 false [] [] 0 ks ts
def tailOf (t : Term) : Term := match t.tail with | [] => listT [] [] | x :: _ => x
end
set_option maxRecDepth 20000
section
variable (G : Nat → AV)
def val : List UInt32 → Nat
  | [] => 0
  | x :: l => x.toNat + 4294967296 * val l
end
section
def digs (n : Nat) : List UInt8 := if h : n = 0 then [] else UInt8.ofNat (48 + n % 10) :: digs (n / 10)
termination_by n
decreasing_by omega
def decT (n : Nat) : List UInt8 := if n = 0 then [48] else (digs n).reverse
def wsaid (t : Term) : List UInt8 := (if t.neg = true then [45] else []) ++ decT (val t.limbs)
def itoa (n : Int) : List UInt8 := (if n < 0 then [45] else []) ++ decT n.natAbs
def words : List (List UInt8) := [[97, 102, 116, 101, 114], [97, 110, 100], [97, 110, 100, 97, 108, 115, 111], [98, 101, 103, 105, 110], [99, 97, 115, 101], [100, 105, 118], [101, 110, 100], [102, 117, 110], [105, 102], [110, 111, 116], [111, 102], [111, 114], [111, 114, 101, 108, 115, 101], [114, 101, 99, 101, 105, 118, 101], [114, 101, 109], [116, 114, 121], [99, 97, 116, 99, 104], [119, 104, 101, 110], [120, 111, 114]]
def innerC (c : UInt8) : Bool := decide (97 ≤ c.toNat) && decide (c.toNat ≤ 122) || decide (65 ≤ c.toNat) && decide (c.toNat ≤ 90) || decide (48 ≤ c.toNat) && decide (c.toNat ≤ 57) || decide (c.toNat = 95) || decide (c.toNat = 64)
def plainA (s : List UInt8) : Bool := match s with
  | [] => false
  | c :: _ => decide (97 ≤ c.toNat) && decide (c.toNat ≤ 122) && !words.contains s && s.all innerC
def hexD (n : Nat) : UInt8 := if n < 10 then UInt8.ofNat (48 + n) else UInt8.ofNat (87 + n)
def quoC (c : UInt8) : List UInt8 :=
  if c.toNat = 39 ∨ c.toNat = 92 then [92, c]
  else if c.toNat = 10 then [92, 110]
  else if c.toNat < 32 ∨ 126 < c.toNat then [92, 120, hexD (c.toNat / 16), hexD (c.toNat % 16)]
  else [c]
def quoted (s : List UInt8) : List UInt8 := 39 :: (s.flatMap quoC ++ [39])
def atomT (s : List UInt8) : List UInt8 := if plainA s = true then s else quoted s
mutual
def said : Term → List UInt8
  | .mk k g l s n ks ts =>
    if (k.toNat : Int) = 1 then wsaid (.mk k g l s n ks ts)
    else if (k.toNat : Int) = 2 then atomT s
    else if (k.toNat : Int) = 3 then [35, 82, 101, 102, 60] ++ itoa n ++ [62]
    else if (k.toNat : Int) = 4 then [35, 70, 117, 110, 60] ++ itoa n ++ [62]
    else if (k.toNat : Int) = 5 then [60] ++ itoa n ++ [62]
    else if (k.toNat : Int) = 6 then [123] ++ (saidI ks ++ saidT ts) ++ [125]
    else [91] ++ (saidI ks ++ saidT ts) ++ [93]
def saidI : List Term → List UInt8
  | [] => []
  | x :: l => said x ++ saidN l
def saidN : List Term → List UInt8
  | [] => []
  | x :: l => 44 :: (said x ++ saidN l)
def saidT : List Term → List UInt8
  | [] => []
  | x :: l => 124 :: (said x ++ saidT l)
end
def text (t : Term) : List UInt8 := if right t = true then said t else []
abbrev okC (c : UInt8) : Prop := 32 ≤ c.toNat ∧ c.toNat ≤ 126
def okS (s : List UInt8) : Prop := ∀ c, c ∈ s → okC c
theorem okS.append {a b : List UInt8} (h : okS a) (k : okS b) : okS (a ++ b) := fun c hc => (List.mem_append.1 hc).elim (h c) (k c)
theorem okS.cons {c : UInt8} {b : List UInt8} (h : okC c) (k : okS b) : okS (c :: b) := fun d hd => (List.mem_cons.1 hd).elim (fun e => e ▸ h) (k d)
theorem okS.nil : okS [] := fun c hc => by cases hc
def zeroT : Term := .mk 0 false [] [] 0 [] []
def cons0 (h t : Term) : Term := if t.knd = 7 then listT (h :: t.items) t.tail else listT [h] [t]
def cons (h t : Term) : Term := if right h = true ∧ right t = true ∧ right (cons0 h t) = true then cons0 h t else zeroT
def split (t : Term) : Option (Term × Term) := if right t = true ∧ t.knd = 7 then (match t.items with
  | [] => none
  | [x] => some (x, tailOf t)
  | x :: l => some (x, listT l t.tail)) else none
end
end Go.Proofs.YtldmniappliepaaGreatDoor
