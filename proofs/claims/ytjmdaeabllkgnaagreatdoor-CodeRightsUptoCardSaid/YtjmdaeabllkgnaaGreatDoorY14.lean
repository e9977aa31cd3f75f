/- The order of terms, plainly: what it is, and that it is one. -/
import Derived.Test.YtjmdaeabllkgnaaGreatDoorY13
import Derived.Test.YtjmdaeabllkgnaaGreatDoorY12
import Derived.Test.YtjmdaeabllkgnaaGreatDoorY11
set_option linter.unusedVariables false
set_option linter.unusedSimpArgs false
namespace Go.Proofs.YtjmdaeabllkgnaaGreatDoor
open Go Go.Av
section
def cmpI (a b : Int) : Int := if a < b then -1 else if b < a then 1 else 0
def lex (a b : Int) : Int := if a = 0 then b else a
def cmpS : List UInt8 -> List UInt8 -> Int
 | [], [] => 0
 | [], _ :: _ => -1
 | _ :: _, [] => 1
 | a :: l, b :: r => lex (cmpI a.toNat b.toNat) (cmpS l r)
def cmpL : List UInt32 -> List UInt32 -> Int
 | [], [] => 0
 | [], _ :: _ => -1
 | _ :: _, [] => 1
 | a :: l, b :: r => lex (cmpI a.toNat b.toNat) (cmpL l r)
def cmpA (a b : List UInt32) : Int := lex (cmpI a.length b.length) (cmpL a.reverse b.reverse)
def sgn (t : Term) : Int := if t.neg = true then -1 else 1
def cmpW (a b : Term) : Int := if sgn a ≠ sgn b then sgn a else cmpA a.limbs b.limbs * sgn a
def G3 (x y z : Int) : Prop := (x = 0 -> z = y) /\ (y = 0 -> z = x) /\ (x = y -> z = x)
def R3 (x : Int) : Prop := x = -1 \/ x = 0 \/ x = 1
theorem G3.lex {x y z x' y' z' : Int} (h : G3 x y z) (h' : G3 x' y' z') (hx : R3 x) (hy : R3 y) (hz : R3 z) : G3 (Proofs.YtjmdaeabllkgnaaGreatDoor.lex x x') (Proofs.YtjmdaeabllkgnaaGreatDoor.lex y y') (Proofs.YtjmdaeabllkgnaaGreatDoor.lex z z') := by
 obtain ⟨a, b, c⟩ := h
 obtain ⟨a', b', c'⟩ := h'
 unfold Proofs.YtjmdaeabllkgnaaGreatDoor.lex G3
 unfold R3 at hx hy hz
 rcases hx with rfl | rfl | rfl <;> rcases hy with rfl | rfl | rfl <;> simp_all
theorem R3.lex {x x' : Int} (h : R3 x) (h' : R3 x') : R3 (Proofs.YtjmdaeabllkgnaaGreatDoor.lex x x') := by
 unfold Proofs.YtjmdaeabllkgnaaGreatDoor.lex; split <;> assumption
mutual
def order : Term -> Term -> Int
 | .mk k g l s n ks ts, b =>
  if (k.toNat : Int) ≠ b.knd then cmpI k.toNat b.knd
  else if (k.toNat : Int) = 1 then cmpW (.mk k g l s n ks ts) b
  else if (k.toNat : Int) = 7 then lex (lex (rows ks b.items) (cmpI ks.length b.items.length)) (tl ts b.tail)
  else lex (lex (cmpS s b.text) (lex (cmpI n b.num) (cmpI ks.length b.items.length))) (rows ks b.items)
def tl : List Term -> List Term -> Int
 | [], [] => 0
 | [], b :: _ => cmpI 7 b.knd
 | a :: _, [] => cmpI a.knd 7
 | a :: _, b :: _ => order a b
def rows : List Term -> List Term -> Int
 | [], _ => 0
 | _, [] => 0
 | a :: l, b :: r => lex (order a b) (rows l r)
end
def right (t : Term) : Bool := decide (0 < size t)
theorem adds_true {each : Int} : ∀ (l : List Term) (a : Int × Bool), (adds l each a).2 = true -> a.2 = true /\ ∀ x, x ∈ l -> 0 < size x
 | [], a, h => ⟨h, fun x hx => by cases hx⟩
 | k :: ks, a, h => by
  simp only [adds] at h
  split at h
  ·rename_i ha
   obtain ⟨h1, h2⟩ := adds_true ks _ h
   simp only [Bool.and_eq_true, decide_eq_true_eq] at h1
   refine ⟨ha, fun x hx => ?_⟩
   rcases List.mem_cons.1 hx with rfl | hx
   ·exact h1.1
   ·exact h2 x hx
  ·rename_i ha; exact absurd h ha
structure Rt (t : Term) : Prop where
 items : ∀ x, x ∈ t.items -> right x = true
 tail : ∀ x, x ∈ t.tail -> right x = true
 kind : 1 <= t.knd /\ t.knd <= 7
 int : t.knd = 1 -> wr t = true
 rest : t.knd ≠ 1 -> t.neg = false /\ t.limbs = [] /\ (t.knd ≠ 2 -> t.text = []) /\ (t.knd ≠ 7 -> t.tail = []) /\ (t.knd = 2 \/ t.knd = 6 \/ t.knd = 7 -> t.num = 0) /\ (t.knd = 2 \/ t.knd = 3 \/ t.knd = 5 -> t.items = [])
 list : t.knd = 7 -> t.tail.length <= 1 /\ t.tail.length <= t.items.length /\ ∀ x, x ∈ t.tail -> x.knd ≠ 7
theorem wr_spec {t : Term} (h : wr t = true) : t.knd = 1 /\ t.text = [] /\ t.num = 0 /\ t.items = [] /\ t.tail = [] /\ t.limbs.length <= 32 /\ (t.limbs = [] -> t.neg = false) /\ (t.limbs ≠ [] -> lastOk t.limbs = true) := by
 simp only [wr, Bool.and_eq_true, Bool.or_eq_true, decide_eq_true_eq, Bool.not_eq_true'] at h
 obtain ⟨⟨⟨⟨⟨h1, h2⟩, h3⟩, h4⟩, h5⟩, h6⟩ := h
 refine ⟨h1, h2, h3, List.eq_nil_of_length_eq_zero (by omega), List.eq_nil_of_length_eq_zero (by omega), by omega, fun hl => ?_, fun hl => ?_⟩
 ·rcases h6 with h6 | h6
  ·exact h6.2
  ·rw [hl] at h6; simp at h6
 ·rcases h6 with h6 | h6
  ·have : t.limbs.length = 0 := by have := h6.1; omega
   exact absurd (List.eq_nil_of_length_eq_zero this) hl
  ·exact h6.2
theorem bare_spec {t : Term} {a b c d : Bool} (h : bare t a b c d = true) : t.neg = false /\ t.limbs = [] /\ (a = false -> t.text = []) /\ (b = false -> t.num = 0) /\ (c = false -> t.items = []) /\ (d = false -> t.tail = []) := by
 simp only [bare, Bool.and_eq_true, Bool.or_eq_true, decide_eq_true_eq, Bool.not_eq_true'] at h
 obtain ⟨⟨⟨⟨⟨h1, h2⟩, h3⟩, h4⟩, h5⟩, h6⟩ := h
 refine ⟨h1, List.eq_nil_of_length_eq_zero (by omega), fun e => ?_, fun e => ?_, fun e => ?_, fun e => ?_⟩
 ·subst e; simpa using h3
 ·subst e; simpa using h4
 ·subst e; simp at h5; exact h5
 ·subst e; simp at h6; exact h6
theorem right_spec {t : Term} (h : right t = true) : Rt t := by
 simp only [right, decide_eq_true_eq] at h
 rw [size_eq] at h
 by_cases h1 : t.knd = 1
 ·rw [if_pos h1] at h
  split at h
  ·rename_i hw
   obtain ⟨_, w2, w3, w4, w5, w6, w7, w8⟩ := wr_spec hw
   refine ⟨fun x hx => (by rw [w4] at hx; cases hx), fun x hx => (by rw [w5] at hx; cases hx), by omega, fun _ => hw, fun e => absurd h1 e, fun e => by omega⟩
  ·omega
 ·rw [if_neg h1] at h
  split at h
  ·rename_i hf
   obtain ⟨f1, f2⟩ := adds_true _ _ hf
   obtain ⟨f3, f4⟩ := adds_true _ _ f1
   simp only at f3
   refine ⟨fun x hx => by simp [right, f4 x hx], fun x hx => by simp [right, f2 x hx], ?_, fun e => absurd e h1, fun _ => ?_, fun h7 => ?_⟩
   ·have := t.knd_nn
    unfold head at f3
    by_cases e2 : t.knd = 2
    ·omega
    by_cases e3 : t.knd = 3 \/ t.knd = 5
    ·omega
    by_cases e4 : t.knd = 4
    ·omega
    by_cases e6 : t.knd = 6
    ·omega
    by_cases e7 : t.knd = 7
    ·omega
    simp [e2, e3, e4, e6, e7] at f3
   ·unfold head at f3
    by_cases e2 : t.knd = 2
    ·rw [if_pos e2] at f3
     simp only [Bool.and_eq_true] at f3
     obtain ⟨b1, b2, b3, b4, b5, b6⟩ := bare_spec f3.1
     exact ⟨b1, b2, fun e => absurd e2 e, fun _ => b6 rfl, fun _ => b4 rfl, fun _ => b5 rfl⟩
    rw [if_neg e2] at f3
    by_cases e3 : t.knd = 3 \/ t.knd = 5
    ·rw [if_pos e3] at f3
     simp only [Bool.and_eq_true] at f3
     obtain ⟨b1, b2, b3, b4, b5, b6⟩ := bare_spec f3.1.1
     exact ⟨b1, b2, fun _ => b3 rfl, fun _ => b6 rfl, fun e => by omega, fun _ => b5 rfl⟩
    rw [if_neg e3] at f3
    by_cases e4 : t.knd = 4
    ·rw [if_pos e4] at f3
     simp only [Bool.and_eq_true] at f3
     obtain ⟨b1, b2, b3, b4, b5, b6⟩ := bare_spec f3.1.1
     exact ⟨b1, b2, fun _ => b3 rfl, fun _ => b6 rfl, fun e => by omega, fun e => by omega⟩
    rw [if_neg e4] at f3
    by_cases e6 : t.knd = 6
    ·rw [if_pos e6] at f3
     obtain ⟨b1, b2, b3, b4, b5, b6⟩ := bare_spec f3
     exact ⟨b1, b2, fun _ => b3 rfl, fun _ => b6 rfl, fun _ => b4 rfl, fun e => by omega⟩
    rw [if_neg e6] at f3
    by_cases e7 : t.knd = 7
    ·rw [if_pos e7] at f3
     simp only [Bool.and_eq_true] at f3
     obtain ⟨b1, b2, b3, b4, b5, b6⟩ := bare_spec f3.1.1
     exact ⟨b1, b2, fun _ => b3 rfl, fun e => absurd e7 e, fun _ => b4 rfl, fun e => by omega⟩
    rw [if_neg e7] at f3
    cases f3
   ·unfold head at f3
    rw [if_neg (by omega), if_neg (by omega), if_neg (by omega), if_neg (by omega), if_pos h7] at f3
    simp only [Bool.and_eq_true, decide_eq_true_eq, List.all_eq_true] at f3
    obtain ⟨⟨_, f5⟩, f6⟩ := f3
    refine ⟨?_, ?_, fun x hx => f6 x hx⟩
    ·split at f5 <;> omega
    ·split at f5 <;> omega
  ·omega
theorem term_ext {a b : Term} (h1 : a.knd = b.knd) (h2 : a.neg = b.neg) (h3 : a.limbs = b.limbs) (h4 : a.text = b.text) (h5 : a.num = b.num) (h6 : a.items = b.items) (h7 : a.tail = b.tail) : a = b := by
 cases a; cases b
 simp only [Term.knd, Term.kind, Term.neg, Term.limbs, Term.text, Term.num, Term.items, Term.tail] at *
 have h1' := UInt8.toNat_inj.1 (Int.ofNat.inj h1)
 subst h1' h2 h3 h4 h5 h6 h7
 rfl
def listT (ks ts : List Term) : Term := .mk 7 false [] [] 0 ks ts
def tailOf (t : Term) : Term := match t.tail with | [] => listT [] [] | x :: _ => x
end
set_option maxRecDepth 20000
section
variable (G : Nat -> AV)
def val : List UInt32 -> Nat
 | [] => 0
 | x :: l => x.toNat + 4294967296 * val l
end
end Go.Proofs.YtjmdaeabllkgnaaGreatDoor
