/- The order of terms, plainly: what it is, and that it is one. -/
import Derived.Test.YtjmdaeabllkgnaaGreatDoorZ13
import Derived.Test.YtjmdaeabllkgnaaGreatDoorZ12
import Derived.Test.YtjmdaeabllkgnaaGreatDoorZ11
set_option linter.unusedVariables false
set_option linter.unusedSimpArgs false
set_option linter.defProp false
namespace Go.Proofs.YtjmdaeabllkgnaaGreatDoor
open Go Go.Av
section
def cmpI (a b : Int) : Int := if a < b then -1 else if b < a then 1 else 0
def lex (a b : Int) : Int := if a = 0 then b else a
def cmpS : List UInt8 → List UInt8 → Int
 | [], [] => 0
 | [], _ :: _ => -1
 | _ :: _, [] => 1
 | a :: l, b :: r => lex (cmpI a.toNat b.toNat) (cmpS l r)
def cmpL : List UInt32 → List UInt32 → Int
 | [], [] => 0
 | [], _ :: _ => -1
 | _ :: _, [] => 1
 | a :: l, b :: r => lex (cmpI a.toNat b.toNat) (cmpL l r)
def cmpA (a b : List UInt32) : Int := lex (cmpI a.length b.length) (cmpL a.reverse b.reverse)
def sgn (t : Term) : Int := if t.neg = true then -1 else 1
def cmpW (a b : Term) : Int := if sgn a ≠ sgn b then sgn a else cmpA a.limbs b.limbs * sgn a
def G3 (x y z : Int) : Prop := (x = 0 → z = y) ∧ (y = 0 → z = x) ∧ (x = y → z = x)
def R3 (x : Int) : Prop := x = -1 ∨ x = 0 ∨ x = 1
theorem G3.lex {x y z x' y' z' : Int} (h : G3 x y z) (h' : G3 x' y' z') (hx : R3 x) (hy : R3 y) (hz : R3 z) : G3 (Proofs.YtjmdaeabllkgnaaGreatDoor.lex x x') (Proofs.YtjmdaeabllkgnaaGreatDoor.lex y y') (Proofs.YtjmdaeabllkgnaaGreatDoor.lex z z') := by
 obtain ⟨a, b, c⟩ := h
 obtain ⟨a', b', c'⟩ := h'
 unfold Proofs.YtjmdaeabllkgnaaGreatDoor.lex G3
 unfold R3 at hx hy hz
 rcases hx with rfl | rfl | rfl <;> rcases hy with rfl | rfl | rfl <;> simp_all
theorem R3.lex {x x' : Int} (h : R3 x) (h' : R3 x') : R3 (Proofs.YtjmdaeabllkgnaaGreatDoor.lex x x') := by
 unfold Proofs.YtjmdaeabllkgnaaGreatDoor.lex; split <;> assumption
mutual
def order : Term → Term → Int
 | .mk k g l s n ks ts, b =>
  if (k.toNat : Int) ≠ b.knd then cmpI k.toNat b.knd
  else if (k.toNat : Int) = 1 then cmpW (.mk k g l s n ks ts) b
  else if (k.toNat : Int) = 7 then lex (lex (rows ks b.items) (cmpI ks.length b.items.length)) (tl ts b.tail)
  else lex (lex (cmpS s b.text) (lex (cmpI n b.num) (cmpI ks.length b.items.length))) (rows ks b.items)
def tl : List Term → List Term → Int
 | [], [] => 0
 | [], b :: _ => cmpI 7 b.knd
 | a :: _, [] => cmpI a.knd 7
 | a :: _, b :: _ => order a b
def rows : List Term → List Term → Int
 | [], _ => 0
 | _, [] => 0
 | a :: l, b :: r => lex (order a b) (rows l r)
end
def right (t : Term) : Bool := decide (0 < size t)
theorem adds_true {each : Int} : ∀ (l : List Term) (a : Int × Bool), (adds l each a).2 = true → a.2 = true ∧ ∀ x, x ∈ l → 0 < size x
 | [], a, h => ⟨h, fun x hx => by cases hx⟩
 | k :: ks, a, h => by
  simp only [adds] at h
  split at h
  ·rename_i ha
   obtain ⟨h1, h2⟩ := adds_true ks _ h
   simp only [Bool.and_eq_true, decide_eq_true_eq] at h1
   refine ⟨ha, fun x hx => ?_⟩
   rcases List.mem_cons.1 hx with rfl | hx
   ·exact h1.1
   ·exact h2 x hx
  ·rename_i ha; exact absurd h ha
structure Rt (t : Term) : Prop where
 items : ∀ x, x ∈ t.items → right x = true
 tail : ∀ x, x ∈ t.tail → right x = true
 kind : 1 ≤ t.knd ∧ t.knd ≤ 7
 int : t.knd = 1 → wr t = true
 rest : t.knd ≠ 1 → t.neg = false ∧ t.limbs = [] ∧ (t.knd ≠ 2 → t.text = []) ∧ (t.knd ≠ 7 → t.tail = []) ∧ (t.knd = 2 ∨ t.knd = 6 ∨ t.knd = 7 → t.num = 0) ∧ (t.knd = 2 ∨ t.knd = 3 ∨ t.knd = 5 → t.items = [])
 list : t.knd = 7 → t.tail.length ≤ 1 ∧ t.tail.length ≤ t.items.length ∧ ∀ x, x ∈ t.tail → x.knd ≠ 7
theorem wr_spec {t : Term} (h : wr t = true) : t.knd = 1 ∧ t.text = [] ∧ t.num = 0 ∧ t.items = [] ∧ t.tail = [] ∧ t.limbs.length ≤ 32 ∧ (t.limbs = [] → t.neg = false) ∧ (t.limbs ≠ [] → lastOk t.limbs = true) := by
 simp only [wr, Bool.and_eq_true, Bool.or_eq_true, decide_eq_true_eq, Bool.not_eq_true'] at h
 obtain ⟨⟨⟨⟨⟨h1, h2⟩, h3⟩, h4⟩, h5⟩, h6⟩ := h
 refine ⟨h1, h2, h3, List.eq_nil_of_length_eq_zero (by omega), List.eq_nil_of_length_eq_zero (by omega), by omega, fun hl => ?_, fun hl => ?_⟩
 ·rcases h6 with h6 | h6
  ·exact h6.2
  ·rw [hl] at h6; simp at h6
 ·rcases h6 with h6 | h6
  ·have : t.limbs.length = 0 := by have := h6.1; omega
   exact absurd (List.eq_nil_of_length_eq_zero this) hl
  ·exact h6.2
theorem bare_spec {t : Term} {a b c d : Bool} (h : bare t a b c d = true) : t.neg = false ∧ t.limbs = [] ∧ (a = false → t.text = []) ∧ (b = false → t.num = 0) ∧ (c = false → t.items = []) ∧ (d = false → t.tail = []) := by
 simp only [bare, Bool.and_eq_true, Bool.or_eq_true, decide_eq_true_eq, Bool.not_eq_true'] at h
 obtain ⟨⟨⟨⟨⟨h1, h2⟩, h3⟩, h4⟩, h5⟩, h6⟩ := h
 refine ⟨h1, List.eq_nil_of_length_eq_zero (by omega), fun e => ?_, fun e => ?_, fun e => ?_, fun e => ?_⟩
 ·subst e; simpa using h3
 ·subst e; simpa using h4
 ·subst e; simp at h5; exact h5
 ·subst e; simp at h6; exact h6
theorem right_spec {t : Term} (h : right t = true) : Rt t := by
 simp only [right, decide_eq_true_eq] at h
 rw [size_eq] at h
 by_cases h1 : t.knd = 1
 ·rw [if_pos h1] at h
  split at h
  ·rename_i hw
   obtain ⟨_, w2, w3, w4, w5, w6, w7, w8⟩ := wr_spec hw
   refine ⟨fun x hx => (by rw [w4] at hx; cases hx), fun x hx => (by rw [w5] at hx; cases hx), by omega, fun _ => hw, fun e => absurd h1 e, fun e => by omega⟩
  ·omega
 ·rw [if_neg h1] at h
  split at h
  ·rename_i hf
   obtain ⟨f1, f2⟩ := adds_true _ _ hf
   obtain ⟨f3, f4⟩ := adds_true _ _ f1
   simp only at f3
   refine ⟨fun x hx => by simp [right, f4 x hx], fun x hx => by simp [right, f2 x hx], ?_, fun e => absurd e h1, fun _ => ?_, fun h7 => ?_⟩
   ·have := t.knd_nn
    unfold head at f3
    by_cases e2 : t.knd = 2
    ·omega
    by_cases e3 : t.knd = 3 ∨ t.knd = 5
    ·omega
    by_cases e4 : t.knd = 4
    ·omega
    by_cases e6 : t.knd = 6
    ·omega
    by_cases e7 : t.knd = 7
    ·omega
    simp [e2, e3, e4, e6, e7] at f3
   ·unfold head at f3
    by_cases e2 : t.knd = 2
    ·rw [if_pos e2] at f3
     simp only [Bool.and_eq_true] at f3
     obtain ⟨b1, b2, b3, b4, b5, b6⟩ := bare_spec f3.1
     exact ⟨b1, b2, fun e => absurd e2 e, fun _ => b6 rfl, fun _ => b4 rfl, fun _ => b5 rfl⟩
    rw [if_neg e2] at f3
    by_cases e3 : t.knd = 3 ∨ t.knd = 5
    ·rw [if_pos e3] at f3
     simp only [Bool.and_eq_true] at f3
     obtain ⟨b1, b2, b3, b4, b5, b6⟩ := bare_spec f3.1.1
     exact ⟨b1, b2, fun _ => b3 rfl, fun _ => b6 rfl, fun e => by omega, fun _ => b5 rfl⟩
    rw [if_neg e3] at f3
    by_cases e4 : t.knd = 4
    ·rw [if_pos e4] at f3
     simp only [Bool.and_eq_true] at f3
     obtain ⟨b1, b2, b3, b4, b5, b6⟩ := bare_spec f3.1.1
     exact ⟨b1, b2, fun _ => b3 rfl, fun _ => b6 rfl, fun e => by omega, fun e => by omega⟩
    rw [if_neg e4] at f3
    by_cases e6 : t.knd = 6
    ·rw [if_pos e6] at f3
     obtain ⟨b1, b2, b3, b4, b5, b6⟩ := bare_spec f3
     exact ⟨b1, b2, fun _ => b3 rfl, fun _ => b6 rfl, fun _ => b4 rfl, fun e => by omega⟩
    rw [if_neg e6] at f3
    by_cases e7 : t.knd = 7
    ·rw [if_pos e7] at f3
     simp only [Bool.and_eq_true] at f3
     obtain ⟨b1, b2, b3, b4, b5, b6⟩ := bare_spec f3.1.1
     exact ⟨b1, b2, fun _ => b3 rfl, fun e => absurd e7 e, fun _ => b4 rfl, fun e => by omega⟩
    rw [if_neg e7] at f3
    cases f3
   ·unfold head at f3
    rw [if_neg (by omega), if_neg (by omega), if_neg (by omega), if_neg (by omega), if_pos h7] at f3
    simp only [Bool.and_eq_true, decide_eq_true_eq, List.all_eq_true] at f3
    obtain ⟨⟨_, f5⟩, f6⟩ := f3
    refine ⟨?_, ?_, fun x hx => f6 x hx⟩
    ·split at f5 <;> omega
    ·split at f5 <;> omega
  ·omega
theorem term_ext {a b : Term} (h1 : a.knd = b.knd) (h2 : a.neg = b.neg) (h3 : a.limbs = b.limbs) (h4 : a.text = b.text) (h5 : a.num = b.num) (h6 : a.items = b.items) (h7 : a.tail = b.tail) : a = b := by
 cases a; cases b
 simp only [Term.knd, Term.kind, Term.neg, Term.limbs, Term.text, Term.num, Term.items, Term.tail] at *
 have h1' := UInt8.toNat_inj.1 (Int.ofNat.inj h1)
 subst h1' h2 h3 h4 h5 h6 h7
 rfl
def listT (ks ts : List Term) : Term := .mk 7 false [] [] 0 ks ts
def tailOf (t : Term) : Term := match t.tail with | [] => listT [] [] | x :: _ => x
end
set_option maxRecDepth 20000
section
def tbShort := And.intro (And.intro (And.intro @tf3 (And.intro @tf4 @tf5)) (And.intro (And.intro @tf169 @tf171) (And.intro @tf116 @tf9))) (And.intro (And.intro @tf56 (And.intro @isv_lims @flat_lims)) (And.intro (And.intro @len_lims @ix_lims) (And.intro @ix_lims' @flat_limA)))
variable (G : Nat → AV)
theorem or_halves (H L : Nat) (hH : H < 4294967296) (hL : L < 4294967296) : (BitVec.ofInt IntKind.u64.bits ((H : Int) * 4294967296) ||| BitVec.ofInt IntKind.u64.bits (L : Int)).toNat = H * 4294967296 + L := by
 have hb : IntKind.u64.bits = 64 := rfl
 rw [hb, BitVec.toNat_or, BitVec.toNat_ofInt, BitVec.toNat_ofInt]
 have e1 : (((H : Int) * 4294967296) % ((2 ^ 64 : Nat) : Int)).toNat = H <<< 32 := by rw [Nat.shiftLeft_eq]; omega
 have e2 : ((L : Int) % ((2 ^ 64 : Nat) : Int)).toNat = L := by omega
 rw [e1, e2, ← Nat.shiftLeft_add_eq_or_of_lt (by omega), Nat.shiftLeft_eq]
theorem u64_wrap {x : Int} (h0 : 0 ≤ x) (h1 : x < 18446744073709551616) : IntKind.u64.wrap x = x := by
 rw [IntKind.wrap_u64]; omega
theorem u32_wrap {x : Int} (h0 : 0 ≤ x) (h1 : x < 4294967296) : IntKind.u32.wrap x = x := by
 rw [IntKind.wrap_u32]; omega
theorem div32_pure (H L Y : Nat) (hy : H < Y) (l1 : L < 4294967296) (y1 : Y < 4294967296) : Pure Tryz.prog G 208 [.int .u32 H, .int .u32 L, .int .u32 Y] (.tup [.int .u32 ((H * 4294967296 + L) / Y : Nat), .int .u32 ((H * 4294967296 + L) % Y : Nat)]) := by
 have c1 : ¬ (Y : Int) = 0 := by omega
 have c2 : ¬ (Y : Int) ≤ H := by omega
 have w1 : IntKind.u64.wrap (Y : Int) = Y := u64_wrap (by omega) (by omega)
 have w2 : IntKind.u64.wrap (H : Int) = H := u64_wrap (by omega) (by omega)
 have w3 : IntKind.u64.wrap (L : Int) = L := u64_wrap (by omega) (by omega)
 have w4 : IntKind.u64.wrap ((H : Int) * 2 ^ min 32 IntKind.u64.bits) = (H : Int) * 4294967296 := by
  have : ((2 : Int) ^ min 32 IntKind.u64.bits) = 4294967296 := by decide
  rw [this]; exact u64_wrap (by omega) (by omega)
 have w5 := or_halves H L (by omega) l1
 have w6 : IntKind.u64.wrap ((H * 4294967296 + L : Nat) : Int) = ((H * 4294967296 + L : Nat) : Int) := u64_wrap (by omega) (by omega)
 have hq : (H * 4294967296 + L) / Y < 4294967296 := by
  rw [Nat.div_lt_iff_lt_mul (by omega)]
  have : (H + 1) * 4294967296 ≤ Y * 4294967296 := Nat.mul_le_mul_right _ hy
  rw [Nat.mul_comm 4294967296 Y]; omega
 have hr : (H * 4294967296 + L) % Y < Y := Nat.mod_lt _ (by omega)
 have w7 : ((H * 4294967296 + L : Nat) : Int).tdiv (Y : Int) = (((H * 4294967296 + L) / Y : Nat) : Int) := rfl
 have w8 : ((H * 4294967296 + L : Nat) : Int).tmod (Y : Int) = (((H * 4294967296 + L) % Y : Nat) : Int) := rfl
 have w9 : IntKind.u64.wrap ((((H * 4294967296 + L) / Y : Nat)) : Int) = (((H * 4294967296 + L) / Y : Nat) : Int) := u64_wrap (Int.natCast_nonneg _) (by clear w1 w2 w3 w4 w5 w6 w7 w8; generalize (H * 4294967296 + L) / Y = q at *; omega)
 have wa : IntKind.u32.wrap ((((H * 4294967296 + L) / Y : Nat)) : Int) = (((H * 4294967296 + L) / Y : Nat) : Int) := u32_wrap (Int.natCast_nonneg _) (by clear w1 w2 w3 w4 w5 w6 w7 w8; generalize (H * 4294967296 + L) / Y = q at *; omega)
 have wb : IntKind.u32.wrap ((((H * 4294967296 + L) % Y : Nat)) : Int) = (((H * 4294967296 + L) % Y : Nat) : Int) := u32_wrap (Int.natCast_nonneg _) (by clear w1 w2 w3 w4 w5 w6 w7 w8; generalize (H * 4294967296 + L) % Y = q at *; omega)
 generalize H * 4294967296 + L = V at *
 generalize V / Y = q at *
 generalize V % Y = r at *
 clear hq hr hy l1 y1
 intro σ
 refine Tri.of_awp mixed Tryz.func208 rfl (by kernel_rfl) (by kernel_rfl) (by simp [Tryz.ntmps208]) Tryz.results208 ?_
 repeat' (first | refine xs ?_ ?_ <;> intros | (refine wn ?_; intro bx hbx; try simp only [fb] at hbx) | refine wj ?_ | simp -dsimp only [↓bp, bq, br, seval, tbShort, *] | refine wz ?_ | fail)
 all_goals exact finishW_some σ (AS.le.refl _) ⟨rfl, rfl⟩
def val : List UInt32 → Nat
 | [] => 0
 | x :: l => x.toNat + 4294967296 * val l
theorem val_append (l r : List UInt32) : val (l ++ r) = val l + 4294967296 ^ l.length * val r := by
 induction l with
 | nil => simp [val]
 | cons x l ih => simp only [List.cons_append, val, ih, List.length_cons, Nat.pow_succ]; rw [Nat.mul_add, ← Nat.mul_assoc, Nat.mul_comm (4294967296 ^ l.length) 4294967296]; omega
def divd : List UInt32 → Nat → List UInt32 × Nat
 | [], _ => ([], 0)
 | x :: l, by_ => let p := divd l by_; (UInt32.ofNat ((p.2 * 4294967296 + x.toNat) / by_) :: p.1, (p.2 * 4294967296 + x.toNat) % by_)
theorem divd_spec (by_ : Nat) (h0 : 0 < by_) (h1 : by_ < 4294967296) : ∀ l, (divd l by_).1.length = l.length ∧ (divd l by_).2 < by_ ∧ val l = val (divd l by_).1 * by_ + (divd l by_).2
 | [] => ⟨rfl, h0, by simp [divd, val]⟩
 | x :: l => by
  obtain ⟨a, b, c⟩ := divd_spec by_ h0 h1 l
  simp only [divd, List.length_cons, val, c]
  have hx := x.toNat_lt
  have hq : ((divd l by_).2 * 4294967296 + x.toNat) / by_ < 4294967296 := by
   rw [Nat.div_lt_iff_lt_mul h0]
   have : ((divd l by_).2 + 1) * 4294967296 ≤ by_ * 4294967296 := Nat.mul_le_mul_right _ b
   rw [Nat.mul_comm 4294967296 by_]; omega
  refine ⟨by rw [a], Nat.mod_lt _ h0, ?_⟩
  have e : (UInt32.ofNat (((divd l by_).2 * 4294967296 + x.toNat) / by_)).toNat = ((divd l by_).2 * 4294967296 + x.toNat) / by_ := by rw [UInt32.toNat_ofNat', Nat.mod_eq_of_lt hq]
  rw [e]
  have hd := Nat.div_add_mod ((divd l by_).2 * 4294967296 + x.toNat) by_
  generalize ((divd l by_).2 * 4294967296 + x.toNat) / by_ = A at *
  generalize ((divd l by_).2 * 4294967296 + x.toNat) % by_ = R at *
  rw [Nat.add_mul, Nat.mul_comm A by_, Nat.mul_assoc 4294967296 (val (divd l by_).1) by_]
  generalize val (divd l by_).1 * by_ = W at *
  generalize by_ * A = B at *
  omega
theorem set_at (k : Nat) (a : AV) (l : List AV) : (List.replicate (k + 1) (AV.int .u32 0) ++ l).take k ++ ([a] ++ (List.replicate (k + 1) (AV.int .u32 0) ++ l).drop (k + 1)) = List.replicate k (.int .u32 0) ++ (a :: l) := by
 rw [List.replicate_succ', List.append_assoc, List.take_append_of_le_length (by simp), List.take_of_length_le (by simp), List.drop_append]
 simp
theorem divq_lt (H L Y : Nat) (hy : H < Y) (l1 : L < 4294967296) : (H * 4294967296 + L) / Y < 4294967296 := by
 rw [Nat.div_lt_iff_lt_mul (by omega)]
 have : (H + 1) * 4294967296 ≤ Y * 4294967296 := Nat.mul_le_mul_right _ hy
 rw [Nat.mul_comm 4294967296 Y]; omega
theorem flat_lims1 (l : List UInt32) : (l.map limA).flatMap flat = l.map limA := by
 induction l with
 | nil => rfl
 | cons x l ih => rw [List.map_cons, List.flatMap_cons, ih]; rfl
theorem short_pure (l : List UInt32) (by_ : Nat) (h0 : 0 < by_) (h1 : by_ < 4294967296) (hl : l.length ≤ 1000000000) : Pure Tryz.prog G 176 [lims l, .int .u32 by_] (.tup [lims (divd l by_).1, .int .u32 ((divd l by_).2 : Nat)]) := by
 obtain ⟨s1, s2, s3⟩ := divd_spec by_ h0 h1 l
 have tz : zc Tryz.prog 169 = some [.int .u32 0] := tf169.2.2.2.2.1
 refine Pure.of_le fun σ => Tri.tupBs (n := l.length) (s := 1) (E := 169) (xs := (divd l by_).1.map limA) (fun a ha => by obtain ⟨x, _, rfl⟩ := List.mem_map.1 ha; exact ⟨rfl, rfl⟩) (by simp [s1]) ?_
 have hw0 : IntKind.i64.wrap ((l.length : Int) - 1) = l.length - 1 := wrap_nat (by omega) (by omega)
 refine Tri.of_awp mixed Tryz.func176 rfl (by kernel_rfl) (by kernel_rfl) (by simp [Tryz.ntmps176]) Tryz.results176 ?_
 repeat' (first | refine xs ?_ ?_ <;> intros | (refine wn ?_; intro bx hbx; try simp only [fb] at hbx) | ((refine .inr ?_; unfold amakeM; rw [tfL, tfLE, Option.bind_some, tz]; refine ⟨by omega, Int.le_refl _, by omega, fun b hb => ?_⟩)) | refine wj ?_ | simp -dsimp only [↓bp, bq, br, seval, tbShort, *] | refine wz ?_ | fail)
 refine loop_intro (fun k e σ' => k ≤ l.length ∧ e 8 = .int .i64 ((k : Int) - 1) ∧ e 7 = .int .u32 ((divd (l.drop k) by_).2 : Nat) ∧ σ.le σ' ∧ σ'.box b = some (List.replicate k (.int .u32 0) ++ (divd (l.drop k) by_).1.map limA)) l.length
  ⟨Nat.le_refl _, by first | (simp -dsimp only [↓bp, bq, br, seval, tbShort]; done) | (simp -dsimp only [↓bp, bq, br, seval, tbShort]; try rfl), by rw [List.drop_length]; first | (simp -dsimp only [↓bp, bq, br, seval, tbShort]; done) | (simp -dsimp only [↓bp, bq, br, seval, tbShort]; try rfl), (by repeat' first | exact lr _ | assumption | refine ls ?_ ?_ | refine lt ?_ ?_ | simp only [*]; done | simp only [fb, *, not_false_eq_true, and_self]; done | exact lf ‹_› (by simp only [*])), by rw [List.drop_length]; simp [AS.setBox, divd]⟩ ?_
 rintro k v σ' ⟨hk, h8, h7, hle, hbx⟩
 simp -dsimp only [↓bp, bq, br, seval, tbShort] at h8 h7
 cases k with
 | zero =>
  simp only [List.drop_zero, List.replicate_zero, List.nil_append] at h7 hbx
  simp at h8
  clear hk hw0
  repeat' (first | refine xs ?_ ?_ <;> intros | (refine wn ?_; intro bx hbx; try simp only [fb] at hbx) | refine wj ?_ | simp -dsimp only [↓bp, bq, br, seval, tbShort, *] | refine wz ?_ | fail)
  exact finishW_some _ (AS.le.refl _) ⟨b, rfl, hle, hb.1, hb.2.1, by rw [hbx, flat_lims1]⟩
 | succ k =>
  have e8 : ((k + 1 : Nat) : Int) - 1 = k := by omega
  rw [e8] at h8
  obtain ⟨x, hx⟩ : ∃ x, l[k]? = some x := ⟨_, List.getElem?_eq_getElem (by omega)⟩
  have hd := drop_get _ _ _ hx
  have hkl : k < l.length := by omega
  obtain ⟨q1, q2, q3⟩ := divd_spec by_ h0 h1 (l.drop (k + 1))
  have hdv := div32_pure G (divd (l.drop (k + 1)) by_).2 x.toNat by_ q2 x.toNat_lt h1
  have hstep : divd (l.drop k) by_ = (UInt32.ofNat (((divd (l.drop (k + 1)) by_).2 * 4294967296 + x.toNat) / by_) :: (divd (l.drop (k + 1)) by_).1, ((divd (l.drop (k + 1)) by_).2 * 4294967296 + x.toNat) % by_) := by rw [hd]; rfl
  have hwk : IntKind.i64.wrap ((k : Int) - 1) = k - 1 := wrap_nat (by omega) (by omega)
  have hlt : (k : Int) < l.length := by omega
  have hlen : k < (List.replicate (k + 1) (AV.int .u32 0) ++ (divd (l.drop (k + 1)) by_).1.map limA).length := by simp; omega
  have hk0 : (0 : Int) ≤ k := by omega
  clear hk hw0 hd s1 s2 s3 q3
  have hql := divq_lt _ x.toNat _ q2 x.toNat_lt
  have hqa : limA (UInt32.ofNat (((divd (l.drop (k + 1)) by_).2 * 4294967296 + x.toNat) / by_)) = .int .u32 ((((divd (l.drop (k + 1)) by_).2 * 4294967296 + x.toNat) / by_ : Nat) : Int) := by
   unfold limA; rw [UInt32.toNat_ofNat', Nat.mod_eq_of_lt hql]
  have hbox : (divd (l.drop k) by_).1.map limA = .int .u32 ((((divd (l.drop (k + 1)) by_).2 * 4294967296 + x.toNat) / by_ : Nat) : Int) :: (divd (l.drop (k + 1)) by_).1.map limA := by rw [hstep, List.map_cons, hqa]
  have hst2 : (divd (l.drop k) by_).2 = ((divd (l.drop (k + 1)) by_).2 * 4294967296 + x.toNat) % by_ := by rw [hstep]
  clear hql hqa hstep
  repeat' (first | refine xs ?_ ?_ <;> intros | (refine wn ?_; intro bx hbx; try simp only [fb] at hbx) | refine wp hdv ?_ | refine wj ?_ | simp -dsimp only [↓bp, bq, br, seval, tbShort, limA, *] | refine wz ?_ | fail)
  refine ⟨k, by omega, by omega, rfl, by rw [hst2], (by repeat' first | exact lr _ | assumption | refine ls ?_ ?_ | refine lt ?_ ?_ | simp only [*]; done | simp only [fb, *, not_false_eq_true, and_self]; done | exact lf ‹_› (by simp only [*])), ?_⟩
  simp only [AS.setBox, if_true, Nat.mul_one]
  rw [hbox, List.append_assoc, set_at]
end
end Go.Proofs.YtjmdaeabllkgnaaGreatDoor
