/- The order of terms, plainly: what it is, and that it is one. -/
import Derived.Test.YtphnoaihojccbaaGreatDoorZ05
import Derived.Test.YtphnoaihojccbaaGreatDoorZ04
set_option linter.unusedVariables false
set_option linter.unusedSimpArgs false
set_option linter.defProp false
namespace Go.Proofs.YtphnoaihojccbaaGreatDoor
open Go Go.Av
section
def cmpI (a b : Int) : Int := if a < b then -1 else if b < a then 1 else 0
def lex (a b : Int) : Int := if a = 0 then b else a
def cmpS : List UInt8 → List UInt8 → Int
  | [], [] => 0
  | [], _ :: _ => -1
  | _ :: _, [] => 1
  | a :: l, b :: r => lex (cmpI a.toNat b.toNat) (cmpS l r)
def cmpL : List UInt32 → List UInt32 → Int
  | [], [] => 0
  | [], _ :: _ => -1
  | _ :: _, [] => 1
  | a :: l, b :: r => lex (cmpI a.toNat b.toNat) (cmpL l r)
def cmpA (a b : List UInt32) : Int := lex (cmpI a.length b.length) (cmpL a.reverse b.reverse)
def sgn (t : Term) : Int := if t.neg = true then -1 else 1
def cmpW (a b : Term) : Int := if sgn a ≠ sgn b then sgn a else cmpA a.limbs b.limbs * sgn a
def G3 (x y z : Int) : Prop := (x = 0 → z = y) ∧ (y = 0 → z = x) ∧ (x = y → z = x)
def R3 (x : Int) : Prop := x = -1 ∨ x = 0 ∨ x = 1
theorem G3.lex {x y z x' y' z' : Int} (h : G3 x y z) (h' : G3 x' y' z') (hx : R3 x) (hy : R3 y) (hz : R3 z) : G3 (Proofs.YtphnoaihojccbaaGreatDoor.lex x x') (Proofs.YtphnoaihojccbaaGreatDoor.lex y y') (Proofs.YtphnoaihojccbaaGreatDoor.lex z z') := by
  obtain ⟨a, b, c⟩ := h
  obtain ⟨a', b', c'⟩ := h'
  unfold Proofs.YtphnoaihojccbaaGreatDoor.lex G3
  unfold R3 at hx hy hz
  rcases hx with rfl | rfl | rfl <;> rcases hy with rfl | rfl | rfl <;> simp_all
theorem R3.lex {x x' : Int} (h : R3 x) (h' : R3 x') : R3 (Proofs.YtphnoaihojccbaaGreatDoor.lex x x') := by
  unfold Proofs.YtphnoaihojccbaaGreatDoor.lex; split <;> assumption
mutual
def order : Term → Term → Int
  | .mk k g l s n ks ts, b =>
    if (k.toNat : Int) ≠ b.knd then cmpI k.toNat b.knd
    else if (k.toNat : Int) = 1 then cmpW (.mk k g l s n ks ts) b
    else if (k.toNat : Int) = 7 then lex (lex (rows ks b.items) (cmpI ks.length b.items.length)) (tl ts b.tail)
    else lex (lex (cmpS s b.text) (lex (cmpI n b.num) (cmpI ks.length b.items.length))) (rows ks b.items)
def tl : List Term → List Term → Int
  | [], [] => 0
  | [], b :: _ => cmpI 7 b.knd
  | a :: _, [] => cmpI a.knd 7
  | a :: _, b :: _ => order a b
def rows : List Term → List Term → Int
  | [], _ => 0
  | _, [] => 0
  | a :: l, b :: r => lex (order a b) (rows l r)
end
def right (t : Term) : Bool := decide (0 < size t)
theorem adds_true {each : Int} : ∀ (l : List Term) (a : Int × Bool), (adds l each a).2 = true → a.2 = true ∧ ∀ x, x ∈ l → 0 < size x
  | [], a, h => ⟨h, fun x hx => by cases hx⟩
  | k :: ks, a, h => by
    simp only [adds] at h
    split at h
    · rename_i ha
      obtain ⟨h1, h2⟩ := adds_true ks _ h
      simp only [Bool.and_eq_true, decide_eq_true_eq] at h1
      refine ⟨ha, fun x hx => ?_⟩
      rcases List.mem_cons.1 hx with rfl | hx
      · exact h1.1
      · exact h2 x hx
    · rename_i ha; exact absurd h ha
structure Rt (t : Term) : Prop where
  items : ∀ x, x ∈ t.items → right x = true
  tail : ∀ x, x ∈ t.tail → right x = true
  kind : 1 ≤ t.knd ∧ t.knd ≤ 7
  int : t.knd = 1 → wr t = true
  rest : t.knd ≠ 1 → t.neg = false ∧ t.limbs = [] ∧ (t.knd ≠ 2 → t.text = []) ∧ (t.knd ≠ 7 → t.tail = []) ∧ (t.knd = 2 ∨ t.knd = 6 ∨ t.knd = 7 → t.num = 0) ∧ (t.knd = 2 ∨ t.knd = 3 ∨ t.knd = 5 → t.items = [])
  list : t.knd = 7 → t.tail.length ≤ 1 ∧ t.tail.length ≤ t.items.length ∧ ∀ x, x ∈ t.tail → x.knd ≠ 7
theorem wr_spec {t : Term} (h : wr t = true) : t.knd = 1 ∧ t.text = [] ∧ t.num = 0 ∧ t.items = [] ∧ t.tail = [] ∧ t.limbs.length ≤ 32 ∧ (t.limbs = [] → t.neg = false) ∧ (t.limbs ≠ [] → lastOk t.limbs = true) := by
  simp only [wr, Bool.and_eq_true, Bool.or_eq_true, decide_eq_true_eq, Bool.not_eq_true'] at h
  obtain ⟨⟨⟨⟨⟨h1, h2⟩, h3⟩, h4⟩, h5⟩, h6⟩ := h
  refine ⟨h1, h2, h3, List.eq_nil_of_length_eq_zero (by omega), List.eq_nil_of_length_eq_zero (by omega), by omega, fun hl => ?_, fun hl => ?_⟩
  · rcases h6 with h6 | h6
    · exact h6.2
    · rw [hl] at h6; simp at h6
  · rcases h6 with h6 | h6
    · have : t.limbs.length = 0 := by have := h6.1; omega
      exact absurd (List.eq_nil_of_length_eq_zero this) hl
    · exact h6.2
theorem bare_spec {t : Term} {a b c d : Bool} (h : bare t a b c d = true) : t.neg = false ∧ t.limbs = [] ∧ (a = false → t.text = []) ∧ (b = false → t.num = 0) ∧ (c = false → t.items = []) ∧ (d = false → t.tail = []) := by
  simp only [bare, Bool.and_eq_true, Bool.or_eq_true, decide_eq_true_eq, Bool.not_eq_true'] at h
  obtain ⟨⟨⟨⟨⟨h1, h2⟩, h3⟩, h4⟩, h5⟩, h6⟩ := h
  refine ⟨h1, List.eq_nil_of_length_eq_zero (by omega), fun e => ?_, fun e => ?_, fun e => ?_, fun e => ?_⟩
  · subst e; simpa using h3
  · subst e; simpa using h4
  · subst e; simp at h5; exact h5
  · subst e; simp at h6; exact h6
theorem right_spec {t : Term} (h : right t = true) : Rt t := by
  simp only [right, decide_eq_true_eq] at h
  rw [size_eq] at h
  by_cases h1 : t.knd = 1
  · rw [if_pos h1] at h
    split at h
    · rename_i hw
      obtain ⟨_, w2, w3, w4, w5, w6, w7, w8⟩ := wr_spec hw
      refine ⟨fun x hx => (by rw [w4] at hx; cases hx), fun x hx => (by rw [w5] at hx; cases hx), by omega, fun _ => hw, fun e => absurd h1 e, fun e => by omega⟩
    · omega
  · rw [if_neg h1] at h
    split at h
    · rename_i hf
      obtain ⟨f1, f2⟩ := adds_true _ _ hf
      obtain ⟨f3, f4⟩ := adds_true _ _ f1
      simp only at f3
      refine ⟨fun x hx => by simp [right, f4 x hx], fun x hx => by simp [right, f2 x hx], ?_, fun e => absurd e h1, fun _ => ?_, fun h7 => ?_⟩
      · have := t.knd_nn
        unfold head at f3
        by_cases e2 : t.knd = 2
        · omega
        by_cases e3 : t.knd = 3 ∨ t.knd = 5
        · omega
        by_cases e4 : t.knd = 4
        · omega
        by_cases e6 : t.knd = 6
        · omega
        by_cases e7 : t.knd = 7
        · omega
        simp [e2, e3, e4, e6, e7] at f3
      · unfold head at f3
        by_cases e2 : t.knd = 2
        · rw [if_pos e2] at f3
          simp only [Bool.and_eq_true] at f3
          obtain ⟨b1, b2, b3, b4, b5, b6⟩ := bare_spec f3.1
          exact ⟨b1, b2, fun e => absurd e2 e, fun _ => b6 rfl, fun _ => b4 rfl, fun _ => b5 rfl⟩
        rw [if_neg e2] at f3
        by_cases e3 : t.knd = 3 ∨ t.knd = 5
        · rw [if_pos e3] at f3
          simp only [Bool.and_eq_true] at f3
          obtain ⟨b1, b2, b3, b4, b5, b6⟩ := bare_spec f3.1.1
          exact ⟨b1, b2, fun _ => b3 rfl, fun _ => b6 rfl, fun e => by omega, fun _ => b5 rfl⟩
        rw [if_neg e3] at f3
        by_cases e4 : t.knd = 4
        · rw [if_pos e4] at f3
          simp only [Bool.and_eq_true] at f3
          obtain ⟨b1, b2, b3, b4, b5, b6⟩ := bare_spec f3.1.1
          exact ⟨b1, b2, fun _ => b3 rfl, fun _ => b6 rfl, fun e => by omega, fun e => by omega⟩
        rw [if_neg e4] at f3
        by_cases e6 : t.knd = 6
        · rw [if_pos e6] at f3
          obtain ⟨b1, b2, b3, b4, b5, b6⟩ := bare_spec f3
          exact ⟨b1, b2, fun _ => b3 rfl, fun _ => b6 rfl, fun _ => b4 rfl, fun e => by omega⟩
        rw [if_neg e6] at f3
        by_cases e7 : t.knd = 7
        · rw [if_pos e7] at f3
          simp only [Bool.and_eq_true] at f3
          obtain ⟨b1, b2, b3, b4, b5, b6⟩ := bare_spec f3.1.1
          exact ⟨b1, b2, fun _ => b3 rfl, fun e => absurd e7 e, fun _ => b4 rfl, fun e => by omega⟩
        rw [if_neg e7] at f3
        cases f3
      · unfold head at f3
        rw [if_neg (by omega), if_neg (by omega), if_neg (by omega), if_neg (by omega), if_pos h7] at f3
        simp only [Bool.and_eq_true, decide_eq_true_eq, List.all_eq_true] at f3
        obtain ⟨⟨_, f5⟩, f6⟩ := f3
        refine ⟨?_, ?_, fun x hx => f6 x hx⟩
        · split at f5 <;> omega
        · split at f5 <;> omega
    · omega
theorem term_ext {a b : Term} (h1 : a.knd = b.knd) (h2 : a.neg = b.neg) (h3 : a.limbs = b.limbs) (h4 : a.text = b.text) (h5 : a.num = b.num) (h6 : a.items = b.items) (h7 : a.tail = b.tail) : a = b := by
  cases a; cases b
  simp only [Term.knd, Term.kind, Term.neg, Term.limbs, Term.text, Term.num, Term.items, Term.tail] at *
  have h1' := UInt8.toNat_inj.1 (Int.ofNat.inj h1)
  subst h1' h2 h3 h4 h5 h6 h7
  rfl
def listT (ks ts : List Term) : Term := .mk 7 false [] [] 0 ks ts
def tailOf (t : Term) : Term := match t.tail with | [] => listT [] [] | x :: _ => x
end
set_option maxRecDepth 20000
section
def tbShort := And.intro (And.intro (And.intro @tf3 (And.intro @tf4 @tf5)) (And.intro (And.intro @tf85 @tf137) (And.intro @tf138 @tf9))) (And.intro (And.intro @tf40 (And.intro @isv_lims @flat_lims)) (And.intro (And.intro @len_lims @ix_lims) (And.intro @ix_lims' @flat_limA)))
variable (G : Nat → AV)
theorem or_halves (H L : Nat) (hH : H < 4294967296) (hL : L < 4294967296) : (BitVec.ofInt IntKind.u64.bits ((H : Int) * 4294967296) ||| BitVec.ofInt IntKind.u64.bits (L : Int)).toNat = H * 4294967296 + L := by
  have hb : IntKind.u64.bits = 64 := rfl
  rw [hb, BitVec.toNat_or, BitVec.toNat_ofInt, BitVec.toNat_ofInt]
  have e1 : (((H : Int) * 4294967296) % ((2 ^ 64 : Nat) : Int)).toNat = H <<< 32 := by rw [Nat.shiftLeft_eq]; omega
  have e2 : ((L : Int) % ((2 ^ 64 : Nat) : Int)).toNat = L := by omega
  rw [e1, e2, ← Nat.shiftLeft_add_eq_or_of_lt (by omega), Nat.shiftLeft_eq]
theorem u64_wrap {x : Int} (h0 : 0 ≤ x) (h1 : x < 18446744073709551616) : IntKind.u64.wrap x = x := by
  rw [IntKind.wrap_u64]; omega
theorem u32_wrap {x : Int} (h0 : 0 ≤ x) (h1 : x < 4294967296) : IntKind.u32.wrap x = x := by
  rw [IntKind.wrap_u32]; omega
theorem div32_pure (H L Y : Nat) (hy : H < Y) (l1 : L < 4294967296) (y1 : Y < 4294967296) : Pure Tryz.prog G 160 [.int .u32 H, .int .u32 L, .int .u32 Y] (.tup [.int .u32 ((H * 4294967296 + L) / Y : Nat), .int .u32 ((H * 4294967296 + L) % Y : Nat)]) := by
  have c1 : ¬ (Y : Int) = 0 := by omega
  have c2 : ¬ (Y : Int) ≤ H := by omega
  have w1 : IntKind.u64.wrap (Y : Int) = Y := u64_wrap (by omega) (by omega)
  have w2 : IntKind.u64.wrap (H : Int) = H := u64_wrap (by omega) (by omega)
  have w3 : IntKind.u64.wrap (L : Int) = L := u64_wrap (by omega) (by omega)
  have w4 : IntKind.u64.wrap ((H : Int) * 2 ^ min 32 IntKind.u64.bits) = (H : Int) * 4294967296 := by
    have : ((2 : Int) ^ min 32 IntKind.u64.bits) = 4294967296 := by decide
    rw [this]; exact u64_wrap (by omega) (by omega)
  have w5 := or_halves H L (by omega) l1
  have w6 : IntKind.u64.wrap ((H * 4294967296 + L : Nat) : Int) = ((H * 4294967296 + L : Nat) : Int) := u64_wrap (by omega) (by omega)
  have hq : (H * 4294967296 + L) / Y < 4294967296 := by
    rw [Nat.div_lt_iff_lt_mul (by omega)]
    have : (H + 1) * 4294967296 ≤ Y * 4294967296 := Nat.mul_le_mul_right _ hy
    rw [Nat.mul_comm 4294967296 Y]; omega
  have hr : (H * 4294967296 + L) % Y < Y := Nat.mod_lt _ (by omega)
  have w7 : ((H * 4294967296 + L : Nat) : Int).tdiv (Y : Int) = (((H * 4294967296 + L) / Y : Nat) : Int) := rfl
  have w8 : ((H * 4294967296 + L : Nat) : Int).tmod (Y : Int) = (((H * 4294967296 + L) % Y : Nat) : Int) := rfl
  have w9 : IntKind.u64.wrap ((((H * 4294967296 + L) / Y : Nat)) : Int) = (((H * 4294967296 + L) / Y : Nat) : Int) := u64_wrap (Int.natCast_nonneg _) (by clear w1 w2 w3 w4 w5 w6 w7 w8; generalize (H * 4294967296 + L) / Y = q at *; omega)
  have wa : IntKind.u32.wrap ((((H * 4294967296 + L) / Y : Nat)) : Int) = (((H * 4294967296 + L) / Y : Nat) : Int) := u32_wrap (Int.natCast_nonneg _) (by clear w1 w2 w3 w4 w5 w6 w7 w8; generalize (H * 4294967296 + L) / Y = q at *; omega)
  have wb : IntKind.u32.wrap ((((H * 4294967296 + L) % Y : Nat)) : Int) = (((H * 4294967296 + L) % Y : Nat) : Int) := u32_wrap (Int.natCast_nonneg _) (by clear w1 w2 w3 w4 w5 w6 w7 w8; generalize (H * 4294967296 + L) % Y = q at *; omega)
  generalize H * 4294967296 + L = V at *
  generalize V / Y = q at *
  generalize V % Y = r at *
  clear hq hr hy l1 y1
  intro σ
  refine Tri.of_awp mixed Tryz.func160 rfl (by kernel_rfl) (by kernel_rfl) (by simp [Tryz.ntmps160]) Tryz.results160 ?_
  repeat' (first | refine xs ?_ ?_ <;> intros | ((first | refine xh ?_ | refine xi ?_); intro bx hbx; (try simp only [fb] at hbx)) | refine xj ?_ | ((with_reducible refine And.intro ?_ ?_); omega) | refine bo_buildSlice (d' := ⟨⟩) ?_ | refine xk (by kernel_rfl) ?_ | refine xf ?_ (by repeat' first | exact lr _ | assumption | refine ls ?_ ?_ | refine lt ?_ ?_ | simp only [*]; done | exact lf ‹_› (by simp only [*])) | simp -dsimp only [↓bp, bq, br, seval, tbShort, *])
  exact finishW_some σ (AS.le.refl _) ⟨rfl, rfl⟩
def val : List UInt32 → Nat
  | [] => 0
  | x :: l => x.toNat + 4294967296 * val l
theorem val_append (l r : List UInt32) : val (l ++ r) = val l + 4294967296 ^ l.length * val r := by
  induction l with
  | nil => simp [val]
  | cons x l ih => simp only [List.cons_append, val, ih, List.length_cons, Nat.pow_succ]; rw [Nat.mul_add, ← Nat.mul_assoc, Nat.mul_comm (4294967296 ^ l.length) 4294967296]; omega
def divd : List UInt32 → Nat → List UInt32 × Nat
  | [], _ => ([], 0)
  | x :: l, by_ => let p := divd l by_; (UInt32.ofNat ((p.2 * 4294967296 + x.toNat) / by_) :: p.1, (p.2 * 4294967296 + x.toNat) % by_)
theorem divd_spec (by_ : Nat) (h0 : 0 < by_) (h1 : by_ < 4294967296) : ∀ l, (divd l by_).1.length = l.length ∧ (divd l by_).2 < by_ ∧ val l = val (divd l by_).1 * by_ + (divd l by_).2
  | [] => ⟨rfl, h0, by simp [divd, val]⟩
  | x :: l => by
    obtain ⟨a, b, c⟩ := divd_spec by_ h0 h1 l
    simp only [divd, List.length_cons, val, c]
    have hx := x.toNat_lt
    have hq : ((divd l by_).2 * 4294967296 + x.toNat) / by_ < 4294967296 := by
      rw [Nat.div_lt_iff_lt_mul h0]
      have : ((divd l by_).2 + 1) * 4294967296 ≤ by_ * 4294967296 := Nat.mul_le_mul_right _ b
      rw [Nat.mul_comm 4294967296 by_]; omega
    refine ⟨by rw [a], Nat.mod_lt _ h0, ?_⟩
    have e : (UInt32.ofNat (((divd l by_).2 * 4294967296 + x.toNat) / by_)).toNat = ((divd l by_).2 * 4294967296 + x.toNat) / by_ := by rw [UInt32.toNat_ofNat', Nat.mod_eq_of_lt hq]
    rw [e]
    have hd := Nat.div_add_mod ((divd l by_).2 * 4294967296 + x.toNat) by_
    generalize ((divd l by_).2 * 4294967296 + x.toNat) / by_ = A at *
    generalize ((divd l by_).2 * 4294967296 + x.toNat) % by_ = R at *
    rw [Nat.add_mul, Nat.mul_comm A by_, Nat.mul_assoc 4294967296 (val (divd l by_).1) by_]
    generalize val (divd l by_).1 * by_ = W at *
    generalize by_ * A = B at *
    omega
theorem set_at (k : Nat) (a : AV) (l : List AV) : (List.replicate (k + 1) (AV.int .u32 0) ++ l).take k ++ ([a] ++ (List.replicate (k + 1) (AV.int .u32 0) ++ l).drop (k + 1)) = List.replicate k (.int .u32 0) ++ (a :: l) := by
  rw [List.replicate_succ', List.append_assoc, List.take_append_of_le_length (by simp), List.take_of_length_le (by simp), List.drop_append]
  simp
theorem divq_lt (H L Y : Nat) (hy : H < Y) (l1 : L < 4294967296) : (H * 4294967296 + L) / Y < 4294967296 := by
  rw [Nat.div_lt_iff_lt_mul (by omega)]
  have : (H + 1) * 4294967296 ≤ Y * 4294967296 := Nat.mul_le_mul_right _ hy
  rw [Nat.mul_comm 4294967296 Y]; omega
theorem flat_lims1 (l : List UInt32) : (l.map limA).flatMap flat = l.map limA := by
  induction l with
  | nil => rfl
  | cons x l ih => rw [List.map_cons, List.flatMap_cons, ih]; rfl
theorem short_pure (l : List UInt32) (by_ : Nat) (h0 : 0 < by_) (h1 : by_ < 4294967296) (hl : l.length ≤ 1000000000) : Pure Tryz.prog G 138 [lims l, .int .u32 by_] (.tup [lims (divd l by_).1, .int .u32 ((divd l by_).2 : Nat)]) := by
  obtain ⟨s1, s2, s3⟩ := divd_spec by_ h0 h1 l
  have tz : zc Tryz.prog 85 = some [.int .u32 0] := tf85.2.2.2.2.1
  refine Pure.of_le fun σ => Tri.tupBs (n := l.length) (s := 1) (E := 85) (xs := (divd l by_).1.map limA) (fun a ha => by obtain ⟨x, _, rfl⟩ := List.mem_map.1 ha; exact ⟨rfl, rfl⟩) (by simp [s1]) ?_
  have hw0 : IntKind.i64.wrap ((l.length : Int) - 1) = l.length - 1 := wrap_nat (by omega) (by omega)
  refine Tri.of_awp mixed Tryz.func138 rfl (by kernel_rfl) (by kernel_rfl) (by simp [Tryz.ntmps138]) Tryz.results138 ?_
  repeat' (first | refine xs ?_ ?_ <;> intros | ((first | refine xh ?_ | refine xi ?_); intro bx hbx; (try simp only [fb] at hbx)) | ((refine .inr ?_; unfold amakeM; rw [tfL, tfLE, Option.bind_some, tz]; refine ⟨by omega, Int.le_refl _, by omega, fun b hb => ?_⟩)) | refine xj ?_ | ((with_reducible refine And.intro ?_ ?_); omega) | refine bo_buildSlice (d' := ⟨⟩) ?_ | refine xk (by kernel_rfl) ?_ | refine xf ?_ (by repeat' first | exact lr _ | assumption | refine ls ?_ ?_ | refine lt ?_ ?_ | simp only [*]; done | exact lf ‹_› (by simp only [*])) | simp -dsimp only [↓bp, bq, br, seval, tbShort, *])
  refine loop_intro (fun k e σ' => k ≤ l.length ∧ e 8 = .int .i64 ((k : Int) - 1) ∧ e 7 = .int .u32 ((divd (l.drop k) by_).2 : Nat) ∧ σ.le σ' ∧ σ'.box b = some (List.replicate k (.int .u32 0) ++ (divd (l.drop k) by_).1.map limA)) l.length
    ⟨Nat.le_refl _, by first | (simp -dsimp only [↓bp, bq, br, seval, tbShort]; done) | (simp -dsimp only [↓bp, bq, br, seval, tbShort]; try rfl), by rw [List.drop_length]; first | (simp -dsimp only [↓bp, bq, br, seval, tbShort]; done) | (simp -dsimp only [↓bp, bq, br, seval, tbShort]; try rfl), (by repeat' first | exact lr _ | assumption | refine ls ?_ ?_ | refine lt ?_ ?_ | simp only [*]; done | exact lf ‹_› (by simp only [*])), by rw [List.drop_length]; simp [AS.setBox, divd]⟩ ?_
  rintro k v σ' ⟨hk, h8, h7, hle, hbx⟩
  simp -dsimp only [↓bp, bq, br, seval, tbShort] at h8 h7
  cases k with
  | zero =>
    simp only [List.drop_zero, List.replicate_zero, List.nil_append] at h7 hbx
    simp at h8
    clear hk hw0
    repeat' (first | refine xs ?_ ?_ <;> intros | ((first | refine xh ?_ | refine xi ?_); intro bx hbx; (try simp only [fb] at hbx)) | refine xj ?_ | ((with_reducible refine And.intro ?_ ?_); omega) | refine bo_buildSlice (d' := ⟨⟩) ?_ | refine xk (by kernel_rfl) ?_ | refine xf ?_ (by repeat' first | exact lr _ | assumption | refine ls ?_ ?_ | refine lt ?_ ?_ | simp only [*]; done | exact lf ‹_› (by simp only [*])) | simp -dsimp only [↓bp, bq, br, seval, tbShort, *])
    exact finishW_some _ (AS.le.refl _) ⟨b, rfl, hle, hb.1, hb.2.1, by rw [hbx, flat_lims1]⟩
  | succ k =>
    have e8 : ((k + 1 : Nat) : Int) - 1 = k := by omega
    rw [e8] at h8
    obtain ⟨x, hx⟩ : ∃ x, l[k]? = some x := ⟨_, List.getElem?_eq_getElem (by omega)⟩
    have hd := drop_get _ _ _ hx
    have hkl : k < l.length := by omega
    obtain ⟨q1, q2, q3⟩ := divd_spec by_ h0 h1 (l.drop (k + 1))
    have hdv := div32_pure G (divd (l.drop (k + 1)) by_).2 x.toNat by_ q2 x.toNat_lt h1
    have hstep : divd (l.drop k) by_ = (UInt32.ofNat (((divd (l.drop (k + 1)) by_).2 * 4294967296 + x.toNat) / by_) :: (divd (l.drop (k + 1)) by_).1, ((divd (l.drop (k + 1)) by_).2 * 4294967296 + x.toNat) % by_) := by rw [hd]; rfl
    have hwk : IntKind.i64.wrap ((k : Int) - 1) = k - 1 := wrap_nat (by omega) (by omega)
    have hlt : (k : Int) < l.length := by omega
    have hlen : k < (List.replicate (k + 1) (AV.int .u32 0) ++ (divd (l.drop (k + 1)) by_).1.map limA).length := by simp; omega
    have hk0 : (0 : Int) ≤ k := by omega
    clear hk hw0 hd s1 s2 s3 q3
    have hql := divq_lt _ x.toNat _ q2 x.toNat_lt
    have hqa : limA (UInt32.ofNat (((divd (l.drop (k + 1)) by_).2 * 4294967296 + x.toNat) / by_)) = .int .u32 ((((divd (l.drop (k + 1)) by_).2 * 4294967296 + x.toNat) / by_ : Nat) : Int) := by
      unfold limA; rw [UInt32.toNat_ofNat', Nat.mod_eq_of_lt hql]
    have hbox : (divd (l.drop k) by_).1.map limA = .int .u32 ((((divd (l.drop (k + 1)) by_).2 * 4294967296 + x.toNat) / by_ : Nat) : Int) :: (divd (l.drop (k + 1)) by_).1.map limA := by rw [hstep, List.map_cons, hqa]
    have hst2 : (divd (l.drop k) by_).2 = ((divd (l.drop (k + 1)) by_).2 * 4294967296 + x.toNat) % by_ := by rw [hstep]
    clear hql hqa hstep
    repeat' (first | refine xs ?_ ?_ <;> intros | ((first | refine xh ?_ | refine xi ?_); intro bx hbx; (try simp only [fb] at hbx)) | refine Pure.use (hdv) ?_ | refine Pure.head (hdv) ?_ | refine xj ?_ | ((with_reducible refine And.intro ?_ ?_); omega) | refine bo_buildSlice (d' := ⟨⟩) ?_ | refine xk (by kernel_rfl) ?_ | refine xf ?_ (by repeat' first | exact lr _ | assumption | refine ls ?_ ?_ | refine lt ?_ ?_ | simp only [*]; done | exact lf ‹_› (by simp only [*])) | simp -dsimp only [↓bp, bq, br, seval, tbShort, limA, *])
    refine ⟨k, by omega, by omega, rfl, by rw [hst2], (by repeat' first | exact lr _ | assumption | refine ls ?_ ?_ | refine lt ?_ ?_ | simp only [*]; done | exact lf ‹_› (by simp only [*])), ?_⟩
    simp only [AS.setBox, if_true, Nat.mul_one]
    rw [hbox, List.append_assoc, set_at]
end
section
def digs (n : Nat) : List UInt8 := if h : n = 0 then [] else UInt8.ofNat (48 + n % 10) :: digs (n / 10)
termination_by n
decreasing_by omega
def decT (n : Nat) : List UInt8 := if n = 0 then [48] else (digs n).reverse
def wsaid (t : Term) : List UInt8 := (if t.neg = true then [45] else []) ++ decT (val t.limbs)
def itoa (n : Int) : List UInt8 := (if n < 0 then [45] else []) ++ decT n.natAbs
def words : List (List UInt8) := [[97, 102, 116, 101, 114], [97, 110, 100], [97, 110, 100, 97, 108, 115, 111], [98, 101, 103, 105, 110], [99, 97, 115, 101], [100, 105, 118], [101, 110, 100], [102, 117, 110], [105, 102], [110, 111, 116], [111, 102], [111, 114], [111, 114, 101, 108, 115, 101], [114, 101, 99, 101, 105, 118, 101], [114, 101, 109], [116, 114, 121], [99, 97, 116, 99, 104], [119, 104, 101, 110], [120, 111, 114]]
def innerC (c : UInt8) : Bool := decide (97 ≤ c.toNat) && decide (c.toNat ≤ 122) || decide (65 ≤ c.toNat) && decide (c.toNat ≤ 90) || decide (48 ≤ c.toNat) && decide (c.toNat ≤ 57) || decide (c.toNat = 95) || decide (c.toNat = 64)
def plainA (s : List UInt8) : Bool := match s with
  | [] => false
  | c :: _ => decide (97 ≤ c.toNat) && decide (c.toNat ≤ 122) && !words.contains s && s.all innerC
def hexD (n : Nat) : UInt8 := if n < 10 then UInt8.ofNat (48 + n) else UInt8.ofNat (87 + n)
def quoC (c : UInt8) : List UInt8 :=
  if c.toNat = 39 ∨ c.toNat = 92 then [92, c]
  else if c.toNat = 10 then [92, 110]
  else if c.toNat < 32 ∨ 126 < c.toNat then [92, 120, hexD (c.toNat / 16), hexD (c.toNat % 16)]
  else [c]
def quoted (s : List UInt8) : List UInt8 := 39 :: (s.flatMap quoC ++ [39])
def atomT (s : List UInt8) : List UInt8 := if plainA s = true then s else quoted s
mutual
def said : Term → List UInt8
  | .mk k g l s n ks ts =>
    if (k.toNat : Int) = 1 then wsaid (.mk k g l s n ks ts)
    else if (k.toNat : Int) = 2 then atomT s
    else if (k.toNat : Int) = 3 then [35, 82, 101, 102, 60] ++ itoa n ++ [62]
    else if (k.toNat : Int) = 4 then [35, 70, 117, 110, 60] ++ itoa n ++ [62]
    else if (k.toNat : Int) = 5 then [60] ++ itoa n ++ [62]
    else if (k.toNat : Int) = 6 then [123] ++ (saidI ks ++ saidT ts) ++ [125]
    else [91] ++ (saidI ks ++ saidT ts) ++ [93]
def saidI : List Term → List UInt8
  | [] => []
  | x :: l => said x ++ saidN l
def saidN : List Term → List UInt8
  | [] => []
  | x :: l => 44 :: (said x ++ saidN l)
def saidT : List Term → List UInt8
  | [] => []
  | x :: l => 124 :: (said x ++ saidT l)
end
theorem said_eq (t : Term) : said t = if t.knd = 1 then wsaid t
    else if t.knd = 2 then atomT t.text
    else if t.knd = 3 then [35, 82, 101, 102, 60] ++ itoa t.num ++ [62]
    else if t.knd = 4 then [35, 70, 117, 110, 60] ++ itoa t.num ++ [62]
    else if t.knd = 5 then [60] ++ itoa t.num ++ [62]
    else if t.knd = 6 then [123] ++ (saidI t.items ++ saidT t.tail) ++ [125]
    else [91] ++ (saidI t.items ++ saidT t.tail) ++ [93] := by
  cases t; rw [said]; rfl
def text (t : Term) : List UInt8 := if right t = true then said t else []
abbrev okC (c : UInt8) : Prop := 32 ≤ c.toNat ∧ c.toNat ≤ 126
def okS (s : List UInt8) : Prop := ∀ c, c ∈ s → okC c
theorem okS.cons {c : UInt8} {b : List UInt8} (h : okC c) (k : okS b) : okS (c :: b) := fun d hd => (List.mem_cons.1 hd).elim (fun e => e ▸ h) (k d)
theorem okS.nil : okS [] := fun c hc => by cases hc
theorem ofNat_toNat {n : Nat} (h : n < 256) : (UInt8.ofNat n).toNat = n := by rw [UInt8.toNat_ofNat']; omega
theorem digs_ne {n : Nat} (h : n ≠ 0) : digs n ≠ [] := by unfold digs; rw [dif_neg h]; simp
theorem decT_ne (n : Nat) : decT n ≠ [] := by
  unfold decT
  split
  · simp
  · rename_i h; simpa using digs_ne h
theorem plainA_spec {s : List UInt8} (h : plainA s = true) : ∃ c l, s = c :: l ∧ 97 ≤ c.toNat ∧ c.toNat ≤ 122 ∧ ∀ d, d ∈ s → innerC d = true := by
  cases s with
  | nil => simp [plainA] at h
  | cons c l =>
    simp only [plainA, Bool.and_eq_true, decide_eq_true_eq] at h
    exact ⟨c, l, rfl, h.1.1.1, h.1.1.2, List.all_eq_true.1 h.2⟩
theorem said_ne (t : Term) : said t ≠ [] := by
  rw [said_eq]
  split
  · unfold wsaid; intro h; exact decT_ne _ (List.append_eq_nil_iff.1 h).2
  split
  · unfold atomT
    split
    · rename_i h
      obtain ⟨c, l, e, _⟩ := plainA_spec h
      rw [e]; simp
    · simp [quoted]
  all_goals (repeat' split) <;> simp
theorem text_ne (t : Term) : right t = decide (text t ≠ []) := by
  unfold text
  cases h : right t with
  | true => simp [said_ne t]
  | false => simp
def zeroT : Term := .mk 0 false [] [] 0 [] []
def cons0 (h t : Term) : Term := if t.knd = 7 then listT (h :: t.items) t.tail else listT [h] [t]
def cons (h t : Term) : Term := if right h = true ∧ right t = true ∧ right (cons0 h t) = true then cons0 h t else zeroT
def split (t : Term) : Option (Term × Term) := if right t = true ∧ t.knd = 7 then (match t.items with
  | [] => none
  | [x] => some (x, tailOf t)
  | x :: l => some (x, listT l t.tail)) else none
end
set_option maxRecDepth 20000
section
def tbQuo := And.intro (And.intro (And.intro @tf3 @tf4) (And.intro @tf5 (And.intro @tf9 @tf86))) (And.intro (And.intro @tf31 @tf210) (And.intro @tf95 (And.intro @tf93 @tf138)))
variable (G : Nat → AV)
def idx (s : List UInt8) : Nat → List (List UInt8) → Int
  | _, [] => -1
  | k, w :: ws => if s = w then k else idx s (k + 1) ws
theorem idx_mem (s : List UInt8) : ∀ (ws : List (List UInt8)) (k : Nat), (0 ≤ idx s k ws) ↔ s ∈ ws
  | [], k => by simp [idx]
  | w :: ws, k => by
    simp only [idx]
    split
    · rename_i h; subst h; simp
    · rename_i h; rw [idx_mem s ws (k + 1)]; simp [h]
def texts (ws : List (List UInt8)) : AV := .sl .none (ws.map AV.str) []
theorem len_texts {P : Program} {t : TypeId} (l : List (List UInt8)) : ablt P .len #[t] [texts l] = if (el P t).isSome then some (.int .i64 l.length) else none := by
  simp [texts, l_sl]
theorem ix_texts {P : Program} {t : TypeId} {k : IntKind} (l : List (List UInt8)) (i : Nat) : aindexA P t (texts l) (.int k (i : Int)) = ixk ((el P t).bind (tk P)) ((l[i]?).map AV.str) := by
  simp [texts, aindexA_sl]
theorem index_pure (ws : List (List UInt8)) (s : List UInt8) (hl : ws.length ≤ 1000000) : Pure Tryz.prog G 162 [texts ws, .str s] (.int .i64 (idx s 0 ws)) := by
  intro σ
  refine Tri.of_awp mixed Tryz.func162 rfl (by kernel_rfl) (by kernel_rfl) (by simp [Tryz.ntmps162]) Tryz.results162 ?_
  repeat' (first | refine xs ?_ ?_ <;> intros | ((first | refine xh ?_ | refine xi ?_); intro bx hbx; (try simp only [fb] at hbx)) | refine xj ?_ | ((with_reducible refine And.intro ?_ ?_); omega) | refine bo_buildSlice (d' := ⟨⟩) ?_ | refine xk (by kernel_rfl) ?_ | refine xf ?_ (by repeat' first | exact lr _ | assumption | refine ls ?_ ?_ | refine lt ?_ ?_ | simp only [*]; done | exact lf ‹_› (by simp only [*])) | simp -dsimp only [↓bp, bq, br, seval, tbQuo, len_texts, ix_texts, *])
  refine loop_keep mixed (fun n e => ∃ i : Nat, i ≤ (ws).length ∧ n = (ws).length - i ∧ e 8 = .int .i64 i ∧ idx s i (ws.drop i) = idx s 0 ws) (ws).length
      ⟨0, by omega, by omega, by simp -dsimp only [↓bp, bq, br, seval, tbQuo]; first | done | rfl, rfl⟩ ?_
  rintro n v ⟨i, hi, rfl, h8, htk⟩
  simp -dsimp only [↓bp, bq, br, seval, tbQuo] at h8
  simp -dsimp only [↓bp, bq, br, seval, tbQuo, h8]
  refine condW_dec (fun hlt => ?_) (fun hge => ?_)
  · obtain ⟨x, hx⟩ : ∃ x, ws[i]? = some x := ⟨_, List.getElem?_eq_getElem (by omega)⟩
    rw [drop_get _ _ _ hx] at htk
    simp only [idx] at htk
    clear hi hlt
    by_cases h0 : s = x
    · subst h0
      simp only [if_true] at htk
      rw [← htk]
      clear htk
      repeat' (first | refine xs ?_ ?_ <;> intros | ((first | refine xh ?_ | refine xi ?_); intro bx hbx; (try simp only [fb] at hbx)) | refine xj ?_ | ((with_reducible refine And.intro ?_ ?_); omega) | refine bo_buildSlice (d' := ⟨⟩) ?_ | refine xk (by kernel_rfl) ?_ | refine xf ?_ (by repeat' first | exact lr _ | assumption | refine ls ?_ ?_ | refine lt ?_ ?_ | simp only [*]; done | exact lf ‹_› (by simp only [*])) | simp -dsimp only [↓bp, bq, br, seval, tbQuo, len_texts, ix_texts, *])
      all_goals rfl
    · rw [if_neg h0] at htk
      repeat' (first | refine xs ?_ ?_ <;> intros | ((first | refine xh ?_ | refine xi ?_); intro bx hbx; (try simp only [fb] at hbx)) | refine xj ?_ | ((with_reducible refine And.intro ?_ ?_); omega) | refine bo_buildSlice (d' := ⟨⟩) ?_ | refine xk (by kernel_rfl) ?_ | refine xf ?_ (by repeat' first | exact lr _ | assumption | refine ls ?_ ?_ | refine lt ?_ ?_ | simp only [*]; done | exact lf ‹_› (by simp only [*])) | simp -dsimp only [↓bp, bq, br, seval, tbQuo, len_texts, ix_texts, *])
      all_goals (have hlt := (List.getElem?_eq_some_iff.1 hx).1)
      all_goals exact ⟨ws.length - (i + 1), by omega, i + 1, by omega, rfl, by rw [wrap_nat (by omega) (by omega)]; rfl, htk⟩
  · have : i = ws.length := by omega
    subst this
    rw [List.drop_length] at htk
    simp only [idx] at htk
    rw [← htk]
    clear hi hge htk
    repeat' (first | refine xs ?_ ?_ <;> intros | ((first | refine xh ?_ | refine xi ?_); intro bx hbx; (try simp only [fb] at hbx)) | refine xj ?_ | ((with_reducible refine And.intro ?_ ?_); omega) | refine bo_buildSlice (d' := ⟨⟩) ?_ | refine xk (by kernel_rfl) ?_ | refine xf ?_ (by repeat' first | exact lr _ | assumption | refine ls ?_ ?_ | refine lt ?_ ?_ | simp only [*]; done | exact lf ‹_› (by simp only [*])) | simp -dsimp only [↓bp, bq, br, seval, tbQuo, len_texts, ix_texts, *])
    all_goals rfl
theorem contains_pure (ws : List (List UInt8)) (s : List UInt8) (hl : ws.length ≤ 1000000) : Pure Tryz.prog G 141 [texts ws, .str s] (.bool (ws.contains s)) := by
  have h := index_pure G ws s hl
  have hm := idx_mem s ws 0
  have e : ws.contains s = decide (0 ≤ idx s 0 ws) := by rw [Bool.eq_iff_iff, decide_eq_true_eq, hm]; simp
  rw [e]
  intro σ
  refine Tri.of_awp mixed Tryz.func141 rfl (by kernel_rfl) (by kernel_rfl) (by simp [Tryz.ntmps141]) Tryz.results141 ?_
  repeat' (first | refine xs ?_ ?_ <;> intros | ((first | refine xh ?_ | refine xi ?_); intro bx hbx; (try simp only [fb] at hbx)) | refine Pure.use (h) ?_ | refine Pure.head (h) ?_ | refine xj ?_ | ((with_reducible refine And.intro ?_ ?_); omega) | refine bo_buildSlice (d' := ⟨⟩) ?_ | refine xk (by kernel_rfl) ?_ | refine xf ?_ (by repeat' first | exact lr _ | assumption | refine ls ?_ ?_ | refine lt ?_ ?_ | simp only [*]; done | exact lf ‹_› (by simp only [*])) | simp -dsimp only [↓bp, bq, br, seval, tbQuo, *])
  all_goals rfl
set_option maxHeartbeats 1000000 in
theorem inner_pure (s : List UInt8) (hs : s.length ≤ 1000000000) : Pure Tryz.prog G 142 [.str s] (.bool (s.all innerC)) := by
  intro σ
  have hml : s.length ≤ maxLen := by unfold maxLen; omega
  refine Tri.of_awp mixed Tryz.func142 rfl (by kernel_rfl) (by kernel_rfl) (by simp [Tryz.ntmps142]) Tryz.results142 ?_
  repeat' (first | refine xs ?_ ?_ <;> intros | ((first | refine xh ?_ | refine xi ?_); intro bx hbx; (try simp only [fb] at hbx)) | refine xj ?_ | ((with_reducible refine And.intro ?_ ?_); omega) | refine bo_buildSlice (d' := ⟨⟩) ?_ | refine xk (by kernel_rfl) ?_ | refine xf ?_ (by repeat' first | exact lr _ | assumption | refine ls ?_ ?_ | refine lt ?_ ?_ | simp only [*]; done | exact lf ‹_› (by simp only [*])) | simp -dsimp only [↓bp, bq, br, seval, tbQuo, hml, *])
  refine loop_keep mixed (fun n e => ∃ i : Nat, i ≤ (s).length ∧ n = (s).length - i ∧ e 8 = .int .i64 i ∧ ∀ x, x ∈ s.take i → innerC x = true) (s).length
      ⟨0, by omega, by omega, by simp -dsimp only [↓bp, bq, br, seval, tbQuo]; first | done | rfl, by simp⟩ ?_
  rintro n v ⟨i, hi, rfl, h8, hno⟩
  simp -dsimp only [↓bp, bq, br, seval, tbQuo] at h8
  simp -dsimp only [↓bp, bq, br, seval, tbQuo, h8]
  refine condW_dec (fun hlt => ?_) (fun hge => ?_)
  · obtain ⟨k, hk⟩ : ∃ k, s[i]? = some k := ⟨_, List.getElem?_eq_getElem (by omega)⟩
    have hkm : k ∈ s := List.mem_of_getElem? hk
    have step : innerC k = true → ∀ x, x ∈ s.take (i + 1) → innerC x = true := fun ht x hx => by
      rw [take_succ_get _ _ _ hk, List.mem_append, List.mem_singleton] at hx
      rcases hx with hx | rfl
      · exact hno x hx
      · exact ht
    have stop_ : innerC k = false → s.all innerC = false := fun hf => by
      rw [List.all_eq_false]; exact ⟨k, hkm, by simp [hf]⟩
    have hic : innerC k = (decide ((97 : Int) ≤ k.toNat) && decide ((k.toNat : Int) ≤ 122) || decide ((65 : Int) ≤ k.toNat) && decide ((k.toNat : Int) ≤ 90) || decide ((48 : Int) ≤ k.toNat) && decide ((k.toNat : Int) ≤ 57) || decide ((k.toNat : Int) = 95) || decide ((k.toNat : Int) = 64)) := by
      unfold innerC
      rw [Bool.eq_iff_iff]
      simp only [Bool.or_eq_true, Bool.and_eq_true, decide_eq_true_eq]
      omega
    have hw : IntKind.i64.wrap ((i : Int) + 1) = ((i + 1 : Nat) : Int) := by rw [wrap_nat (by omega) (by omega)]; rfl
    rw [hic] at step stop_
    have hlt' := (List.getElem?_eq_some_iff.1 hk).1
    clear hic hno hi hlt
    cases hv : (decide ((97 : Int) ≤ k.toNat) && decide ((k.toNat : Int) ≤ 122) || decide ((65 : Int) ≤ k.toNat) && decide ((k.toNat : Int) ≤ 90) || decide ((48 : Int) ≤ k.toNat) && decide ((k.toNat : Int) ≤ 57) || decide ((k.toNat : Int) = 95) || decide ((k.toNat : Int) = 64))
    · have stop_ := stop_ hv
      rw [stop_]
      simp only [Bool.or_eq_false_iff, Bool.and_eq_false_iff, decide_eq_false_iff_not] at hv
      clear step stop_
      repeat' (first | refine xs ?_ ?_ <;> intros | ((first | refine xh ?_ | refine xi ?_); intro bx hbx; (try simp only [fb] at hbx)) | refine xj ?_ | ((with_reducible refine And.intro ?_ ?_); omega) | refine bo_buildSlice (d' := ⟨⟩) ?_ | refine xk (by kernel_rfl) ?_ | refine xf ?_ (by repeat' first | exact lr _ | assumption | refine ls ?_ ?_ | refine lt ?_ ?_ | simp only [*]; done | exact lf ‹_› (by simp only [*])) | simp -dsimp only [↓bp, bq, br, seval, tbQuo, hk, hw, *])
      all_goals first | rfl | (exfalso; omega)
    · have step := step hv
      simp only [Bool.or_eq_true, Bool.and_eq_true, decide_eq_true_eq] at hv
      clear stop_
      repeat' (first | refine xs ?_ ?_ <;> intros | ((first | refine xh ?_ | refine xi ?_); intro bx hbx; (try simp only [fb] at hbx)) | refine xj ?_ | ((with_reducible refine And.intro ?_ ?_); omega) | refine bo_buildSlice (d' := ⟨⟩) ?_ | refine xk (by kernel_rfl) ?_ | refine xf ?_ (by repeat' first | exact lr _ | assumption | refine ls ?_ ?_ | refine lt ?_ ?_ | simp only [*]; done | exact lf ‹_› (by simp only [*])) | simp -dsimp only [↓bp, bq, br, seval, tbQuo, hk, hw, *])
      all_goals first | exact ⟨s.length - (i + 1), by omega, i + 1, by omega, rfl, rfl, step⟩ | (exfalso; omega)
  · have : i = s.length := by omega
    subst this
    rw [List.take_length] at hno
    have he : s.all innerC = true := List.all_eq_true.2 hno
    rw [he]
    clear hno hi hge
    repeat' (first | refine xs ?_ ?_ <;> intros | ((first | refine xh ?_ | refine xi ?_); intro bx hbx; (try simp only [fb] at hbx)) | refine xj ?_ | ((with_reducible refine And.intro ?_ ?_); omega) | refine bo_buildSlice (d' := ⟨⟩) ?_ | refine xk (by kernel_rfl) ?_ | refine xf ?_ (by repeat' first | exact lr _ | assumption | refine ls ?_ ?_ | refine lt ?_ ?_ | simp only [*]; done | exact lf ‹_› (by simp only [*])) | simp -dsimp only [↓bp, bq, br, seval, tbQuo, *])
    all_goals rfl
end
set_option maxRecDepth 20000
section
def tbTaleK := And.intro (And.intro (And.intro (And.intro (And.intro @tf3 @tf4) (And.intro @tf5 (And.intro @tf85 @tf9))) (And.intro (And.intro @tf31 (And.intro @tf40 @tf39)) (And.intro @tf22 (And.intro @tf42 @tf23)))) (And.intro (And.intro (And.intro @tf44 @tf24) (And.intro @tf46 (And.intro @tf26 @Term.flat_enc))) (And.intro (And.intro @Term.isv_enc (And.intro @Term.fold_enc @isv_encs)) (And.intro @flat_encs (And.intro @len_encs @ix_encs))))) (And.intro (And.intro (And.intro (And.intro @isv_lims @flat_lims) (And.intro @len_lims (And.intro @ix_lims @flat_limA))) (And.intro (And.intro @Ended.flat_enc (And.intro @Ended.isv_enc @Ended.fold_enc)) (And.intro @Named.flat_enc (And.intro @Named.isv_enc @Named.fold_enc)))) (And.intro (And.intro (And.intro @Seen.flat_enc @Seen.isv_enc) (And.intro @Seen.fold_enc (And.intro @isv_encE @flat_encE))) (And.intro (And.intro @len_encE (And.intro @ix_encE @isv_encN)) (And.intro @flat_encN (And.intro @len_encN @ix_encN)))))
variable (G : Nat → AV)
theorem tlN : aelt Tryz.prog 40 = some (85, 1, 4) := tf40.2.2.2.2.2.2
theorem tlE : el Tryz.prog 40 = some 85 := tf40.2.2.2.1
theorem tfEN : aelt Tryz.prog 23 = some (44, 8, 112) := tf23.2.2.2.2.2.2
theorem tfEE : el Tryz.prog 23 = some 44 := tf23.2.2.2.1
theorem tfNN : aelt Tryz.prog 24 = some (46, 2, 24) := tf24.2.2.2.2.2.2
theorem tfNE : el Tryz.prog 24 = some 46 := tf24.2.2.2.1
theorem kcopyL_pure (l : List UInt32) (hl : l.length ≤ 1000000000) : Pure Tryz.prog G 159 [lims l] (lims l) := by
  refine Pure.of_le fun σ => ?_
  refine Tri.of_awp mixed Tryz.func159 rfl (by kernel_rfl) (by kernel_rfl) (by simp [Tryz.ntmps159]) Tryz.results159 ?_
  repeat' (first | refine xs ?_ ?_ <;> intros | ((first | refine xh ?_ | refine xi ?_); intro bx hbx; (try simp only [fb] at hbx)) | (refine app_buf (ys := l.map limA) (Buf.nil (AS.le.refl σ)) tlN (asrc_sl tlE) flat1 (by simp; omega) (fun v3 σ3 hB4 hx4 => ?_)) | refine xj ?_ | ((with_reducible refine And.intro ?_ ?_); omega) | refine bo_buildSlice (d' := ⟨⟩) ?_ | refine xk (by kernel_rfl) ?_ | refine xf ?_ (by repeat' first | exact lr _ | assumption | refine ls ?_ ?_ | refine lt ?_ ?_ | simp only [*]; done | exact lf ‹_› (by simp only [*])) | simp -dsimp only [↓bp, bq, br, seval, tbTaleK, *])
  all_goals exact finish_le (by simpa [lims] using hB4.told) hB4.le
theorem kcopies_pure (l : List Term) (hl : l.length ≤ 1000000000) (hf : ∀ x, x ∈ l → Pure Tryz.prog G 131 [x.enc] x.enc) : Pure Tryz.prog G 89 [encs l] (encs l) := by
  refine Pure.of_le fun σ => ?_
  refine Tri.of_awp mixed Tryz.func89 rfl (by kernel_rfl) (by kernel_rfl) (by simp [Tryz.ntmps89]) Tryz.results89 ?_
  simp -dsimp only [↓bp, bq, br, seval, tbTaleK]
  refine loop_intro (fun n e σ' => ∃ i : Nat, i ≤ (l).length ∧ n = (l).length - i ∧ e 4 = .int .i64 i ∧ ∃ v, e 3 = v ∧ Buf 7 σ σ' v ((l.take i).map Term.enc)) (l).length
      ⟨0, by omega, by omega, by simp -dsimp only [↓bp, bq, br, seval, tbTaleK]; first | done | rfl, ⟨.nil, by first | (simp -dsimp only [↓bp, bq, br, seval, tbTaleK]; done) | (simp -dsimp only [↓bp, bq, br, seval, tbTaleK]; try rfl), .nil (AS.le.refl σ)⟩⟩ ?_
  rintro n v σ' ⟨i, hi, rfl, h4, ⟨v3, h3, hB⟩⟩
  simp -dsimp only [↓bp, bq, br, seval, tbTaleK] at h4 h3
  simp -dsimp only [↓bp, bq, br, seval, tbTaleK, h4, h3]
  refine condW_dec (fun hlt => ?_) (fun hge => ?_)
  · obtain ⟨k, hk⟩ : ∃ k, l[i]? = some k := ⟨_, List.getElem?_eq_getElem (by omega)⟩
    have hp := hf k (List.mem_of_getElem? hk)
    have hil : i < l.length := (List.getElem?_eq_some_iff.1 hk).1
    have hlen : (l.take i).length = i := by rw [List.length_take]; omega
    clear hi hlt hf
    repeat' (first | refine xs ?_ ?_ <;> intros | ((first | refine xh ?_ | refine xi ?_); intro bx hbx; (try simp only [fb] at hbx)) | refine Pure.use (hp) ?_ | refine Pure.head (hp) ?_ | (refine build_one tfN (Term.isv_enc k) (by rw [k.flat_enc]; rfl) (by omega) ?_) | (refine app_buf (ys := [k.enc]) (hB.newBox (by first | assumption | (simp only [*]; done)) _) tfN (asrc_sl tfE) (fun a ha => by simp at ha; subst ha; rw [k.flat_enc]; rfl) (by simp; omega) (fun v3 σ3 hB4 hx4 => ?_)) | refine xj ?_ | ((with_reducible refine And.intro ?_ ?_); omega) | refine bo_buildSlice (d' := ⟨⟩) ?_ | refine xk (by kernel_rfl) ?_ | refine xf ?_ (by repeat' first | exact lr _ | assumption | refine ls ?_ ?_ | refine lt ?_ ?_ | simp only [*]; done | exact lf ‹_› (by simp only [*])) | simp -dsimp only [↓bp, bq, br, seval, tbTaleK, *])
    all_goals exact ⟨l.length - (i + 1), by omega, i + 1, by omega, rfl, by rw [wrap_nat (by omega) (by omega)]; rfl, by rw [take_succ_get _ _ _ hk, List.map_append]; exact hB4⟩
  · have : i = l.length := by omega
    subst this
    rw [List.take_length] at hB
    clear hi hge hf
    repeat' (first | refine xs ?_ ?_ <;> intros | ((first | refine xh ?_ | refine xi ?_); intro bx hbx; (try simp only [fb] at hbx)) | refine xj ?_ | ((with_reducible refine And.intro ?_ ?_); omega) | refine bo_buildSlice (d' := ⟨⟩) ?_ | refine xk (by kernel_rfl) ?_ | refine xf ?_ (by repeat' first | exact lr _ | assumption | refine ls ?_ ?_ | refine lt ?_ ?_ | simp only [*]; done | exact lf ‹_› (by simp only [*])) | simp -dsimp only [↓bp, bq, br, seval, tbTaleK, *])
    exact finish_le hB.told hB.le
theorem kcopy_pure (t : Term) : t.bulk ≤ 1000000000 → Pure Tryz.prog G 131 [t.enc] t.enc := by
  refine Term.ind (P := fun t => t.bulk ≤ 1000000000 → Pure Tryz.prog G 131 [t.enc] t.enc) (fun t ih1 ih2 hb => ?_) t
  have h1 := kcopies_pure G t.items (by have := len_items t; omega) (fun x hx => ih1 x hx (by have := bulk_item hx; omega))
  have h2 := kcopies_pure G t.tail (by have := len_tail t; omega) (fun x hx => ih2 x hx (by have := bulk_tail hx; omega))
  have h3 := kcopyL_pure G t.limbs (by have := len_limbs t; omega)
  clear ih1 ih2 hb
  intro σ
  refine Tri.of_awp mixed Tryz.func131 rfl (by kernel_rfl) (by kernel_rfl) (by simp [Tryz.ntmps131]) Tryz.results131 ?_
  repeat' (first | refine xs ?_ ?_ <;> intros | ((first | refine xh ?_ | refine xi ?_); intro bx hbx; (try simp only [fb] at hbx)) | refine Pure.use (h1) ?_ | refine Pure.head (h1) ?_ | refine Pure.use (h2) ?_ | refine Pure.head (h2) ?_ | refine Pure.use (h3) ?_ | refine Pure.head (h3) ?_ | refine xj ?_ | ((with_reducible refine And.intro ?_ ?_); omega) | refine bo_buildSlice (d' := ⟨⟩) ?_ | refine xk (by kernel_rfl) ?_ | refine xf ?_ (by repeat' first | exact lr _ | assumption | refine ls ?_ ?_ | refine lt ?_ ?_ | simp only [*]; done | exact lf ‹_› (by simp only [*])) | simp -dsimp only [↓bp, bq, br, seval, tbTaleK, *])
  all_goals skip
theorem kcopyE1_pure (e : Ended) (hb : e.reason.bulk ≤ 1000000000) : Pure Tryz.prog G 132 [e.enc] e.enc := by
  have h1 := kcopy_pure G e.reason hb
  clear hb
  intro σ
  refine Tri.of_awp mixed Tryz.func132 rfl (by kernel_rfl) (by kernel_rfl) (by simp [Tryz.ntmps132]) Tryz.results132 ?_
  repeat' (first | refine xs ?_ ?_ <;> intros | ((first | refine xh ?_ | refine xi ?_); intro bx hbx; (try simp only [fb] at hbx)) | refine Pure.use (h1) ?_ | refine Pure.head (h1) ?_ | refine xj ?_ | ((with_reducible refine And.intro ?_ ?_); omega) | refine bo_buildSlice (d' := ⟨⟩) ?_ | refine xk (by kernel_rfl) ?_ | refine xf ?_ (by repeat' first | exact lr _ | assumption | refine ls ?_ ?_ | refine lt ?_ ?_ | simp only [*]; done | exact lf ‹_› (by simp only [*])) | simp -dsimp only [↓bp, bq, br, seval, tbTaleK, *])
  all_goals skip
theorem sameX_pure (l r : List (List UInt8)) (hl : l.length ≤ 1000000000) (hr : r.length ≤ 1000000000) : Pure Tryz.prog G 13 [texts l, texts r] (.bool (decide (l = r))) := by
  intro σ
  by_cases hn : (l.length : Int) = r.length
  · have hn' := eq_true hn
    refine Tri.of_awp mixed Tryz.func13 rfl (by kernel_rfl) (by kernel_rfl) (by simp [Tryz.ntmps13]) Tryz.results13 ?_
    simp -dsimp only [↓bp, bq, br, seval, tbTaleK, hn', len_texts]
    refine loop_keep mixed (fun n e => ∃ i : Nat, i ≤ (l).length ∧ n = (l).length - i ∧ e 5 = .int .i64 i ∧ l.take i = r.take i) (l).length
        ⟨0, by omega, by omega, by simp -dsimp only [↓bp, bq, br, seval, tbTaleK]; first | done | rfl, rfl⟩ ?_
    rintro n v ⟨i, hi, rfl, h5, htk⟩
    simp -dsimp only [↓bp, bq, br, seval, tbTaleK] at h5
    simp -dsimp only [↓bp, bq, br, seval, tbTaleK, h5, len_texts]
    refine condW_dec (fun hlt => ?_) (fun hge => ?_)
    · obtain ⟨x, hx⟩ : ∃ x, l[i]? = some x := ⟨_, List.getElem?_eq_getElem (by omega)⟩
      obtain ⟨y, hy⟩ : ∃ y, r[i]? = some y := ⟨_, List.getElem?_eq_getElem (by omega)⟩
      have hw : IntKind.i64.wrap ((i : Int) + 1) = ((i + 1 : Nat) : Int) := by rw [wrap_nat (by omega) (by omega)]; rfl
      by_cases hxy : x = y
      · subst hxy
        have h2 := take_same htk hx hy
        clear hi hn hl hr
        repeat' (first | refine xs ?_ ?_ <;> intros | ((first | refine xh ?_ | refine xi ?_); intro bx hbx; (try simp only [fb] at hbx)) | refine xj ?_ | ((with_reducible refine And.intro ?_ ?_); omega) | refine bo_buildSlice (d' := ⟨⟩) ?_ | refine xk (by kernel_rfl) ?_ | refine xf ?_ (by repeat' first | exact lr _ | assumption | refine ls ?_ ?_ | refine lt ?_ ?_ | simp only [*]; done | exact lf ‹_› (by simp only [*])) | simp -dsimp only [↓bp, bq, br, seval, tbTaleK, len_texts, ix_texts, *])
        all_goals (have hlt := (List.getElem?_eq_some_iff.1 hx).1)
        all_goals exact ⟨l.length - (i + 1), by omega, i + 1, by omega, rfl, rfl, h2⟩
      · have hd : decide (l = r) = false := decide_eq_false (take_ne hx hy hxy)
        have hne := eq_false hxy
        rw [hd]
        clear hi hn hl hr hd hxy
        repeat' (first | refine xs ?_ ?_ <;> intros | ((first | refine xh ?_ | refine xi ?_); intro bx hbx; (try simp only [fb] at hbx)) | refine xj ?_ | ((with_reducible refine And.intro ?_ ?_); omega) | refine bo_buildSlice (d' := ⟨⟩) ?_ | refine xk (by kernel_rfl) ?_ | refine xf ?_ (by repeat' first | exact lr _ | assumption | refine ls ?_ ?_ | refine lt ?_ ?_ | simp only [*]; done | exact lf ‹_› (by simp only [*])) | simp -dsimp only [↓bp, bq, br, seval, tbTaleK, len_texts, ix_texts, *])
        all_goals rfl
    · have : i = l.length := by omega
      subst this
      have hd : decide (l = r) = true := decide_eq_true (take_end (by omega) htk)
      rw [hd]
      clear hi hn hl hr hd hn'
      repeat' (first | refine xs ?_ ?_ <;> intros | ((first | refine xh ?_ | refine xi ?_); intro bx hbx; (try simp only [fb] at hbx)) | refine xj ?_ | ((with_reducible refine And.intro ?_ ?_); omega) | refine bo_buildSlice (d' := ⟨⟩) ?_ | refine xk (by kernel_rfl) ?_ | refine xf ?_ (by repeat' first | exact lr _ | assumption | refine ls ?_ ?_ | refine lt ?_ ?_ | simp only [*]; done | exact lf ‹_› (by simp only [*])) | simp -dsimp only [↓bp, bq, br, seval, tbTaleK, len_texts, *])
      all_goals rfl
  · have hd : decide (l = r) = false := decide_eq_false fun e => by subst e; exact hn rfl
    have hn' := eq_false hn
    rw [hd]
    clear hn hl hr hd
    refine Tri.of_awp mixed Tryz.func13 rfl (by kernel_rfl) (by kernel_rfl) (by simp [Tryz.ntmps13]) Tryz.results13 ?_
    repeat' (first | refine xs ?_ ?_ <;> intros | ((first | refine xh ?_ | refine xi ?_); intro bx hbx; (try simp only [fb] at hbx)) | refine xj ?_ | ((with_reducible refine And.intro ?_ ?_); omega) | refine bo_buildSlice (d' := ⟨⟩) ?_ | refine xk (by kernel_rfl) ?_ | refine xf ?_ (by repeat' first | exact lr _ | assumption | refine ls ?_ ?_ | refine lt ?_ ?_ | simp only [*]; done | exact lf ‹_› (by simp only [*])) | simp -dsimp only [↓bp, bq, br, seval, tbTaleK, len_texts, *])
    all_goals rfl
end
set_option maxRecDepth 20000
section
def tbRev := And.intro (And.intro @tf3 (And.intro @tf4 @tf5)) (And.intro (And.intro @tf9 @tf86) (And.intro @isv_byteA @flat_byteA))
variable (G : Nat → AV)
theorem bytesA_set (s : List UInt8) (i : Nat) (c : UInt8) (h : i < s.length) : (bytesA s).take i ++ [byteA c] ++ (bytesA s).drop (i + 1) = bytesA (s.set i c) := by
  unfold bytesA
  rw [List.append_assoc, ← List.map_take, ← List.map_drop, List.set_eq_take_append_cons_drop, if_pos h, List.map_append, List.map_cons]
  rfl
theorem bytesA_get (s : List UInt8) (i : Nat) : (bytesA s)[i]? = (s[i]?).map byteA := by simp [bytesA]
def Turned (s t : List UInt8) (i : Nat) : Prop := t.length = s.length ∧ ∀ k, k < s.length → t[k]? = if k < i ∨ s.length - i ≤ k then s[s.length - 1 - k]? else s[k]?
theorem Turned.step {s t : List UInt8} {i : Nat} (h : Turned s t i) (hi : i + i + 1 < s.length) {x y : UInt8} (hx : t[i]? = some x) (hy : t[s.length - 1 - i]? = some y) : Turned s ((t.set i y).set (s.length - 1 - i) x) (i + 1) := by
  obtain ⟨h1, h2⟩ := h
  have gx := h2 i (by omega)
  have gy := h2 (s.length - 1 - i) (by omega)
  rw [if_neg (by omega), hx] at gx
  rw [if_neg (by omega), hy] at gy
  refine ⟨by simp [h1], fun k hk => ?_⟩
  rw [List.getElem?_set]
  by_cases e1 : s.length - 1 - i = k
  · rw [if_pos e1, if_pos (by simp; omega), if_pos (by omega)]
    rw [gx]; congr 1; omega
  · rw [if_neg e1, List.getElem?_set]
    by_cases e2 : i = k
    · rw [if_pos e2, if_pos (by omega), if_pos (by omega), gy]; subst e2; rfl
    · rw [if_neg e2, h2 k hk]
      by_cases e3 : k < i ∨ s.length - i ≤ k
      · rw [if_pos e3, if_pos (by omega)]
      · rw [if_neg e3, if_neg (by omega)]
theorem Turned.done {s t : List UInt8} {i : Nat} (h : Turned s t i) (hi : s.length ≤ i + i + 1) : t = s.reverse := by
  obtain ⟨h1, h2⟩ := h
  refine List.ext_getElem? fun k => ?_
  by_cases hk : k < s.length
  · rw [h2 k hk, List.getElem?_reverse hk]
    split
    · rfl
    · congr 1; omega
  · rw [List.getElem?_eq_none (by omega), List.getElem?_eq_none (by simp; omega)]
theorem reverse_tri (s : List UInt8) (hl : s.length ≤ 1000000000) (σ : AS) (b : Nat) (hb : σ.box b = some (bytesA s)) :
    Tri Tryz.prog G 140 [.bs b s.length 1 5] σ fun r σ' => σ' = σ.setBox b (bytesA s.reverse) := by
  have hw0 : IntKind.i64.wrap ((s.length : Int) - 1) = s.length - 1 := wrap_nat (by omega) (by omega)
  refine Tri.of_awp mixed Tryz.func140 rfl (by kernel_rfl) (by kernel_rfl) (by simp [Tryz.ntmps140]) Tryz.results140 ?_
  repeat' (first | refine xs ?_ ?_ <;> intros | ((first | refine xh ?_ | refine xi ?_); intro bx hbx; (try simp only [fb] at hbx)) | refine xj ?_ | ((with_reducible refine And.intro ?_ ?_); omega) | refine bo_buildSlice (d' := ⟨⟩) ?_ | refine xk (by kernel_rfl) ?_ | refine xf ?_ (by repeat' first | exact lr _ | assumption | refine ls ?_ ?_ | refine lt ?_ ?_ | simp only [*]; done | exact lf ‹_› (by simp only [*])) | simp -dsimp only [↓bp, bq, br, seval, tbRev, Nat.mul_one, List.head?_drop, *])
  refine loop_intro (fun n e σ' => ∃ (i : Nat) (t : List UInt8), i ≤ s.length ∧ n = s.length - i ∧ e 2 = .int .i64 i ∧ e 3 = .int .i64 ((s.length : Int) - 1 - i) ∧ Turned s t i ∧ σ' = σ.setBox b (bytesA t)) s.length
    ⟨0, s, by omega, by omega, by first | (simp -dsimp only [↓bp, bq, br, seval, tbRev, Nat.mul_one, List.head?_drop]; done) | (simp -dsimp only [↓bp, bq, br, seval, tbRev, Nat.mul_one, List.head?_drop]; try rfl), by first | (simp -dsimp only [↓bp, bq, br, seval, tbRev, Nat.mul_one, List.head?_drop]; done) | (simp -dsimp only [↓bp, bq, br, seval, tbRev, Nat.mul_one, List.head?_drop]; simp), ⟨rfl, fun k hk => by rw [if_neg (by omega)]⟩, (setBox_id hb).symm⟩ ?_
  rintro n v σ' ⟨i, t, hi, rfl, h2, h3, ht, rfl⟩
  simp -dsimp only [↓bp, bq, br, seval, tbRev, Nat.mul_one, List.head?_drop] at h2 h3
  by_cases hlt : i + i + 1 < s.length
  · obtain ⟨x, hx⟩ : ∃ x, t[i]? = some x := ⟨_, List.getElem?_eq_getElem (by rw [ht.1]; omega)⟩
    obtain ⟨y, hy⟩ : ∃ y, t[s.length - 1 - i]? = some y := ⟨_, List.getElem?_eq_getElem (by rw [ht.1]; omega)⟩
    have hst := ht.step hlt hx hy
    have c1 : (i : Int) < (s.length : Int) - 1 - i := by omega
    have hj : (s.length : Int) - 1 - i = ((s.length - 1 - i : Nat) : Int) := by omega
    have hbx : (bytesA t)[i]? = some (byteA x) := by rw [bytesA_get, hx]; rfl
    have hby : (bytesA t)[s.length - 1 - i]? = some (byteA y) := by rw [bytesA_get, hy]; rfl
    obtain ⟨j, hjj⟩ : ∃ j, s.length - 1 - i = j := ⟨_, rfl⟩
    rw [hjj] at hj hby hst
    rw [hj] at h3 c1
    have hb1 : (0 : Int) ≤ i ∧ (i : Int) < s.length := by omega
    have hb2 : (0 : Int) ≤ j ∧ (j : Int) < s.length := by omega
    have hl1 : i + 1 ≤ (bytesA t).length := by rw [bytesA_len, ht.1]; omega
    have hset1 := bytesA_set t i y (by rw [ht.1]; omega)
    have hset2 := bytesA_set (t.set i y) j x (by simp; rw [ht.1]; omega)
    have hl2 : j + 1 ≤ (bytesA (t.set i y)).length := by rw [bytesA_len]; simp; rw [ht.1]; omega
    clear hx hy ht hlt hi hw0 hb
    repeat' (first | refine xs ?_ ?_ <;> intros | ((first | refine xh ?_ | refine xi ?_); intro bx hbx; (try simp only [fb] at hbx)) | (refine draw_all_f [(13, 2), (13, 3)] (by kernel_rfl) (by kernel_rfl) ?_) | refine xj ?_ | ((with_reducible refine And.intro ?_ ?_); omega) | refine bo_buildSlice (d' := ⟨⟩) ?_ | refine xk (by kernel_rfl) ?_ | refine xf ?_ (by repeat' first | exact lr _ | assumption | refine ls ?_ ?_ | refine lt ?_ ?_ | simp only [*]; done | exact lf ‹_› (by simp only [*])) | simp -dsimp only [↓bp, bq, br, seval, tbRev, Nat.mul_one, List.head?_drop, *])
    have h3' : IntKind.i64.wrap ((j : Int) - 1) = (s.length : Int) - 1 - ((i + 1 : Nat) : Int) := by rw [wrap_nat (by omega) (by omega)]; omega
    have h2' : IntKind.i64.wrap ((i : Int) + 1) = ((i + 1 : Nat) : Int) := by rw [wrap_nat (by omega) (by omega)]; rfl
    refine ⟨s.length - (i + 1), by omega, i + 1, _, by omega, rfl, by rw [h2'], by rw [h3'], hst, ?_⟩
    rfl
  · have hd := ht.done (by omega)
    subst hd
    have c1 : ¬ (i : Int) < (s.length : Int) - 1 - i := by omega
    clear hi hlt ht hw0
    repeat' (first | refine xs ?_ ?_ <;> intros | ((first | refine xh ?_ | refine xi ?_); intro bx hbx; (try simp only [fb] at hbx)) | refine xj ?_ | ((with_reducible refine And.intro ?_ ?_); omega) | refine bo_buildSlice (d' := ⟨⟩) ?_ | refine xk (by kernel_rfl) ?_ | refine xf ?_ (by repeat' first | exact lr _ | assumption | refine ls ?_ ?_ | refine lt ?_ ?_ | simp only [*]; done | exact lf ‹_› (by simp only [*])) | simp -dsimp only [↓bp, bq, br, seval, tbRev, Nat.mul_one, List.head?_drop, *])
    exact finishW_some _ (AS.le.refl _) rfl
end
set_option maxRecDepth 20000
section
def tbMade := And.intro (And.intro (And.intro (And.intro @tf3 (And.intro @tf4 @tf5)) (And.intro @tf85 (And.intro @tf137 @tf138))) (And.intro (And.intro @tf9 (And.intro @tf40 @tf39)) (And.intro @tf22 (And.intro @tf42 @Term.flat_enc)))) (And.intro (And.intro (And.intro @Term.isv_enc (And.intro @Term.fold_enc @isv_lims)) (And.intro @flat_lims (And.intro @len_lims @ix_lims))) (And.intro (And.intro @ix_lims' (And.intro @flat_limA @ares_cons2)) (And.intro @ares1_tmp (And.intro @ares1_cell @aresk_some))))
variable (G : Nat → AV)
def strip : List UInt32 → List UInt32
  | [] => []
  | x :: l => if strip l = [] ∧ x = 0 then [] else x :: strip l
theorem strip_val : ∀ l, val (strip l) = val l
  | [] => rfl
  | x :: l => by
    have ih := strip_val l
    simp only [strip]
    split
    · rename_i h
      obtain ⟨h1, rfl⟩ := h
      rw [h1] at ih
      simp only [val] at ih ⊢
      rw [← ih]; rfl
    · simp only [val, ih]
theorem strip_zero : ∀ l, strip (l ++ [0]) = strip l
  | [] => by simp [strip]
  | x :: l => by simp only [List.cons_append, strip, strip_zero l]
theorem strip_keep : ∀ (l : List UInt32) (x : UInt32), x ≠ 0 → strip (l ++ [x]) = l ++ [x]
  | [], x, h => by simp [strip, h]
  | y :: l, x, h => by simp only [List.cons_append, strip, strip_keep l x h]; simp
theorem strip_len : ∀ l, (strip l).length ≤ l.length
  | [] => by simp [strip]
  | x :: l => by
    have := strip_len l
    simp only [strip]
    split <;> simp <;> omega
theorem strip_last : ∀ l, strip l = [] ∨ ∃ m x, strip l = m ++ [x] ∧ x ≠ 0
  | [] => .inl rfl
  | x :: l => by
    simp only [strip]
    rcases strip_last l with h | ⟨m, y, h, hy⟩
    · by_cases hx : x = 0
      · rw [if_pos ⟨h, hx⟩]; exact .inl rfl
      · rw [if_neg (fun c => hx c.2), h]; exact .inr ⟨[], x, rfl, hx⟩
    · rw [if_neg (fun c => by rw [h] at c; simp at c), h]; exact .inr ⟨x :: m, y, rfl, hy⟩
def intT (neg : Bool) (m : List UInt32) : Term := .mk 1 neg m [] 0 [] []
def madeR (l : List UInt32) (neg : Bool) : AV := if (strip l).length ≤ 32 then .tup [(intT (neg && decide (0 < ((strip l).length : Int))) (strip l)).enc, .bool true] else .tup [zeroT.enc, .bool false]
theorem intT_le (g : Bool) (m : List UInt32) : Le (.agg [.int .u8 1, .bool g, lims m, .str [], .int .i64 0, .nil, .nil]) (intT g m).enc := by
  rw [← Term.fold_enc (intT g m)]
  refine Le.agg ?_ (fun d hd => ones (intT g m) d (by rw [Term.flat_enc]; exact hd))
  exact .cons (Le.refl _) (.cons (Le.refl _) (.cons (Le.refl _) (.cons (Le.refl _) (.cons (Le.refl _) (.cons Le.nil (.cons Le.nil .nil))))))
theorem made_pure (l : List UInt32) (neg : Bool) (hl : l.length ≤ 1000000000) : Pure Tryz.prog G 139 [lims l, .bool neg] (madeR l neg) := by
  refine Pure.of_le fun σ => ?_
  have hc : ∀ m : List UInt32, m.length ≤ 1000000000 → Pure Tryz.prog G 161 [lims m] (lims m) := fun m hm => Pure.of_le (clone_tri G m hm)
  refine Tri.of_awp mixed Tryz.func139 rfl (by kernel_rfl) (by kernel_rfl) (by simp [Tryz.ntmps139]) Tryz.results139 ?_
  repeat' (first | refine xs ?_ ?_ <;> intros | ((first | refine xh ?_ | refine xi ?_); intro bx hbx; (try simp only [fb] at hbx)) | refine xj ?_ | ((with_reducible refine And.intro ?_ ?_); omega) | refine bo_buildSlice (d' := ⟨⟩) ?_ | refine xk (by kernel_rfl) ?_ | refine xf ?_ (by repeat' first | exact lr _ | assumption | refine ls ?_ ?_ | refine lt ?_ ?_ | simp only [*]; done | exact lf ‹_› (by simp only [*])) | simp -dsimp only [↓bp, bq, br, seval, tbMade, *])
  refine loop_intro (fun n e σ' => ∃ m : List UInt32, n = m.length ∧ m.length ≤ l.length ∧ strip m = strip l ∧ e 0 = lims m ∧ σ' = σ.setBox bx [.int .u8 0, .bool false, .nil, .str [], .int .i64 0, .nil, .nil]) l.length ⟨l, rfl, Nat.le_refl _, rfl, by first | (simp -dsimp only [↓bp, bq, br, seval, tbMade]; done) | (simp -dsimp only [↓bp, bq, br, seval, tbMade]; try rfl), rfl⟩ ?_
  rintro n v σ' ⟨m, rfl, hml, hst, h0, rfl⟩
  simp -dsimp only [↓bp, bq, br, seval, tbMade] at h0
  rcases List.eq_nil_or_concat m with rfl | ⟨m', x, rfl⟩
  · have hs : strip l = [] := by rw [← hst]; rfl
    have hcm := hc [] (by simp)
    have hlz : (([] : List UInt32).length : Int) = 0 := rfl
    have hr : madeR l neg = .tup [(intT false []).enc, .bool true] := by unfold madeR; rw [hs]; simp
    rw [hr]
    generalize hnil : ([] : List UInt32) = q at *
    clear hc hs hst hml hr
    repeat' (first | refine xs ?_ ?_ <;> intros | ((first | refine xh ?_ | refine xi ?_); intro bx hbx; (try simp only [fb] at hbx)) | refine Pure.use (hcm) ?_ | refine Pure.head (hcm) ?_ | refine xj ?_ | ((with_reducible refine And.intro ?_ ?_); omega) | refine bo_buildSlice (d' := ⟨⟩) ?_ | refine xk (by kernel_rfl) ?_ | refine xf ?_ (by repeat' first | exact lr _ | assumption | refine ls ?_ ?_ | refine lt ?_ ?_ | simp only [*]; done | exact lf ‹_› (by simp only [*])) | simp -dsimp only [↓bp, bq, br, seval, tbMade, hlz, *])
    all_goals
      refine finishW_some σ (by repeat' first | exact lr _ | assumption | refine ls ?_ ?_ | refine lt ?_ ?_ | simp only [*]; done | exact lf ‹_› (by simp only [*])) ?_
      exact ⟨Le.tup (.cons (intT_le _ _) (.cons (Le.refl _) .nil)), rfl⟩
  · simp only [List.concat_eq_append] at *
    have hlen : ((m' ++ [x]).length : Int) = m'.length + 1 := by simp
    have hlen' : (m' ++ [x]).length = m'.length + 1 := by simp
    have hw : IntKind.i64.wrap ((m'.length : Int) + 1 - 1) = m'.length := by rw [wrap_nat (by omega) (by omega)]; omega
    have hget : (m' ++ [x])[m'.length]? = some x := by simp
    have htake : (m' ++ [x]).take m'.length = m' := by simp
    have hcm := hc (m' ++ [x]) (by omega)
    have hp : (0 : Int) < m'.length + 1 := by omega
    have hmm : m'.length ≤ (m' ++ [x]).length := by omega
    by_cases hx : x = 0
    · subst hx
      rw [strip_zero] at hst
      have hz : ((0 : UInt32).toNat : Int) = 0 := rfl
      have hml' : m'.length ≤ l.length := by omega
      generalize hq : m' ++ [0] = q at *
      clear hc hml hlen'
      repeat' (first | refine xs ?_ ?_ <;> intros | ((first | refine xh ?_ | refine xi ?_); intro bx hbx; (try simp only [fb] at hbx)) | refine xj ?_ | ((with_reducible refine And.intro ?_ ?_); omega) | refine bo_buildSlice (d' := ⟨⟩) ?_ | refine xk (by kernel_rfl) ?_ | refine xf ?_ (by repeat' first | exact lr _ | assumption | refine ls ?_ ?_ | refine lt ?_ ?_ | simp only [*]; done | exact lf ‹_› (by simp only [*])) | simp -dsimp only [↓bp, bq, br, seval, tbMade, hlen, hw, limA, hz, sl_lims, *])
      all_goals exact ⟨m'.length, by rw [← hq]; simp, m', rfl, hml', hst, rfl⟩
    · have hs : strip l = m' ++ [x] := by rw [← hst, strip_keep _ _ hx]
      have hz : ¬ (x.toNat : Int) = 0 := fun e => hx (UInt32.toNat_inj.1 (by simpa using e))
      by_cases h32 : m'.length + 1 ≤ 32
      · have hr : madeR l neg = .tup [(intT (neg && true) (m' ++ [x])).enc, .bool true] := by unfold madeR; rw [hs, hlen', if_pos h32]; congr 5; simp
        rw [hr]
        have h32' : ¬ (32 : Int) < m'.length + 1 := by omega
        generalize hq : m' ++ [x] = q at *
        clear hc hs hst hml hr h32 hlen'
        repeat' (first | refine xs ?_ ?_ <;> intros | ((first | refine xh ?_ | refine xi ?_); intro bx hbx; (try simp only [fb] at hbx)) | refine Pure.use (hcm) ?_ | refine Pure.head (hcm) ?_ | refine xj ?_ | ((with_reducible refine And.intro ?_ ?_); omega) | refine bo_buildSlice (d' := ⟨⟩) ?_ | refine xk (by kernel_rfl) ?_ | refine xf ?_ (by repeat' first | exact lr _ | assumption | refine ls ?_ ?_ | refine lt ?_ ?_ | simp only [*]; done | exact lf ‹_› (by simp only [*])) | simp -dsimp only [↓bp, bq, br, seval, tbMade, hlen, hw, limA, hz, sl_lims, *])
        all_goals
          refine finishW_some σ (by repeat' first | exact lr _ | assumption | refine ls ?_ ?_ | refine lt ?_ ?_ | simp only [*]; done | exact lf ‹_› (by simp only [*])) ?_
          cases neg <;> first | exact ⟨Le.tup (.cons (intT_le _ _) (.cons (Le.refl _) .nil)), rfl⟩ | (exfalso; simp_all; done)
      · have hr : madeR l neg = .tup [zeroT.enc, .bool false] := by unfold madeR; rw [hs, hlen', if_neg h32]
        rw [hr]
        have h32' : (32 : Int) < m'.length + 1 := by omega
        generalize hq : m' ++ [x] = q at *
        clear hc hs hst hml hr h32 hlen'
        repeat' (first | refine xs ?_ ?_ <;> intros | ((first | refine xh ?_ | refine xi ?_); intro bx hbx; (try simp only [fb] at hbx)) | refine Pure.use (hcm) ?_ | refine Pure.head (hcm) ?_ | refine xj ?_ | ((with_reducible refine And.intro ?_ ?_); omega) | refine bo_buildSlice (d' := ⟨⟩) ?_ | refine xk (by kernel_rfl) ?_ | refine xf ?_ (by repeat' first | exact lr _ | assumption | refine ls ?_ ?_ | refine lt ?_ ?_ | simp only [*]; done | exact lf ‹_› (by simp only [*])) | simp -dsimp only [↓bp, bq, br, seval, tbMade, hlen, hw, limA, hz, sl_lims, *])
        all_goals
          refine finishW_some σ (by repeat' first | exact lr _ | assumption | refine ls ?_ ?_ | refine lt ?_ ?_ | simp only [*]; done | exact lf ‹_› (by simp only [*])) ?_
          exact ⟨Le.tup (.cons (enc_nil 0 false [] 0) (.cons (Le.refl _) .nil)), rfl⟩
end
end Go.Proofs.YtphnoaihojccbaaGreatDoor
