/- The reference's integers: right ones, and their order. -/
import Derived.Test.YtjmdaeabllkgnaaGreatDoorZ35
import Derived.Test.YtjmdaeabllkgnaaGreatDoorZ16
import Derived.Test.YtjmdaeabllkgnaaGreatDoorZ20
set_option linter.unusedVariables false
set_option linter.unusedSimpArgs false
set_option maxRecDepth 20000
set_option linter.defProp false
namespace Go.Proofs.YtjmdaeabllkgnaaGreatDoor
open Go Go.Av
section
def tbRefC0 := And.intro (And.intro (And.intro (And.intro @tf3 (And.intro @tf4 @tf5)) (And.intro (And.intro @tf169 @tf171) (And.intro @tf9 @tf56))) (And.intro (And.intro @tf55 (And.intro @tf24 @tf58)) (And.intro (And.intro @tf244 @tf116) (And.intro @Term.flat_enc @Term.isv_enc)))) (And.intro (And.intro (And.intro @Term.fold_enc (And.intro @isv_encs @flat_encs)) (And.intro (And.intro @len_encs @ix_encs) (And.intro @ix_encs' @isv_lims))) (And.intro (And.intro (And.intro @flat_lims @len_lims) (And.intro @ix_lims @ix_lims')) (And.intro (And.intro @flat_limA @isv_bools) (And.intro @flat_bools @len_bools))))
variable (G : Nat → AV)
set_option maxHeartbeats 4000000 in
theorem rright_pure (t : Term) (hb : t.bulk ≤ 1000000000) : Pure Tryz.prog G 150 [t.enc] (.bool (wr t)) := by
 have h1 := len_limbs t
 intro σ
 by_cases hl : (t.limbs.length : Int) = 0
 ·have hl1 : ¬ 0 < (t.limbs.length : Int) := by omega
  have hl2 : ¬ (0 : Int) > 0 := by omega
  have e : wr t = (decide (t.knd = 1) && decide (t.text = []) && decide (t.num = 0) && decide ((t.items.length : Int) = 0) && decide ((t.tail.length : Int) = 0) && !t.neg) := by
   have e0 : decide ((t.items.length : Int) + t.tail.length = 0) = (decide ((t.items.length : Int) = 0) && decide ((t.tail.length : Int) = 0)) := by
    rw [Bool.eq_iff_iff]; simp only [Bool.and_eq_true, decide_eq_true_eq]; omega
   unfold wr
   rw [e0, hl]
   simp only [show decide ((0 : Int) ≤ 32) = true from rfl, show decide ((0 : Int) = 0) = true from rfl, show decide ((0 : Int) < 0) = false from rfl, Bool.and_true, Bool.true_and, Bool.false_and, Bool.or_false, Bool.and_assoc, decide_true]
  rw [e]
  clear h1 hb e
  refine Tri.of_awp mixed Tryz.func150 rfl (by kernel_rfl) (by kernel_rfl) (by simp [Tryz.ntmps150]) Tryz.results150 ?_
  repeat' (first | refine xs ?_ ?_ <;> intros | (refine wn ?_; intro bx hbx; try simp only [fb] at hbx) | refine wj ?_ | simp -dsimp only [↓bp, bq, br, seval, tbRefC0, limA, *] | refine wz ?_ | fail)
  all_goals (try simp_all)
 ·have hl1 : 0 < (t.limbs.length : Int) := by omega
  have hw2 : IntKind.i64.wrap ((t.limbs.length : Int) - 1) = ((t.limbs.length - 1 : Nat) : Int) := by rw [wrap_nat (by omega) (by omega)]; omega
  obtain ⟨x, hx⟩ : ∃ x, t.limbs[t.limbs.length - 1]? = some x := ⟨_, List.getElem?_eq_getElem (by omega)⟩
  have hlo : lastOk t.limbs = decide ((x.toNat : Int) ≠ 0) := by simp [lastOk, hx]
  have e : wr t = (decide (t.knd = 1) && decide (t.text = []) && decide (t.num = 0) && decide ((t.items.length : Int) = 0) && decide ((t.tail.length : Int) = 0) && decide ((t.limbs.length : Int) ≤ 32) && decide ((x.toNat : Int) ≠ 0)) := by
   unfold wr
   rw [hlo, Bool.eq_iff_iff]
   simp only [Bool.and_eq_true, decide_eq_true_eq, Bool.or_eq_true, hl, hl1, false_and, false_or, true_and]
   constructor
   ·rintro ⟨⟨⟨⟨⟨a, b⟩, c⟩, d⟩, f⟩, g⟩; exact ⟨⟨⟨⟨⟨⟨a, b⟩, c⟩, by omega⟩, by omega⟩, f⟩, g⟩
   ·rintro ⟨⟨⟨⟨⟨⟨a, b⟩, c⟩, d⟩, d2⟩, f⟩, g⟩; exact ⟨⟨⟨⟨⟨a, b⟩, c⟩, by omega⟩, f⟩, g⟩
  rw [e]
  clear h1 hb e hlo
  refine Tri.of_awp mixed Tryz.func150 rfl (by kernel_rfl) (by kernel_rfl) (by simp [Tryz.ntmps150]) Tryz.results150 ?_
  repeat' (first | refine xs ?_ ?_ <;> intros | (refine wn ?_; intro bx hbx; try simp only [fb] at hbx) | refine wj ?_ | simp -dsimp only [↓bp, bq, br, seval, tbRefC0, limA, *] | refine wz ?_ | fail)
  all_goals (try simp_all)
end
set_option maxRecDepth 20000
section
def tbRefT := And.intro (And.intro (And.intro (And.intro @tf3 (And.intro @tf4 @tf5)) (And.intro @tf169 (And.intro @tf171 @tf9))) (And.intro (And.intro @tf56 (And.intro @tf54 @tf55)) (And.intro (And.intro @tf24 @tf58) (And.intro @tf244 @tf116)))) (And.intro (And.intro (And.intro @Term.flat_enc (And.intro @Term.isv_enc @Term.fold_enc)) (And.intro @isv_encs (And.intro @flat_encs @len_encs))) (And.intro (And.intro @isv_lims (And.intro @flat_lims @len_lims)) (And.intro (And.intro @isv_bools @flat_bools) (And.intro @len_bools @ix_bools))))
variable (G : Nat → AV)
theorem bv_drop : ∀ (l : List Bool) (k : Nat), bv (l.drop k) ≤ bv l
 | [], k => by simp
 | d :: l, 0 => by simp
 | d :: l, k + 1 => by have := bv_drop l k; simp only [List.drop_succ_cons, bv]; omega
theorem digs_zero : digs 0 = [] := by rw [digs]; simp
theorem digs_ahead {n : Nat} (h : n ≠ 0) (s : List UInt8) : (digs (n / 10)).reverse ++ (UInt8.ofNat (48 + n % 10) :: s) = (digs n).reverse ++ s := by
 have e : digs n = UInt8.ofNat (48 + n % 10) :: digs (n / 10) := by rw [digs, dif_neg h]
 rw [e]; simp
theorem dig_byte2 (d : Nat) (h : d < 10) : IntKind.u8.wrap (48 + (d : Int)) = ((UInt8.ofNat (48 + d)).toNat : Int) := by
 rw [ofNat_toNat (by omega)]
 have : d = 0 ∨ d = 1 ∨ d = 2 ∨ d = 3 ∨ d = 4 ∨ d = 5 ∨ d = 6 ∨ d = 7 ∨ d = 8 ∨ d = 9 := by omega
 rcases this with rfl | rfl | rfl | rfl | rfl | rfl | rfl | rfl | rfl | rfl <;> decide
set_option maxHeartbeats 4000000 in
theorem rwtext_pure (t : Term) (hb : t.bulk ≤ 1000000) : Pure Tryz.prog G 128 [t.enc] (.str (if wr t = true then wsaid t else [])) := by
 have hr := rright_pure G t (by omega)
 cases ew : wr t with
 | false =>
  rw [ew] at hr
  intro σ
  refine Tri.of_awp mixed Tryz.func128 rfl (by kernel_rfl) (by kernel_rfl) (by simp [Tryz.ntmps128]) Tryz.results128 ?_
  repeat' (first | refine xs ?_ ?_ <;> intros | (refine wn ?_; intro bx hbx; try simp only [fb] at hbx) | refine wp hr ?_ | refine wj ?_ | simp -dsimp only [↓bp, bq, br, seval, tbRefT, *] | refine wz ?_ | fail)
  all_goals rfl
 | true =>
  rw [ew] at hr
  rw [if_pos rfl]
  have h32 := (wr_spec ew).2.2.2.2.2.1
  have hbi := bits_pure G t (by omega)
  have hdb := dig_bound h32
  have hL0 : bv (cutB (bitsL t.limbs)) = val t.limbs := by rw [bv_cut, bv_bits]
  have hLl : (cutB (bitsL t.limbs)).length ≤ 100000 := by have := cutB_len (bitsL t.limbs); have := bitsL_len t.limbs; omega
  have hLc : (cutB (bitsL t.limbs)).length = 0 ↔ bv (cutB (bitsL t.limbs)) = 0 := by rw [bv_cut]; exact cut_len _
  generalize cutB (bitsL t.limbs) = L0 at *
  generalize hV : val t.limbs = V at *
  have hsaid : wsaid t = (if t.neg = true then [45] else []) ++ decT V := by unfold wsaid; rw [hV]
  rw [hsaid]
  clear ew hb hV hsaid h32
  intro σ
  refine Tri.of_awp mixed Tryz.func128 rfl (by kernel_rfl) (by kernel_rfl) (by simp [Tryz.ntmps128]) Tryz.results128 ?_
  simp -dsimp only [↓bp, bq, br, seval, tbRefT]
  refine newW_intro fun b1 hb1 => ?_
  have hle1 := le_set (cs := [.int .u8 t.knd, .bool t.neg, lims t.limbs, .str t.text, .int .i64 t.num, encs t.items, encs t.tail]) hb1 (AS.le.refl σ)
  repeat' (first | refine xs ?_ ?_ <;> intros | (refine wn ?_; intro bx hbx; try simp only [fb] at hbx) | refine wp hr ?_ | refine wp hbi ?_ | refine wj ?_ | simp -dsimp only [↓bp, bq, br, seval, tbRefT, *] | refine wz ?_ | fail)
  refine loop_keep mixed (fun n e => ∃ (L : List Bool) (S : List UInt8), n = bv L ∧ e 3 = bools L ∧ e 4 = .str S ∧ L.length ≤ 100000 ∧ (L.length = 0 ↔ bv L = 0) ∧ (digs (bv L)).reverse ++ S = (digs V).reverse) (bv L0)
   ⟨L0, [], rfl, by first | (simp -dsimp only [↓bp, bq, br, seval, tbRefT]; done) | (simp -dsimp only [↓bp, bq, br, seval, tbRefT]; try rfl), by first | (simp -dsimp only [↓bp, bq, br, seval, tbRefT]; done) | (simp -dsimp only [↓bp, bq, br, seval, tbRefT]; try rfl), hLl, hLc, by rw [hL0, List.append_nil]⟩ ?_
  clear hr hbi hL0 hLl hLc
  rintro n e1 ⟨L, S, rfl, h3, h4, hLl, hLc, hS⟩
  simp -dsimp only [↓bp, bq, br, seval, tbRefT] at h3 h4
  by_cases hz : bv L = 0
  ·have hl0 : (0 < (L.length : Int)) = False := eq_false (by have := hLc.2 hz; omega)
   rw [hz, digs_zero] at hS
   have hS : S = (digs V).reverse := by simpa using hS
   have hSl : S.length ≤ 309 := by rw [hS, List.length_reverse]; exact hdb
   have hdec : decT V = if S = [] then [48] else S := by
    unfold decT
    by_cases hv : V = 0
    ·rw [if_pos hv, if_pos (by rw [hS, hv, digs_zero]; rfl)]
    ·rw [if_neg hv, if_neg (by rw [hS]; simp [digs_ne hv]), hS]
   rw [hdec]
   have m1 : 1 + S.length ≤ maxLen := by unfold maxLen; omega
   have m2 : ([45] : List UInt8).length + S.length ≤ maxLen := m1
   have m3 : ([45] : List UInt8).length + ([48] : List UInt8).length ≤ maxLen := by decide
   clear hS hLc hLl hdb hdec hz
   by_cases hs : S = []
   ·rw [if_pos hs]
    have hs := eq_true hs
    cases hg : t.neg
    all_goals
     repeat' (first | refine xs ?_ ?_ <;> intros | (refine wn ?_; intro bx hbx; try simp only [fb] at hbx) | refine wj ?_ | simp -dsimp only [↓bp, bq, br, seval, tbRefT, *] | refine wz ?_ | fail)
     all_goals rfl
   ·rw [if_neg hs]
    have hs := eq_false hs
    cases hg : t.neg
    all_goals
     repeat' (first | refine xs ?_ ?_ <;> intros | (refine wn ?_; intro bx hbx; try simp only [fb] at hbx) | refine wj ?_ | simp -dsimp only [↓bp, bq, br, seval, tbRefT, *] | refine wz ?_ | fail)
     all_goals rfl
  ·have hl0 : (0 < (L.length : Int)) = True := eq_true (by have := mt hLc.1 hz; omega)
   have hp := (parts_pure G L tenB hLl (by decide)).lessArgs (args := [bools L, .sl .full [.bool false, .bool true, .bool false, .bool true] []]) (.cons (Le.refl _) (.cons Le.gh .nil))
   obtain ⟨q1, q2⟩ := parts_ten L
   have hrl := (partsL_len tenB L).2
   have hql := cutB_len (partsL L tenB).1
   rw [(partsL_len tenB L).1] at hql
   have hqc := cut_len (partsL L tenB).1
   rw [← bv_cut] at hqc
   generalize cutB (partsL L tenB).1 = Q at *
   generalize (partsL L tenB).2 = R at *
   have hR9 : bv R ≤ 9 := by omega
   have hahead := digs_ahead hz S
   rw [← q1, ← q2] at hahead
   have hSl : S.length ≤ 309 := by
    have := congrArg List.length hS
    simp only [List.length_append, List.length_reverse] at this
    omega
   have m1 : ([UInt8.ofNat (48 + bv R)] : List UInt8).length + S.length ≤ maxLen := by simp only [List.length_cons, List.length_nil]; unfold maxLen; omega
   have hbyte := dig_byte2 (bv R) (by omega)
   have hwR : IntKind.i64.wrap ((R.length : Int) - 1) = R.length - 1 := wrap_nat (by omega) (by omega)
   have hw48 : IntKind.i64.wrap (48 + (bv R : Int)) = 48 + bv R := wrap_nat (by omega) (by omega)
   have hlt : bv Q < bv L := by omega
   have hby : bytesOf [AV.int .u8 ((UInt8.ofNat (48 + bv R)).toNat : Int)] = some [UInt8.ofNat (48 + bv R)] := bytesOf_bytesA [UInt8.ofNat (48 + bv R)]
   have hfin : (digs (bv Q)).reverse ++ (UInt8.ofNat (48 + bv R) :: S) = (digs V).reverse := by rw [hahead]; exact hS
   clear q1 q2 hahead hS
   generalize UInt8.ofNat (48 + bv R) = c at *
   repeat' (first | refine xs ?_ ?_ <;> intros | (refine wn ?_; intro bx hbx; try simp only [fb] at hbx) | refine wp hp ?_ | refine wj ?_ | simp -dsimp only [↓bp, bq, br, seval, tbRefT, hwR, *] | refine wz ?_ | fail)
   refine loop_keep mixed (fun k e => k ≤ R.length ∧ e 8 = .int .i64 ((k : Int) - 1) ∧ e 7 = .int .i64 (bv (R.drop k) : Nat)) R.length
    ⟨Nat.le_refl _, by first | (simp -dsimp only [↓bp, bq, br, seval, tbRefT, hwR]; done) | (simp -dsimp only [↓bp, bq, br, seval, tbRefT, hwR]; try rfl), by rw [List.drop_length]; first | (simp -dsimp only [↓bp, bq, br, seval, tbRefT]; done) | (simp -dsimp only [↓bp, bq, br, seval, tbRefT]; try rfl)⟩ ?_
   clear hp hwR
   rintro k e2 ⟨hk, h8, h7⟩
   simp -dsimp only [↓bp, bq, br, seval, tbRefT] at h8 h7
   cases k with
   | zero =>
    have hc : (0 ≤ ((0 : Nat) : Int) - 1) = False := eq_false (by omega)
    rw [List.drop_zero] at h7
    repeat' (first | refine xs ?_ ?_ <;> intros | (refine wn ?_; intro bx hbx; try simp only [fb] at hbx) | refine wj ?_ | simp -dsimp only [↓bp, bq, br, seval, tbRefT, *] | refine wz ?_ | fail)
    exact ⟨bv Q, hlt, Q, _, rfl, rfl, rfl, by omega, hqc, hfin⟩
   | succ k =>
    obtain ⟨x, hx⟩ : ∃ x, R[k]? = some x := ⟨_, List.getElem?_eq_getElem (by omega)⟩
    have e8 : ((k + 1 : Nat) : Int) - 1 = k := by omega
    rw [e8] at h8
    have hc : (0 ≤ (k : Int)) = True := eq_true (by omega)
    have hwk : IntKind.i64.wrap ((k : Int) - 1) = k - 1 := wrap_nat (by omega) (by omega)
    have hd := bv_drop R k
    have hdr := drop_get _ _ _ hx
    rw [hdr, bv] at hd
    have hw2 : IntKind.i64.wrap (2 * (bv (R.drop (k + 1)) : Int)) = 2 * bv (R.drop (k + 1)) := wrap_nat (by omega) (by omega)
    have hw3 : IntKind.i64.wrap (2 * (bv (R.drop (k + 1)) : Int) + 1) = 2 * bv (R.drop (k + 1)) + 1 := wrap_nat (by omega) (by omega)
    have hv : bv (R.drop k) = x.toNat + 2 * bv (R.drop (k + 1)) := by rw [hdr, bv]
    generalize bv (R.drop (k + 1)) = D at *
    cases x
    ·simp -dsimp only [↓bp, bq, br, seval, tbRefT, h8, h7, hc, hwk, hx, hw2]
     exact ⟨k, by omega, by omega, rfl, by rw [hv]; simp⟩
    ·simp -dsimp only [↓bp, bq, br, seval, tbRefT, h8, h7, hc, hwk, hx, hw2, hw3]
     exact ⟨k, by omega, by omega, rfl, by rw [hv]; simp; omega⟩
end
section
def limbsN : Nat → Nat → List UInt32
 | 0, _ => []
 | n + 1, v => UInt32.ofNat (v % 4294967296) :: limbsN n (v / 4294967296)
theorem limbsN_len : ∀ n v, (limbsN n v).length = n
 | 0, _ => rfl
 | n + 1, v => by rw [limbsN, List.length_cons, limbsN_len n]
theorem limbsN_val : ∀ n v, v < 4294967296 ^ n → val (limbsN n v) = v
 | 0, v, h => by simp at h; subst h; rfl
 | n + 1, v, h => by
  rw [limbsN, val, limbsN_val n (v / 4294967296) (by rw [Nat.pow_succ] at h; omega), UInt32.toNat_ofNat']
  omega
def limbsB (l : List Bool) : List UInt32 := limbsN ((l.length + 31) / 32) (bv l)
theorem pow32 (n : Nat) : 4294967296 ^ n = 2 ^ (32 * n) := by rw [Nat.pow_mul]
theorem limbsB_val (l : List Bool) : val (limbsB l) = bv l := by
 refine limbsN_val _ _ (Nat.lt_of_lt_of_le (bv_lt l) ?_)
 rw [pow32]
 exact Nat.pow_le_pow_right (by omega) (by omega)
theorem limbsB_len (l : List Bool) : (limbsB l).length = (l.length + 31) / 32 := limbsN_len _ _
theorem bv_append : ∀ (a b : List Bool), bv (a ++ b) = bv a + 2 ^ a.length * bv b
 | [], b => by simp [bv]
 | d :: a, b => by
  rw [List.cons_append, bv, bv, bv_append a b, List.length_cons, Nat.pow_succ, Nat.mul_add, Nat.mul_assoc, Nat.mul_left_comm]
  omega
theorem val_set : ∀ (l : List UInt32) (q : Nat) (x y : UInt32) (d : Nat), l[q]? = some x → y.toNat = x.toNat + d → val (l.set q y) = val l + 4294967296 ^ q * d
 | [], q, x, y, d, h, _ => by simp at h
 | a :: l, 0, x, y, d, h, hy => by
  simp at h; subst h
  simp only [List.set_cons_zero, val, hy, Nat.pow_zero, Nat.one_mul]; omega
 | a :: l, q + 1, x, y, d, h, hy => by
  rw [List.set_cons_succ, val, val, val_set l q x y d (by simpa using h) hy, Nat.pow_succ]
  rw [Nat.mul_add, Nat.mul_comm (4294967296 ^ q) 4294967296, Nat.mul_assoc]
  omega
theorem val_top : ∀ (l : List UInt32) (q : Nat) (x : UInt32), l[q]? = some x → 4294967296 ^ q * x.toNat ≤ val l
 | [], q, x, h => by simp at h
 | a :: l, 0, x, h => by simp at h; subst h; simp only [val, Nat.pow_zero, Nat.one_mul]; omega
 | a :: l, q + 1, x, h => by
  have := val_top l q x (by simpa using h)
  rw [val, Nat.pow_succ, Nat.mul_comm (4294967296 ^ q) 4294967296, Nat.mul_assoc]
  omega
theorem top_bit {L : List UInt32} {i : Nat} {x : UInt32} (hv : val L < 2 ^ i) (hx : L[i / 32]? = some x) : x.toNat < 2 ^ (i % 32) := by
 have h := val_top L (i / 32) x hx
 rw [pow32] at h
 have e : 2 ^ i = 2 ^ (32 * (i / 32)) * 2 ^ (i % 32) := by rw [← Nat.pow_add]; congr 1; omega
 rw [e] at hv
 exact Nat.lt_of_mul_lt_mul_left (Nat.lt_of_le_of_lt h hv)
theorem pow_split (i : Nat) : 4294967296 ^ (i / 32) * 2 ^ (i % 32) = 2 ^ i := by
 rw [pow32, ← Nat.pow_add]; congr 1; omega
theorem or_top {x r : Nat} (hr : r < 32) (hx : x < 2 ^ r) : IntKind.u32.wrap (((BitVec.ofInt IntKind.u32.bits (x : Int) ||| BitVec.ofInt IntKind.u32.bits (IntKind.u32.wrap (1 * 2 ^ min ((r : Int)).toNat IntKind.u32.bits))).toNat : Nat) : Int) = ((x + 2 ^ r : Nat) : Int) := by
 have hb : IntKind.u32.bits = 32 := rfl
 have h1 : min ((r : Int)).toNat IntKind.u32.bits = r := by rw [hb]; omega
 rw [h1]
 have h2 : (1 : Int) * 2 ^ r = ((2 ^ r : Nat) : Int) := by simp
 have h3 : 2 ^ r ≤ 2 ^ 31 := Nat.pow_le_pow_right (by omega) (by omega)
 have h4 : (2 : Nat) ^ 31 = 2147483648 := by decide
 have h5 : IntKind.u32.wrap ((2 ^ r : Nat) : Int) = ((2 ^ r : Nat) : Int) := u32_wrap (by omega) (by omega)
 rw [h2, h5, hb, BitVec.toNat_or, BitVec.toNat_ofInt, BitVec.toNat_ofInt]
 have e1 : ((x : Int) % ((2 ^ 32 : Nat) : Int)).toNat = x := by omega
 have e2 : (((2 ^ r : Nat) : Int) % ((2 ^ 32 : Nat) : Int)).toNat = 2 ^ r := by
  have : ((2 ^ 32 : Nat) : Int) = 4294967296 := by decide
  rw [this]
  generalize 2 ^ r = p at *
  omega
 rw [e1, e2]
 have e3 : x ||| 2 ^ r = x + 2 ^ r := by
  have := Nat.two_pow_add_eq_or_of_lt hx 1
  rw [Nat.mul_one] at this
  rw [Nat.or_comm, ← this, Nat.add_comm]
 rw [e3]
 exact u32_wrap (by omega) (by omega)
def bitsN (m : Nat) : List Bool := if h : m = 0 then [] else decide (m % 2 = 1) :: bitsN (m / 2)
termination_by m
decreasing_by omega
theorem bitsN_zero : bitsN 0 = [] := by rw [bitsN]; simp
theorem bitsN_step {m : Nat} (h : m ≠ 0) : bitsN m = decide (m % 2 = 1) :: bitsN (m / 2) := by rw [bitsN, dif_neg h]
theorem bitsN_bv (m : Nat) : bv (bitsN m) = m := by
 induction m using Nat.strongRecOn with
 | _ m ih =>
  by_cases h : m = 0
  ·subst h; rw [bitsN_zero]; rfl
  ·rw [bitsN_step h, bv, ih (m / 2) (by omega)]
   by_cases e : m % 2 = 1
   ·simp [e]; omega
   ·simp [e]; omega
theorem bitsN_len : ∀ (k m : Nat), m < 2 ^ k → (bitsN m).length ≤ k
 | 0, m, h => by
  have : m = 0 := by simp at h; omega
  subst this; rw [bitsN_zero]; simp
 | k + 1, m, h => by
  by_cases h0 : m = 0
  ·subst h0; rw [bitsN_zero]; simp
  ·rw [bitsN_step h0, List.length_cons]
   have := bitsN_len k (m / 2) (by rw [Nat.pow_succ] at h; omega)
   omega
theorem last_of {l : List UInt32} (h : l ≠ []) (hv : 4294967296 ^ (l.length - 1) ≤ val l) : lastOk l = true := by
 rcases List.eq_nil_or_concat l with e | ⟨q, x, e⟩
 ·exact absurd e h
 ·rw [List.concat_eq_append] at e
  subst e
  rw [val_append] at hv
  simp only [List.length_append, List.length_cons, List.length_nil, Nat.add_sub_cancel, Nat.zero_add, val, Nat.mul_zero, Nat.add_zero] at hv
  have hq := val_lt q
  have : x.toNat ≠ 0 := fun e => by rw [e] at hv; omega
  unfold lastOk
  simp
  simpa using this
theorem cut_top {l : List Bool} (h : cutB l ≠ []) : 2 ^ ((cutB l).length - 1) ≤ bv (cutB l) := by
 rcases cutN_top l l.length with h0 | h1
 ·exfalso; apply h; unfold cutB; rw [h0]; rfl
 ·have hlen : (cutB l).length = cutN l l.length := by unfold cutB; rw [List.length_take]; have := cutN_le l l.length; omega
  rw [← at_cut, rep_bv] at h1
  rw [hlen]
  exact Nat.ge_two_pow_of_testBit h1
theorem wr_made {l : List Bool} (hl : (cutB l).length ≤ 1024) {g : Bool} (hg : g = true → 0 < (cutB l).length) : wr (intT g (limbsB (cutB l))) = true := by
 have hlen := limbsB_len (cutB l)
 have hval := limbsB_val (cutB l)
 have key : (limbsB (cutB l)).length = 0 ∨ (0 < (limbsB (cutB l)).length ∧ lastOk (limbsB (cutB l)) = true) := by
  by_cases h0 : cutB l = []
  ·left; rw [hlen, h0]; rfl
  ·right
   have hp := List.length_pos_iff.2 h0
   have hk : 0 < (limbsB (cutB l)).length := by rw [hlen]; omega
   refine ⟨hk, last_of (List.length_pos_iff.1 hk) ?_⟩
   rw [hval, hlen, pow32]
   exact Nat.le_trans (Nat.pow_le_pow_right (by omega) (by omega)) (cut_top h0)
 unfold wr
 have k1 : (intT g (limbsB (cutB l))).knd = 1 := rfl
 have k2 : (intT g (limbsB (cutB l))).limbs = limbsB (cutB l) := rfl
 have k3 : (intT g (limbsB (cutB l))).neg = g := rfl
 have k4 : ((limbsB (cutB l)).length : Int) ≤ 32 := by omega
 have k5 : (intT g (limbsB (cutB l))).text = [] := rfl
 have k6 : (intT g (limbsB (cutB l))).num = 0 := rfl
 have k7 : (intT g (limbsB (cutB l))).items = [] := rfl
 have k8 : (intT g (limbsB (cutB l))).tail = [] := rfl
 rw [k1, k2, k3, k5, k6, k7, k8]
 rcases key with h | ⟨h1, h2⟩
 ·have : g = false := by
   cases g with
   | false => rfl
   | true => have := hg rfl; omega
  subst this
  simp [h]
 ·simp [k4, h1, h2]
end
end Go.Proofs.YtjmdaeabllkgnaaGreatDoor
