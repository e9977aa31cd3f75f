/- The reference's integers: of a number, and a number's digits. -/
import Derived.Test.YtjmdaeabllkgnaaGreatDoorZ37
import Derived.Test.YtjmdaeabllkgnaaGreatDoorZ36
import Derived.Test.YtjmdaeabllkgnaaGreatDoorZ17
set_option linter.unusedVariables false
set_option linter.unusedSimpArgs false
set_option maxRecDepth 20000
set_option linter.defProp false
namespace Go.Proofs.YtjmdaeabllkgnaaGreatDoor
open Go Go.Av
section
def tbRefX := And.intro (And.intro (And.intro (And.intro @tf3 (And.intro @tf4 @tf5)) (And.intro @tf169 (And.intro @tf171 @tf2))) (And.intro (And.intro @tf9 (And.intro @tf56 @tf55)) (And.intro @tf24 (And.intro @tf58 @tf244)))) (And.intro (And.intro (And.intro @tf116 (And.intro @Term.flat_enc @Term.isv_enc)) (And.intro @Term.fold_enc (And.intro @isv_bools @flat_bools))) (And.intro (And.intro @len_bools (And.intro @ix_bools @isv_lims)) (And.intro (And.intro @flat_lims @len_lims) (And.intro @isv_encs @flat_encs))))
variable (G : Nat → AV)
theorem bit_of {m : Nat} (h : m < 18446744073709551616) : decide (IntKind.u64.wrap ↑(BitVec.ofInt IntKind.u64.bits (m : Int) &&& BitVec.ofInt IntKind.u64.bits 1).toNat = 1) = decide (m % 2 = 1) := by
 have e : (BitVec.ofInt IntKind.u64.bits (m : Int) &&& BitVec.ofInt IntKind.u64.bits 1).toNat = m &&& 1 := by
  show (BitVec.ofInt 64 (m : Int) &&& BitVec.ofInt 64 1).toNat = _
  rw [BitVec.toNat_and, BitVec.ofInt_natCast, BitVec.toNat_ofNat]
  have e1 : (BitVec.ofInt 64 1).toNat = 1 := by decide
  rw [e1, Nat.mod_eq_of_lt h]
 rw [e, Nat.and_one_is_mod, u64k (by omega), Bool.eq_iff_iff, decide_eq_true_eq, decide_eq_true_eq]
 omega
theorem shr_of (m : Nat) : (m : Int).fdiv (2 ^ min 1 IntKind.u64.bits) = ((m / 2 : Nat) : Int) := by
 have hm : min 1 IntKind.u64.bits = 1 := by have : IntKind.u64.bits = 64 := rfl; omega
 rw [hm, Int.fdiv_eq_ediv_of_nonneg _ (by decide)]
 simp
def ofT (n : Int) : Term := intT (decide (n < 0)) (limbsB (cutB (bitsN n.natAbs)))
theorem ofT_len {n : Int} (h0 : -9223372036854775808 ≤ n) (h1 : n ≤ 9223372036854775807) : (bitsN n.natAbs).length ≤ 64 := by
 refine bitsN_len 64 _ ?_
 have : (2 : Nat) ^ 64 = 18446744073709551616 := by decide
 omega
theorem ofT_neg {n : Int} : (decide (n < 0) && decide (0 < (cutB (bitsN n.natAbs)).length)) = decide (n < 0) := by
 by_cases h : n < 0
 ·have h2 : 0 < (cutB (bitsN n.natAbs)).length := by
   refine Nat.pos_of_ne_zero fun e => ?_
   have := (cut_len _).1 e
   rw [bitsN_bv] at this
   omega
  simp [h, h2]
 ·simp [h]
theorem ofT_wr {n : Int} (h0 : -9223372036854775808 ≤ n) (h1 : n ≤ 9223372036854775807) : wr (ofT n) = true := by
 refine wr_made (Nat.le_trans (cutB_len _) (Nat.le_trans (ofT_len h0 h1) (by omega))) fun h => ?_
 have := ofT_neg (n := n)
 rw [h, Bool.true_and] at this
 exact of_decide_eq_true this
theorem ofT_said (n : Int) : wsaid (ofT n) = itoa n := by
 have h1 : (ofT n).neg = decide (n < 0) := rfl
 have h2 : (ofT n).limbs = limbsB (cutB (bitsN n.natAbs)) := rfl
 unfold wsaid itoa
 rw [h1, h2, limbsB_val, bv_cut, bitsN_bv]
 by_cases h : n < 0 <;> simp [h]
theorem ofT_bulk {n : Int} (h0 : -9223372036854775808 ≤ n) (h1 : n ≤ 9223372036854775807) : (ofT n).bulk ≤ 1000000 := by
 have h := limbsB_len (cutB (bitsN n.natAbs))
 have h2 := cutB_len (bitsN n.natAbs)
 have h3 := ofT_len h0 h1
 have e : (ofT n).bulk = _ := (ofT n).bulk_eq
 have e1 : (ofT n).limbs = limbsB (cutB (bitsN n.natAbs)) := rfl
 have e2 : (ofT n).text = [] := rfl
 have e3 : (ofT n).items = [] := rfl
 have e4 : (ofT n).tail = [] := rfl
 rw [e, e1, e2, e3, e4]
 simp only [List.length_nil, bulks]
 omega
set_option maxHeartbeats 2000000 in
theorem rof_pure (n : Int) (h0 : -9223372036854775808 ≤ n) (h1 : n ≤ 9223372036854775807) : Pure Tryz.prog G 129 [.int .i64 n] (ofT n).enc := by
 have hlen := ofT_len h0 h1
 have hmade := rmade_pure G (bitsN n.natAbs) (by omega) (decide (n < 0)) (Nat.le_trans (cutB_len _) (by omega))
 rw [ofT_neg] at hmade
 have hmade : Pure Tryz.prog G 183 [bools (bitsN n.natAbs), .bool (decide (n < 0))] (.tup [(ofT n).enc, .bool true]) := hmade
 generalize hO : ofT n = O at *
 clear hO
 obtain ⟨N, hN⟩ : ∃ N, N = n.natAbs := ⟨_, rfl⟩
 rw [← hN] at hlen hmade
 have hN64 : N < 18446744073709551616 := by omega
 have hu : ∀ k : Int, IntKind.u64.wrap k = k % 18446744073709551616 := fun k => by first | rfl | simp [IntKind.wrap]
 refine Pure.of_le fun σ => ?_
 refine Tri.of_awp mixed Tryz.func129 rfl (by kernel_rfl) (by kernel_rfl) (by simp [Tryz.ntmps129]) Tryz.results129 ?_
 simp -dsimp only [↓bp, bq, br, seval, tbRefX]
 refine newT_plain fun b2 hb2 => ?_
 obtain ⟨S, hS⟩ : ∃ S, S = σ.setBox b2 [.int .u8 0, .bool false, .nil, .str [], .int .i64 0, .nil, .nil] := ⟨_, rfl⟩
 have hSb : S.box b2 = some [.int .u8 0, .bool false, .nil, .str [], .int .i64 0, .nil, .nil] := by rw [hS]; simp [AS.setBox]
 have hle : σ.le S := by rw [hS]; exact (AS.le.refl σ).setBox hb2.1 _
 rw [← hS]
 clear hS
 by_cases hn : n < 0
 ·have hw1 : IntKind.u64.wrap n = (((n + 18446744073709551616).toNat : Nat) : Int) := by rw [hu]; omega
  have hw2 : IntKind.u64.wrap (0 - (((n + 18446744073709551616).toNat : Nat) : Int)) = (N : Int) := by rw [hu]; omega
  have hn' := eq_true hn
  rw [decide_eq_true hn] at hmade
  clear hu hN h0 h1 hn
  repeat' (first | refine xs ?_ ?_ <;> intros | (refine wn ?_; intro bx hbx; try simp only [fb] at hbx) | refine wj ?_ | simp -dsimp only [↓bp, bq, br, seval, tbRefX, *] | refine wz ?_ | fail)
  refine loop_intro (fun k e σ' => ∃ (m : Nat) (B : List Bool) (v : AV), m = k ∧ m < 18446744073709551616 ∧ e 3 = .int .u64 m ∧ e 4 = v ∧ Buf 1 S σ' v (B.map AV.bool) ∧ B ++ bitsN m = bitsN N) N
   ⟨N, [], .nil, rfl, hN64, by first | (simp -dsimp only [↓bp, bq, br, seval, tbRefX]; done) | (simp -dsimp only [↓bp, bq, br, seval, tbRefX]; try rfl), by first | (simp -dsimp only [↓bp, bq, br, seval, tbRefX]; done) | (simp -dsimp only [↓bp, bq, br, seval, tbRefX]; try rfl), .nil (AS.le.refl S), rfl⟩ ?_
  clear hN64
  rintro k e σ2 ⟨m, B, v, rfl, hm, h3, h4, hB, hBB⟩
  simp -dsimp only [↓bp, bq, br, seval, tbRefX] at h3 h4
  have hSb2 := hB.le.box _ _ hSb
  have hBl : B.length ≤ 64 := by have := congrArg List.length hBB; rw [List.length_append] at this; omega
  by_cases hz : m = 0
  ·subst hz
   rw [bitsN_zero, List.append_nil] at hBB
   subst hBB
   have hp := hmade.lessArgs (.cons hB.told (.cons (Le.refl _) .nil))
   have hc0 := eq_false (show ¬ (0 : Int) < ((0 : Nat) : Int) by omega)
   have hle2 := hle.trans hB.le
   clear hmade hB hBl
   repeat' (first | refine xs ?_ ?_ <;> intros | ((first | refine xh ?_ | refine xi ?_); intro bx hbx; (try simp only [fb] at hbx); try (have nn := fresh_ne (c := bx) hSb2 (by simp only [hbx]))) | refine wp hp ?_ | refine wj ?_ | simp -dsimp only [↓bp, bq, br, seval, tbRefX, *] | refine wz ?_ | fail)
   all_goals exact finish_le (Le.refl _) ((hle2.setBox (hle2.fresh hbx).1 _).setBox hb2.1 _)
  ·have hc0 := eq_true (show (0 : Int) < (m : Int) by omega)
   have hbit := bit_of hm
   have hshr := shr_of m
   have hst := bitsN_step hz
   have hfin : (B ++ [decide (m % 2 = 1)]) ++ bitsN (m / 2) = bitsN N := by rw [← hBB, hst]; simp
   have hlt : m / 2 < m := by omega
   have hm2 : m / 2 < 18446744073709551616 := by omega
   generalize decide (m % 2 = 1) = d at *
   clear hmade hst hBB hz hm
   repeat' (first | refine xs ?_ ?_ <;> intros | (refine wn ?_; intro bx hbx; try simp only [fb] at hbx) | (refine build_one tbB (a := .bool d) rfl rfl (by omega) ?_) | (refine app_buf (ys := [.bool d]) hB tbB (asrc_sl tbBE) (fun a ha => by simp at ha; subst ha; rfl) (by simp; omega) (fun v5 σ5 hB5 hx5 => ?_)) | refine wj ?_ | simp -dsimp only [↓bp, bq, br, seval, tbRefX, *] | refine wz ?_ | fail)
   all_goals exact ⟨m / 2, hlt, m / 2, B ++ [d], v5, rfl, hm2, rfl, rfl, by rw [List.map_append]; exact hB5, hfin⟩
 ·have hw1 : IntKind.u64.wrap n = (N : Int) := by rw [hu]; omega
  have hn' := eq_false hn
  rw [decide_eq_false hn] at hmade
  clear hu hN h0 h1 hn
  repeat' (first | refine xs ?_ ?_ <;> intros | (refine wn ?_; intro bx hbx; try simp only [fb] at hbx) | refine wj ?_ | simp -dsimp only [↓bp, bq, br, seval, tbRefX, *] | refine wz ?_ | fail)
  refine loop_intro (fun k e σ' => ∃ (m : Nat) (B : List Bool) (v : AV), m = k ∧ m < 18446744073709551616 ∧ e 3 = .int .u64 m ∧ e 4 = v ∧ Buf 1 S σ' v (B.map AV.bool) ∧ B ++ bitsN m = bitsN N) N
   ⟨N, [], .nil, rfl, hN64, by first | (simp -dsimp only [↓bp, bq, br, seval, tbRefX]; done) | (simp -dsimp only [↓bp, bq, br, seval, tbRefX]; try rfl), by first | (simp -dsimp only [↓bp, bq, br, seval, tbRefX]; done) | (simp -dsimp only [↓bp, bq, br, seval, tbRefX]; try rfl), .nil (AS.le.refl S), rfl⟩ ?_
  clear hN64
  rintro k e σ2 ⟨m, B, v, rfl, hm, h3, h4, hB, hBB⟩
  simp -dsimp only [↓bp, bq, br, seval, tbRefX] at h3 h4
  have hSb2 := hB.le.box _ _ hSb
  have hBl : B.length ≤ 64 := by have := congrArg List.length hBB; rw [List.length_append] at this; omega
  by_cases hz : m = 0
  ·subst hz
   rw [bitsN_zero, List.append_nil] at hBB
   subst hBB
   have hp := hmade.lessArgs (.cons hB.told (.cons (Le.refl _) .nil))
   have hc0 := eq_false (show ¬ (0 : Int) < ((0 : Nat) : Int) by omega)
   have hle2 := hle.trans hB.le
   clear hmade hB hBl
   repeat' (first | refine xs ?_ ?_ <;> intros | ((first | refine xh ?_ | refine xi ?_); intro bx hbx; (try simp only [fb] at hbx); try (have nn := fresh_ne (c := bx) hSb2 (by simp only [hbx]))) | refine wp hp ?_ | refine wj ?_ | simp -dsimp only [↓bp, bq, br, seval, tbRefX, *] | refine wz ?_ | fail)
   all_goals exact finish_le (Le.refl _) ((hle2.setBox (hle2.fresh hbx).1 _).setBox hb2.1 _)
  ·have hc0 := eq_true (show (0 : Int) < (m : Int) by omega)
   have hbit := bit_of hm
   have hshr := shr_of m
   have hst := bitsN_step hz
   have hfin : (B ++ [decide (m % 2 = 1)]) ++ bitsN (m / 2) = bitsN N := by rw [← hBB, hst]; simp
   have hlt : m / 2 < m := by omega
   have hm2 : m / 2 < 18446744073709551616 := by omega
   generalize decide (m % 2 = 1) = d at *
   clear hmade hst hBB hz hm
   repeat' (first | refine xs ?_ ?_ <;> intros | (refine wn ?_; intro bx hbx; try simp only [fb] at hbx) | (refine build_one tbB (a := .bool d) rfl rfl (by omega) ?_) | (refine app_buf (ys := [.bool d]) hB tbB (asrc_sl tbBE) (fun a ha => by simp at ha; subst ha; rfl) (by simp; omega) (fun v5 σ5 hB5 hx5 => ?_)) | refine wj ?_ | simp -dsimp only [↓bp, bq, br, seval, tbRefX, *] | refine wz ?_ | fail)
   all_goals exact ⟨m / 2, hlt, m / 2, B ++ [d], v5, rfl, hm2, rfl, rfl, by rw [List.map_append]; exact hB5, hfin⟩
theorem rnum_pure (n : Int) (h0 : -9223372036854775808 ≤ n) (h1 : n ≤ 9223372036854775807) : Pure Tryz.prog G 185 [.int .i64 n] (.str (itoa n)) := by
 have hp := rof_pure G n h0 h1
 have hq := rwtext_pure G (ofT n) (ofT_bulk h0 h1)
 rw [ofT_wr h0 h1, if_pos rfl, ofT_said] at hq
 clear h0 h1
 intro σ
 refine Tri.of_awp mixed Tryz.func185 rfl (by kernel_rfl) (by kernel_rfl) (by simp [Tryz.ntmps185]) Tryz.results185 ?_
 repeat' (first | refine xs ?_ ?_ <;> intros | (refine wn ?_; intro bx hbx; try simp only [fb] at hbx) | refine wp hp ?_ | refine wp hq ?_ | refine wj ?_ | simp -dsimp only [↓bp, bq, br, seval, tbRefX, *] | refine wz ?_ | fail)
 all_goals rfl
end
set_option maxRecDepth 20000
section
def tbRefU := And.intro (And.intro (And.intro @tf3 @tf4) (And.intro @tf5 @tf9)) (And.intro (And.intro @tf54 @tf124) (And.intro @isv_byteA @flat_byteA))
variable (G : Nat → AV)
theorem rword_pure (s : List UInt8) : Pure Tryz.prog G 223 [.str s] (.bool (words.contains s)) := by
 intro σ
 have hwl : words.length = 19 := rfl
 have hW : AV.sl .full [.str [97, 102, 116, 101, 114], .str [97, 110, 100], .str [97, 110, 100, 97, 108, 115, 111], .str [98, 101, 103, 105, 110], .str [99, 97, 115, 101], .str [100, 105, 118], .str [101, 110, 100], .str [102, 117, 110], .str [105, 102], .str [110, 111, 116], .str [111, 102], .str [111, 114], .str [111, 114, 101, 108, 115, 101], .str [114, 101, 99, 101, 105, 118, 101], .str [114, 101, 109], .str [116, 114, 121], .str [99, 97, 116, 99, 104], .str [119, 104, 101, 110], .str [120, 111, 114]] [] = .sl .full (words.map AV.str) [] := rfl
 generalize words = W at *
 refine Tri.of_awp mixed Tryz.func223 rfl (by kernel_rfl) (by kernel_rfl) (by simp [Tryz.ntmps223]) Tryz.results223 ?_
 repeat' (first | refine xs ?_ ?_ <;> intros | (refine wn ?_; intro bx hbx; try simp only [fb] at hbx) | refine wj ?_ | simp -dsimp only [↓bp, bq, br, seval, tbRefU, *] | refine wz ?_ | fail)
 refine loop_keep mixed (fun n e => ∃ i : Nat, i ≤ (W).length ∧ n = (W).length - i ∧ e 4 = .int .i64 i ∧ (W.take i).contains s = false) (W).length
   ⟨0, by omega, by omega, by simp -dsimp only [↓bp, bq, br, seval, tbRefU]; first | done | rfl, by simp⟩ ?_
 rintro n v ⟨i, hi, rfl, h4, hct⟩
 simp -dsimp only [↓bp, bq, br, seval, tbRefU] at h4
 simp -dsimp only [↓bp, bq, br, seval, tbRefU, h4]
 refine condW_dec (fun hlt => ?_) (fun hge => ?_)
 ·obtain ⟨w, hx⟩ : ∃ w, W[i]? = some w := ⟨_, List.getElem?_eq_getElem (by omega)⟩
  have hwi : IntKind.i64.wrap ((i : Int) + 1) = ((i + 1 : Nat) : Int) := by rw [wrap_nat (by omega) (by omega)]; rfl
  have hil : i < W.length := (List.getElem?_eq_some_iff.1 hx).1
  have htk := take_succ_get _ _ _ hx
  clear hi hlt
  by_cases hws : w = s
  ·subst hws
   have hm : W.contains w = true := by simpa using List.mem_of_getElem? hx
   rw [hm]
   clear hct htk hm
   repeat' (first | refine xs ?_ ?_ <;> intros | (refine wn ?_; intro bx hbx; try simp only [fb] at hbx) | refine wj ?_ | simp -dsimp only [↓bp, bq, br, seval, tbRefU, *] | refine wz ?_ | fail)
   all_goals rfl
  ·have hnx : (W.take (i + 1)).contains s = false := by
    rw [htk, Bool.eq_false_iff]
    intro h
    rw [List.contains_iff_mem, List.mem_append] at h
    rcases h with h | h
    ·rw [← List.contains_iff_mem, hct] at h; cases h
    ·simp at h; exact hws h.symm
   clear hct htk
   repeat' (first | refine xs ?_ ?_ <;> intros | (refine wn ?_; intro bx hbx; try simp only [fb] at hbx) | refine wj ?_ | simp -dsimp only [↓bp, bq, br, seval, tbRefU, *] | refine wz ?_ | fail)
   all_goals exact ⟨W.length - (i + 1), by omega, i + 1, by omega, by omega, rfl, hnx⟩
 ·have : i = W.length := by omega
  subst this
  rw [List.take_length] at hct
  rw [hct]
  clear hi hge hct
  repeat' (first | refine xs ?_ ?_ <;> intros | (refine wn ?_; intro bx hbx; try simp only [fb] at hbx) | refine wj ?_ | simp -dsimp only [↓bp, bq, br, seval, tbRefU, *] | refine wz ?_ | fail)
  all_goals rfl
theorem plainA_form {s : List UInt8} {c : UInt8} (h0 : s[0]? = some c) : plainA s = (decide (97 ≤ c.toNat) && decide (c.toNat ≤ 122) && !words.contains s && s.all innerC) := by
 cases s with
 | nil => simp at h0
 | cons d l => simp at h0; subst h0; rfl
theorem inner_false {s : List UInt8} {i : Nat} {c : UInt8} (h : s[i]? = some c) (hc : innerC c = false) : s.all innerC = false := by
 rw [Bool.eq_false_iff]
 intro h2
 rw [List.all_eq_true] at h2
 have := h2 c (List.mem_of_getElem? h)
 rw [hc] at this; cases this
set_option maxHeartbeats 2000000 in
theorem rplain_pure (s : List UInt8) (hs : s.length ≤ 1000000000) : Pure Tryz.prog G 214 [.str s] (.bool (plainA s)) := by
 have hword := rword_pure G s
 intro σ
 refine Tri.of_awp mixed Tryz.func214 rfl (by kernel_rfl) (by kernel_rfl) (by simp [Tryz.ntmps214]) Tryz.results214 ?_
 repeat' (first | refine xs ?_ ?_ <;> intros | (refine wn ?_; intro bx hbx; try simp only [fb] at hbx) | refine wj ?_ | simp -dsimp only [↓bp, bq, br, seval, tbRefU, *] | refine wz ?_ | fail)
 refine loop_keep mixed (fun n e => ∃ i : Nat, i ≤ (s).length ∧ n = (s).length - i ∧ e 3 = .int .i64 i ∧ (0 < i → ∃ c, s[0]? = some c ∧ 97 ≤ c.toNat ∧ c.toNat ≤ 122) ∧ (s.take i).all innerC = true) (s).length
   ⟨0, by omega, by omega, by simp -dsimp only [↓bp, bq, br, seval, tbRefU]; first | done | rfl, ⟨fun h => absurd h (by omega), rfl⟩⟩ ?_
 rintro n v ⟨i, hi, rfl, h3, ⟨hf, hal⟩⟩
 simp -dsimp only [↓bp, bq, br, seval, tbRefU] at h3
 simp -dsimp only [↓bp, bq, br, seval, tbRefU, h3]
 refine condW_dec (fun hlt => ?_) (fun hge => ?_)
 ·obtain ⟨c, hx⟩ : ∃ c, s[i]? = some c := ⟨_, List.getElem?_eq_getElem (by omega)⟩
  have hwi : IntKind.i64.wrap ((i : Int) + 1) = ((i + 1 : Nat) : Int) := by rw [wrap_nat (by omega) (by omega)]; rfl
  have hil : i < s.length := (List.getElem?_eq_some_iff.1 hx).1
  have htk := take_succ_get _ _ _ hx
  have hnext : innerC c = true → (i = 0 → 97 ≤ c.toNat ∧ c.toNat ≤ 122) → ((0 < i + 1 → ∃ c, s[0]? = some c ∧ 97 ≤ c.toNat ∧ c.toNat ≤ 122) ∧ (s.take (i + 1)).all innerC = true) := fun hc h0 => by
   refine ⟨fun _ => ?_, by rw [htk, List.all_append, hal]; simp [hc]⟩
   by_cases e : i = 0
   ·subst e; exact ⟨c, hx, h0 rfl⟩
   ·exact hf (by omega)
  have hno1 : i = 0 → ¬ (97 ≤ c.toNat ∧ c.toNat ≤ 122) → plainA s = false := fun e h => by
   subst e
   rw [plainA_form hx]
   by_cases a : 97 ≤ c.toNat
   ·have : ¬ c.toNat ≤ 122 := fun b => h ⟨a, b⟩
    simp [this]
   ·simp [a]
  have hno2 : innerC c = false → plainA s = false := fun h => by
   have h1 := inner_false hx h
   obtain ⟨d, hd⟩ : ∃ d, s[0]? = some d := ⟨_, List.getElem?_eq_getElem (by omega)⟩
   rw [plainA_form hd, h1, Bool.and_false]
  clear hi hlt htk hf hal hs hword
  have hN : ∀ n : Nat, ((n : Int) ≤ c.toNat) = (n ≤ c.toNat) := fun n => by simp
  by_cases hlow : 97 ≤ c.toNat ∧ c.toNat ≤ 122
  ·have a1 := eq_true (show (97 : Int) ≤ c.toNat by omega)
   have a2 := eq_true (show (c.toNat : Int) ≤ 122 by omega)
   have hn := hnext (by unfold innerC; simp [hlow]) (fun _ => hlow)
   clear hnext hno1 hno2 hN
   repeat' (first | refine xs ?_ ?_ <;> intros | (refine wn ?_; intro bx hbx; try simp only [fb] at hbx) | refine wj ?_ | simp -dsimp only [↓bp, bq, br, seval, tbRefU, *] | refine wz ?_ | fail)
   all_goals exact ⟨s.length - (i + 1), by omega, i + 1, by omega, rfl, rfl, hn⟩
  ·by_cases e0 : i = 0
   ·have hp := hno1 e0 hlow
    rw [hp]
    clear hnext hno1 hno2 hN
    have b0 := eq_true (show (i : Int) = 0 by omega)
    by_cases a : 97 ≤ c.toNat
    ·have a1 := eq_true (show (97 : Int) ≤ c.toNat by omega)
     have a2 := eq_false (show ¬ (c.toNat : Int) ≤ 122 by omega)
     clear e0 hlow
     repeat' (first | refine xs ?_ ?_ <;> intros | (refine wn ?_; intro bx hbx; try simp only [fb] at hbx) | refine wj ?_ | simp -dsimp only [↓bp, bq, br, seval, tbRefU, *] | refine wz ?_ | fail)
     all_goals rfl
    ·have a1 := eq_false (show ¬ (97 : Int) ≤ c.toNat by omega)
     clear e0 hlow
     repeat' (first | refine xs ?_ ?_ <;> intros | (refine wn ?_; intro bx hbx; try simp only [fb] at hbx) | refine wj ?_ | simp -dsimp only [↓bp, bq, br, seval, tbRefU, *] | refine wz ?_ | fail)
     all_goals rfl
   ·have b0 := eq_false (show ¬ (i : Int) = 0 by omega)
    have hlo : (97 ≤ (c.toNat : Int)) = False ∨ ((97 ≤ (c.toNat : Int)) = True ∧ ((c.toNat : Int) ≤ 122) = False) := by
     by_cases a : 97 ≤ c.toNat
     ·exact .inr ⟨eq_true (by omega), eq_false (by omega)⟩
     ·exact .inl (eq_false (by omega))
    cases hin : innerC c with
    | true =>
     have hn := hnext hin (fun e => absurd e e0)
     clear hnext hno1 hno2 hN
     unfold innerC at hin
     simp only [Bool.or_eq_true, Bool.and_eq_true, decide_eq_true_eq] at hin
     rcases hlo with a1 | ⟨a1, a2⟩
     ·by_cases d1 : 65 ≤ c.toNat ∧ c.toNat ≤ 90
      ·have a3 := eq_true (show (65 : Int) ≤ c.toNat by omega)
       have a4 := eq_true (show (c.toNat : Int) ≤ 90 by omega)
       clear hin hlow
       repeat' (first | refine xs ?_ ?_ <;> intros | (refine wn ?_; intro bx hbx; try simp only [fb] at hbx) | refine wj ?_ | simp -dsimp only [↓bp, bq, br, seval, tbRefU, *] | refine wz ?_ | fail)
       all_goals exact ⟨s.length - (i + 1), by omega, i + 1, by omega, rfl, rfl, hn⟩
      ·by_cases d2 : 48 ≤ c.toNat ∧ c.toNat ≤ 57
       ·have a3 := eq_false (show ¬ (65 : Int) ≤ c.toNat by omega)
        have a4 := eq_true (show (48 : Int) ≤ c.toNat by omega)
        have a5 := eq_true (show (c.toNat : Int) ≤ 57 by omega)
        clear hin hlow
        repeat' (first | refine xs ?_ ?_ <;> intros | (refine wn ?_; intro bx hbx; try simp only [fb] at hbx) | refine wj ?_ | simp -dsimp only [↓bp, bq, br, seval, tbRefU, *] | refine wz ?_ | fail)
        all_goals exact ⟨s.length - (i + 1), by omega, i + 1, by omega, rfl, rfl, hn⟩
       ·have a1n : ¬ (97 : Int) ≤ c.toNat := of_eq_false a1
        have h3 : c.toNat = 95 ∨ c.toNat = 64 := by omega
        have a4 := eq_true (show (48 : Int) ≤ c.toNat by omega)
        have a5 := eq_false (show ¬ (c.toNat : Int) ≤ 57 by omega)
        rcases h3 with h3 | h3
        ·have a3 := eq_true (show (65 : Int) ≤ c.toNat by omega)
         have a6 := eq_false (show ¬ (c.toNat : Int) ≤ 90 by omega)
         have a7 := eq_true (show (c.toNat : Int) = 95 by omega)
         clear hin hlow d1 d2 h3
         repeat' (first | refine xs ?_ ?_ <;> intros | (refine wn ?_; intro bx hbx; try simp only [fb] at hbx) | refine wj ?_ | simp -dsimp only [↓bp, bq, br, seval, tbRefU, *] | refine wz ?_ | fail)
         all_goals exact ⟨s.length - (i + 1), by omega, i + 1, by omega, rfl, rfl, hn⟩
        ·have a3 := eq_false (show ¬ (65 : Int) ≤ c.toNat by omega)
         have a7 := eq_false (show ¬ (c.toNat : Int) = 95 by omega)
         have a8 := eq_true (show (c.toNat : Int) = 64 by omega)
         clear hin hlow d1 d2 h3
         repeat' (first | refine xs ?_ ?_ <;> intros | (refine wn ?_; intro bx hbx; try simp only [fb] at hbx) | refine wj ?_ | simp -dsimp only [↓bp, bq, br, seval, tbRefU, *] | refine wz ?_ | fail)
         all_goals exact ⟨s.length - (i + 1), by omega, i + 1, by omega, rfl, rfl, hn⟩
     ·exfalso
      have b1 : 97 ≤ (c.toNat : Int) := of_eq_true a1
      have b2 : ¬ (c.toNat : Int) ≤ 122 := of_eq_false a2
      omega
    | false =>
     have hp := hno2 hin
     rw [hp]
     clear hnext hno1 hno2 hN
     have hin : ¬ (innerC c = true) := by rw [hin]; simp
     unfold innerC at hin
     simp only [Bool.or_eq_true, Bool.and_eq_true, decide_eq_true_eq] at hin
     have a7 := eq_false (show ¬ (c.toNat : Int) = 95 by omega)
     have a8 := eq_false (show ¬ (c.toNat : Int) = 64 by omega)
     have h65 : ((65 ≤ (c.toNat : Int)) = False) ∨ ((65 ≤ (c.toNat : Int)) = True ∧ ((c.toNat : Int) ≤ 90) = False) := by
      by_cases a : 65 ≤ c.toNat
      ·exact .inr ⟨eq_true (by omega), eq_false (by omega)⟩
      ·exact .inl (eq_false (by omega))
     have h48 : ((48 ≤ (c.toNat : Int)) = False) ∨ ((48 ≤ (c.toNat : Int)) = True ∧ ((c.toNat : Int) ≤ 57) = False) := by
      by_cases a : 48 ≤ c.toNat
      ·exact .inr ⟨eq_true (by omega), eq_false (by omega)⟩
      ·exact .inl (eq_false (by omega))
     clear hin hlow
     rcases hlo with a1 | ⟨a1, a2⟩ <;> rcases h65 with a3 | ⟨a3, a4⟩ <;> rcases h48 with a5 | ⟨a5, a6⟩
     all_goals
      repeat' (first | refine xs ?_ ?_ <;> intros | (refine wn ?_; intro bx hbx; try simp only [fb] at hbx) | refine wj ?_ | simp -dsimp only [↓bp, bq, br, seval, tbRefU, *] | refine wz ?_ | fail)
      all_goals rfl
 ·have : i = s.length := by omega
  subst this
  rw [List.take_length] at hal
  clear hi hge
  by_cases hne : s = []
  ·subst hne
   have hp : plainA [] = false := rfl
   rw [hp]
   clear hal hf
   repeat' (first | refine xs ?_ ?_ <;> intros | (refine wn ?_; intro bx hbx; try simp only [fb] at hbx) | refine wj ?_ | simp -dsimp only [↓bp, bq, br, seval, tbRefU, *] | refine wz ?_ | fail)
   all_goals rfl
  ·obtain ⟨c, hx, h1, h2⟩ := hf (List.length_pos_iff.2 hne)
   have hp : plainA s = !words.contains s := by rw [plainA_form hx, hal]; simp [h1, h2]
   rw [hp]
   clear hal hf hp h1 h2 hx
   have hne := eq_false hne
   repeat' (first | refine xs ?_ ?_ <;> intros | (refine wn ?_; intro bx hbx; try simp only [fb] at hbx) | refine wp hword ?_ | refine wj ?_ | simp -dsimp only [↓bp, bq, br, seval, tbRefU, *] | refine wz ?_ | fail)
   all_goals rfl
end
set_option maxRecDepth 20000
section
def tbRefU2 := And.intro (And.intro (And.intro @tf3 @tf4) (And.intro @tf5 @tf9)) (And.intro (And.intro @tf54 @tf124) (And.intro @isv_byteA @flat_byteA))
variable (G : Nat → AV)
def OB (σ0 σ : AS) (v : AV) (s : List UInt8) : Prop := (v = .sl .full (bytesA s) [] ∧ σ0.le σ) ∨ (Buf 1 σ0 σ v (bytesA s) ∧ s ≠ [])
theorem flat1b {s : List UInt8} : ∀ a, a ∈ bytesA s → (flat a).length = 1 := fun a ha => by
 obtain ⟨c, _, rfl⟩ := List.mem_map.1 ha
 rfl
theorem obN : aelt Tryz.prog 54 = some (5, 1, 1) := tf54.2.2.2.2.2.2
theorem obE : el Tryz.prog 54 = some 5 := tf54.2.2.2.1
theorem app_ob {σ0 σ : AS} {v : AV} {s r : List UInt8} {K : AV → AS → Prop} {d : Dum σ} {d' : Dum K} (h : OB σ0 σ v s) (hr : r ≠ []) (hl : s.length + r.length ≤ 140737488355328) (hK : ∀ v' σ', OB σ0 σ' v' (s ++ r) → K v' σ') :
  appW Tryz.prog σ 54 54 v (.sl .full (bytesA r) []) K d d' := by
 have hne : bytesA r ≠ [] := by simpa [bytesA] using hr
 have hb : ((bytesA s).length + (bytesA r).length) * 1 ≤ 140737488355328 := by rw [bytesA_len, bytesA_len]; omega
 rcases h with ⟨rfl, hle⟩ | ⟨hB, _⟩
 ·exact app_full hle flat1b obN (asrc_sl obE) flat1b hb (fun e => absurd e hne) (fun v' σ' hB _ => hK v' σ' (.inr ⟨by rwa [app_bytes] at hB, by simp [hr]⟩))
 ·exact app_buf hB obN (asrc_sl obE) flat1b hb (fun v' σ' hB _ => hK v' σ' (.inr ⟨by rwa [app_bytes] at hB, by simp [hr]⟩))
theorem div16 (c : UInt8) : IntKind.u8.wrap ((c.toNat : Int).tdiv 16) = ((c.toNat / 16 : Nat) : Int) := by
 have h : (c.toNat : Int).tdiv 16 = ((c.toNat / 16 : Nat) : Int) := rfl
 have := c.toNat_lt
 rw [h, IntKind.wrap_u8]; omega
theorem mod16 (c : UInt8) : (c.toNat : Int).tmod 16 = ((c.toNat % 16 : Nat) : Int) := rfl
set_option maxHeartbeats 2000000 in
theorem ratom_pure (s : List UInt8) (hs : s.length ≤ 1000000000) : Pure Tryz.prog G 184 [.str s] (.str (atomT s)) := by
 have hp := rplain_pure G s hs
 unfold atomT
 refine Pure.of_le fun σ => ?_
 cases hpl : plainA s with
 | true =>
  rw [hpl] at hp
  simp only [if_true]
  refine Tri.of_awp mixed Tryz.func184 rfl (by kernel_rfl) (by kernel_rfl) (by simp [Tryz.ntmps184]) Tryz.results184 ?_
  repeat' (first | refine xs ?_ ?_ <;> intros | (refine wn ?_; intro bx hbx; try simp only [fb] at hbx) | refine wp hp ?_ | refine wj ?_ | simp -dsimp only [↓bp, bq, br, seval, tbRefU2, *] | refine wz ?_ | fail)
  all_goals exact finish_le (Le.refl _) (AS.le.refl σ)
 | false =>
  rw [hpl] at hp
  simp only [Bool.false_eq_true, if_false]
  refine Tri.of_awp mixed Tryz.func184 rfl (by kernel_rfl) (by kernel_rfl) (by simp [Tryz.ntmps184]) Tryz.results184 ?_
  repeat' (first | refine xs ?_ ?_ <;> intros | (refine wn ?_; intro bx hbx; try simp only [fb] at hbx) | refine wp hp ?_ | refine wj ?_ | simp -dsimp only [↓bp, bq, br, seval, tbRefU2, *] | refine wz ?_ | fail)
  refine loop_intro (fun n e σ' => ∃ (i : Nat) (v : AV), i ≤ s.length ∧ n = s.length - i ∧ e 4 = .int .i64 i ∧ e 3 = v ∧ OB σ σ' v (39 :: (s.take i).flatMap quoC)) s.length
   ⟨0, _, by omega, by omega, by first | (simp -dsimp only [↓bp, bq, br, seval, tbRefU2]; done) | (simp -dsimp only [↓bp, bq, br, seval, tbRefU2]; try rfl), by first | (simp -dsimp only [↓bp, bq, br, seval, tbRefU2]; done) | (simp -dsimp only [↓bp, bq, br, seval, tbRefU2]; try rfl), .inl ⟨rfl, AS.le.refl σ⟩⟩ ?_
  clear hp hpl
  rintro n e σ' ⟨i, v, hi, rfl, h4, h3, hB⟩
  simp -dsimp only [↓bp, bq, br, seval, tbRefU2] at h4 h3
  by_cases hlt : (i : Int) < s.length
  ·obtain ⟨c, hc⟩ : ∃ c, s[i]? = some c := ⟨_, List.getElem?_eq_getElem (by omega)⟩
   have hts : (s.take (i + 1)).flatMap quoC = (s.take i).flatMap quoC ++ quoC c := by rw [take_succ_get _ _ _ hc, List.flatMap_append]; simp
   have hq := quoCs_len (s.take i)
   have hti : (s.take i).length = i := by rw [List.length_take]; omega
   have hlen : (39 :: (s.take i).flatMap quoC).length ≤ 5000000000 := by simp only [List.length_cons]; omega
   have hw : IntKind.i64.wrap ((i : Int) + 1) = ((i + 1 : Nat) : Int) := by rw [wrap_nat (by omega) (by omega)]; rfl
   have hnext : ∀ v2 s2, OB σ s2 v2 (39 :: (s.take i).flatMap quoC ++ quoC c) → ∃ m, m < s.length - i ∧ ∃ i_1 v', i_1 ≤ s.length ∧ m = s.length - i_1 ∧ AV.int .i64 ((i + 1 : Nat) : Int) = .int .i64 i_1 ∧ v2 = v' ∧ OB σ s2 v' (39 :: (s.take i_1).flatMap quoC) := fun v2 s2 h2 =>
    ⟨s.length - (i + 1), by omega, i + 1, v2, by omega, rfl, rfl, rfl, by rw [hts]; simpa using h2⟩
   clear hts hq hti hi hs
   generalize 39 :: (s.take i).flatMap quoC = out at *
   by_cases k1 : c.toNat = 39 ∨ c.toNat = 92
   ·have hqc : quoC c = [92] ++ [c] := by unfold quoC; rw [if_pos k1]; rfl
    rw [hqc] at hnext
    have k1' : (c.toNat : Int) = 39 ∨ (c.toNat : Int) = 92 := by omega
    clear hqc k1
    rcases k1' with k1' | k1'
    ·have kk := eq_true k1'
     clear k1'
     repeat' (first | refine xs ?_ ?_ <;> intros | (refine wn ?_; intro bx hbx; try simp only [fb] at hbx) | (refine app_ob (r := [92, c]) hB (by simp) (by simp only [List.length_cons, List.length_nil]; omega) (fun v2 s2 hB2 => ?_)) | refine wj ?_ | simp -dsimp only [↓bp, bq, br, seval, tbRefU2, hw, *] | refine wz ?_ | fail)
     all_goals exact hnext _ _ (by simpa using hB2)
    ·have kk := eq_true k1'
     have kk2 := eq_false (show ¬ (c.toNat : Int) = 39 by omega)
     clear k1'
     repeat' (first | refine xs ?_ ?_ <;> intros | (refine wn ?_; intro bx hbx; try simp only [fb] at hbx) | (refine app_ob (r := [92, c]) hB (by simp) (by simp only [List.length_cons, List.length_nil]; omega) (fun v2 s2 hB2 => ?_)) | refine wj ?_ | simp -dsimp only [↓bp, bq, br, seval, tbRefU2, hw, *] | refine wz ?_ | fail)
     all_goals exact hnext _ _ (by simpa using hB2)
   ·have j1 := eq_false (show ¬ (c.toNat : Int) = 39 by omega)
    have j2 := eq_false (show ¬ (c.toNat : Int) = 92 by omega)
    by_cases k2 : c.toNat = 10
    ·have hqc : quoC c = [92, 110] := by unfold quoC; rw [if_neg k1, if_pos k2]
     rw [hqc] at hnext
     have j3 := eq_true (show (c.toNat : Int) = 10 by omega)
     clear hqc k1 k2
     repeat' (first | refine xs ?_ ?_ <;> intros | (refine wn ?_; intro bx hbx; try simp only [fb] at hbx) | (refine app_ob (r := [92, 110]) hB (by simp) (by simp only [List.length_cons, List.length_nil]; omega) (fun v2 s2 hB2 => ?_)) | refine wj ?_ | simp -dsimp only [↓bp, bq, br, seval, tbRefU2, hw, *] | refine wz ?_ | fail)
     all_goals exact hnext _ _ hB2
    ·have j3 := eq_false (show ¬ (c.toNat : Int) = 10 by omega)
     by_cases k3 : c.toNat < 32 ∨ 126 < c.toNat
     ·have hqc : quoC c = [92, 120, hexD (c.toNat / 16), hexD (c.toNat % 16)] := by unfold quoC; rw [if_neg k1, if_neg k2, if_pos k3]
      rw [hqc] at hnext
      have d16 := div16 c
      have m16 := mod16 c
      have x1 : ([48, 49, 50, 51, 52, 53, 54, 55, 56, 57, 97, 98, 99, 100, 101, 102] : List UInt8)[c.toNat / 16]? = some (hexD (c.toNat / 16)) := hex_at _ (by have := c.toNat_lt; omega)
      have x2 : ([48, 49, 50, 51, 52, 53, 54, 55, 56, 57, 97, 98, 99, 100, 101, 102] : List UInt8)[c.toNat % 16]? = some (hexD (c.toNat % 16)) := hex_at _ (by omega)
      clear hqc k1 k2
      have hk3 : ((c.toNat : Int) < 32) = True ∨ (((c.toNat : Int) < 32) = False ∧ ((126 : Int) < c.toNat) = True) := by
       by_cases a : c.toNat < 32
       ·exact .inl (eq_true (by omega))
       ·exact .inr ⟨eq_false (by omega), eq_true (by omega)⟩
      clear k3
      rcases hk3 with j4 | ⟨j4, j5⟩
      all_goals
       repeat' (first | refine xs ?_ ?_ <;> intros | (refine wn ?_; intro bx hbx; try simp only [fb] at hbx) | (refine app_ob (r := [92, 120, hexD (c.toNat / 16), hexD (c.toNat % 16)]) hB (by simp) (by simp only [List.length_cons, List.length_nil]; omega) (fun v2 s2 hB2 => ?_)) | refine wj ?_ | simp -dsimp only [↓bp, bq, br, seval, tbRefU2, hw, *] | refine wz ?_ | fail)
       all_goals exact hnext _ _ hB2
     ·have hqc : quoC c = [c] := by unfold quoC; rw [if_neg k1, if_neg k2, if_neg k3]
      rw [hqc] at hnext
      have j4 := eq_false (show ¬ (c.toNat : Int) < 32 by omega)
      have j5 := eq_false (show ¬ (126 : Int) < c.toNat by omega)
      clear hqc k1 k2 k3
      repeat' (first | refine xs ?_ ?_ <;> intros | (refine wn ?_; intro bx hbx; try simp only [fb] at hbx) | (refine app_ob (r := [c]) hB (by simp) (by simp only [List.length_cons, List.length_nil]; omega) (fun v2 s2 hB2 => ?_)) | refine wj ?_ | simp -dsimp only [↓bp, bq, br, seval, tbRefU2, hw, *] | refine wz ?_ | fail)
      all_goals exact hnext _ _ hB2
  ·have : i = s.length := by omega
   subst this
   have hq := quoCs_len s
   rw [List.take_length] at hB
   have hirr := eq_false (Int.lt_irrefl (s.length : Int))
   clear hlt hi
   have hfin : ∀ v' σ2, OB σ σ2 v' (39 :: s.flatMap quoC ++ [39]) → ∃ g, v' = .sl g (bytesA (quoted s)) [] ∧ σ.le σ2 := fun v' σ2 h => by
    have e : 39 :: s.flatMap quoC ++ [39] = quoted s := rfl
    rw [e] at h
    rcases h with ⟨h1, h2⟩ | ⟨h1, h2⟩
    ·exact ⟨_, h1, h2⟩
    ·rcases h1.isNil with ⟨h3, _⟩ | ⟨b, h3⟩
     ·exact absurd h3 (by simpa [bytesA] using h2)
     ·exact ⟨_, h3, h1.le⟩
   have hby := bytesOf_bytesA (quoted s)
   repeat' (first | refine xs ?_ ?_ <;> intros | (refine wn ?_; intro bx hbx; try simp only [fb] at hbx) | ((refine app_ob (r := [39]) hB (by simp) (by simp only [List.length_cons, List.length_nil]; omega) (fun v2 s2 hB2 => ?_); obtain ⟨g, rfl, hle2⟩ := hfin v2 s2 hB2)) | refine wj ?_ | simp -dsimp only [↓bp, bq, br, seval, tbRefU2, *] | refine wz ?_ | fail)
   all_goals exact finish_le (Le.refl _) hle2
end
end Go.Proofs.YtjmdaeabllkgnaaGreatDoor
