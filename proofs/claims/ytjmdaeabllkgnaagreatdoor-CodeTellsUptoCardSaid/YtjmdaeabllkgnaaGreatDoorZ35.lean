/- The reference's bits: at, cut, below. -/
import Derived.Test.YtjmdaeabllkgnaaGreatDoorZ13
import Derived.Test.YtjmdaeabllkgnaaGreatDoorZ14
import Derived.Test.YtjmdaeabllkgnaaGreatDoorZ15
import Derived.Test.YtjmdaeabllkgnaaGreatDoorZ22
set_option linter.unusedVariables false
set_option linter.unusedSimpArgs false
set_option maxRecDepth 20000
set_option linter.defProp false
namespace Go.Proofs.YtjmdaeabllkgnaaGreatDoor
open Go Go.Av
section
def tbRefA := And.intro (And.intro (And.intro (And.intro @tf3 (And.intro @tf4 @tf5)) (And.intro @tf169 (And.intro @tf171 @tf9))) (And.intro (And.intro @tf56 (And.intro @tf55 @tf24)) (And.intro (And.intro @tf58 @tf244) (And.intro @tf116 @Term.flat_enc)))) (And.intro (And.intro (And.intro @Term.isv_enc (And.intro @Term.fold_enc @isv_encs)) (And.intro @flat_encs (And.intro @len_encs @ix_encs))) (And.intro (And.intro @ix_encs' (And.intro @isv_lims @flat_lims)) (And.intro (And.intro @len_lims @ix_lims) (And.intro @ix_lims' @flat_limA))))
variable (G : Nat → AV)
def bools (l : List Bool) : AV := .sl .none (l.map AV.bool) []
instance {l : List Bool} : NotBs (bools l) := ⟨fun _ _ _ _ h => by unfold bools at h; cases h⟩
theorem isv_bools (l : List Bool) : isv (bools l) = true := rfl
theorem flat_bools (l : List Bool) : flat (bools l) = [bools l] := rfl
theorem len_bools {P : Program} {t : TypeId} (l : List Bool) : ablt P .len #[t] [bools l] = if (el P t).isSome then some (.int .i64 l.length) else none := by
 simp [bools, l_sl]
theorem tbBE : el Tryz.prog 244 = some 4 := tf244.2.2.2.1
theorem slim_none (g : Gh) (xs ys sp : List AV) : slim (.sl .none xs []) (.sl g ys sp) = .sl g ys [] := rfl
def atB (l : List Bool) (i : Nat) : Bool := l[i]?.getD false
theorem at_pure (l : List Bool) (i : Nat) (hl : l.length ≤ 1000000000) (hi : i ≤ 1000000000) : Pure Tryz.prog G 222 [bools l, .int .i64 i] (.bool (atB l i)) := by
 unfold bools atB
 intro σ
 by_cases h : (i : Int) < l.length
 ·obtain ⟨k, hk⟩ : ∃ k, l[i]? = some k := ⟨_, List.getElem?_eq_getElem (by omega)⟩
  have h1 := eq_true h
  clear h hl hi
  refine Tri.of_awp mixed Tryz.func222 rfl (by kernel_rfl) (by kernel_rfl) (by simp [Tryz.ntmps222]) Tryz.results222 ?_
  repeat' (first | refine xs ?_ ?_ <;> intros | (refine wn ?_; intro bx hbx; try simp only [fb] at hbx) | refine wj ?_ | simp -dsimp only [↓bp, bq, br, seval, tbRefA, Option.getD_some, *] | refine wz ?_ | fail)
  all_goals first | rfl | simp
 ·have hk : l[i]? = none := List.getElem?_eq_none (by omega)
  have h1 := eq_false h
  clear h hl hi
  refine Tri.of_awp mixed Tryz.func222 rfl (by kernel_rfl) (by kernel_rfl) (by simp [Tryz.ntmps222]) Tryz.results222 ?_
  repeat' (first | refine xs ?_ ?_ <;> intros | (refine wn ?_; intro bx hbx; try simp only [fb] at hbx) | refine wj ?_ | simp -dsimp only [↓bp, bq, br, seval, tbRefA, Option.getD_none, *] | refine wz ?_ | fail)
  all_goals rfl
def cutN (l : List Bool) : Nat → Nat
 | 0 => 0
 | n + 1 => if atB l n = false then cutN l n else n + 1
def cutB (l : List Bool) : List Bool := l.take (cutN l l.length)
theorem cutN_le (l : List Bool) : ∀ n, cutN l n ≤ n
 | 0 => Nat.le_refl _
 | n + 1 => by
  simp only [cutN]
  split
  ·have := cutN_le l n; omega
  ·omega
theorem cutN_off (l : List Bool) : ∀ n i, i < n → cutN l n ≤ i → atB l i = false
 | 0, i, h, _ => by omega
 | n + 1, i, h, h2 => by
  simp only [cutN] at h2
  split at h2
  ·rename_i h3
   by_cases e : i = n
   ·subst e; exact h3
   ·exact cutN_off l n i (by omega) h2
  ·omega
theorem at_cut (l : List Bool) (i : Nat) : atB (cutB l) i = atB l i := by
 unfold cutB
 by_cases h : i < cutN l l.length
 ·unfold atB; rw [List.getElem?_take, if_pos h]
 ·have e : atB (l.take (cutN l l.length)) i = false := by unfold atB; rw [List.getElem?_take, if_neg h]; rfl
  rw [e]
  by_cases h2 : i < l.length
  ·exact (cutN_off l _ i h2 (by omega)).symm
  ·unfold atB; rw [List.getElem?_eq_none (by omega)]; rfl
theorem cutB_len (l : List Bool) : (cutB l).length ≤ l.length := by unfold cutB; rw [List.length_take]; omega
theorem cut_pure (l : List Bool) (hl : l.length ≤ 1000000000) : Pure Tryz.prog G 211 [bools l] (bools (cutB l)) := by
 unfold bools
 refine Pure.of_le fun σ => ?_
 refine Tri.of_awp mixed Tryz.func211 rfl (by kernel_rfl) (by kernel_rfl) (by simp [Tryz.ntmps211]) Tryz.results211 ?_
 simp -dsimp only [↓bp, bq, br, seval, tbRefA]
 refine loop_keep mixed (fun n e => n ≤ l.length ∧ e 3 = .int .i64 (n : Int) ∧ cutN l n = cutN l l.length) l.length ⟨Nat.le_refl _, by simp -dsimp only [↓bp, bq, br, seval, tbRefA]; first | done | rfl, rfl⟩ ?_
 rintro n v ⟨hn, h3, hz⟩
 simp -dsimp only [↓bp, bq, br, seval, tbRefA] at h3
 simp -dsimp only [↓bp, bq, br, seval, tbRefA, h3]
 cases n with
 | zero =>
  have e0 : ((0 : Nat) : Int) = 0 := rfl
  have hN : cutN l l.length = 0 := by rw [← hz]; rfl
  simp -dsimp only [↓bp, bq, br, seval, tbRefA, h3, e0]
  try refine slW_bo ?_
  refine piece (l := 0) (h := 0) tbBE tf4.1 rfl (by simp [abnd]) (by omega) (by simp) (fun a ha => ?_) (fun g' => ?_)
  ·rw [List.append_nil] at ha
   obtain ⟨i, _, rfl⟩ := List.mem_map.1 ha
   rfl
  ·have ec : ((l.map AV.bool ++ []).take 0).drop 0 = (cutB l).map AV.bool := by unfold cutB; rw [hN]; simp
   simp only [ec, slim_none]
   simp -dsimp only [↓bp, bq, br, seval, tbRefA, h3, e0]
   exact finish_le Le.gh (AS.le.refl σ)
 | succ n =>
  obtain ⟨k, hk⟩ : ∃ k, l[n]? = some k := ⟨_, List.getElem?_eq_getElem (by omega)⟩
  have hw : IntKind.i64.wrap (((n + 1 : Nat) : Int) - 1) = (n : Int) := by rw [wrap_nat (by omega) (by omega)]; omega
  have hp : (0 < ((n + 1 : Nat) : Int)) = True := eq_true (by omega)
  have ha : atB l n = k := by unfold atB; rw [hk]; rfl
  cases k
  ·simp -dsimp only [↓bp, bq, br, seval, tbRefA, h3, hw, hp, hk]
   refine ⟨n, by omega, by omega, rfl, ?_⟩
   rw [← hz]; simp only [cutN]; rw [if_pos ha]
  ·have hN : cutN l l.length = n + 1 := by rw [← hz]; simp only [cutN]; rw [if_neg (by simp [ha])]
   simp -dsimp only [↓bp, bq, br, seval, tbRefA, h3, hw, hp, hk]
   try refine slW_bo ?_
   refine piece (l := 0) (h := n + 1) tbBE tf4.1 rfl (by simp [abnd]; omega) (by omega) (by simp; omega) (fun a ha => ?_) (fun g' => ?_)
   ·rw [List.append_nil] at ha
    obtain ⟨i, _, rfl⟩ := List.mem_map.1 ha
    rfl
   ·have ec : ((l.map AV.bool ++ []).take (n + 1)).drop 0 = (cutB l).map AV.bool := by unfold cutB; rw [hN]; simp
    simp only [ec, slim_none]
    simp -dsimp only [↓bp, bq, br, seval, tbRefA, h3]
    exact finish_le Le.gh (AS.le.refl σ)
def bel (x y : List Bool) : Nat → Bool
 | 0 => false
 | n + 1 => if atB x n = atB y n then bel x y n else atB y n
def below (x y : List Bool) : Bool := bel x y (max x.length y.length)
theorem below_pure (x y : List Bool) (hx : x.length ≤ 1000000000) (hy : y.length ≤ 1000000000) : Pure Tryz.prog G 212 [bools x, bools y] (.bool (below x y)) := by
 have hm : (if (y.length : Int) > x.length then (y.length : Int) else x.length) = ((max x.length y.length : Nat) : Int) := by split <;> omega
 obtain ⟨N, hN⟩ : ∃ N, N = max x.length y.length := ⟨_, rfl⟩
 have hw0 : IntKind.i64.wrap ((N : Int) - 1) = N - 1 := wrap_nat (by omega) (by omega)
 unfold below
 rw [← hN] at hm ⊢
 intro σ
 refine Tri.of_awp mixed Tryz.func212 rfl (by kernel_rfl) (by kernel_rfl) (by simp [Tryz.ntmps212]) Tryz.results212 ?_
 simp -dsimp only [↓bp, bq, br, seval, tbRefA, len_bools, hm, hw0]
 refine loop_keep mixed (fun n e => n ≤ N ∧ e 5 = .int .i64 ((n : Int) - 1) ∧ bel x y n = bel x y N) N ⟨Nat.le_refl _, by simp -dsimp only [↓bp, bq, br, seval, tbRefA]; first | done | rfl, rfl⟩ ?_
 rintro n v ⟨hn, h5, hz⟩
 simp -dsimp only [↓bp, bq, br, seval, tbRefA] at h5
 cases n with
 | zero =>
  have e0 : ((0 : Nat) : Int) - 1 = -1 := rfl
  simp -dsimp only [↓bp, bq, br, seval, tbRefA, h5, e0]
  refine finish_pure ?_ (AS.le.refl σ)
  rw [← hz]; rfl
 | succ n =>
  have e1 : ((n + 1 : Nat) : Int) - 1 = (n : Int) := by omega
  have hw : IntKind.i64.wrap ((n : Int) - 1) = (n : Int) - 1 := wrap_nat (by omega) (by omega)
  have a1 := at_pure G x n hx (by omega)
  have a2 := at_pure G y n hy (by omega)
  have hzz : bel x y N = if atB x n = atB y n then bel x y n else atB y n := hz.symm
  generalize atB x n = p at *
  generalize atB y n = q at *
  rw [e1] at h5
  by_cases hpq : p = q
  ·rw [if_pos hpq] at hzz
   subst hpq
   repeat' (first | refine xs ?_ ?_ <;> intros | (refine wn ?_; intro bx hbx; try simp only [fb] at hbx) | refine wp a1 ?_ | refine wp a2 ?_ | refine wj ?_ | simp -dsimp only [↓bp, bq, br, seval, tbRefA, h5, hw, isv_bools, flat_bools, *] | refine wz ?_ | fail)
   exact ⟨n, by omega, by omega, rfl, by rw [← hN]; exact hzz.symm⟩
  ·rw [if_neg hpq] at hzz
   rw [hzz]
   have hq : q = !p := by cases p <;> cases q <;> simp_all
   subst hq
   clear hpq hzz hz
   repeat' (first | refine xs ?_ ?_ <;> intros | (refine wn ?_; intro bx hbx; try simp only [fb] at hbx) | refine wp a1 ?_ | refine wp a2 ?_ | refine wj ?_ | simp -dsimp only [↓bp, bq, br, seval, tbRefA, h5, hw, isv_bools, flat_bools, *] | refine wz ?_ | fail)
   all_goals first | rfl | (exfalso; cases p <;> simp at *)
def bitL (x : UInt32) (k : Nat) : Bool := decide (((x.toNat >>> k) &&& 1 : Nat) = 1)
def bitsL : List UInt32 → List Bool
 | [] => []
 | x :: l => (List.range 32).map (bitL x) ++ bitsL l
theorem bitsL_len (l : List UInt32) : (bitsL l).length = 32 * l.length := by
 induction l with
 | nil => rfl
 | cons x l ih => simp only [bitsL, List.length_append, List.length_map, List.length_range, ih, List.length_cons]; omega
theorem bitsL_append (l r : List UInt32) : bitsL (l ++ r) = bitsL l ++ bitsL r := by
 induction l with
 | nil => rfl
 | cons x l ih => simp only [List.cons_append, bitsL, ih, List.append_assoc]
def bitsTo (l : List UInt32) (i k : Nat) : List Bool := bitsL (l.take i) ++ (List.range k).map fun j => match l[i]? with | some x => bitL x j | none => false
theorem bitsTo_zero (l : List UInt32) (i : Nat) : bitsTo l i 0 = bitsL (l.take i) := by simp [bitsTo]
theorem bitsTo_succ {l : List UInt32} {i k : Nat} {x : UInt32} (h : l[i]? = some x) : bitsTo l i (k + 1) = bitsTo l i k ++ [bitL x k] := by
 simp only [bitsTo, h, List.range_succ, List.map_append, List.map_cons, List.map_nil, List.append_assoc]
theorem bitsTo_full {l : List UInt32} {i : Nat} {x : UInt32} (h : l[i]? = some x) : bitsTo l i 32 = bitsTo l (i + 1) 0 := by
 rw [bitsTo_zero, take_succ_get _ _ _ h, bitsL_append]
 simp only [bitsTo, h, bitsL, List.append_nil]
theorem bitsTo_len (l : List UInt32) (i k : Nat) : (bitsTo l i k).length ≤ 32 * l.length + k := by
 simp only [bitsTo, List.length_append, bitsL_len, List.length_map, List.length_range, List.length_take]
 omega
theorem tbB : aelt Tryz.prog 244 = some (4, 1, 1) := tf244.2.2.2.2.2.2
theorem bit_eq (x : UInt32) (k : Nat) (hk : k < 32) : decide (IntKind.u32.wrap ↑(BitVec.ofInt IntKind.u32.bits ((x.toNat : Int).fdiv (2 ^ min k IntKind.u32.bits)) &&& BitVec.ofInt IntKind.u32.bits 1).toNat = 1) = bitL x k := by
 have hm : min k IntKind.u32.bits = k := by have : IntKind.u32.bits = 32 := rfl; omega
 have hxl := x.toNat_lt
 have hf : (x.toNat : Int).fdiv (2 ^ k) = ((x.toNat / 2 ^ k : Nat) : Int) := by
  rw [Int.fdiv_eq_ediv_of_nonneg _ (by exact_mod_cast Nat.zero_le (2 ^ k))]
  simp
 have hd : x.toNat / 2 ^ k < 4294967296 := Nat.lt_of_le_of_lt (Nat.div_le_self _ _) hxl
 rw [hm, hf]
 unfold bitL
 rw [Nat.shiftRight_eq_div_pow]
 have e : (BitVec.ofInt IntKind.u32.bits ((x.toNat / 2 ^ k : Nat) : Int) &&& BitVec.ofInt IntKind.u32.bits 1).toNat = (x.toNat / 2 ^ k) &&& 1 := by
  show (BitVec.ofInt 32 ((x.toNat / 2 ^ k : Nat) : Int) &&& BitVec.ofInt 32 1).toNat = _
  rw [BitVec.toNat_and, BitVec.ofInt_natCast, BitVec.toNat_ofNat]
  have e1 : (BitVec.ofInt 32 1).toNat = 1 := by decide
  rw [e1, Nat.mod_eq_of_lt hd]
 rw [e]
 have h1 : (x.toNat / 2 ^ k) &&& 1 < 2 := by rw [Nat.and_one_is_mod]; omega
 have e2 : IntKind.u32.wrap (((x.toNat / 2 ^ k) &&& 1 : Nat) : Int) = (((x.toNat / 2 ^ k) &&& 1 : Nat) : Int) := by
  have e : IntKind.u32.wrap (((x.toNat / 2 ^ k) &&& 1 : Nat) : Int) = (((x.toNat / 2 ^ k) &&& 1 : Nat) : Int) % 4294967296 := by first | rfl | simp [IntKind.wrap]
  rw [e]; omega
 rw [e2, Bool.eq_iff_iff, decide_eq_true_eq, decide_eq_true_eq]
 omega
set_option maxHeartbeats 2000000 in
theorem bits_pure (t : Term) (hb : t.limbs.length ≤ 10000000) : Pure Tryz.prog G 181 [t.enc] (bools (cutB (bitsL t.limbs))) := by
 obtain ⟨l, hl⟩ : ∃ l, l = t.limbs := ⟨_, rfl⟩
 refine Pure.of_le fun σ => ?_
 refine Tri.of_awp mixed Tryz.func181 rfl (by kernel_rfl) (by kernel_rfl) (by simp [Tryz.ntmps181]) Tryz.results181 ?_
 simp -dsimp only [↓bp, bq, br, seval, tbRefA]
 intro b hb1
 simp -dsimp only [↓bp, bq, br, seval, tbRefA]
 obtain ⟨σ1, hσ1⟩ : ∃ σ1, σ1 = σ.setBox b [.int .u8 t.knd, .bool t.neg, lims t.limbs, .str t.text, .int .i64 t.num, encs t.items, encs t.tail] := ⟨_, rfl⟩
 have hbx : σ1.box b = some [.int .u8 t.knd, .bool t.neg, lims t.limbs, .str t.text, .int .i64 t.num, encs t.items, encs t.tail] := by rw [hσ1]; simp [AS.setBox]
 have hle1 : σ.le σ1 := by rw [hσ1]; exact (AS.le.refl σ).setBox hb1.1 _
 rw [← hσ1]
 refine loop_intro (fun n e σ' => ∃ (i : Nat) (v : AV), i ≤ t.limbs.length ∧ n = t.limbs.length - i ∧ e 4 = .int .i64 i ∧ e 3 = v ∧ Buf 1 σ1 σ' v ((bitsTo t.limbs i 0).map AV.bool)) t.limbs.length
  ⟨0, .nil, by omega, by omega, by simp -dsimp only [↓bp, bq, br, seval, tbRefA]; first | done | rfl, by simp -dsimp only [↓bp, bq, br, seval, tbRefA]; first | done | rfl, by
    have e : bitsTo t.limbs 0 0 = [] := by simp [bitsTo, bitsL]
    rw [e]; exact .nil (AS.le.refl σ1)⟩ ?_
 rintro n e2 σ3 ⟨i, v3, hi2, rfl, h4, h3, hB3⟩
 have hbx3 := hB3.le.box _ _ hbx
 simp -dsimp only [↓bp, bq, br, seval, tbRefA] at h4 h3
 simp -dsimp only [↓bp, bq, br, seval, tbRefA, h4, h3, hbx3]
 refine condW_dec (fun hlt => ?_) (fun hge => ?_)
 ·obtain ⟨x, hx⟩ : ∃ x, t.limbs[i]? = some x := ⟨_, List.getElem?_eq_getElem (by omega)⟩
  simp -dsimp only [↓bp, bq, br, seval, tbRefA, h4, h3]
  refine loop_intro (fun n e σ' => ∃ (k : Nat) (v : AV), k ≤ 32 ∧ n = 32 - k ∧ e 5 = .int .i64 k ∧ e 3 = v ∧ Buf 1 σ1 σ' v ((bitsTo t.limbs i k).map AV.bool)) 32
   ⟨0, v3, by omega, by omega, by first | (simp -dsimp only [↓bp, bq, br, seval, tbRefA, h4, h3]; done) | (simp -dsimp only [↓bp, bq, br, seval, tbRefA, h4, h3]; try rfl), by first | (simp -dsimp only [↓bp, bq, br, seval, tbRefA, h4, h3]; done) | (simp -dsimp only [↓bp, bq, br, seval, tbRefA, h4, h3]; try rfl), hB3⟩ ?_
  rintro n3 e3 σ4 ⟨k, v4, hk2, rfl, h5, h3', hB4⟩
  have hbx4 := hB4.le.box _ _ hbx
  simp -dsimp only [↓bp, bq, br, seval, tbRefA] at h5 h3'
  simp -dsimp only [↓bp, bq, br, seval, tbRefA, h5, h3', h4]
  refine condW_dec (fun hlt2 => ?_) (fun hge2 => ?_)
  ·have hw64 : IntKind.u64.wrap (k : Int) = k := by
    have e : IntKind.u64.wrap (k : Int) = (k : Int) % 18446744073709551616 := by first | rfl | simp [IntKind.wrap]
    rw [e]; omega
   have hk0 : ((k : Int) < 0) = False := eq_false (by omega)
   simp -dsimp only [↓bp, bq, br, seval, tbRefA, h5, h3', h4, hbx4, hx, hw64, hk0, limA]
   have hbit := bit_eq x k (by omega)
   rw [hbit]
   refine build_one tbB rfl rfl (by omega) ?_
   simp -dsimp only [↓bp, bq, br, seval, tbRefA, h5, h3', h4]
   refine app_buf (ys := [.bool (bitL x k)]) hB4 tbB (asrc_sl tbBE) (fun a ha => by simp at ha; subst ha; rfl) (by have := bitsTo_len t.limbs i k; simp; omega) (fun v5 σ5 hB5 hx5 => ?_)
   simp -dsimp only [↓bp, bq, br, seval, tbRefA, h5, h3', h4]
   refine ⟨32 - (k + 1), by omega, k + 1, v5, by omega, rfl, ?_, rfl, ?_⟩
   ·rw [wrap_nat (by omega) (by omega)]; rfl
   ·rw [bitsTo_succ hx, List.map_append]; exact hB5
  ·have : k = 32 := by omega
   subst this
   simp -dsimp only [↓bp, bq, br, seval, tbRefA, h5, h3', h4]
   refine ⟨t.limbs.length - (i + 1), by omega, i + 1, v4, by omega, rfl, ?_, rfl, ?_⟩
   ·rw [wrap_nat (by omega) (by omega)]; rfl
   ·rw [← bitsTo_full hx]; exact hB4
 ·have : i = t.limbs.length := by omega
  subst this
  have hz : bitsTo t.limbs t.limbs.length 0 = bitsL t.limbs := by rw [bitsTo_zero, List.take_length]
  rw [hz] at hB3
  simp -dsimp only [↓bp, bq, br, seval, tbRefA, h4, h3]
  refine Pure.use ((cut_pure G (bitsL t.limbs) (by rw [bitsL_len]; omega)).lessArgs (.cons hB3.told .nil)) ?_
  simp -dsimp only [↓bp, bq, br, seval, tbRefA, h4, h3]
  exact finish_le (Le.refl _) (hle1.trans hB3.le)
end
set_option maxRecDepth 20000
section
theorem at_bitsL : ∀ (l : List UInt32) (i : Nat), atB (bitsL l) i = (val l).testBit i
 | [], i => by simp [atB, bitsL, val]
 | x :: l, i => by
  have hx := x.toNat_lt
  have e : val (x :: l) = x.toNat + 2 ^ 32 * val l := rfl
  rw [e]
  by_cases h : i < 32
  ·have e1 : atB (bitsL (x :: l)) i = bitL x i := by
    unfold atB
    simp only [bitsL]
    rw [List.getElem?_append_left (by simp; omega), List.getElem?_map, List.getElem?_range h]
    rfl
   rw [e1]
   have e2 : (x.toNat + 2 ^ 32 * val l).testBit i = x.toNat.testBit i := by
    rw [Nat.add_comm, Nat.testBit_two_pow_mul_add _ (by omega), if_pos h]
   rw [e2]
   unfold bitL
   rw [Nat.testBit, Bool.eq_iff_iff, decide_eq_true_eq, bne_iff_ne, ne_eq, Nat.and_comm]
   have : 1 &&& (x.toNat >>> i) < 2 := by rw [Nat.and_comm, Nat.and_one_is_mod]; omega
   omega
  ·have e1 : atB (bitsL (x :: l)) i = atB (bitsL l) (i - 32) := by
    unfold atB
    simp only [bitsL]
    rw [List.getElem?_append_right (by simp; omega)]
    simp
   rw [e1, at_bitsL l (i - 32), Nat.add_comm, Nat.testBit_two_pow_mul_add _ (by omega), if_neg h]
theorem bel_val {x y : List Bool} {a b : Nat} (hx : ∀ i, atB x i = a.testBit i) (hy : ∀ i, atB y i = b.testBit i) : ∀ n, bel x y n = decide (a % 2 ^ n < b % 2 ^ n)
 | 0 => by simp [bel, Nat.mod_one]
 | n + 1 => by
  simp only [bel]
  rw [hx, hy, bel_val hx hy n, Nat.pow_succ, Nat.mod_mul, Nat.mod_mul, Nat.testBit_eq_decide_div_mod_eq, Nat.testBit_eq_decide_div_mod_eq]
  have h1 : a % 2 ^ n < 2 ^ n := Nat.mod_lt _ (Nat.two_pow_pos n)
  have h2 : b % 2 ^ n < 2 ^ n := Nat.mod_lt _ (Nat.two_pow_pos n)
  generalize a % 2 ^ n = p at *
  generalize b % 2 ^ n = q at *
  generalize 2 ^ n = w at *
  have h3 := Nat.mod_two_eq_zero_or_one (a / w)
  have h4 := Nat.mod_two_eq_zero_or_one (b / w)
  generalize a / w % 2 = u at *
  generalize b / w % 2 = v at *
  rcases h3 with rfl | rfl <;> rcases h4 with rfl | rfl <;> simp <;> omega
theorem lt_bits {x : List Bool} {a : Nat} (hx : ∀ i, atB x i = a.testBit i) {n : Nat} (hn : x.length ≤ n) : a < 2 ^ n := by
 apply Nat.lt_pow_two_of_testBit
 intro i hi
 rw [← hx]
 unfold atB
 rw [List.getElem?_eq_none (by omega)]; rfl
theorem below_val {x y : List Bool} {a b : Nat} (hx : ∀ i, atB x i = a.testBit i) (hy : ∀ i, atB y i = b.testBit i) : below x y = decide (a < b) := by
 unfold below
 rw [bel_val hx hy, Nat.mod_eq_of_lt (lt_bits hx (by omega)), Nat.mod_eq_of_lt (lt_bits hy (by omega))]
end
section
def bv : List Bool → Nat
 | [] => 0
 | d :: l => d.toNat + 2 * bv l
theorem atB_cons (d : Bool) (l : List Bool) (i : Nat) : atB (d :: l) i = if i = 0 then d else atB l (i - 1) := by
 cases i <;> simp [atB]
theorem rep_bv : ∀ (l : List Bool) (i : Nat), atB l i = (bv l).testBit i
 | [], i => by simp [atB, bv]
 | d :: l, i => by
  rw [atB_cons, bv]
  cases i with
  | zero => cases d <;> simp [Nat.testBit_zero] <;> omega
  | succ i =>
   rw [if_neg (by omega), Nat.add_sub_cancel, rep_bv l i, Nat.testBit_succ]
   congr 1
   cases d <;> simp <;> omega
theorem bv_of {x : List Bool} {a : Nat} (h : ∀ i, atB x i = a.testBit i) : bv x = a :=
 Nat.eq_of_testBit_eq fun i => by rw [← rep_bv, h]
theorem bv_cut (l : List Bool) : bv (cutB l) = bv l := bv_of fun i => by rw [at_cut, rep_bv]
theorem bv_bits (l : List UInt32) : bv (bitsL l) = val l := bv_of (at_bitsL l)
theorem below_bv (x y : List Bool) : below x y = decide (bv x < bv y) := below_val (rep_bv x) (rep_bv y)
theorem cutN_top (l : List Bool) : ∀ n, cutN l n = 0 ∨ atB l (cutN l n - 1) = true
 | 0 => .inl rfl
 | n + 1 => by
  simp only [cutN]
  by_cases h : atB l n = false
  ·rw [if_pos h]; exact cutN_top l n
  ·rw [if_neg h]; right; simpa using h
theorem cut_ne {l : List Bool} (h : bv l = 0) : cutB l = [] := by
 have h1 := cutN_top l l.length
 have h2 : cutN l l.length = 0 := by
  rcases h1 with h1 | h1
  ·exact h1
  ·rw [rep_bv, h] at h1; simp at h1
 unfold cutB; rw [h2]; rfl
theorem cut_len (l : List Bool) : ((cutB l).length = 0) ↔ bv l = 0 := by
 constructor
 ·intro h
  have : cutB l = [] := List.eq_nil_of_length_eq_zero h
  rw [← bv_cut, this]; rfl
 ·intro h; rw [cut_ne h]; rfl
theorem bv_lt : ∀ l : List Bool, bv l < 2 ^ l.length
 | [] => by simp [bv]
 | d :: l => by
  have := bv_lt l
  rw [bv, List.length_cons, Nat.pow_succ]
  cases d <;> simp <;> omega
def less2 : List Bool → List Bool → Bool → List Bool
 | [], _, _ => []
 | x :: l, y, bo => ((x != y.headD false) != bo) :: less2 l y.tail (!x && (y.headD false || bo) || x && y.headD false && bo)
theorem less2_len : ∀ x y bo, (less2 x y bo).length = x.length
 | [], _, _ => rfl
 | x :: l, y, bo => by simp only [less2, List.length_cons]; rw [less2_len l]
theorem bv_head : ∀ y : List Bool, bv y = (y.headD false).toNat + 2 * bv y.tail
 | [] => by simp [bv]
 | d :: l => by simp [bv]
theorem less2_val : ∀ x y bo, bv y + bo.toNat ≤ bv x → bv (less2 x y bo) + bv y + bo.toNat = bv x
 | [], y, bo, h => by simp only [less2, bv] at *; omega
 | x :: l, y, bo, h => by
  have hy := bv_head y
  simp only [less2, bv] at *
  generalize y.headD false = u at *
  generalize y.tail = Y at *
  have ih := less2_val l Y (!x && (u || bo) || x && u && bo)
  cases x <;> cases u <;> cases bo <;> simp only [Bool.not_true, Bool.not_false, Bool.true_and, Bool.false_and, Bool.or_true, Bool.or_false, Bool.true_or, Bool.false_or, Bool.toNat_true, Bool.toNat_false, bne_self_eq_false, Bool.true_bne, Bool.false_bne, Bool.bne_true, Bool.bne_false, Bool.and_true, Bool.and_false] at * <;> omega
def lessB (a b : List Bool) : List Bool := cutB (less2 a b false)
theorem lessB_val {a b : List Bool} (h : bv b ≤ bv a) : bv (lessB a b) = bv a - bv b := by
 unfold lessB
 rw [bv_cut]
 have := less2_val a b false (by simpa using h)
 simp at this
 omega
theorem lessB_len (a b : List Bool) : (lessB a b).length ≤ a.length := by
 unfold lessB
 have := cutB_len (less2 a b false)
 rw [less2_len] at this
 exact this
def stepP (x : Bool) (r b : List Bool) : List Bool × Bool := if below (cutB (x :: r)) b = true then (cutB (x :: r), false) else (lessB (cutB (x :: r)) b, true)
def partsL : List Bool → List Bool → List Bool × List Bool
 | [], _ => ([], [])
 | x :: l, b => ((stepP x (partsL l b).2 b).2 :: (partsL l b).1, (stepP x (partsL l b).2 b).1)
theorem stepP_len (x : Bool) (r b : List Bool) : (stepP x r b).1.length ≤ r.length + 1 := by
 unfold stepP
 have h := cutB_len (x :: r)
 simp only [List.length_cons] at h
 split
 ·exact h
 ·have := lessB_len (cutB (x :: r)) b; simp only; omega
theorem partsL_len (b : List Bool) : ∀ a, (partsL a b).1.length = a.length ∧ (partsL a b).2.length ≤ a.length
 | [] => ⟨rfl, Nat.le_refl _⟩
 | x :: l => by
  have ih := partsL_len b l
  have := stepP_len x (partsL l b).2 b
  simp only [partsL, List.length_cons]
  omega
theorem partsL_val {b : List Bool} (hb : 0 < bv b) : ∀ a, bv (partsL a b).1 * bv b + bv (partsL a b).2 = bv a ∧ bv (partsL a b).2 < bv b
 | [] => by simp only [partsL, bv]; omega
 | x :: l => by
  obtain ⟨h1, h2⟩ := partsL_val hb l
  simp only [partsL]
  generalize hq : (partsL l b).1 = q at *
  generalize hr : (partsL l b).2 = r at *
  unfold stepP
  have e2 : bv (x :: r) = x.toNat + 2 * bv r := rfl
  rw [below_bv, bv_cut, e2]
  have e : bv (x :: l) = x.toNat + 2 * bv l := rfl
  rw [e, ← h1]
  by_cases hc : x.toNat + 2 * bv r < bv b
  ·rw [if_pos (decide_eq_true hc)]
   simp only [bv, bv_cut, Bool.toNat_false, Nat.zero_add]
   refine ⟨?_, hc⟩
   rw [Nat.mul_assoc]; omega
  ·rw [if_neg (by simpa using hc)]
   have hl : bv b ≤ bv (cutB (x :: r)) := by rw [bv_cut]; simp only [bv]; omega
   have hv := lessB_val hl
   rw [bv_cut] at hv
   simp only [bv] at hv
   simp only [bv, Bool.toNat_true]
   rw [hv]
   have hx : x.toNat ≤ 1 := by cases x <;> simp
   refine ⟨?_, by omega⟩
   rw [Nat.add_mul, Nat.one_mul, Nat.mul_assoc]
   omega
def tenB : List Bool := [false, true, false, true]
theorem ten_val : bv tenB = 10 := rfl
theorem parts_ten (l : List Bool) : bv (cutB (partsL l tenB).1) = bv l / 10 ∧ bv (partsL l tenB).2 = bv l % 10 := by
 have h := partsL_val (b := tenB) (by decide) l
 rw [ten_val] at h
 rw [bv_cut]
 omega
end
set_option maxRecDepth 20000
section
def tbRefO := And.intro (And.intro (And.intro (And.intro @tf3 (And.intro @tf4 @tf5)) (And.intro @tf169 (And.intro @tf171 @tf9))) (And.intro (And.intro @tf56 (And.intro @tf55 @tf24)) (And.intro @tf58 (And.intro @tf244 @tf116)))) (And.intro (And.intro (And.intro @Term.flat_enc (And.intro @Term.isv_enc @Term.fold_enc)) (And.intro @isv_encs (And.intro @flat_encs @len_encs))) (And.intro (And.intro @isv_lims (And.intro @flat_lims @len_lims)) (And.intro @isv_bools (And.intro @flat_bools @len_bools))))
variable (G : Nat → AV)
theorem ix_bools {P : Program} {t : TypeId} {k : IntKind} (l : List Bool) (i : Nat) : aindexA P t (bools l) (.int k (i : Int)) = ixk ((el P t).bind (tk P)) ((l[i]?).map AV.bool) := by
 simp [bools, aindexA_sl]
theorem headD_drop (y : List Bool) (i : Nat) : (y.drop i).headD false = atB y i := by
 unfold atB
 rw [List.headD_eq_head?_getD, List.head?_drop]
theorem tail_drop' (y : List Bool) (i : Nat) : (y.drop i).tail = y.drop (i + 1) := by rw [List.tail_drop]
set_option maxHeartbeats 2000000 in
theorem less_pure (a b : List Bool) (ha : a.length ≤ 1000000) (hb : b.length ≤ 1000000) : Pure Tryz.prog G 213 [bools a, bools b] (bools (lessB a b)) := by
 have hcut := (cut_pure G (less2 a b false) (by rw [less2_len]; omega))
 have hat : ∀ i : Nat, i ≤ 1000000 → Pure Tryz.prog G 222 [bools b, .int .i64 i] (.bool (atB b i)) := fun i hi => at_pure G b i (by omega) (by omega)
 refine Pure.of_le fun σ => ?_
 refine Tri.of_awp mixed Tryz.func213 rfl (by kernel_rfl) (by kernel_rfl) (by simp [Tryz.ntmps213]) Tryz.results213 ?_
 simp -dsimp only [↓bp, bq, br, seval, tbRefO, ix_bools]
 refine loop_intro (fun n e σ' => ∃ (i : Nat) (pre : List Bool) (v : AV) (bo : Bool), i ≤ a.length ∧ n = a.length - i ∧ e 7 = .int .i64 i ∧ e 5 = v ∧ e 6 = .bool bo ∧ Buf 1 σ σ' v (pre.map AV.bool) ∧ pre.length = i ∧ less2 a b false = pre ++ less2 (a.drop i) (b.drop i) bo) a.length
  ⟨0, [], .nil, false, by omega, by omega, by first | (simp -dsimp only [↓bp, bq, br, seval, tbRefO, ix_bools]; done) | (simp -dsimp only [↓bp, bq, br, seval, tbRefO, ix_bools]; try rfl), by first | (simp -dsimp only [↓bp, bq, br, seval, tbRefO, ix_bools]; done) | (simp -dsimp only [↓bp, bq, br, seval, tbRefO, ix_bools]; try rfl), by first | (simp -dsimp only [↓bp, bq, br, seval, tbRefO, ix_bools]; done) | (simp -dsimp only [↓bp, bq, br, seval, tbRefO, ix_bools]; try rfl), .nil (AS.le.refl σ), rfl, by simp⟩ ?_
 rintro n e1 σ2 ⟨i, pre, v, bo, hi, rfl, h7, h5, h6, hB, hpl, hz⟩
 simp -dsimp only [↓bp, bq, br, seval, tbRefO, ix_bools] at h7 h5 h6
 by_cases hlt : i < a.length
 ·obtain ⟨x, hx⟩ : ∃ x, a[i]? = some x := ⟨_, List.getElem?_eq_getElem hlt⟩
  have hp := hat i (by omega)
  have hw : IntKind.i64.wrap ((i : Int) + 1) = ((i + 1 : Nat) : Int) := by rw [wrap_nat (by omega) (by omega)]; rfl
  have hlt' : ((i : Int) < a.length) = True := eq_true (by omega)
  rw [drop_get _ _ _ hx, less2, headD_drop, tail_drop'] at hz
  have hpm : pre.length ≤ 1000000 := by omega
  generalize atB b i = u at *
  clear hat hcut
  have key : ∀ (z c : Bool), z = ((x != u) != bo) → c = (!x && (u || bo) || x && u && bo) → ∀ (v3 : AV) (σ3 : AS), Buf 1 σ σ3 v3 (pre.map AV.bool ++ [.bool z]) → ∃ m, m < a.length - i ∧ ∃ (i_1 : Nat) (pre : List Bool) (v : AV) (bo : Bool), i_1 ≤ a.length ∧ m = a.length - i_1 ∧ AV.int .i64 ((i + 1 : Nat) : Int) = AV.int .i64 (i_1 : Int) ∧ v3 = v ∧ AV.bool c = AV.bool bo ∧ Buf 1 σ σ3 v (pre.map AV.bool) ∧ pre.length = i_1 ∧ less2 a b false = pre ++ less2 (a.drop i_1) (b.drop i_1) bo := by
   rintro z c rfl rfl v3 σ3 hB3
   refine ⟨a.length - (i + 1), by omega, i + 1, pre ++ [(x != u) != bo], v3, _, by omega, rfl, rfl, rfl, rfl, by rw [List.map_append]; exact hB3, by simp [hpl], ?_⟩
   rw [hz]; simp
  clear hz
  cases x <;> cases u <;> cases bo
  all_goals
   repeat' (first | refine xs ?_ ?_ <;> intros | (refine wn ?_; intro bx hbx; try simp only [fb] at hbx) | refine wp hp ?_ | (refine build_one tbB rfl rfl (by omega) ?_) | (refine app_buf (ys := [.bool _]) hB tbB (asrc_sl tbBE) (fun a ha => by simp at ha; subst ha; rfl) (by simp; omega) (fun v3 σ3 hB4 hx4 => ?_)) | refine wj ?_ | simp -dsimp only [↓bp, bq, br, seval, tbRefO, ix_bools, *] | refine wz ?_ | fail)
   all_goals exact key _ _ rfl rfl _ _ hB4
 ·have : i = a.length := by omega
  subst this
  have hlt' : ((a.length : Int) < a.length) = False := eq_false (by omega)
  rw [List.drop_length, less2, List.append_nil] at hz
  rw [hz] at hcut
  have hc2 := hcut.lessArgs (args := [v]) (.cons hB.told .nil)
  have e : lessB a b = cutB pre := by unfold lessB; rw [hz]
  rw [e]
  have hle := hB.le
  clear hat hz hi hlt hcut
  repeat' (first | refine xs ?_ ?_ <;> intros | (refine wn ?_; intro bx hbx; try simp only [fb] at hbx) | refine wp hc2 ?_ | refine wj ?_ | simp -dsimp only [↓bp, bq, br, seval, tbRefO, ix_bools, *] | refine wz ?_ | fail)
  exact finish_le (Le.refl _) hle
end
set_option maxRecDepth 20000
section
def tbRefP := And.intro (And.intro (And.intro (And.intro @tf3 (And.intro @tf4 @tf5)) (And.intro @tf169 (And.intro @tf171 @tf9))) (And.intro (And.intro @tf56 (And.intro @tf55 @tf24)) (And.intro @tf58 (And.intro @tf244 @tf116)))) (And.intro (And.intro (And.intro @Term.flat_enc (And.intro @Term.isv_enc @Term.fold_enc)) (And.intro @isv_encs (And.intro @flat_encs @len_encs))) (And.intro (And.intro @isv_lims (And.intro @flat_lims @len_lims)) (And.intro (And.intro @isv_bools @flat_bools) (And.intro @len_bools @ix_bools))))
variable (G : Nat → AV)
theorem rep_bools (n : Nat) : (List.replicate n [AV.bool false]).flatten = (List.replicate n false).map AV.bool := by
 induction n with
 | zero => rfl
 | succ n ih => rw [List.replicate_succ, List.flatten_cons, ih, List.replicate_succ]; rfl
theorem tzB : (el Tryz.prog 244).bind (zc Tryz.prog) = some [.bool false] := by kernel_rfl
theorem items_bools (l : List Bool) : Items l.length 1 (l.map AV.bool) (l.map AV.bool) := by
 have := Items.ones (xs := l.map AV.bool) (fun a ha => by
  obtain ⟨x, _, rfl⟩ := List.mem_map.1 ha
  exact ⟨rfl, rfl⟩)
 rwa [List.length_map] at this
def qrow (a b : List Bool) (n : Nat) : List Bool := List.replicate n false ++ (partsL (a.drop n) b).1
theorem qrow_len (a b : List Bool) (n : Nat) (h : n ≤ a.length) : (qrow a b n).length = a.length := by
 unfold qrow
 rw [List.length_append, List.length_replicate, (partsL_len b _).1, List.length_drop]; omega
theorem qrow_step {a b : List Bool} {n : Nat} {x : Bool} (hx : a[n]? = some x) : qrow a b n = (qrow a b (n + 1)).set n (stepP x (partsL (a.drop (n + 1)) b).2 b).2 := by
 unfold qrow
 rw [drop_get _ _ _ hx, partsL]
 generalize (partsL (a.drop (n + 1)) b).1 = q
 generalize (stepP x (partsL (a.drop (n + 1)) b).2 b).2 = d
 refine List.ext_getElem? fun j => ?_
 rw [List.getElem?_set]
 by_cases h : n = j
 ·subst h
  rw [if_pos rfl, if_pos (by simp; omega), List.getElem?_append_right (by simp)]
  simp
 ·rw [if_neg h]
  by_cases h2 : j < n
  ·rw [List.getElem?_append_left (by simpa using h2), List.getElem?_append_left (by simp; omega), List.getElem?_replicate, List.getElem?_replicate, if_pos h2, if_pos (by omega)]
  ·rw [List.getElem?_append_right (by simp; omega), List.getElem?_append_right (by simp; omega)]
   simp only [List.length_replicate]
   rw [show j - n = (j - (n + 1)) + 1 by omega, List.getElem?_cons_succ]
theorem set_bools (l : List Bool) (i : Nat) (h : i < l.length) (d : Bool) : (l.map AV.bool).take i ++ [AV.bool d] ++ (l.map AV.bool).drop (i + 1) = (l.set i d).map AV.bool := by
 rw [List.set_eq_take_append_cons_drop, if_pos h]
 simp
theorem set_same {l : List Bool} {i : Nat} (h : l[i]? = some false) : l.set i false = l := by
 refine List.ext_getElem? fun j => ?_
 rw [List.getElem?_set]
 by_cases e : i = j
 ·subst e
  rw [if_pos rfl, if_pos (List.getElem?_eq_some_iff.1 h).1, h]
 ·rw [if_neg e]
set_option maxHeartbeats 4000000 in
theorem parts_pure (a b : List Bool) (ha : a.length ≤ 100000) (hb : b.length ≤ 100000) : Pure Tryz.prog G 182 [bools a, bools b] (.tup [bools (cutB (partsL a b).1), bools (partsL a b).2]) := by
 have hlen := fun n => partsL_len b (a.drop n)
 have hw0 : IntKind.i64.wrap ((a.length : Int) - 1) = a.length - 1 := wrap_nat (by omega) (by omega)
 refine Pure.of_le fun σ => ?_
 refine Tri.of_awp mixed Tryz.func182 rfl (by kernel_rfl) (by kernel_rfl) (by simp [Tryz.ntmps182]) Tryz.results182 ?_
 repeat' (first | refine xs ?_ ?_ <;> intros | (refine wn ?_; intro bx hbx; try simp only [fb] at hbx) | refine wj ?_ | simp -dsimp only [↓bp, bq, br, seval, tbRefP, hw0, *] | refine wz ?_ | fail)
 refine make_row a.length tbB tzB (by omega) (fun qb hq => ?_)
 have hσq : σ.le (σ.setBox qb (List.replicate a.length [AV.bool false]).flatten) := le_set hq (AS.le.refl σ)
 repeat' (first | refine xs ?_ ?_ <;> intros | (refine wn ?_; intro bx hbx; try simp only [fb] at hbx) | refine wj ?_ | simp -dsimp only [↓bp, bq, br, seval, tbRefP, hw0, *] | refine wz ?_ | fail)
 refine loop_intro (fun n e σ' => ∃ v7 : AV, n ≤ a.length ∧ e 8 = .int .i64 ((n : Int) - 1) ∧ e 7 = v7 ∧ asrc Tryz.prog 244 v7 = some ((partsL (a.drop n) b).2.map AV.bool) ∧ Le v7 (bools (partsL (a.drop n) b).2) ∧ σ.le σ' ∧ σ'.box qb = some ((qrow a b n).map AV.bool)) a.length
  ⟨.nil, Nat.le_refl _, by first | (simp -dsimp only [↓bp, bq, br, seval, tbRefP, hw0]; done) | (simp -dsimp only [↓bp, bq, br, seval, tbRefP, hw0]; try rfl), by first | (simp -dsimp only [↓bp, bq, br, seval, tbRefP]; done) | (simp -dsimp only [↓bp, bq, br, seval, tbRefP]; try rfl), by rw [List.drop_length]; unfold asrc; rw [tbBE]; rfl, by rw [List.drop_length]; exact Le.nil, hσq, by simp [AS.setBox, qrow, rep_bools, partsL]⟩ ?_
 rintro n e1 σ2 ⟨v7, hn, h8, h7, hs7, hl7, hle, hqb⟩
 clear hσq hw0
 simp -dsimp only [↓bp, bq, br, seval, tbRefP] at h8 h7
 cases n with
 | zero =>
  have hc : (0 ≤ ((0 : Nat) : Int) - 1) = False := eq_false (by omega)
  have hcut := cut_pure G (qrow a b 0) (by rw [qrow_len _ _ _ (by omega)]; omega)
  have hit := items_bools (qrow a b 0)
  rw [qrow_len _ _ _ (by omega)] at hit
  have hc2 : Pure Tryz.prog G 211 [.sl (.own qb) ((qrow a b 0).map AV.bool) []] (bools (cutB (qrow a b 0))) := hcut.lessArgs (.cons Le.gh .nil)
  have hq0 : qrow a b 0 = (partsL a b).1 := by simp [qrow]
  rw [List.drop_zero] at hl7
  have hfl : σ.le (σ2.froze qb a.length 1) := AS.froze_le hle hq.1 hq.2.1
  repeat' (first | refine xs ?_ ?_ <;> intros | (refine wn ?_; intro bx hbx; try simp only [fb] at hbx) | refine wj ?_ | simp -dsimp only [↓bp, bq, br, seval, tbRefP, *] | refine wz ?_ | fail)
  refine freeze_use hqb hit hc2 ?_
  rw [hq0]
  repeat' (first | refine xs ?_ ?_ <;> intros | (refine wn ?_; intro bx hbx; try simp only [fb] at hbx) | refine wj ?_ | simp -dsimp only [↓bp, bq, br, seval, tbRefP, *] | refine wz ?_ | fail)
  exact finishW_some σ hfl ⟨Le.tup (.cons (Le.refl _) (.cons hl7 .nil)), rfl⟩
 | succ n =>
  obtain ⟨x, hx⟩ : ∃ x, a[n]? = some x := ⟨_, List.getElem?_eq_getElem (by omega)⟩
  have hc : (0 ≤ (n : Int)) = True := eq_true (by omega)
  have e8 : ((n + 1 : Nat) : Int) - 1 = n := by omega
  rw [e8] at h8
  have hwk : IntKind.i64.wrap ((n : Int) - 1) = n - 1 := wrap_nat (by omega) (by omega)
  have hdr := drop_get _ _ _ hx
  have hqs := qrow_step (b := b) hx
  have h2 : (partsL (a.drop n) b).2 = (stepP x (partsL (a.drop (n + 1)) b).2 b).1 := by rw [hdr, partsL]
  have hrl : (partsL (a.drop (n + 1)) b).2.length ≤ 100000 := by
   have := (hlen (n + 1)).2
   rw [List.length_drop] at this
   omega
  have hq1 : (qrow a b (n + 1))[n]? = some false := by
   unfold qrow
   rw [List.getElem?_append_left (by simp), List.getElem?_replicate, if_pos (by omega)]
  have hql := qrow_len a b (n + 1) hn
  generalize (partsL (a.drop (n + 1)) b).2 = r at *
  have hcl := cutB_len (x :: r)
  simp only [List.length_cons] at hcl
  have hcut := cut_pure G (x :: r) (by simp only [List.length_cons]; omega)
  have hbel := below_pure G (cutB (x :: r)) b (by omega) (by omega)
  have hles := less_pure G (cutB (x :: r)) b (by omega) (by omega)
  clear hlen hdr hcl
  repeat' (first | refine xs ?_ ?_ <;> intros | (refine wn ?_; intro bx hbx; try simp only [fb] at hbx) | (refine app_any (ys := r.map AV.bool) (AS.le.refl _) (fun a ha => by simp at ha; subst ha; rfl) tbB hs7 (fun a ha => by obtain ⟨y, _, rfl⟩ := List.mem_map.1 ha; rfl) (by simp; omega) (fun v3 σ3 hle3 hbx3 hl3 ho3 => ?_)) | refine wj ?_ | simp -dsimp only [↓bp, bq, br, seval, tbRefP, *] | refine wz ?_ | fail)
  have hcu := hcut.lessArgs (args := [v3]) (.cons hl3 .nil)
  have hle4 := hle.trans hle3
  have hb3 : σ3.box qb = some ((qrow a b (n + 1)).map AV.bool) := by rw [hbx3]; exact hqb
  have has : ∀ l : List Bool, asrc Tryz.prog 244 (bools l) = some (l.map AV.bool) := fun l => by unfold asrc bools; rw [tbBE]; rfl
  clear hcut hl3 hbx3 hqb hle hle3 hs7 hl7 h7
  by_cases hbl : below (cutB (x :: r)) b = true
  ·rw [hbl] at hbel
   have hst : stepP x r b = (cutB (x :: r), false) := by unfold stepP; rw [if_pos hbl]
   rw [hst] at hqs h2
   rw [set_same hq1] at hqs
   clear hles hbl hst
   repeat' (first | refine xs ?_ ?_ <;> intros | (refine wn ?_; intro bx hbx; try simp only [fb] at hbx) | refine wp hcu ?_ | refine wp hbel ?_ | refine wj ?_ | simp -dsimp only [↓bp, bq, br, seval, tbRefP, hwk, *] | refine wz ?_ | fail)
   exact ⟨n, by omega, _, by omega, rfl, rfl, by rw [h2]; exact has _, by rw [h2]; exact Le.refl _, by rw [hqs]⟩
  ·have hbl' : below (cutB (x :: r)) b = false := by simpa using hbl
   rw [hbl'] at hbel
   have hst : stepP x r b = (lessB (cutB (x :: r)) b, true) := by unfold stepP; rw [if_neg hbl]
   rw [hst] at hqs h2
   have hsb := set_bools (qrow a b (n + 1)) n (by omega) true
   rw [← hqs] at hsb
   have hnl : (n : Int) < a.length := by omega
   have hnl2 : n + 1 ≤ ((qrow a b (n + 1)).map AV.bool).length := by rw [List.length_map]; omega
   have hle5 := le_set (cs := (qrow a b n).map AV.bool) hq hle4
   have hbq5 : (σ3.setBox qb ((qrow a b n).map AV.bool)).box qb = some ((qrow a b n).map AV.bool) := AS.set_get
   clear hbl hbl' hst
   repeat' (first | refine xs ?_ ?_ <;> intros | (refine wn ?_; intro bx hbx; try simp only [fb] at hbx) | refine wp hcu ?_ | refine wp hbel ?_ | refine wp hles ?_ | refine wj ?_ | simp -dsimp only [↓bp, bq, br, seval, tbRefP, hwk, *] | refine wz ?_ | fail)
   refine ⟨n, by omega, _, by omega, rfl, rfl, by rw [h2]; exact has _, by rw [h2]; exact Le.refl _, ?_⟩
   rw [Nat.mul_one, hsb]
   exact ⟨hle5, rfl⟩
end
end Go.Proofs.YtjmdaeabllkgnaaGreatDoor
