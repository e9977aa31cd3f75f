/- An amount parted by a limb. -/
import Derived.Test.YtpginpbcndlfmaaDoorZC
import Derived.Test.YtpginpbcndlfmaaDoorZB
set_option linter.unusedVariables false
set_option linter.unusedSimpArgs false
set_option maxRecDepth 20000
set_option linter.defProp false
namespace Go.Proofs.YtpginpbcndlfmaaDoor
open Go Go.Av
def tbShort := And.intro (And.intro (And.intro @tf3 (And.intro @tf4 @tf5)) (And.intro (And.intro @tf61 @tf97) (And.intro @tf95 @tf9))) (And.intro (And.intro @tf38 (And.intro @isv_lims @flat_lims)) (And.intro (And.intro @len_lims @ix_lims) (And.intro @ix_lims' @flat_limA)))
variable (G : Nat → AV)
theorem or_halves (H L : Nat) (hH : H < 4294967296) (hL : L < 4294967296) : (BitVec.ofInt IntKind.u64.bits ((H : Int) * 4294967296) ||| BitVec.ofInt IntKind.u64.bits (L : Int)).toNat = H * 4294967296 + L := by
  have hb : IntKind.u64.bits = 64 := rfl
  rw [hb, BitVec.toNat_or, BitVec.toNat_ofInt, BitVec.toNat_ofInt]
  have e1 : (((H : Int) * 4294967296) % ((2 ^ 64 : Nat) : Int)).toNat = H <<< 32 := by rw [Nat.shiftLeft_eq]; omega
  have e2 : ((L : Int) % ((2 ^ 64 : Nat) : Int)).toNat = L := by omega
  rw [e1, e2, ← Nat.shiftLeft_add_eq_or_of_lt (by omega), Nat.shiftLeft_eq]
theorem u64_wrap {x : Int} (h0 : 0 ≤ x) (h1 : x < 18446744073709551616) : IntKind.u64.wrap x = x := by
  rw [IntKind.wrap_u64]; omega
theorem u32_wrap {x : Int} (h0 : 0 ≤ x) (h1 : x < 4294967296) : IntKind.u32.wrap x = x := by
  rw [IntKind.wrap_u32]; omega
theorem div32_pure (H L Y : Nat) (hy : H < Y) (l1 : L < 4294967296) (y1 : Y < 4294967296) : Pure Tryd.prog G 66 [.int .u32 H, .int .u32 L, .int .u32 Y] (.tup [.int .u32 ((H * 4294967296 + L) / Y : Nat), .int .u32 ((H * 4294967296 + L) % Y : Nat)]) := by
  have c1 : ¬ (Y : Int) = 0 := by omega
  have c2 : ¬ (Y : Int) ≤ H := by omega
  have w1 : IntKind.u64.wrap (Y : Int) = Y := u64_wrap (by omega) (by omega)
  have w2 : IntKind.u64.wrap (H : Int) = H := u64_wrap (by omega) (by omega)
  have w3 : IntKind.u64.wrap (L : Int) = L := u64_wrap (by omega) (by omega)
  have w4 : IntKind.u64.wrap ((H : Int) * 2 ^ min 32 IntKind.u64.bits) = (H : Int) * 4294967296 := by
    have : ((2 : Int) ^ min 32 IntKind.u64.bits) = 4294967296 := by decide
    rw [this]; exact u64_wrap (by omega) (by omega)
  have w5 := or_halves H L (by omega) l1
  have w6 : IntKind.u64.wrap ((H * 4294967296 + L : Nat) : Int) = ((H * 4294967296 + L : Nat) : Int) := u64_wrap (by omega) (by omega)
  have hq : (H * 4294967296 + L) / Y < 4294967296 := by
    rw [Nat.div_lt_iff_lt_mul (by omega)]
    have : (H + 1) * 4294967296 ≤ Y * 4294967296 := Nat.mul_le_mul_right _ hy
    rw [Nat.mul_comm 4294967296 Y]; omega
  have hr : (H * 4294967296 + L) % Y < Y := Nat.mod_lt _ (by omega)
  have w7 : ((H * 4294967296 + L : Nat) : Int).tdiv (Y : Int) = (((H * 4294967296 + L) / Y : Nat) : Int) := rfl
  have w8 : ((H * 4294967296 + L : Nat) : Int).tmod (Y : Int) = (((H * 4294967296 + L) % Y : Nat) : Int) := rfl
  have w9 : IntKind.u64.wrap ((((H * 4294967296 + L) / Y : Nat)) : Int) = (((H * 4294967296 + L) / Y : Nat) : Int) := u64_wrap (Int.natCast_nonneg _) (by clear w1 w2 w3 w4 w5 w6 w7 w8; generalize (H * 4294967296 + L) / Y = q at *; omega)
  have wa : IntKind.u32.wrap ((((H * 4294967296 + L) / Y : Nat)) : Int) = (((H * 4294967296 + L) / Y : Nat) : Int) := u32_wrap (Int.natCast_nonneg _) (by clear w1 w2 w3 w4 w5 w6 w7 w8; generalize (H * 4294967296 + L) / Y = q at *; omega)
  have wb : IntKind.u32.wrap ((((H * 4294967296 + L) % Y : Nat)) : Int) = (((H * 4294967296 + L) % Y : Nat) : Int) := u32_wrap (Int.natCast_nonneg _) (by clear w1 w2 w3 w4 w5 w6 w7 w8; generalize (H * 4294967296 + L) % Y = q at *; omega)
  generalize H * 4294967296 + L = V at *
  generalize V / Y = q at *
  generalize V % Y = r at *
  clear hq hr hy l1 y1
  intro σ
  refine Tri.of_awp mixed Tryd.func66 rfl (by kernel_rfl) (by kernel_rfl) (by simp [Tryd.ntmps66]) Tryd.results66 ?_
  repeat' (first
    | with_reducible refine condW_both (fun _ _ => ?_) (fun _ _ => ?_)
    | with_reducible refine gW_both (fun _ _ => ?_) (fun _ _ => ?_)
    | with_reducible refine condW_split (fun _ => ?_) (fun _ => ?_)
    | with_reducible refine gW_split (fun _ => ?_) (fun _ => ?_)
    | with_reducible refine pickW_split (fun _ => ?_) (fun _ => ?_)
    | (refine newW_intro ?_; intro bx hbx; (try simp only [fresh_box, fresh_tip, fresh_ty] at hbx))
    | (refine newT_plain ?_; intro bx hbx; (try simp only [fresh_box, fresh_tip, fresh_ty] at hbx))
    | refine storeX_w ?_
    | ((with_reducible refine And.intro ?_ ?_); omega)
    | refine bo_buildSlice (d' := ⟨⟩) ?_
    | (refine draw_all (by kernel_rfl) ?_)
    | refine finish_pure ?_ (by repeat' (first | exact AS.le.refl _ | assumption | (refine le_set (by first | assumption | (simp only [*]; done) | exact AS.le.fresh (by assumption) (by simp only [*])) ?_) | (refine le_ty (by first | assumption | (simp only [*]; done) | exact AS.le.fresh (by assumption) (by simp only [*])) ?_)))
    | simp -dsimp only [↓bp, bq, br, afin, bsk, cWrites, opsWrites, pieceGh, rsk, ne_eq, if_true, if_false, exists_eq_left', forall_const, forall_eq, Nat.reduceLT, Int.reduceSub, Nat.reduceAdd, Nat.reduceSub, Nat.reduceMul, Nat.reduceLeDiff, Nat.reduceEqDiff, Nat.reduceBEq, Nat.reduceBNe, Int.reduceNeg, Int.reduceAdd, Int.reduceMul, Int.reduceLE, Int.reduceLT, Int.reduceEq, Int.reduceToNat, reduceIte, reduceCtorEq, tbShort, *])
  exact finishW_some σ (AS.le.refl _) ⟨rfl, rfl⟩
def val : List UInt32 → Nat
  | [] => 0
  | x :: l => x.toNat + 4294967296 * val l
theorem val_append (l r : List UInt32) : val (l ++ r) = val l + 4294967296 ^ l.length * val r := by
  induction l with
  | nil => simp [val]
  | cons x l ih => simp only [List.cons_append, val, ih, List.length_cons, Nat.pow_succ]; rw [Nat.mul_add, ← Nat.mul_assoc, Nat.mul_comm (4294967296 ^ l.length) 4294967296]; omega
/-- digits of a division by a limb, from the last place on -/
def divd : List UInt32 → Nat → List UInt32 × Nat
  | [], _ => ([], 0)
  | x :: l, by_ => let p := divd l by_; (UInt32.ofNat ((p.2 * 4294967296 + x.toNat) / by_) :: p.1, (p.2 * 4294967296 + x.toNat) % by_)
theorem divd_spec (by_ : Nat) (h0 : 0 < by_) (h1 : by_ < 4294967296) : ∀ l, (divd l by_).1.length = l.length ∧ (divd l by_).2 < by_ ∧ val l = val (divd l by_).1 * by_ + (divd l by_).2
  | [] => ⟨rfl, h0, by simp [divd, val]⟩
  | x :: l => by
    obtain ⟨a, b, c⟩ := divd_spec by_ h0 h1 l
    simp only [divd, List.length_cons, val, c]
    have hx := x.toNat_lt
    have hq : ((divd l by_).2 * 4294967296 + x.toNat) / by_ < 4294967296 := by
      rw [Nat.div_lt_iff_lt_mul h0]
      have : ((divd l by_).2 + 1) * 4294967296 ≤ by_ * 4294967296 := Nat.mul_le_mul_right _ b
      rw [Nat.mul_comm 4294967296 by_]; omega
    refine ⟨by rw [a], Nat.mod_lt _ h0, ?_⟩
    have e : (UInt32.ofNat (((divd l by_).2 * 4294967296 + x.toNat) / by_)).toNat = ((divd l by_).2 * 4294967296 + x.toNat) / by_ := by rw [UInt32.toNat_ofNat', Nat.mod_eq_of_lt hq]
    rw [e]
    have hd := Nat.div_add_mod ((divd l by_).2 * 4294967296 + x.toNat) by_
    generalize ((divd l by_).2 * 4294967296 + x.toNat) / by_ = A at *
    generalize ((divd l by_).2 * 4294967296 + x.toNat) % by_ = R at *
    rw [Nat.add_mul, Nat.mul_comm A by_, Nat.mul_assoc 4294967296 (val (divd l by_).1) by_]
    generalize val (divd l by_).1 * by_ = W at *
    generalize by_ * A = B at *
    omega
theorem set_at (k : Nat) (a : AV) (l : List AV) : (List.replicate (k + 1) (AV.int .u32 0) ++ l).take k ++ ([a] ++ (List.replicate (k + 1) (AV.int .u32 0) ++ l).drop (k + 1)) = List.replicate k (.int .u32 0) ++ (a :: l) := by
  rw [List.replicate_succ', List.append_assoc, List.take_append_of_le_length (by simp), List.take_of_length_le (by simp), List.drop_append]
  simp
theorem divq_lt (H L Y : Nat) (hy : H < Y) (l1 : L < 4294967296) : (H * 4294967296 + L) / Y < 4294967296 := by
  rw [Nat.div_lt_iff_lt_mul (by omega)]
  have : (H + 1) * 4294967296 ≤ Y * 4294967296 := Nat.mul_le_mul_right _ hy
  rw [Nat.mul_comm 4294967296 Y]; omega
theorem flat_lims1 (l : List UInt32) : (l.map limA).flatMap flat = l.map limA := by
  induction l with
  | nil => rfl
  | cons x l ih => rw [List.map_cons, List.flatMap_cons, ih]; rfl
theorem short_pure (l : List UInt32) (by_ : Nat) (h0 : 0 < by_) (h1 : by_ < 4294967296) (hl : l.length ≤ 1000000000) : Pure Tryd.prog G 57 [lims l, .int .u32 by_] (.tup [lims (divd l by_).1, .int .u32 ((divd l by_).2 : Nat)]) := by
  obtain ⟨s1, s2, s3⟩ := divd_spec by_ h0 h1 l
  have tz : zc Tryd.prog 61 = some [.int .u32 0] := tf61.2.2.2.2.1
  refine Pure.of_le fun σ => Tri.tupBs (n := l.length) (s := 1) (E := 61) (xs := (divd l by_).1.map limA) (fun a ha => by obtain ⟨x, _, rfl⟩ := List.mem_map.1 ha; exact ⟨rfl, rfl⟩) (by simp [s1]) ?_
  have hw0 : IntKind.i64.wrap ((l.length : Int) - 1) = l.length - 1 := wrap_nat (by omega) (by omega)
  refine Tri.of_awp mixed Tryd.func57 rfl (by kernel_rfl) (by kernel_rfl) (by simp [Tryd.ntmps57]) Tryd.results57 ?_
  repeat' (first
    | with_reducible refine condW_both (fun _ _ => ?_) (fun _ _ => ?_)
    | with_reducible refine gW_both (fun _ _ => ?_) (fun _ _ => ?_)
    | with_reducible refine condW_split (fun _ => ?_) (fun _ => ?_)
    | with_reducible refine gW_split (fun _ => ?_) (fun _ => ?_)
    | with_reducible refine pickW_split (fun _ => ?_) (fun _ => ?_)
    | (refine newW_intro ?_; intro bx hbx; (try simp only [fresh_box, fresh_tip, fresh_ty] at hbx))
    | (refine newT_plain ?_; intro bx hbx; (try simp only [fresh_box, fresh_tip, fresh_ty] at hbx))
    | ((refine .inr ?_; unfold amakeM; rw [tfL, tfLE, Option.bind_some, tz]; refine ⟨by omega, Int.le_refl _, by omega, fun b hb => ?_⟩))
    | refine storeX_w ?_
    | ((with_reducible refine And.intro ?_ ?_); omega)
    | refine bo_buildSlice (d' := ⟨⟩) ?_
    | (refine draw_all (by kernel_rfl) ?_)
    | refine finish_pure ?_ (by repeat' (first | exact AS.le.refl _ | assumption | (refine le_set (by first | assumption | (simp only [*]; done) | exact AS.le.fresh (by assumption) (by simp only [*])) ?_) | (refine le_ty (by first | assumption | (simp only [*]; done) | exact AS.le.fresh (by assumption) (by simp only [*])) ?_)))
    | simp -dsimp only [↓bp, bq, br, afin, bsk, cWrites, opsWrites, pieceGh, rsk, ne_eq, if_true, if_false, exists_eq_left', forall_const, forall_eq, Nat.reduceLT, Int.reduceSub, Nat.reduceAdd, Nat.reduceSub, Nat.reduceMul, Nat.reduceLeDiff, Nat.reduceEqDiff, Nat.reduceBEq, Nat.reduceBNe, Int.reduceNeg, Int.reduceAdd, Int.reduceMul, Int.reduceLE, Int.reduceLT, Int.reduceEq, Int.reduceToNat, reduceIte, reduceCtorEq, tbShort, *])
  refine loop_intro (fun k e σ' => k ≤ l.length ∧ e 8 = .int .i64 ((k : Int) - 1) ∧ e 7 = .int .u32 ((divd (l.drop k) by_).2 : Nat) ∧ σ.le σ' ∧ σ'.box b = some (List.replicate k (.int .u32 0) ++ (divd (l.drop k) by_).1.map limA)) l.length
    ⟨Nat.le_refl _, by first | (simp -dsimp only [↓bp, bq, br, afin, bsk, cWrites, opsWrites, pieceGh, rsk, ne_eq, if_true, if_false, exists_eq_left', forall_const, forall_eq, Nat.reduceLT, Int.reduceSub, Nat.reduceAdd, Nat.reduceSub, Nat.reduceMul, Nat.reduceLeDiff, Nat.reduceEqDiff, Nat.reduceBEq, Nat.reduceBNe, Int.reduceNeg, Int.reduceAdd, Int.reduceMul, Int.reduceLE, Int.reduceLT, Int.reduceEq, Int.reduceToNat, reduceIte, reduceCtorEq, tbShort]; done) | (simp -dsimp only [↓bp, bq, br, afin, bsk, cWrites, opsWrites, pieceGh, rsk, ne_eq, if_true, if_false, exists_eq_left', forall_const, forall_eq, Nat.reduceLT, Int.reduceSub, Nat.reduceAdd, Nat.reduceSub, Nat.reduceMul, Nat.reduceLeDiff, Nat.reduceEqDiff, Nat.reduceBEq, Nat.reduceBNe, Int.reduceNeg, Int.reduceAdd, Int.reduceMul, Int.reduceLE, Int.reduceLT, Int.reduceEq, Int.reduceToNat, reduceIte, reduceCtorEq, tbShort]; rfl), by rw [List.drop_length]; first | (simp -dsimp only [↓bp, bq, br, afin, bsk, cWrites, opsWrites, pieceGh, rsk, ne_eq, if_true, if_false, exists_eq_left', forall_const, forall_eq, Nat.reduceLT, Int.reduceSub, Nat.reduceAdd, Nat.reduceSub, Nat.reduceMul, Nat.reduceLeDiff, Nat.reduceEqDiff, Nat.reduceBEq, Nat.reduceBNe, Int.reduceNeg, Int.reduceAdd, Int.reduceMul, Int.reduceLE, Int.reduceLT, Int.reduceEq, Int.reduceToNat, reduceIte, reduceCtorEq, tbShort]; done) | (simp -dsimp only [↓bp, bq, br, afin, bsk, cWrites, opsWrites, pieceGh, rsk, ne_eq, if_true, if_false, exists_eq_left', forall_const, forall_eq, Nat.reduceLT, Int.reduceSub, Nat.reduceAdd, Nat.reduceSub, Nat.reduceMul, Nat.reduceLeDiff, Nat.reduceEqDiff, Nat.reduceBEq, Nat.reduceBNe, Int.reduceNeg, Int.reduceAdd, Int.reduceMul, Int.reduceLE, Int.reduceLT, Int.reduceEq, Int.reduceToNat, reduceIte, reduceCtorEq, tbShort]; rfl), (by repeat' (first | exact AS.le.refl _ | assumption | (refine le_set (by first | assumption | (simp only [*]; done) | exact AS.le.fresh (by assumption) (by simp only [*])) ?_))), by rw [List.drop_length]; simp [AS.setBox, divd]⟩ ?_
  rintro k v σ' ⟨hk, h8, h7, hle, hbx⟩
  simp -dsimp only [↓bp, bq, br, afin, bsk, cWrites, opsWrites, pieceGh, rsk, ne_eq, if_true, if_false, exists_eq_left', forall_const, forall_eq, Nat.reduceLT, Int.reduceSub, Nat.reduceAdd, Nat.reduceSub, Nat.reduceMul, Nat.reduceLeDiff, Nat.reduceEqDiff, Nat.reduceBEq, Nat.reduceBNe, Int.reduceNeg, Int.reduceAdd, Int.reduceMul, Int.reduceLE, Int.reduceLT, Int.reduceEq, Int.reduceToNat, reduceIte, reduceCtorEq, tbShort] at h8 h7
  cases k with
  | zero =>
    simp only [List.drop_zero, List.replicate_zero, List.nil_append] at h7 hbx
    simp at h8
    clear hk hw0
    repeat' (first
    | with_reducible refine condW_both (fun _ _ => ?_) (fun _ _ => ?_)
    | with_reducible refine gW_both (fun _ _ => ?_) (fun _ _ => ?_)
    | with_reducible refine condW_split (fun _ => ?_) (fun _ => ?_)
    | with_reducible refine gW_split (fun _ => ?_) (fun _ => ?_)
    | with_reducible refine pickW_split (fun _ => ?_) (fun _ => ?_)
    | (refine newW_intro ?_; intro bx hbx; (try simp only [fresh_box, fresh_tip, fresh_ty] at hbx))
    | (refine newT_plain ?_; intro bx hbx; (try simp only [fresh_box, fresh_tip, fresh_ty] at hbx))
    | refine storeX_w ?_
    | ((with_reducible refine And.intro ?_ ?_); omega)
    | refine bo_buildSlice (d' := ⟨⟩) ?_
    | (refine draw_all (by kernel_rfl) ?_)
    | refine finish_pure ?_ (by repeat' (first | exact AS.le.refl _ | assumption | (refine le_set (by first | assumption | (simp only [*]; done) | exact AS.le.fresh (by assumption) (by simp only [*])) ?_) | (refine le_ty (by first | assumption | (simp only [*]; done) | exact AS.le.fresh (by assumption) (by simp only [*])) ?_)))
    | simp -dsimp only [↓bp, bq, br, afin, bsk, cWrites, opsWrites, pieceGh, rsk, ne_eq, if_true, if_false, exists_eq_left', forall_const, forall_eq, Nat.reduceLT, Int.reduceSub, Nat.reduceAdd, Nat.reduceSub, Nat.reduceMul, Nat.reduceLeDiff, Nat.reduceEqDiff, Nat.reduceBEq, Nat.reduceBNe, Int.reduceNeg, Int.reduceAdd, Int.reduceMul, Int.reduceLE, Int.reduceLT, Int.reduceEq, Int.reduceToNat, reduceIte, reduceCtorEq, tbShort, *])
    exact finishW_some _ (AS.le.refl _) ⟨b, rfl, hle, hb.1, hb.2.1, by rw [hbx, flat_lims1]⟩
  | succ k =>
    have e8 : ((k + 1 : Nat) : Int) - 1 = k := by omega
    rw [e8] at h8
    obtain ⟨x, hx⟩ : ∃ x, l[k]? = some x := ⟨_, List.getElem?_eq_getElem (by omega)⟩
    have hd := drop_get _ _ _ hx
    have hkl : k < l.length := by omega
    obtain ⟨q1, q2, q3⟩ := divd_spec by_ h0 h1 (l.drop (k + 1))
    have hdv := div32_pure G (divd (l.drop (k + 1)) by_).2 x.toNat by_ q2 x.toNat_lt h1
    have hstep : divd (l.drop k) by_ = (UInt32.ofNat (((divd (l.drop (k + 1)) by_).2 * 4294967296 + x.toNat) / by_) :: (divd (l.drop (k + 1)) by_).1, ((divd (l.drop (k + 1)) by_).2 * 4294967296 + x.toNat) % by_) := by rw [hd]; rfl
    have hwk : IntKind.i64.wrap ((k : Int) - 1) = k - 1 := wrap_nat (by omega) (by omega)
    have hlt : (k : Int) < l.length := by omega
    have hlen : k < (List.replicate (k + 1) (AV.int .u32 0) ++ (divd (l.drop (k + 1)) by_).1.map limA).length := by simp; omega
    have hk0 : (0 : Int) ≤ k := by omega
    clear hk hw0 hd s1 s2 s3 q3
    have hql := divq_lt _ x.toNat _ q2 x.toNat_lt
    have hqa : limA (UInt32.ofNat (((divd (l.drop (k + 1)) by_).2 * 4294967296 + x.toNat) / by_)) = .int .u32 ((((divd (l.drop (k + 1)) by_).2 * 4294967296 + x.toNat) / by_ : Nat) : Int) := by
      unfold limA; rw [UInt32.toNat_ofNat', Nat.mod_eq_of_lt hql]
    have hbox : (divd (l.drop k) by_).1.map limA = .int .u32 ((((divd (l.drop (k + 1)) by_).2 * 4294967296 + x.toNat) / by_ : Nat) : Int) :: (divd (l.drop (k + 1)) by_).1.map limA := by rw [hstep, List.map_cons, hqa]
    have hst2 : (divd (l.drop k) by_).2 = ((divd (l.drop (k + 1)) by_).2 * 4294967296 + x.toNat) % by_ := by rw [hstep]
    clear hql hqa hstep
    repeat' (first
    | with_reducible refine condW_both (fun _ _ => ?_) (fun _ _ => ?_)
    | with_reducible refine gW_both (fun _ _ => ?_) (fun _ _ => ?_)
    | with_reducible refine condW_split (fun _ => ?_) (fun _ => ?_)
    | with_reducible refine gW_split (fun _ => ?_) (fun _ => ?_)
    | with_reducible refine pickW_split (fun _ => ?_) (fun _ => ?_)
    | (refine newW_intro ?_; intro bx hbx; (try simp only [fresh_box, fresh_tip, fresh_ty] at hbx))
    | (refine newT_plain ?_; intro bx hbx; (try simp only [fresh_box, fresh_tip, fresh_ty] at hbx))
    | refine Pure.use (hdv) ?_
    | refine Pure.head (hdv) ?_
    | refine storeX_w ?_
    | ((with_reducible refine And.intro ?_ ?_); omega)
    | refine bo_buildSlice (d' := ⟨⟩) ?_
    | (refine draw_all (by kernel_rfl) ?_)
    | refine finish_pure ?_ (by repeat' (first | exact AS.le.refl _ | assumption | (refine le_set (by first | assumption | (simp only [*]; done) | exact AS.le.fresh (by assumption) (by simp only [*])) ?_) | (refine le_ty (by first | assumption | (simp only [*]; done) | exact AS.le.fresh (by assumption) (by simp only [*])) ?_)))
    | simp -dsimp only [↓bp, bq, br, afin, bsk, cWrites, opsWrites, pieceGh, rsk, ne_eq, if_true, if_false, exists_eq_left', forall_const, forall_eq, Nat.reduceLT, Int.reduceSub, Nat.reduceAdd, Nat.reduceSub, Nat.reduceMul, Nat.reduceLeDiff, Nat.reduceEqDiff, Nat.reduceBEq, Nat.reduceBNe, Int.reduceNeg, Int.reduceAdd, Int.reduceMul, Int.reduceLE, Int.reduceLT, Int.reduceEq, Int.reduceToNat, reduceIte, reduceCtorEq, tbShort, limA, *])
    refine ⟨k, by omega, by omega, rfl, by rw [hst2], (by repeat' (first | exact AS.le.refl _ | assumption | (refine le_set (by first | assumption | (simp only [*]; done) | exact AS.le.fresh (by assumption) (by simp only [*])) ?_))), ?_⟩
    simp only [AS.setBox, if_true, Nat.mul_one]
    rw [hbox, List.append_assoc, set_at]
end Go.Proofs.YtpginpbcndlfmaaDoor
