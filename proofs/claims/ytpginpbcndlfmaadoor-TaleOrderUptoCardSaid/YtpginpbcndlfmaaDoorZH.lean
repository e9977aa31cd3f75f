/- The integer of limbs. -/
import Derived.Test.YtpginpbcndlfmaaDoorZSaid
import Derived.Test.YtpginpbcndlfmaaDoorZTermLent
import Derived.Test.YtpginpbcndlfmaaDoorZRev
import Derived.Test.YtpginpbcndlfmaaDoorZSize
set_option linter.unusedVariables false
set_option linter.unusedSimpArgs false
set_option maxRecDepth 20000
set_option linter.defProp false
namespace Go.Proofs.YtpginpbcndlfmaaDoor
open Go Go.Av
def tbMade := And.intro (And.intro (And.intro (And.intro @tf3 (And.intro @tf4 @tf5)) (And.intro @tf61 (And.intro @tf97 @tf95))) (And.intro (And.intro @tf9 (And.intro @tf38 @tf37)) (And.intro @tf22 (And.intro @tf40 @Term.flat_enc)))) (And.intro (And.intro (And.intro @Term.isv_enc (And.intro @Term.fold_enc @isv_lims)) (And.intro @flat_lims (And.intro @len_lims @ix_lims))) (And.intro (And.intro @ix_lims' (And.intro @flat_limA @ares_cons2)) (And.intro @ares1_tmp (And.intro @ares1_cell @aresk_some))))
variable (G : Nat → AV)
/-- without noughts at the end -/
def strip : List UInt32 → List UInt32
  | [] => []
  | x :: l => if strip l = [] ∧ x = 0 then [] else x :: strip l
theorem strip_val : ∀ l, val (strip l) = val l
  | [] => rfl
  | x :: l => by
    have ih := strip_val l
    simp only [strip]
    split
    · rename_i h
      obtain ⟨h1, rfl⟩ := h
      rw [h1] at ih
      simp only [val] at ih ⊢
      rw [← ih]; rfl
    · simp only [val, ih]
theorem strip_zero : ∀ l, strip (l ++ [0]) = strip l
  | [] => by simp [strip]
  | x :: l => by simp only [List.cons_append, strip, strip_zero l]
theorem strip_keep : ∀ (l : List UInt32) (x : UInt32), x ≠ 0 → strip (l ++ [x]) = l ++ [x]
  | [], x, h => by simp [strip, h]
  | y :: l, x, h => by simp only [List.cons_append, strip, strip_keep l x h]; simp
theorem strip_len : ∀ l, (strip l).length ≤ l.length
  | [] => by simp [strip]
  | x :: l => by
    have := strip_len l
    simp only [strip]
    split <;> simp <;> omega
theorem strip_last : ∀ l, strip l = [] ∨ ∃ m x, strip l = m ++ [x] ∧ x ≠ 0
  | [] => .inl rfl
  | x :: l => by
    simp only [strip]
    rcases strip_last l with h | ⟨m, y, h, hy⟩
    · by_cases hx : x = 0
      · rw [if_pos ⟨h, hx⟩]; exact .inl rfl
      · rw [if_neg (fun c => hx c.2), h]; exact .inr ⟨[], x, rfl, hx⟩
    · rw [if_neg (fun c => by rw [h] at c; simp at c), h]; exact .inr ⟨x :: m, y, rfl, hy⟩
def intT (neg : Bool) (m : List UInt32) : Term := .mk 1 neg m [] 0 [] []
def madeR (l : List UInt32) (neg : Bool) : AV := if (strip l).length ≤ 32 then .tup [(intT (neg && decide (0 < ((strip l).length : Int))) (strip l)).enc, .bool true] else .tup [zeroT.enc, .bool false]
theorem intT_le (g : Bool) (m : List UInt32) : Le (.agg [.int .u8 1, .bool g, lims m, .str [], .int .i64 0, .nil, .nil]) (intT g m).enc := by
  rw [← Term.fold_enc (intT g m)]
  refine Le.agg ?_ (fun d hd => ones (intT g m) d (by rw [Term.flat_enc]; exact hd))
  exact .cons (Le.refl _) (.cons (Le.refl _) (.cons (Le.refl _) (.cons (Le.refl _) (.cons (Le.refl _) (.cons Le.nil (.cons Le.nil .nil))))))
theorem made_pure (l : List UInt32) (neg : Bool) (hl : l.length ≤ 1000000000) : Pure Tryd.prog G 58 [lims l, .bool neg] (madeR l neg) := by
  refine Pure.of_le fun σ => ?_
  have hc : ∀ m : List UInt32, m.length ≤ 1000000000 → Pure Tryd.prog G 67 [lims m] (lims m) := fun m hm => Pure.of_le (clone_tri G m hm)
  refine Tri.of_awp mixed Tryd.func58 rfl (by kernel_rfl) (by kernel_rfl) (by simp [Tryd.ntmps58]) Tryd.results58 ?_
  repeat' (first
    | with_reducible refine condW_both (fun _ _ => ?_) (fun _ _ => ?_)
    | with_reducible refine gW_both (fun _ _ => ?_) (fun _ _ => ?_)
    | with_reducible refine condW_split (fun _ => ?_) (fun _ => ?_)
    | with_reducible refine gW_split (fun _ => ?_) (fun _ => ?_)
    | with_reducible refine pickW_split (fun _ => ?_) (fun _ => ?_)
    | (refine newW_intro ?_; intro bx hbx; (try simp only [fresh_box, fresh_tip, fresh_ty] at hbx))
    | (refine newT_plain ?_; intro bx hbx; (try simp only [fresh_box, fresh_tip, fresh_ty] at hbx))
    | refine storeX_w ?_
    | ((with_reducible refine And.intro ?_ ?_); omega)
    | refine bo_buildSlice (d' := ⟨⟩) ?_
    | (refine draw_all (by kernel_rfl) ?_)
    | refine finish_pure ?_ (by repeat' (first | exact AS.le.refl _ | assumption | (refine le_set (by first | assumption | (simp only [*]; done) | exact AS.le.fresh (by assumption) (by simp only [*])) ?_) | (refine le_ty (by first | assumption | (simp only [*]; done) | exact AS.le.fresh (by assumption) (by simp only [*])) ?_)))
    | simp -dsimp only [↓bp, bq, br, afin, bsk, cWrites, opsWrites, pieceGh, rsk, ne_eq, if_true, if_false, exists_eq_left', forall_const, forall_eq, Nat.reduceLT, Int.reduceSub, Nat.reduceAdd, Nat.reduceSub, Nat.reduceMul, Nat.reduceLeDiff, Nat.reduceEqDiff, Nat.reduceBEq, Nat.reduceBNe, Int.reduceNeg, Int.reduceAdd, Int.reduceMul, Int.reduceLE, Int.reduceLT, Int.reduceEq, Int.reduceToNat, reduceIte, reduceCtorEq, tbMade, *])
  refine loop_intro (fun n e σ' => ∃ m : List UInt32, n = m.length ∧ m.length ≤ l.length ∧ strip m = strip l ∧ e 0 = lims m ∧ σ' = σ.setBox bx [.int .u8 0, .bool false, .nil, .str [], .int .i64 0, .nil, .nil]) l.length ⟨l, rfl, Nat.le_refl _, rfl, by first | (simp -dsimp only [↓bp, bq, br, afin, bsk, cWrites, opsWrites, pieceGh, rsk, ne_eq, if_true, if_false, exists_eq_left', forall_const, forall_eq, Nat.reduceLT, Int.reduceSub, Nat.reduceAdd, Nat.reduceSub, Nat.reduceMul, Nat.reduceLeDiff, Nat.reduceEqDiff, Nat.reduceBEq, Nat.reduceBNe, Int.reduceNeg, Int.reduceAdd, Int.reduceMul, Int.reduceLE, Int.reduceLT, Int.reduceEq, Int.reduceToNat, reduceIte, reduceCtorEq, tbMade]; done) | (simp -dsimp only [↓bp, bq, br, afin, bsk, cWrites, opsWrites, pieceGh, rsk, ne_eq, if_true, if_false, exists_eq_left', forall_const, forall_eq, Nat.reduceLT, Int.reduceSub, Nat.reduceAdd, Nat.reduceSub, Nat.reduceMul, Nat.reduceLeDiff, Nat.reduceEqDiff, Nat.reduceBEq, Nat.reduceBNe, Int.reduceNeg, Int.reduceAdd, Int.reduceMul, Int.reduceLE, Int.reduceLT, Int.reduceEq, Int.reduceToNat, reduceIte, reduceCtorEq, tbMade]; rfl), rfl⟩ ?_
  rintro n v σ' ⟨m, rfl, hml, hst, h0, rfl⟩
  simp -dsimp only [↓bp, bq, br, afin, bsk, cWrites, opsWrites, pieceGh, rsk, ne_eq, if_true, if_false, exists_eq_left', forall_const, forall_eq, Nat.reduceLT, Int.reduceSub, Nat.reduceAdd, Nat.reduceSub, Nat.reduceMul, Nat.reduceLeDiff, Nat.reduceEqDiff, Nat.reduceBEq, Nat.reduceBNe, Int.reduceNeg, Int.reduceAdd, Int.reduceMul, Int.reduceLE, Int.reduceLT, Int.reduceEq, Int.reduceToNat, reduceIte, reduceCtorEq, tbMade] at h0
  rcases List.eq_nil_or_concat m with rfl | ⟨m', x, rfl⟩
  · have hs : strip l = [] := by rw [← hst]; rfl
    have hcm := hc [] (by simp)
    have hlz : (([] : List UInt32).length : Int) = 0 := rfl
    have hr : madeR l neg = .tup [(intT false []).enc, .bool true] := by unfold madeR; rw [hs]; simp
    rw [hr]
    generalize hnil : ([] : List UInt32) = q at *
    clear hc hs hst hml hr
    repeat' (first
    | with_reducible refine condW_both (fun _ _ => ?_) (fun _ _ => ?_)
    | with_reducible refine gW_both (fun _ _ => ?_) (fun _ _ => ?_)
    | with_reducible refine condW_split (fun _ => ?_) (fun _ => ?_)
    | with_reducible refine gW_split (fun _ => ?_) (fun _ => ?_)
    | with_reducible refine pickW_split (fun _ => ?_) (fun _ => ?_)
    | (refine newW_intro ?_; intro bx hbx; (try simp only [fresh_box, fresh_tip, fresh_ty] at hbx))
    | (refine newT_plain ?_; intro bx hbx; (try simp only [fresh_box, fresh_tip, fresh_ty] at hbx))
    | refine Pure.use (hcm) ?_
    | refine Pure.head (hcm) ?_
    | refine storeX_w ?_
    | ((with_reducible refine And.intro ?_ ?_); omega)
    | refine bo_buildSlice (d' := ⟨⟩) ?_
    | (refine draw_all (by kernel_rfl) ?_)
    | refine finish_pure ?_ (by repeat' (first | exact AS.le.refl _ | assumption | (refine le_set (by first | assumption | (simp only [*]; done) | exact AS.le.fresh (by assumption) (by simp only [*])) ?_) | (refine le_ty (by first | assumption | (simp only [*]; done) | exact AS.le.fresh (by assumption) (by simp only [*])) ?_)))
    | simp -dsimp only [↓bp, bq, br, afin, bsk, cWrites, opsWrites, pieceGh, rsk, ne_eq, if_true, if_false, exists_eq_left', forall_const, forall_eq, Nat.reduceLT, Int.reduceSub, Nat.reduceAdd, Nat.reduceSub, Nat.reduceMul, Nat.reduceLeDiff, Nat.reduceEqDiff, Nat.reduceBEq, Nat.reduceBNe, Int.reduceNeg, Int.reduceAdd, Int.reduceMul, Int.reduceLE, Int.reduceLT, Int.reduceEq, Int.reduceToNat, reduceIte, reduceCtorEq, tbMade, hlz, *])
    all_goals
      refine finishW_some σ (by repeat' (first | exact AS.le.refl _ | assumption | (refine le_set (by first | assumption | (simp only [*]; done) | exact AS.le.fresh (by assumption) (by simp only [*])) ?_))) ?_
      exact ⟨Le.tup (.cons (intT_le _ _) (.cons (Le.refl _) .nil)), rfl⟩
  · simp only [List.concat_eq_append] at *
    have hlen : ((m' ++ [x]).length : Int) = m'.length + 1 := by simp
    have hlen' : (m' ++ [x]).length = m'.length + 1 := by simp
    have hw : IntKind.i64.wrap ((m'.length : Int) + 1 - 1) = m'.length := by rw [wrap_nat (by omega) (by omega)]; omega
    have hget : (m' ++ [x])[m'.length]? = some x := by simp
    have htake : (m' ++ [x]).take m'.length = m' := by simp
    have hcm := hc (m' ++ [x]) (by omega)
    have hp : (0 : Int) < m'.length + 1 := by omega
    have hmm : m'.length ≤ (m' ++ [x]).length := by omega
    by_cases hx : x = 0
    · subst hx
      rw [strip_zero] at hst
      have hz : ((0 : UInt32).toNat : Int) = 0 := rfl
      have hml' : m'.length ≤ l.length := by omega
      generalize hq : m' ++ [0] = q at *
      clear hc hml hlen'
      repeat' (first
    | with_reducible refine condW_both (fun _ _ => ?_) (fun _ _ => ?_)
    | with_reducible refine gW_both (fun _ _ => ?_) (fun _ _ => ?_)
    | with_reducible refine condW_split (fun _ => ?_) (fun _ => ?_)
    | with_reducible refine gW_split (fun _ => ?_) (fun _ => ?_)
    | with_reducible refine pickW_split (fun _ => ?_) (fun _ => ?_)
    | (refine newW_intro ?_; intro bx hbx; (try simp only [fresh_box, fresh_tip, fresh_ty] at hbx))
    | (refine newT_plain ?_; intro bx hbx; (try simp only [fresh_box, fresh_tip, fresh_ty] at hbx))
    | refine storeX_w ?_
    | ((with_reducible refine And.intro ?_ ?_); omega)
    | refine bo_buildSlice (d' := ⟨⟩) ?_
    | (refine draw_all (by kernel_rfl) ?_)
    | refine finish_pure ?_ (by repeat' (first | exact AS.le.refl _ | assumption | (refine le_set (by first | assumption | (simp only [*]; done) | exact AS.le.fresh (by assumption) (by simp only [*])) ?_) | (refine le_ty (by first | assumption | (simp only [*]; done) | exact AS.le.fresh (by assumption) (by simp only [*])) ?_)))
    | simp -dsimp only [↓bp, bq, br, afin, bsk, cWrites, opsWrites, pieceGh, rsk, ne_eq, if_true, if_false, exists_eq_left', forall_const, forall_eq, Nat.reduceLT, Int.reduceSub, Nat.reduceAdd, Nat.reduceSub, Nat.reduceMul, Nat.reduceLeDiff, Nat.reduceEqDiff, Nat.reduceBEq, Nat.reduceBNe, Int.reduceNeg, Int.reduceAdd, Int.reduceMul, Int.reduceLE, Int.reduceLT, Int.reduceEq, Int.reduceToNat, reduceIte, reduceCtorEq, tbMade, hlen, hw, limA, hz, sl_lims, *])
      all_goals exact ⟨m'.length, by rw [← hq]; simp, m', rfl, hml', hst, rfl⟩
    · have hs : strip l = m' ++ [x] := by rw [← hst, strip_keep _ _ hx]
      have hz : ¬ (x.toNat : Int) = 0 := fun e => hx (UInt32.toNat_inj.1 (by simpa using e))
      by_cases h32 : m'.length + 1 ≤ 32
      · have hr : madeR l neg = .tup [(intT (neg && true) (m' ++ [x])).enc, .bool true] := by unfold madeR; rw [hs, hlen', if_pos h32]; congr 5; simp
        rw [hr]
        have h32' : ¬ (32 : Int) < m'.length + 1 := by omega
        generalize hq : m' ++ [x] = q at *
        clear hc hs hst hml hr h32 hlen'
        repeat' (first
    | with_reducible refine condW_both (fun _ _ => ?_) (fun _ _ => ?_)
    | with_reducible refine gW_both (fun _ _ => ?_) (fun _ _ => ?_)
    | with_reducible refine condW_split (fun _ => ?_) (fun _ => ?_)
    | with_reducible refine gW_split (fun _ => ?_) (fun _ => ?_)
    | with_reducible refine pickW_split (fun _ => ?_) (fun _ => ?_)
    | (refine newW_intro ?_; intro bx hbx; (try simp only [fresh_box, fresh_tip, fresh_ty] at hbx))
    | (refine newT_plain ?_; intro bx hbx; (try simp only [fresh_box, fresh_tip, fresh_ty] at hbx))
    | refine Pure.use (hcm) ?_
    | refine Pure.head (hcm) ?_
    | refine storeX_w ?_
    | ((with_reducible refine And.intro ?_ ?_); omega)
    | refine bo_buildSlice (d' := ⟨⟩) ?_
    | (refine draw_all (by kernel_rfl) ?_)
    | refine finish_pure ?_ (by repeat' (first | exact AS.le.refl _ | assumption | (refine le_set (by first | assumption | (simp only [*]; done) | exact AS.le.fresh (by assumption) (by simp only [*])) ?_) | (refine le_ty (by first | assumption | (simp only [*]; done) | exact AS.le.fresh (by assumption) (by simp only [*])) ?_)))
    | simp -dsimp only [↓bp, bq, br, afin, bsk, cWrites, opsWrites, pieceGh, rsk, ne_eq, if_true, if_false, exists_eq_left', forall_const, forall_eq, Nat.reduceLT, Int.reduceSub, Nat.reduceAdd, Nat.reduceSub, Nat.reduceMul, Nat.reduceLeDiff, Nat.reduceEqDiff, Nat.reduceBEq, Nat.reduceBNe, Int.reduceNeg, Int.reduceAdd, Int.reduceMul, Int.reduceLE, Int.reduceLT, Int.reduceEq, Int.reduceToNat, reduceIte, reduceCtorEq, tbMade, hlen, hw, limA, hz, sl_lims, *])
        all_goals
          refine finishW_some σ (by repeat' (first | exact AS.le.refl _ | assumption | (refine le_set (by first | assumption | (simp only [*]; done) | exact AS.le.fresh (by assumption) (by simp only [*])) ?_))) ?_
          cases neg <;> first | exact ⟨Le.tup (.cons (intT_le _ _) (.cons (Le.refl _) .nil)), rfl⟩ | (exfalso; simp_all; done)
      · have hr : madeR l neg = .tup [zeroT.enc, .bool false] := by unfold madeR; rw [hs, hlen', if_neg h32]
        rw [hr]
        have h32' : (32 : Int) < m'.length + 1 := by omega
        generalize hq : m' ++ [x] = q at *
        clear hc hs hst hml hr h32 hlen'
        repeat' (first
    | with_reducible refine condW_both (fun _ _ => ?_) (fun _ _ => ?_)
    | with_reducible refine gW_both (fun _ _ => ?_) (fun _ _ => ?_)
    | with_reducible refine condW_split (fun _ => ?_) (fun _ => ?_)
    | with_reducible refine gW_split (fun _ => ?_) (fun _ => ?_)
    | with_reducible refine pickW_split (fun _ => ?_) (fun _ => ?_)
    | (refine newW_intro ?_; intro bx hbx; (try simp only [fresh_box, fresh_tip, fresh_ty] at hbx))
    | (refine newT_plain ?_; intro bx hbx; (try simp only [fresh_box, fresh_tip, fresh_ty] at hbx))
    | refine Pure.use (hcm) ?_
    | refine Pure.head (hcm) ?_
    | refine storeX_w ?_
    | ((with_reducible refine And.intro ?_ ?_); omega)
    | refine bo_buildSlice (d' := ⟨⟩) ?_
    | (refine draw_all (by kernel_rfl) ?_)
    | refine finish_pure ?_ (by repeat' (first | exact AS.le.refl _ | assumption | (refine le_set (by first | assumption | (simp only [*]; done) | exact AS.le.fresh (by assumption) (by simp only [*])) ?_) | (refine le_ty (by first | assumption | (simp only [*]; done) | exact AS.le.fresh (by assumption) (by simp only [*])) ?_)))
    | simp -dsimp only [↓bp, bq, br, afin, bsk, cWrites, opsWrites, pieceGh, rsk, ne_eq, if_true, if_false, exists_eq_left', forall_const, forall_eq, Nat.reduceLT, Int.reduceSub, Nat.reduceAdd, Nat.reduceSub, Nat.reduceMul, Nat.reduceLeDiff, Nat.reduceEqDiff, Nat.reduceBEq, Nat.reduceBNe, Int.reduceNeg, Int.reduceAdd, Int.reduceMul, Int.reduceLE, Int.reduceLT, Int.reduceEq, Int.reduceToNat, reduceIte, reduceCtorEq, tbMade, hlen, hw, limA, hz, sl_lims, *])
        all_goals
          refine finishW_some σ (by repeat' (first | exact AS.le.refl _ | assumption | (refine le_set (by first | assumption | (simp only [*]; done) | exact AS.le.fresh (by assumption) (by simp only [*])) ?_))) ?_
          exact ⟨Le.tup (.cons (enc_nil 0 false [] 0) (.cons (Le.refl _) .nil)), rfl⟩
end Go.Proofs.YtpginpbcndlfmaaDoor
set_option linter.unusedVariables false
set_option linter.unusedSimpArgs false
set_option maxRecDepth 20000
namespace Go.Proofs.YtpginpbcndlfmaaDoor
open Go Go.Av
def tbWText := And.intro (And.intro (And.intro (And.intro @tf3 (And.intro @tf4 @tf5)) (And.intro @tf61 (And.intro @tf9 @tf38))) (And.intro (And.intro @tf63 (And.intro @tf37 @tf22)) (And.intro @tf40 (And.intro @bytesA_len @Term.flat_enc)))) (And.intro (And.intro (And.intro @Term.isv_enc (And.intro @Term.fold_enc @isv_encs)) (And.intro @flat_encs (And.intro @len_encs @isv_lims))) (And.intro (And.intro @flat_lims (And.intro @len_lims @ix_lims)) (And.intro (And.intro @ix_lims' @flat_limA) (And.intro @isv_byteA @flat_byteA))))
variable (G : Nat → AV)
theorem canon_zero {m : List UInt32} (h : m = [] ∨ ∃ q x, m = q ++ [x] ∧ x ≠ 0) (h0 : val m = 0) : m = [] := by
  rcases h with h | ⟨q, x, rfl, hx⟩
  · exact h
  · rw [val_append] at h0
    simp only [val] at h0
    have hp : 0 < 4294967296 ^ q.length := Nat.pow_pos (by omega)
    have : x.toNat ≠ 0 := fun e => hx (UInt32.toNat_inj.1 (by simpa using e))
    have : 0 < 4294967296 ^ q.length * (x.toNat + 4294967296 * 0) := Nat.mul_pos hp (by omega)
    omega
theorem wr_int {t : Term} (h : wr t = true) : t = intT t.neg t.limbs ∧ (t.limbs = [] ∨ ∃ q x, t.limbs = q ++ [x] ∧ x ≠ 0) ∧ t.limbs.length ≤ 32 := by
  obtain ⟨h1, h2, h3, h4, h5, h6, h7, h8⟩ := wr_spec h
  refine ⟨term_ext h1 rfl rfl h2 h3 h4 h5, ?_, h6⟩
  rcases List.eq_nil_or_concat t.limbs with e | ⟨q, x, e⟩
  · exact .inl e
  · rw [List.concat_eq_append] at e
    refine .inr ⟨q, x, e, fun hx => ?_⟩
    have := h8 (by rw [e]; simp)
    rw [e] at this
    simp [lastOk, hx] at this
theorem intT_limbs (g : Bool) (m : List UInt32) : (intT g m).limbs = m := rfl
theorem intT_fold (g : Bool) (m : List UInt32) : AV.agg [.int .u8 (intT g m).knd, .bool g, lims m, .str (intT g m).text, .int .i64 (intT g m).num, encs (intT g m).items, encs (intT g m).tail] = (intT g m).enc := (intT g m).fold_enc
theorem intT_neg (g : Bool) (m : List UInt32) : (intT g m).neg = g := rfl
theorem digs_step {n : Nat} (h : n ≠ 0) : digs n = UInt8.ofNat (48 + n % 10) :: digs (n / 10) := by rw [digs, dif_neg h]
theorem dig_byte (d : Nat) (h : d < 10) : AV.int .u8 (IntKind.u8.wrap (IntKind.u32.wrap (48 + (d : Int)))) = byteA (UInt8.ofNat (48 + d)) := by
  unfold byteA
  rw [u32_wrap (by omega) (by omega), IntKind.wrap_u8, UInt8.toNat_ofNat']
  congr 1
theorem bytesOf_bytesA (l : List UInt8) : bytesOf (bytesA l) = some l := by
  induction l with
  | nil => rfl
  | cons c l ih =>
    have : Av.byteOf (byteA c) = some c := by simp [Av.byteOf, byteA]
    simp only [bytesA, List.map_cons, bytesOf] at ih ⊢
    rw [this, ih]
theorem app_bytes (a b : List UInt8) : bytesA a ++ bytesA b = bytesA (a ++ b) := by simp [bytesA]
theorem rev_buf {σ1 s : AS} {v : AV} {zs : List UInt8} (h : WBuf 1 5 σ1 s v (bytesA zs)) (hne : zs ≠ []) (hl : zs.length ≤ 1000000) :
    Tri Tryd.prog G 59 [v] s fun r s' => ∃ rr, v = .bs rr zs.length 1 5 ∧ s'.box rr = some (bytesA zs.reverse) ∧ σ1.le s' := by
  obtain ⟨r, hr, hrb, hr0, hr1⟩ := h.form (by simpa [bytesA] using hne)
  rw [flat_bytesA] at hrb
  rw [bytesA_len] at hr
  subst hr
  refine (reverse_tri G zs (by omega) s r hrb).mono ?_
  rintro _ s' rfl
  exact ⟨r, rfl, by simp [AS.setBox], h.le.setBox hr0 _⟩
theorem digs_len : ∀ (k n : Nat), n < 10 ^ k → (digs n).length ≤ k
  | 0, n, h => by
    have : n = 0 := by simp at h; omega
    subst this
    rw [digs]; simp
  | k + 1, n, h => by
    by_cases h0 : n = 0
    · subst h0; rw [digs]; simp
    · rw [digs_step h0, List.length_cons]
      have := digs_len k (n / 10) (by rw [Nat.pow_succ] at h; omega)
      omega
theorem val_lt : ∀ l : List UInt32, val l < 4294967296 ^ l.length
  | [] => by simp [val]
  | x :: l => by
    have := val_lt l
    have := x.toNat_lt
    simp only [val, List.length_cons, Nat.pow_succ]
    omega
theorem dig_bound {l : List UInt32} (h : l.length ≤ 32) : (digs (val l)).length ≤ 309 := by
  refine digs_len 309 _ (Nat.lt_of_lt_of_le (val_lt l) (Nat.le_trans (Nat.pow_le_pow_right (by omega) h) ?_))
  decide +kernel
set_option maxHeartbeats 2000000 in
theorem wtext_pure (t : Term) (hb : t.bulk ≤ 1000000000) : Pure Tryd.prog G 47 [t.enc] (.str (if wr t = true then wsaid t else [])) := by
  have hw := wr_pure G t hb
  cases ew : wr t with
  | false =>
    rw [ew] at hw
    intro σ
    refine Tri.of_awp mixed Tryd.func47 rfl (by kernel_rfl) (by kernel_rfl) (by simp [Tryd.ntmps47]) Tryd.results47 ?_
    repeat' (first
    | with_reducible refine condW_both (fun _ _ => ?_) (fun _ _ => ?_)
    | with_reducible refine gW_both (fun _ _ => ?_) (fun _ _ => ?_)
    | with_reducible refine condW_split (fun _ => ?_) (fun _ => ?_)
    | with_reducible refine gW_split (fun _ => ?_) (fun _ => ?_)
    | with_reducible refine pickW_split (fun _ => ?_) (fun _ => ?_)
    | (refine newW_intro ?_; intro bx hbx; (try simp only [fresh_box, fresh_tip, fresh_ty] at hbx))
    | (refine newT_plain ?_; intro bx hbx; (try simp only [fresh_box, fresh_tip, fresh_ty] at hbx))
    | refine Pure.use (hw) ?_
    | refine Pure.head (hw) ?_
    | refine storeX_w ?_
    | ((with_reducible refine And.intro ?_ ?_); omega)
    | refine bo_buildSlice (d' := ⟨⟩) ?_
    | (refine draw_all (by kernel_rfl) ?_)
    | refine finish_pure ?_ (by repeat' (first | exact AS.le.refl _ | assumption | (refine le_set (by first | assumption | (simp only [*]; done) | exact AS.le.fresh (by assumption) (by simp only [*])) ?_) | (refine le_ty (by first | assumption | (simp only [*]; done) | exact AS.le.fresh (by assumption) (by simp only [*])) ?_)))
    | simp -dsimp only [↓bp, bq, br, afin, bsk, cWrites, opsWrites, pieceGh, rsk, ne_eq, if_true, if_false, exists_eq_left', forall_const, forall_eq, Nat.reduceLT, Int.reduceSub, Nat.reduceAdd, Nat.reduceSub, Nat.reduceMul, Nat.reduceLeDiff, Nat.reduceEqDiff, Nat.reduceBEq, Nat.reduceBNe, Int.reduceNeg, Int.reduceAdd, Int.reduceMul, Int.reduceLE, Int.reduceLT, Int.reduceEq, Int.reduceToNat, reduceIte, reduceCtorEq, tbWText, bytesOf_bytesA, intT_fold, intT_limbs, intT_neg, List.length_reverse, *])
    all_goals rfl
  | true =>
    rw [ew] at hw
    obtain ⟨et, hcan, h32⟩ := wr_int ew
    rw [if_pos rfl]
    obtain ⟨g, hg⟩ : ∃ g, t.neg = g := ⟨_, rfl⟩
    obtain ⟨l, hl⟩ : ∃ l, t.limbs = l := ⟨_, rfl⟩
    have hsaid : wsaid t = (if g = true then [45] else []) ++ decT (val l) := by unfold wsaid; rw [hg, hl]
    rw [hsaid]
    rw [hg, hl] at et
    rw [hl] at hcan h32
    subst et
    clear hsaid hg hl hb ew
    have hsh := fun (m : List UInt32) (h : m.length ≤ 32) => short_pure G m 10 (by omega) (by omega) (by omega)
    have hmd := fun (m : List UInt32) (h : m.length ≤ 32) => made_pure G m false (by omega)
    have hdb := dig_bound h32
    intro σ
    refine Tri.of_awp mixed Tryd.func47 rfl (by kernel_rfl) (by kernel_rfl) (by simp [Tryd.ntmps47]) Tryd.results47 ?_
    repeat' (first
    | with_reducible refine condW_both (fun _ _ => ?_) (fun _ _ => ?_)
    | with_reducible refine gW_both (fun _ _ => ?_) (fun _ _ => ?_)
    | with_reducible refine condW_split (fun _ => ?_) (fun _ => ?_)
    | with_reducible refine gW_split (fun _ => ?_) (fun _ => ?_)
    | with_reducible refine pickW_split (fun _ => ?_) (fun _ => ?_)
    | (refine newW_intro ?_; intro bx hbx; (try simp only [fresh_box, fresh_tip, fresh_ty] at hbx))
    | (refine newT_plain ?_; intro bx hbx; (try simp only [fresh_box, fresh_tip, fresh_ty] at hbx))
    | refine Pure.use (hw) ?_
    | refine Pure.head (hw) ?_
    | refine storeX_w ?_
    | ((with_reducible refine And.intro ?_ ?_); omega)
    | refine bo_buildSlice (d' := ⟨⟩) ?_
    | (refine draw_all (by kernel_rfl) ?_)
    | refine finish_pure ?_ (by repeat' (first | exact AS.le.refl _ | assumption | (refine le_set (by first | assumption | (simp only [*]; done) | exact AS.le.fresh (by assumption) (by simp only [*])) ?_) | (refine le_ty (by first | assumption | (simp only [*]; done) | exact AS.le.fresh (by assumption) (by simp only [*])) ?_)))
    | simp -dsimp only [↓bp, bq, br, afin, bsk, cWrites, opsWrites, pieceGh, rsk, ne_eq, if_true, if_false, exists_eq_left', forall_const, forall_eq, Nat.reduceLT, Int.reduceSub, Nat.reduceAdd, Nat.reduceSub, Nat.reduceMul, Nat.reduceLeDiff, Nat.reduceEqDiff, Nat.reduceBEq, Nat.reduceBNe, Int.reduceNeg, Int.reduceAdd, Int.reduceMul, Int.reduceLE, Int.reduceLT, Int.reduceEq, Int.reduceToNat, reduceIte, reduceCtorEq, tbWText, bytesOf_bytesA, intT_fold, intT_limbs, intT_neg, List.length_reverse, *])
    rename_i b1 hb1
    obtain ⟨σ1, hs1⟩ : ∃ σ1, σ1 = σ.setBox b1 (flat (intT g l).enc) := ⟨_, rfl⟩
    have hle1 : σ.le σ1 := by rw [hs1]; exact (AS.le.refl σ).setBox hb1.1 _
    have hf1 : σ1.box b1 = some (flat (intT g l).enc) := by rw [hs1]; simp [AS.setBox]
    rw [Term.flat_enc, intT_limbs, intT_neg] at hs1
    rw [← hs1]
    have hbx' : σ1.fresh bx := by rw [hs1, fresh_setBox]; exact ⟨hbx.1, hbx.2.1⟩
    refine loop_intro (fun n e σ' => ∃ (m : List UInt32) (gg : Bool) (b4 : Nat) (v : AV) (xs : List UInt8), n = val m ∧ (m = [] ∨ ∃ q x, m = q ++ [x] ∧ x ≠ 0) ∧ m.length ≤ 32 ∧ e 4 = .ptr b4 0 ∧ σ'.box b4 = some (flat (intT gg m).enc) ∧ e 3 = v ∧
      WBuf 1 5 σ1 σ' v (bytesA xs) ∧ notRow v b4 ∧ σ1.box b4 = none ∧ xs ++ digs (val m) = digs (val l)) (val l)
      ⟨l, g, bx, .nil, [], rfl, hcan, h32, by first | (simp -dsimp only [↓bp, bq, br, afin, bsk, cWrites, opsWrites, pieceGh, rsk, ne_eq, if_true, if_false, exists_eq_left', forall_const, forall_eq, Nat.reduceLT, Int.reduceSub, Nat.reduceAdd, Nat.reduceSub, Nat.reduceMul, Nat.reduceLeDiff, Nat.reduceEqDiff, Nat.reduceBEq, Nat.reduceBNe, Int.reduceNeg, Int.reduceAdd, Int.reduceMul, Int.reduceLE, Int.reduceLT, Int.reduceEq, Int.reduceToNat, reduceIte, reduceCtorEq, tbWText, bytesOf_bytesA, intT_fold, intT_limbs, intT_neg, List.length_reverse]; done) | (simp -dsimp only [↓bp, bq, br, afin, bsk, cWrites, opsWrites, pieceGh, rsk, ne_eq, if_true, if_false, exists_eq_left', forall_const, forall_eq, Nat.reduceLT, Int.reduceSub, Nat.reduceAdd, Nat.reduceSub, Nat.reduceMul, Nat.reduceLeDiff, Nat.reduceEqDiff, Nat.reduceBEq, Nat.reduceBNe, Int.reduceNeg, Int.reduceAdd, Int.reduceMul, Int.reduceLE, Int.reduceLT, Int.reduceEq, Int.reduceToNat, reduceIte, reduceCtorEq, tbWText, bytesOf_bytesA, intT_fold, intT_limbs, intT_neg, List.length_reverse]; rfl), by rw [Term.flat_enc]; first | (simp -dsimp only [↓bp, bq, br, afin, bsk, cWrites, opsWrites, pieceGh, rsk, ne_eq, if_true, if_false, exists_eq_left', forall_const, forall_eq, Nat.reduceLT, Int.reduceSub, Nat.reduceAdd, Nat.reduceSub, Nat.reduceMul, Nat.reduceLeDiff, Nat.reduceEqDiff, Nat.reduceBEq, Nat.reduceBNe, Int.reduceNeg, Int.reduceAdd, Int.reduceMul, Int.reduceLE, Int.reduceLT, Int.reduceEq, Int.reduceToNat, reduceIte, reduceCtorEq, tbWText, bytesOf_bytesA, intT_fold, intT_limbs, intT_neg, List.length_reverse]; done) | (simp -dsimp only [↓bp, bq, br, afin, bsk, cWrites, opsWrites, pieceGh, rsk, ne_eq, if_true, if_false, exists_eq_left', forall_const, forall_eq, Nat.reduceLT, Int.reduceSub, Nat.reduceAdd, Nat.reduceSub, Nat.reduceMul, Nat.reduceLeDiff, Nat.reduceEqDiff, Nat.reduceBEq, Nat.reduceBNe, Int.reduceNeg, Int.reduceAdd, Int.reduceMul, Int.reduceLE, Int.reduceLT, Int.reduceEq, Int.reduceToNat, reduceIte, reduceCtorEq, tbWText, bytesOf_bytesA, intT_fold, intT_limbs, intT_neg, List.length_reverse]; rfl), by first | (simp -dsimp only [↓bp, bq, br, afin, bsk, cWrites, opsWrites, pieceGh, rsk, ne_eq, if_true, if_false, exists_eq_left', forall_const, forall_eq, Nat.reduceLT, Int.reduceSub, Nat.reduceAdd, Nat.reduceSub, Nat.reduceMul, Nat.reduceLeDiff, Nat.reduceEqDiff, Nat.reduceBEq, Nat.reduceBNe, Int.reduceNeg, Int.reduceAdd, Int.reduceMul, Int.reduceLE, Int.reduceLT, Int.reduceEq, Int.reduceToNat, reduceIte, reduceCtorEq, tbWText, bytesOf_bytesA, intT_fold, intT_limbs, intT_neg, List.length_reverse]; done) | (simp -dsimp only [↓bp, bq, br, afin, bsk, cWrites, opsWrites, pieceGh, rsk, ne_eq, if_true, if_false, exists_eq_left', forall_const, forall_eq, Nat.reduceLT, Int.reduceSub, Nat.reduceAdd, Nat.reduceSub, Nat.reduceMul, Nat.reduceLeDiff, Nat.reduceEqDiff, Nat.reduceBEq, Nat.reduceBNe, Int.reduceNeg, Int.reduceAdd, Int.reduceMul, Int.reduceLE, Int.reduceLT, Int.reduceEq, Int.reduceToNat, reduceIte, reduceCtorEq, tbWText, bytesOf_bytesA, intT_fold, intT_limbs, intT_neg, List.length_reverse]; rfl), .nil ((AS.le.refl σ1).setBox hbx'.1 _), trivial, hbx'.1, rfl⟩ ?_
    rintro n v σ' ⟨m, gg, b4, v3, xs, rfl, hc, hm, h4, hb4, h3, hB, hn, h14, hxs⟩
    have hsh := hsh m hm
    obtain ⟨q1, q2, q3⟩ := divd_spec 10 (by omega) (by omega) m
    have hmd := hmd (divd m 10).1 (by omega)
    have hsl := strip_len (divd m 10).1
    have hmr : madeR (divd m 10).1 false = .tup [(intT false (strip (divd m 10).1)).enc, .bool true] := by unfold madeR; rw [if_pos (by omega), Bool.false_and]
    rw [hmr] at hmd
    have hv1 : val (strip (divd m 10).1) = val m / 10 := by rw [strip_val]; omega
    have hd1 : (divd m 10).2 = val m % 10 := by omega
    have hcn := strip_last (divd m 10).1
    rw [Term.flat_enc, intT_limbs, intT_neg] at hb4
    rw [hd1] at hsh q2
    generalize hq : (divd m 10).1 = q at *
    generalize strip q = q' at *
    simp -dsimp only [↓bp, bq, br, afin, bsk, cWrites, opsWrites, pieceGh, rsk, ne_eq, if_true, if_false, exists_eq_left', forall_const, forall_eq, Nat.reduceLT, Int.reduceSub, Nat.reduceAdd, Nat.reduceSub, Nat.reduceMul, Nat.reduceLeDiff, Nat.reduceEqDiff, Nat.reduceBEq, Nat.reduceBNe, Int.reduceNeg, Int.reduceAdd, Int.reduceMul, Int.reduceLE, Int.reduceLT, Int.reduceEq, Int.reduceToNat, reduceIte, reduceCtorEq, tbWText, bytesOf_bytesA, intT_fold, intT_limbs, intT_neg, List.length_reverse] at h4 h3
    rcases List.eq_nil_or_concat m with hm0 | ⟨m', x, hm0⟩
    · have hml : (m.length : Int) = 0 := by rw [hm0]; rfl
      have hxd : xs = digs (val l) := by
        rw [hm0] at hxs
        have e0 : digs (val []) = [] := by rw [digs]; simp [val]
        rw [e0, List.append_nil] at hxs
        exact hxs
      have hlv := hB.len (P := Tryd.prog) (t := 63)
      rw [bytesA_len] at hlv
      have hk0 := hB.le.box b1 _ hf1
      rw [Term.flat_enc, intT_limbs, intT_neg] at hk0 hf1
      have a48 : asrc Tryd.prog 63 (.sl .full [.int .u8 48] []) = some (bytesA [48]) := asrc_sl tfBE
      have a45 : asrc Tryd.prog 63 (.sl .full [.int .u8 45] []) = some (bytesA [45]) := asrc_sl tfBE
      have hxl : xs.length ≤ 309 := by rw [hxd]; exact hdb
      have hdec : decT (val l) = if xs = [] then [48] else xs.reverse := by
        unfold decT
        by_cases hv : val l = 0
        · rw [if_pos hv, if_pos (by rw [hxd, hv, digs]; simp)]
        · rw [if_neg hv, if_neg (by rw [hxd]; exact digs_ne hv), hxd]
      rw [hdec]
      clear hdec hw hsh hmd hdb hm0 hxs hmr hv1 hd1 hcn hc hs1 hxd q1 q2 q3 hsl hq hbx hm
      by_cases hx0 : xs = []
      · subst hx0
        rw [if_pos rfl]
        have hz : (([] : List UInt8).length : Int) = 0 := rfl
        rw [hz] at hlv
        cases g with
        | false =>
          repeat' (first
    | with_reducible refine condW_both (fun _ _ => ?_) (fun _ _ => ?_)
    | with_reducible refine gW_both (fun _ _ => ?_) (fun _ _ => ?_)
    | with_reducible refine condW_split (fun _ => ?_) (fun _ => ?_)
    | with_reducible refine gW_split (fun _ => ?_) (fun _ => ?_)
    | with_reducible refine pickW_split (fun _ => ?_) (fun _ => ?_)
    | (refine newW_intro ?_; intro bx hbx; (try simp only [fresh_box, fresh_tip, fresh_ty] at hbx))
    | (refine newT_plain ?_; intro bx hbx; (try simp only [fresh_box, fresh_tip, fresh_ty] at hbx))
    | ((refine app_wb (ys := bytesA [48]) hB tfB a48 (bytes_ok _) (by simp [bytesA]) (fun v5 s5 ha => ?_); have k5 := ha.buf.le.box b1 _ hf1; have hb5 := ha.buf; have hl5 := hb5.len (P := Tryd.prog) (t := 63); rw [app_bytes] at hb5; clear ha))
    | ((refine Tri.mono (rev_buf G hb5 (by simp) (by simp)) ?_; rintro _ s ⟨rr, rfl, hrr, hles⟩; replace hles := hle1.trans hles))
    | refine storeX_w ?_
    | ((with_reducible refine And.intro ?_ ?_); omega)
    | refine bo_buildSlice (d' := ⟨⟩) ?_
    | (refine draw_all (by kernel_rfl) ?_)
    | refine finish_pure ?_ (by repeat' (first | exact AS.le.refl _ | assumption | (refine le_set (by first | assumption | (simp only [*]; done) | exact AS.le.fresh (by assumption) (by simp only [*])) ?_) | (refine le_ty (by first | assumption | (simp only [*]; done) | exact AS.le.fresh (by assumption) (by simp only [*])) ?_)))
    | simp -dsimp only [↓bp, bq, br, afin, bsk, cWrites, opsWrites, pieceGh, rsk, ne_eq, if_true, if_false, exists_eq_left', forall_const, forall_eq, Nat.reduceLT, Int.reduceSub, Nat.reduceAdd, Nat.reduceSub, Nat.reduceMul, Nat.reduceLeDiff, Nat.reduceEqDiff, Nat.reduceBEq, Nat.reduceBNe, Int.reduceNeg, Int.reduceAdd, Int.reduceMul, Int.reduceLE, Int.reduceLT, Int.reduceEq, Int.reduceToNat, reduceIte, reduceCtorEq, tbWText, bytesOf_bytesA, intT_fold, intT_limbs, intT_neg, List.length_reverse, *])
          all_goals simp
        | true =>
          repeat' (first
    | with_reducible refine condW_both (fun _ _ => ?_) (fun _ _ => ?_)
    | with_reducible refine gW_both (fun _ _ => ?_) (fun _ _ => ?_)
    | with_reducible refine condW_split (fun _ => ?_) (fun _ => ?_)
    | with_reducible refine gW_split (fun _ => ?_) (fun _ => ?_)
    | with_reducible refine pickW_split (fun _ => ?_) (fun _ => ?_)
    | (refine newW_intro ?_; intro bx hbx; (try simp only [fresh_box, fresh_tip, fresh_ty] at hbx))
    | (refine newT_plain ?_; intro bx hbx; (try simp only [fresh_box, fresh_tip, fresh_ty] at hbx))
    | ((refine app_wb (ys := bytesA [48]) hB tfB a48 (bytes_ok _) (by simp [bytesA]) (fun v5 s5 ha => ?_); have k5 := ha.buf.le.box b1 _ hf1; have hb5 := ha.buf; have hl5 := hb5.len (P := Tryd.prog) (t := 63); rw [app_bytes] at hb5; clear ha))
    | ((refine app_wb (ys := bytesA [45]) hb5 tfB a45 (bytes_ok _) (by simp [bytesA]) (fun v6 s6 ha => ?_); have k6 := ha.buf.le.box b1 _ hf1; have hb6 := ha.buf; have hl6 := hb6.len (P := Tryd.prog) (t := 63); rw [app_bytes] at hb6; clear ha))
    | ((refine Tri.mono (rev_buf G hb6 (by simp) (by simp)) ?_; rintro _ s ⟨rr, rfl, hrr, hles⟩; replace hles := hle1.trans hles))
    | refine storeX_w ?_
    | ((with_reducible refine And.intro ?_ ?_); omega)
    | refine bo_buildSlice (d' := ⟨⟩) ?_
    | (refine draw_all (by kernel_rfl) ?_)
    | refine finish_pure ?_ (by repeat' (first | exact AS.le.refl _ | assumption | (refine le_set (by first | assumption | (simp only [*]; done) | exact AS.le.fresh (by assumption) (by simp only [*])) ?_) | (refine le_ty (by first | assumption | (simp only [*]; done) | exact AS.le.fresh (by assumption) (by simp only [*])) ?_)))
    | simp -dsimp only [↓bp, bq, br, afin, bsk, cWrites, opsWrites, pieceGh, rsk, ne_eq, if_true, if_false, exists_eq_left', forall_const, forall_eq, Nat.reduceLT, Int.reduceSub, Nat.reduceAdd, Nat.reduceSub, Nat.reduceMul, Nat.reduceLeDiff, Nat.reduceEqDiff, Nat.reduceBEq, Nat.reduceBNe, Int.reduceNeg, Int.reduceAdd, Int.reduceMul, Int.reduceLE, Int.reduceLT, Int.reduceEq, Int.reduceToNat, reduceIte, reduceCtorEq, tbWText, bytesOf_bytesA, intT_fold, intT_limbs, intT_neg, List.length_reverse, *])
          all_goals simp
      · rw [if_neg hx0]
        have hz : ¬ (xs.length : Int) = 0 := fun e => hx0 (List.eq_nil_of_length_eq_zero (by omega))
        cases g with
        | false =>
          repeat' (first
    | with_reducible refine condW_both (fun _ _ => ?_) (fun _ _ => ?_)
    | with_reducible refine gW_both (fun _ _ => ?_) (fun _ _ => ?_)
    | with_reducible refine condW_split (fun _ => ?_) (fun _ => ?_)
    | with_reducible refine gW_split (fun _ => ?_) (fun _ => ?_)
    | with_reducible refine pickW_split (fun _ => ?_) (fun _ => ?_)
    | (refine newW_intro ?_; intro bx hbx; (try simp only [fresh_box, fresh_tip, fresh_ty] at hbx))
    | (refine newT_plain ?_; intro bx hbx; (try simp only [fresh_box, fresh_tip, fresh_ty] at hbx))
    | ((refine Tri.mono (rev_buf G hB hx0 (by omega)) ?_; rintro _ s ⟨rr, rfl, hrr, hles⟩; replace hles := hle1.trans hles))
    | refine storeX_w ?_
    | ((with_reducible refine And.intro ?_ ?_); omega)
    | refine bo_buildSlice (d' := ⟨⟩) ?_
    | (refine draw_all (by kernel_rfl) ?_)
    | refine finish_pure ?_ (by repeat' (first | exact AS.le.refl _ | assumption | (refine le_set (by first | assumption | (simp only [*]; done) | exact AS.le.fresh (by assumption) (by simp only [*])) ?_) | (refine le_ty (by first | assumption | (simp only [*]; done) | exact AS.le.fresh (by assumption) (by simp only [*])) ?_)))
    | simp -dsimp only [↓bp, bq, br, afin, bsk, cWrites, opsWrites, pieceGh, rsk, ne_eq, if_true, if_false, exists_eq_left', forall_const, forall_eq, Nat.reduceLT, Int.reduceSub, Nat.reduceAdd, Nat.reduceSub, Nat.reduceMul, Nat.reduceLeDiff, Nat.reduceEqDiff, Nat.reduceBEq, Nat.reduceBNe, Int.reduceNeg, Int.reduceAdd, Int.reduceMul, Int.reduceLE, Int.reduceLT, Int.reduceEq, Int.reduceToNat, reduceIte, reduceCtorEq, tbWText, bytesOf_bytesA, intT_fold, intT_limbs, intT_neg, List.length_reverse, *])
          all_goals simp
        | true =>
          repeat' (first
    | with_reducible refine condW_both (fun _ _ => ?_) (fun _ _ => ?_)
    | with_reducible refine gW_both (fun _ _ => ?_) (fun _ _ => ?_)
    | with_reducible refine condW_split (fun _ => ?_) (fun _ => ?_)
    | with_reducible refine gW_split (fun _ => ?_) (fun _ => ?_)
    | with_reducible refine pickW_split (fun _ => ?_) (fun _ => ?_)
    | (refine newW_intro ?_; intro bx hbx; (try simp only [fresh_box, fresh_tip, fresh_ty] at hbx))
    | (refine newT_plain ?_; intro bx hbx; (try simp only [fresh_box, fresh_tip, fresh_ty] at hbx))
    | ((refine app_wb (ys := bytesA [45]) hB tfB a45 (bytes_ok _) (by simp [bytesA]; omega) (fun v6 s6 ha => ?_); have k6 := ha.buf.le.box b1 _ hf1; have hb6 := ha.buf; have hl6 := hb6.len (P := Tryd.prog) (t := 63); rw [app_bytes] at hb6; clear ha))
    | ((refine Tri.mono (rev_buf G hb6 (by simp) (by simp; omega)) ?_; rintro _ s ⟨rr, rfl, hrr, hles⟩; replace hles := hle1.trans hles))
    | refine storeX_w ?_
    | ((with_reducible refine And.intro ?_ ?_); omega)
    | refine bo_buildSlice (d' := ⟨⟩) ?_
    | (refine draw_all (by kernel_rfl) ?_)
    | refine finish_pure ?_ (by repeat' (first | exact AS.le.refl _ | assumption | (refine le_set (by first | assumption | (simp only [*]; done) | exact AS.le.fresh (by assumption) (by simp only [*])) ?_) | (refine le_ty (by first | assumption | (simp only [*]; done) | exact AS.le.fresh (by assumption) (by simp only [*])) ?_)))
    | simp -dsimp only [↓bp, bq, br, afin, bsk, cWrites, opsWrites, pieceGh, rsk, ne_eq, if_true, if_false, exists_eq_left', forall_const, forall_eq, Nat.reduceLT, Int.reduceSub, Nat.reduceAdd, Nat.reduceSub, Nat.reduceMul, Nat.reduceLeDiff, Nat.reduceEqDiff, Nat.reduceBEq, Nat.reduceBNe, Int.reduceNeg, Int.reduceAdd, Int.reduceMul, Int.reduceLE, Int.reduceLT, Int.reduceEq, Int.reduceToNat, reduceIte, reduceCtorEq, tbWText, bytesOf_bytesA, intT_fold, intT_limbs, intT_neg, List.length_reverse, *])
          all_goals simp
    · have hml : (0 : Int) < m.length := by rw [hm0]; simp
      have hv0 : val m ≠ 0 := fun e => by have := canon_zero hc e; rw [hm0] at this; simp at this
      rw [digs_step hv0] at hxs
      have hdig := dig_byte (val m % 10) q2
      have hlen : xs.length + 1 ≤ 309 := by have := congrArg List.length hxs; simp at this; omega
      have hbs : asrc Tryd.prog 63 (.sl .full [byteA (UInt8.ofNat (48 + val m % 10))] []) = some (bytesA [UInt8.ofNat (48 + val m % 10)]) := asrc_sl tfBE
      have hq32 : q'.length ≤ 32 := by omega
      clear hm0 hw hdb q1 q3 hd1 hmr hsl hf1 hbx hs1 hq
      repeat' (first
    | with_reducible refine condW_both (fun _ _ => ?_) (fun _ _ => ?_)
    | with_reducible refine gW_both (fun _ _ => ?_) (fun _ _ => ?_)
    | with_reducible refine condW_split (fun _ => ?_) (fun _ => ?_)
    | with_reducible refine gW_split (fun _ => ?_) (fun _ => ?_)
    | with_reducible refine pickW_split (fun _ => ?_) (fun _ => ?_)
    | (refine newW_intro ?_; intro bx hbx; (try simp only [fresh_box, fresh_tip, fresh_ty] at hbx))
    | (refine newT_plain ?_; intro bx hbx; (try simp only [fresh_box, fresh_tip, fresh_ty] at hbx))
    | refine Pure.use (hsh) ?_
    | refine Pure.head (hsh) ?_
    | refine Pure.use (hmd) ?_
    | refine Pure.head (hmd) ?_
    | ((refine app_wb (ys := bytesA [UInt8.ofNat (48 + val m % 10)]) (hB.setOther h14 hn _) tfB hbs (bytes_ok _) (by rw [bytesA_len, bytesA_len]; simp; omega) (fun v5 s5 ha => ?_); have k1 := ha.keep b4 (flat (intT false q').enc) (by rw [Term.flat_enc]; simp [AS.setBox, intT_limbs, intT_neg]) hn; rw [Term.flat_enc, intT_limbs, intT_neg] at k1))
    | refine storeX_w ?_
    | ((with_reducible refine And.intro ?_ ?_); omega)
    | refine bo_buildSlice (d' := ⟨⟩) ?_
    | (refine draw_all (by kernel_rfl) ?_)
    | refine finish_pure ?_ (by repeat' (first | exact AS.le.refl _ | assumption | (refine le_set (by first | assumption | (simp only [*]; done) | exact AS.le.fresh (by assumption) (by simp only [*])) ?_) | (refine le_ty (by first | assumption | (simp only [*]; done) | exact AS.le.fresh (by assumption) (by simp only [*])) ?_)))
    | simp -dsimp only [↓bp, bq, br, afin, bsk, cWrites, opsWrites, pieceGh, rsk, ne_eq, if_true, if_false, exists_eq_left', forall_const, forall_eq, Nat.reduceLT, Int.reduceSub, Nat.reduceAdd, Nat.reduceSub, Nat.reduceMul, Nat.reduceLeDiff, Nat.reduceEqDiff, Nat.reduceBEq, Nat.reduceBNe, Int.reduceNeg, Int.reduceAdd, Int.reduceMul, Int.reduceLE, Int.reduceLT, Int.reduceEq, Int.reduceToNat, reduceIte, reduceCtorEq, tbWText, bytesOf_bytesA, intT_fold, intT_limbs, intT_neg, List.length_reverse, *])
      have hbb : bytesA xs ++ bytesA [UInt8.ofNat (48 + val m % 10)] = bytesA (xs ++ [UInt8.ofNat (48 + val m % 10)]) := by simp [bytesA]
      have hnb := ha.buf.newBox hbx
      rw [hbb] at hnb
      exact ⟨val q', by rw [hv1]; omega, q', false, bx, v5, xs ++ [UInt8.ofNat (48 + val m % 10)], rfl, hcn, hq32, rfl, (by first | (rw [if_pos rfl]; done) | (rw [if_pos rfl]; rfl)), rfl, (hnb _).1, (hnb []).2, (ha.buf.le.fresh hbx).1, by rw [hv1, List.append_assoc]; exact hxs⟩
end Go.Proofs.YtpginpbcndlfmaaDoor
