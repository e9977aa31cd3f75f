/- A term's text: the closures. -/
import Derived.Test.YtpginpbcndlfmaaDoorZItoa
import Derived.Test.YtpginpbcndlfmaaDoorZJ
import Derived.Test.YtpginpbcndlfmaaDoorZTermApi
set_option linter.unusedVariables false
set_option linter.unusedSimpArgs false
set_option maxRecDepth 20000
set_option linter.defProp false
namespace Go.Proofs.YtpginpbcndlfmaaDoor
open Go Go.Av
def tbTText := And.intro (And.intro (And.intro (And.intro @tf3 @tf4) (And.intro @tf5 (And.intro @tf9 @tf63))) (And.intro (And.intro @tf37 (And.intro @tf22 @tf40)) (And.intro @tf38 (And.intro @tf65 @tf62)))) (And.intro (And.intro (And.intro @tf76 (And.intro @tf78 @Term.flat_enc)) (And.intro @Term.isv_enc (And.intro @Term.fold_enc @isv_encs))) (And.intro (And.intro @flat_encs (And.intro @len_encs @ix_encs)) (And.intro @ix_encs' (And.intro @isv_lims @flat_lims))))
variable {G : Nat → AV}
structure GlobT (G : Nat → AV) : Prop extends Glob G where
  pow : G 2 = .tab powV
/-- the boxes of the two closures, and of the builder -/
structure Fns (σ0 : AS) (b p q : Nat) : Prop where
  put : σ0.box p = some [.fn 46 [.ptr b 0, .ptr q 0]]
  row : σ0.box q = some [.fn 44 [.ptr b 0, .ptr p 0]]
theorem Fns.up {σ0 σ1 : AS} {b p q : Nat} (h : Fns σ0 b p q) (hl : σ0.le σ1) : Fns σ1 b p q := ⟨hl.box _ _ h.put, hl.box _ _ h.row⟩
/-- a term is put behind what the builder holds -/
def Puts (G : Nat → AV) (t : Term) : Prop := ∀ (σ0 σ : AS) (b p q : Nat) (xs : List UInt8), Fns σ0 b p q → Bl σ0 σ b xs → xs.length + (said t).length ≤ 900000000 →
  Tri Tryd.prog G 46 [t.enc, .ptr b 0, .ptr q 0] σ fun r σ' => Bl σ0 σ' b (xs ++ said t)
theorem saidN_take : ∀ (l : List Term) (i : Nat) (x : Term), l[i]? = some x → saidN (l.take (i + 1)) = saidN (l.take i) ++ (44 :: said x)
  | [], i, x, h => by simp at h
  | y :: l, 0, x, h => by simp at h; subst h; simp [saidN]
  | y :: l, i + 1, x, h => by
    have := saidN_take l i x (by simpa using h)
    simp only [List.take_succ_cons, saidN, this]
    simp
theorem saidI_take (l : List Term) (i : Nat) (x : Term) (h : l[i]? = some x) : saidI (l.take (i + 1)) = saidI (l.take i) ++ (if i = 0 then said x else 44 :: said x) := by
  cases l with
  | nil => simp at h
  | cons y l =>
    cases i with
    | zero => simp at h; subst h; simp [saidI, saidN]
    | succ i =>
      have := saidN_take l i x (by simpa using h)
      simp only [List.take_succ_cons, saidI, this]
      simp
theorem saidT_take : ∀ (l : List Term) (i : Nat) (x : Term), l[i]? = some x → saidT (l.take (i + 1)) = saidT (l.take i) ++ (124 :: said x)
  | [], i, x, h => by simp at h
  | y :: l, 0, x, h => by simp at h; subst h; simp [saidT]
  | y :: l, i + 1, x, h => by
    have := saidT_take l i x (by simpa using h)
    simp only [List.take_succ_cons, saidT, this]
    simp
theorem saidN_le : ∀ (l : List Term) (i : Nat), (saidN (l.take i)).length ≤ (saidN l).length
  | [], i => by simp
  | x :: l, 0 => by simp [saidN]
  | x :: l, i + 1 => by have := saidN_le l i; simp only [List.take_succ_cons, saidN, List.length_cons, List.length_append]; omega
theorem saidI_le (l : List Term) (i : Nat) : (saidI (l.take i)).length ≤ (saidI l).length := by
  cases l with
  | nil => simp
  | cons x l => cases i with
    | zero => simp [saidI]
    | succ i => have := saidN_le l i; simp only [List.take_succ_cons, saidI, List.length_append]; omega
theorem saidT_le : ∀ (l : List Term) (i : Nat), (saidT (l.take i)).length ≤ (saidT l).length
  | [], i => by simp
  | x :: l, 0 => by simp [saidT]
  | x :: l, i + 1 => by have := saidT_le l i; simp only [List.take_succ_cons, saidT, List.length_cons, List.length_append]; omega
set_option maxHeartbeats 1000000 in
/-- a row of terms, between two texts -/
theorem row_tri (t : Term) (hb : t.bulk ≤ 1000000000) (hi : ∀ x, x ∈ t.items → Puts G x) (ht : ∀ x, x ∈ t.tail → Puts G x) (fr to : List UInt8) (σ0 σ : AS) (b p q : Nat) (xs : List UInt8) (hF : Fns σ0 b p q) (hB : Bl σ0 σ b xs)
    (hlen : xs.length + fr.length + (saidI t.items).length + (saidT t.tail).length + to.length ≤ 900000000) :
    Tri Tryd.prog G 44 [t.enc, .str fr, .str to, .ptr b 0, .ptr p 0] σ fun r σ' => Bl σ0 σ' b (xs ++ fr ++ saidI t.items ++ saidT t.tail ++ to) := by
  have hli := len_items t
  have hlt := len_tail t
  refine Tri.of_awp mixed Tryd.func44 rfl (by kernel_rfl) (by kernel_rfl) (by simp [Tryd.ntmps44]) Tryd.results44 ?_
  simp -dsimp only [↓bp, bq, br, afin, bsk, cWrites, opsWrites, pieceGh, rsk, ne_eq, if_true, if_false, exists_eq_left', forall_const, forall_eq, Nat.reduceLT, Int.reduceSub, Nat.reduceAdd, Nat.reduceSub, Nat.reduceMul, Nat.reduceLeDiff, Nat.reduceEqDiff, Nat.reduceBEq, Nat.reduceBNe, Int.reduceNeg, Int.reduceAdd, Int.reduceMul, Int.reduceLE, Int.reduceLT, Int.reduceEq, Int.reduceToNat, reduceIte, reduceCtorEq, tbTText]
  refine newW_intro fun b5 h5 => ?_
  obtain ⟨σ1, hs1⟩ : ∃ σ1, σ1 = σ0.setBox b5 [.int .u8 t.knd, .bool t.neg, lims t.limbs, .str t.text, .int .i64 t.num, encs t.items, encs t.tail] := ⟨_, rfl⟩
  have hB1 := hB.newBox h5 [.int .u8 t.knd, .bool t.neg, lims t.limbs, .str t.text, .int .i64 t.num, encs t.items, encs t.tail]
  rw [← hs1] at hB1
  have hle1 : σ0.le σ1 := by rw [hs1]; exact (AS.le.refl σ0).setBox (hB.le.fresh h5).1 _
  have hF1 := hF.up hle1
  have hb5 : σ1.box b5 = some [.int .u8 t.knd, .bool t.neg, lims t.limbs, .str t.text, .int .i64 t.num, encs t.items, encs t.tail] := by rw [hs1]; simp [AS.setBox]
  clear hs1
  generalize σ.setBox b5 _ = s0 at *
  repeat' (first
    | with_reducible refine condW_both (fun _ _ => ?_) (fun _ _ => ?_)
    | with_reducible refine gW_both (fun _ _ => ?_) (fun _ _ => ?_)
    | with_reducible refine condW_split (fun _ => ?_) (fun _ => ?_)
    | with_reducible refine gW_split (fun _ => ?_) (fun _ => ?_)
    | with_reducible refine pickW_split (fun _ => ?_) (fun _ => ?_)
    | (refine newW_intro ?_; intro bx hbx; (try simp only [fresh_box, fresh_tip, fresh_ty] at hbx))
    | (refine newT_plain ?_; intro bx hbx; (try simp only [fresh_box, fresh_tip, fresh_ty] at hbx))
    | ((refine Tri.mono (writeString_tri _ hB1 fr (by omega)) ?_; rintro r s1 hB2; have k5 := hB2.le.box b5 _ hb5))
    | refine storeX_w ?_
    | ((with_reducible refine And.intro ?_ ?_); omega)
    | refine bo_buildSlice (d' := ⟨⟩) ?_
    | (refine draw_all (by kernel_rfl) ?_)
    | refine finish_pure ?_ (by repeat' (first | exact AS.le.refl _ | assumption | (refine le_set (by first | assumption | (simp only [*]; done) | exact AS.le.fresh (by assumption) (by simp only [*])) ?_) | (refine le_ty (by first | assumption | (simp only [*]; done) | exact AS.le.fresh (by assumption) (by simp only [*])) ?_)))
    | simp -dsimp only [↓bp, bq, br, afin, bsk, cWrites, opsWrites, pieceGh, rsk, ne_eq, if_true, if_false, exists_eq_left', forall_const, forall_eq, Nat.reduceLT, Int.reduceSub, Nat.reduceAdd, Nat.reduceSub, Nat.reduceMul, Nat.reduceLeDiff, Nat.reduceEqDiff, Nat.reduceBEq, Nat.reduceBNe, Int.reduceNeg, Int.reduceAdd, Int.reduceMul, Int.reduceLE, Int.reduceLT, Int.reduceEq, Int.reduceToNat, reduceIte, reduceCtorEq, tbTText, *])
  refine loop_intro (fun n e σ' => ∃ i : Nat, i ≤ t.items.length ∧ n = t.items.length - i ∧ e 17 = .int .i64 i ∧ Bl σ1 σ' b (xs ++ fr ++ saidI (t.items.take i))) t.items.length ⟨0, by omega, by omega, by first | (simp -dsimp only [↓bp, bq, br, afin, bsk, cWrites, opsWrites, pieceGh, rsk, ne_eq, if_true, if_false, exists_eq_left', forall_const, forall_eq, Nat.reduceLT, Int.reduceSub, Nat.reduceAdd, Nat.reduceSub, Nat.reduceMul, Nat.reduceLeDiff, Nat.reduceEqDiff, Nat.reduceBEq, Nat.reduceBNe, Int.reduceNeg, Int.reduceAdd, Int.reduceMul, Int.reduceLE, Int.reduceLT, Int.reduceEq, Int.reduceToNat, reduceIte, reduceCtorEq, tbTText]; done) | (simp -dsimp only [↓bp, bq, br, afin, bsk, cWrites, opsWrites, pieceGh, rsk, ne_eq, if_true, if_false, exists_eq_left', forall_const, forall_eq, Nat.reduceLT, Int.reduceSub, Nat.reduceAdd, Nat.reduceSub, Nat.reduceMul, Nat.reduceLeDiff, Nat.reduceEqDiff, Nat.reduceBEq, Nat.reduceBNe, Int.reduceNeg, Int.reduceAdd, Int.reduceMul, Int.reduceLE, Int.reduceLT, Int.reduceEq, Int.reduceToNat, reduceIte, reduceCtorEq, tbTText]; rfl), by simpa [saidI] using hB2⟩ ?_
  rintro n v σ' ⟨i, hile, rfl, h17, hBi⟩
  simp -dsimp only [↓bp, bq, br, afin, bsk, cWrites, opsWrites, pieceGh, rsk, ne_eq, if_true, if_false, exists_eq_left', forall_const, forall_eq, Nat.reduceLT, Int.reduceSub, Nat.reduceAdd, Nat.reduceSub, Nat.reduceMul, Nat.reduceLeDiff, Nat.reduceEqDiff, Nat.reduceBEq, Nat.reduceBNe, Int.reduceNeg, Int.reduceAdd, Int.reduceMul, Int.reduceLE, Int.reduceLT, Int.reduceEq, Int.reduceToNat, reduceIte, reduceCtorEq, tbTText] at h17
  by_cases hlt : (i : Int) < t.items.length
  · obtain ⟨x, hx⟩ : ∃ x, t.items[i]? = some x := ⟨_, List.getElem?_eq_getElem (by omega)⟩
    have hxm : x ∈ t.items := List.mem_of_getElem? hx
    have htk := saidI_take t.items i x hx
    have hl2 := saidI_le t.items (i + 1)
    have hPx := hi x hxm
    have hilt : i < t.items.length := by omega
    have hw : IntKind.i64.wrap ((i : Int) + 1) = ((i + 1 : Nat) : Int) := by rw [wrap_nat (by omega) (by omega)]; rfl
    have hnext : ∀ s2 : AS, Bl σ1 s2 b (xs ++ fr ++ saidI (t.items.take (i + 1))) → ∃ m, m < t.items.length - i ∧ ∃ i_1, i_1 ≤ t.items.length ∧ m = t.items.length - i_1 ∧ AV.int .i64 ((i + 1 : Nat) : Int) = .int .i64 i_1 ∧ Bl σ1 s2 b (xs ++ fr ++ saidI (t.items.take i_1)) := fun s2 h2 =>
      ⟨t.items.length - (i + 1), by omega, i + 1, by omega, rfl, rfl, h2⟩
    clear hi ht hB hB1 hB2 h5 k5
    simp -dsimp only [↓bp, bq, br, afin, bsk, cWrites, opsWrites, pieceGh, rsk, ne_eq, if_true, if_false, exists_eq_left', forall_const, forall_eq, Nat.reduceLT, Int.reduceSub, Nat.reduceAdd, Nat.reduceSub, Nat.reduceMul, Nat.reduceLeDiff, Nat.reduceEqDiff, Nat.reduceBEq, Nat.reduceBNe, Int.reduceNeg, Int.reduceAdd, Int.reduceMul, Int.reduceLE, Int.reduceLT, Int.reduceEq, Int.reduceToNat, reduceIte, reduceCtorEq, tbTText, h17, hlt, hx]
    refine newT_plain fun b9 h9 => ?_
    have hB9 := hBi.newBox h9 [.int .u8 x.knd, .bool x.neg, lims x.limbs, .str x.text, .int .i64 x.num, encs x.items, encs x.tail]
    have hle2 : σ1.le (σ1.setBox b9 [.int .u8 x.knd, .bool x.neg, lims x.limbs, .str x.text, .int .i64 x.num, encs x.items, encs x.tail]) := (AS.le.refl σ1).setBox (hBi.le.fresh h9).1 _
    have hb9 : (σ1.setBox b9 [.int .u8 x.knd, .bool x.neg, lims x.limbs, .str x.text, .int .i64 x.num, encs x.items, encs x.tail]).box b9 = some [.int .u8 x.knd, .bool x.neg, lims x.limbs, .str x.text, .int .i64 x.num, encs x.items, encs x.tail] := by simp [AS.setBox]
    have hF2 := hF1.up hle2
    generalize σ1.setBox b9 _ = σ2 at *
    simp -dsimp only [↓bp, bq, br, afin, bsk, cWrites, opsWrites, pieceGh, rsk, ne_eq, if_true, if_false, exists_eq_left', forall_const, forall_eq, Nat.reduceLT, Int.reduceSub, Nat.reduceAdd, Nat.reduceSub, Nat.reduceMul, Nat.reduceLeDiff, Nat.reduceEqDiff, Nat.reduceBEq, Nat.reduceBNe, Int.reduceNeg, Int.reduceAdd, Int.reduceMul, Int.reduceLE, Int.reduceLT, Int.reduceEq, Int.reduceToNat, reduceIte, reduceCtorEq, tbTText, h17, hlt, hx]
    generalize σ'.setBox b9 _ = s2 at *
    have h9b : s2.box b9 = some [.int .u8 x.knd, .bool x.neg, lims x.limbs, .str x.text, .int .i64 x.num, encs x.items, encs x.tail] := hB9.le.box _ _ hb9
    have h9p : s2.box p = some [.fn 46 [.ptr b 0, .ptr q 0]] := hB9.le.box _ _ hF2.put
    rw [htk] at hnext hl2
    by_cases i0 : i = 0
    · rw [if_pos i0] at hnext hl2
      have i0' := eq_false (show ¬ (0 : Int) < i by omega)
      rw [List.length_append] at hl2
      clear i0 hlt hBi
      simp -dsimp only [↓bp, bq, br, afin, bsk, cWrites, opsWrites, pieceGh, rsk, ne_eq, if_true, if_false, exists_eq_left', forall_const, forall_eq, Nat.reduceLT, Int.reduceSub, Nat.reduceAdd, Nat.reduceSub, Nat.reduceMul, Nat.reduceLeDiff, Nat.reduceEqDiff, Nat.reduceBEq, Nat.reduceBNe, Int.reduceNeg, Int.reduceAdd, Int.reduceMul, Int.reduceLE, Int.reduceLT, Int.reduceEq, Int.reduceToNat, reduceIte, reduceCtorEq, tbTText, i0']
      repeat' (first
    | with_reducible refine condW_both (fun _ _ => ?_) (fun _ _ => ?_)
    | with_reducible refine gW_both (fun _ _ => ?_) (fun _ _ => ?_)
    | with_reducible refine condW_split (fun _ => ?_) (fun _ => ?_)
    | with_reducible refine gW_split (fun _ => ?_) (fun _ => ?_)
    | with_reducible refine pickW_split (fun _ => ?_) (fun _ => ?_)
    | (refine newW_intro ?_; intro bx hbx; (try simp only [fresh_box, fresh_tip, fresh_ty] at hbx))
    | (refine newT_plain ?_; intro bx hbx; (try simp only [fresh_box, fresh_tip, fresh_ty] at hbx))
    | ((refine Tri.mono (hPx σ2 s2 b p q _ hF2 hB9 (by simp only [List.length_append]; omega)) ?_; rintro r s3 hB3))
    | refine storeX_w ?_
    | ((with_reducible refine And.intro ?_ ?_); omega)
    | refine bo_buildSlice (d' := ⟨⟩) ?_
    | (refine draw_all (by kernel_rfl) ?_)
    | refine finish_pure ?_ (by repeat' (first | exact AS.le.refl _ | assumption | (refine le_set (by first | assumption | (simp only [*]; done) | exact AS.le.fresh (by assumption) (by simp only [*])) ?_) | (refine le_ty (by first | assumption | (simp only [*]; done) | exact AS.le.fresh (by assumption) (by simp only [*])) ?_)))
    | simp -dsimp only [↓bp, bq, br, afin, bsk, cWrites, opsWrites, pieceGh, rsk, ne_eq, if_true, if_false, exists_eq_left', forall_const, forall_eq, Nat.reduceLT, Int.reduceSub, Nat.reduceAdd, Nat.reduceSub, Nat.reduceMul, Nat.reduceLeDiff, Nat.reduceEqDiff, Nat.reduceBEq, Nat.reduceBNe, Int.reduceNeg, Int.reduceAdd, Int.reduceMul, Int.reduceLE, Int.reduceLT, Int.reduceEq, Int.reduceToNat, reduceIte, reduceCtorEq, tbTText, *])
      try rw [hw]
      exact hnext _ (by have := hB3.weaken hle2; simpa using this)
    · rw [if_neg i0] at hnext hl2
      have i0' := eq_true (show (0 : Int) < i by omega)
      rw [List.length_append, List.length_cons] at hl2
      clear i0 hlt hBi
      simp -dsimp only [↓bp, bq, br, afin, bsk, cWrites, opsWrites, pieceGh, rsk, ne_eq, if_true, if_false, exists_eq_left', forall_const, forall_eq, Nat.reduceLT, Int.reduceSub, Nat.reduceAdd, Nat.reduceSub, Nat.reduceMul, Nat.reduceLeDiff, Nat.reduceEqDiff, Nat.reduceBEq, Nat.reduceBNe, Int.reduceNeg, Int.reduceAdd, Int.reduceMul, Int.reduceLE, Int.reduceLT, Int.reduceEq, Int.reduceToNat, reduceIte, reduceCtorEq, tbTText, i0']
      repeat' (first
    | with_reducible refine condW_both (fun _ _ => ?_) (fun _ _ => ?_)
    | with_reducible refine gW_both (fun _ _ => ?_) (fun _ _ => ?_)
    | with_reducible refine condW_split (fun _ => ?_) (fun _ => ?_)
    | with_reducible refine gW_split (fun _ => ?_) (fun _ => ?_)
    | with_reducible refine pickW_split (fun _ => ?_) (fun _ => ?_)
    | (refine newW_intro ?_; intro bx hbx; (try simp only [fresh_box, fresh_tip, fresh_ty] at hbx))
    | (refine newT_plain ?_; intro bx hbx; (try simp only [fresh_box, fresh_tip, fresh_ty] at hbx))
    | ((refine Tri.mono (wb hB9 (by simp only [List.length_append]; omega) 44 44 rfl) ?_; rintro r s3 hB3; have h9b := hB3.le.box _ _ hb9; have h9p := hB3.le.box _ _ hF2.put; clear hB9))
    | ((refine Tri.mono (hPx σ2 _ b p q _ hF2 hB3 (by simp only [List.length_append, List.length_cons, List.length_nil]; omega)) ?_; rintro r s4 hB4))
    | refine storeX_w ?_
    | ((with_reducible refine And.intro ?_ ?_); omega)
    | refine bo_buildSlice (d' := ⟨⟩) ?_
    | (refine draw_all (by kernel_rfl) ?_)
    | refine finish_pure ?_ (by repeat' (first | exact AS.le.refl _ | assumption | (refine le_set (by first | assumption | (simp only [*]; done) | exact AS.le.fresh (by assumption) (by simp only [*])) ?_) | (refine le_ty (by first | assumption | (simp only [*]; done) | exact AS.le.fresh (by assumption) (by simp only [*])) ?_)))
    | simp -dsimp only [↓bp, bq, br, afin, bsk, cWrites, opsWrites, pieceGh, rsk, ne_eq, if_true, if_false, exists_eq_left', forall_const, forall_eq, Nat.reduceLT, Int.reduceSub, Nat.reduceAdd, Nat.reduceSub, Nat.reduceMul, Nat.reduceLeDiff, Nat.reduceEqDiff, Nat.reduceBEq, Nat.reduceBNe, Int.reduceNeg, Int.reduceAdd, Int.reduceMul, Int.reduceLE, Int.reduceLT, Int.reduceEq, Int.reduceToNat, reduceIte, reduceCtorEq, tbTText, *])
      try rw [hw]
      exact hnext _ (by have := hB4.weaken hle2; simpa using this)
  · have : i = t.items.length := by omega
    subst this
    rw [List.take_length] at hBi
    clear hlt hile hB hB1 hB2 k5 h5
    have k5 := hBi.le.box b5 _ hb5
    have hirr := eq_false (Int.lt_irrefl (t.items.length : Int))
    simp -dsimp only [↓bp, bq, br, afin, bsk, cWrites, opsWrites, pieceGh, rsk, ne_eq, if_true, if_false, exists_eq_left', forall_const, forall_eq, Nat.reduceLT, Int.reduceSub, Nat.reduceAdd, Nat.reduceSub, Nat.reduceMul, Nat.reduceLeDiff, Nat.reduceEqDiff, Nat.reduceBEq, Nat.reduceBNe, Int.reduceNeg, Int.reduceAdd, Int.reduceMul, Int.reduceLE, Int.reduceLT, Int.reduceEq, Int.reduceToNat, reduceIte, reduceCtorEq, tbTText, h17, hirr]
    repeat' (first
    | with_reducible refine condW_both (fun _ _ => ?_) (fun _ _ => ?_)
    | with_reducible refine gW_both (fun _ _ => ?_) (fun _ _ => ?_)
    | with_reducible refine condW_split (fun _ => ?_) (fun _ => ?_)
    | with_reducible refine gW_split (fun _ => ?_) (fun _ => ?_)
    | with_reducible refine pickW_split (fun _ => ?_) (fun _ => ?_)
    | (refine newW_intro ?_; intro bx hbx; (try simp only [fresh_box, fresh_tip, fresh_ty] at hbx))
    | (refine newT_plain ?_; intro bx hbx; (try simp only [fresh_box, fresh_tip, fresh_ty] at hbx))
    | refine storeX_w ?_
    | ((with_reducible refine And.intro ?_ ?_); omega)
    | refine bo_buildSlice (d' := ⟨⟩) ?_
    | (refine draw_all (by kernel_rfl) ?_)
    | refine finish_pure ?_ (by repeat' (first | exact AS.le.refl _ | assumption | (refine le_set (by first | assumption | (simp only [*]; done) | exact AS.le.fresh (by assumption) (by simp only [*])) ?_) | (refine le_ty (by first | assumption | (simp only [*]; done) | exact AS.le.fresh (by assumption) (by simp only [*])) ?_)))
    | simp -dsimp only [↓bp, bq, br, afin, bsk, cWrites, opsWrites, pieceGh, rsk, ne_eq, if_true, if_false, exists_eq_left', forall_const, forall_eq, Nat.reduceLT, Int.reduceSub, Nat.reduceAdd, Nat.reduceSub, Nat.reduceMul, Nat.reduceLeDiff, Nat.reduceEqDiff, Nat.reduceBEq, Nat.reduceBNe, Int.reduceNeg, Int.reduceAdd, Int.reduceMul, Int.reduceLE, Int.reduceLT, Int.reduceEq, Int.reduceToNat, reduceIte, reduceCtorEq, tbTText, *])
    have hIx : (saidI t.items).length ≤ 900000000 := by omega
    refine loop_intro (fun n e σ' => ∃ i : Nat, i ≤ t.tail.length ∧ n = t.tail.length - i ∧ e 32 = .int .i64 i ∧ Bl σ1 σ' b (xs ++ fr ++ saidI t.items ++ saidT (t.tail.take i))) t.tail.length ⟨0, by omega, by omega, by first | (simp -dsimp only [↓bp, bq, br, afin, bsk, cWrites, opsWrites, pieceGh, rsk, ne_eq, if_true, if_false, exists_eq_left', forall_const, forall_eq, Nat.reduceLT, Int.reduceSub, Nat.reduceAdd, Nat.reduceSub, Nat.reduceMul, Nat.reduceLeDiff, Nat.reduceEqDiff, Nat.reduceBEq, Nat.reduceBNe, Int.reduceNeg, Int.reduceAdd, Int.reduceMul, Int.reduceLE, Int.reduceLT, Int.reduceEq, Int.reduceToNat, reduceIte, reduceCtorEq, tbTText]; done) | (simp -dsimp only [↓bp, bq, br, afin, bsk, cWrites, opsWrites, pieceGh, rsk, ne_eq, if_true, if_false, exists_eq_left', forall_const, forall_eq, Nat.reduceLT, Int.reduceSub, Nat.reduceAdd, Nat.reduceSub, Nat.reduceMul, Nat.reduceLeDiff, Nat.reduceEqDiff, Nat.reduceBEq, Nat.reduceBNe, Int.reduceNeg, Int.reduceAdd, Int.reduceMul, Int.reduceLE, Int.reduceLT, Int.reduceEq, Int.reduceToNat, reduceIte, reduceCtorEq, tbTText]; rfl), by simpa [saidT] using hBi⟩ ?_
    clear hBi k5 h17
    rintro n v2 σ3 ⟨i, hile, rfl, h32, hBi⟩
    simp -dsimp only [↓bp, bq, br, afin, bsk, cWrites, opsWrites, pieceGh, rsk, ne_eq, if_true, if_false, exists_eq_left', forall_const, forall_eq, Nat.reduceLT, Int.reduceSub, Nat.reduceAdd, Nat.reduceSub, Nat.reduceMul, Nat.reduceLeDiff, Nat.reduceEqDiff, Nat.reduceBEq, Nat.reduceBNe, Int.reduceNeg, Int.reduceAdd, Int.reduceMul, Int.reduceLE, Int.reduceLT, Int.reduceEq, Int.reduceToNat, reduceIte, reduceCtorEq, tbTText] at h32
    by_cases hlt : (i : Int) < t.tail.length
    · obtain ⟨x, hx⟩ : ∃ x, t.tail[i]? = some x := ⟨_, List.getElem?_eq_getElem (by omega)⟩
      have hxm : x ∈ t.tail := List.mem_of_getElem? hx
      have htk := saidT_take t.tail i x hx
      have hl2 := saidT_le t.tail (i + 1)
      have hPx := ht x hxm
      have hilt : i < t.tail.length := by omega
      have hw : IntKind.i64.wrap ((i : Int) + 1) = ((i + 1 : Nat) : Int) := by rw [wrap_nat (by omega) (by omega)]; rfl
      have hnext : ∀ s2 : AS, Bl σ1 s2 b (xs ++ fr ++ saidI t.items ++ saidT (t.tail.take (i + 1))) → ∃ m, m < t.tail.length - i ∧ ∃ i_1, i_1 ≤ t.tail.length ∧ m = t.tail.length - i_1 ∧ AV.int .i64 ((i + 1 : Nat) : Int) = .int .i64 i_1 ∧ Bl σ1 s2 b (xs ++ fr ++ saidI t.items ++ saidT (t.tail.take i_1)) := fun s2 h2 =>
        ⟨t.tail.length - (i + 1), by omega, i + 1, by omega, rfl, rfl, h2⟩
      clear hi ht
      simp -dsimp only [↓bp, bq, br, afin, bsk, cWrites, opsWrites, pieceGh, rsk, ne_eq, if_true, if_false, exists_eq_left', forall_const, forall_eq, Nat.reduceLT, Int.reduceSub, Nat.reduceAdd, Nat.reduceSub, Nat.reduceMul, Nat.reduceLeDiff, Nat.reduceEqDiff, Nat.reduceBEq, Nat.reduceBNe, Int.reduceNeg, Int.reduceAdd, Int.reduceMul, Int.reduceLE, Int.reduceLT, Int.reduceEq, Int.reduceToNat, reduceIte, reduceCtorEq, tbTText, h32, hlt, hx]
      refine newT_plain fun b9 h9 => ?_
      have hB9 := hBi.newBox h9 [.int .u8 x.knd, .bool x.neg, lims x.limbs, .str x.text, .int .i64 x.num, encs x.items, encs x.tail]
      have hle2 : σ1.le (σ1.setBox b9 [.int .u8 x.knd, .bool x.neg, lims x.limbs, .str x.text, .int .i64 x.num, encs x.items, encs x.tail]) := (AS.le.refl σ1).setBox (hBi.le.fresh h9).1 _
      have hb9 : (σ1.setBox b9 [.int .u8 x.knd, .bool x.neg, lims x.limbs, .str x.text, .int .i64 x.num, encs x.items, encs x.tail]).box b9 = some [.int .u8 x.knd, .bool x.neg, lims x.limbs, .str x.text, .int .i64 x.num, encs x.items, encs x.tail] := by simp [AS.setBox]
      have hF2 := hF1.up hle2
      generalize σ1.setBox b9 _ = σ2 at *
      simp -dsimp only [↓bp, bq, br, afin, bsk, cWrites, opsWrites, pieceGh, rsk, ne_eq, if_true, if_false, exists_eq_left', forall_const, forall_eq, Nat.reduceLT, Int.reduceSub, Nat.reduceAdd, Nat.reduceSub, Nat.reduceMul, Nat.reduceLeDiff, Nat.reduceEqDiff, Nat.reduceBEq, Nat.reduceBNe, Int.reduceNeg, Int.reduceAdd, Int.reduceMul, Int.reduceLE, Int.reduceLT, Int.reduceEq, Int.reduceToNat, reduceIte, reduceCtorEq, tbTText, h32, hlt, hx]
      generalize σ3.setBox b9 _ = s2 at *
      have h9b : s2.box b9 = some [.int .u8 x.knd, .bool x.neg, lims x.limbs, .str x.text, .int .i64 x.num, encs x.items, encs x.tail] := hB9.le.box _ _ hb9
      have h9p : s2.box p = some [.fn 46 [.ptr b 0, .ptr q 0]] := hB9.le.box _ _ hF2.put
      rw [htk] at hnext hl2
      rw [List.length_append, List.length_cons] at hl2
      clear hlt hBi
      repeat' (first
    | with_reducible refine condW_both (fun _ _ => ?_) (fun _ _ => ?_)
    | with_reducible refine gW_both (fun _ _ => ?_) (fun _ _ => ?_)
    | with_reducible refine condW_split (fun _ => ?_) (fun _ => ?_)
    | with_reducible refine gW_split (fun _ => ?_) (fun _ => ?_)
    | with_reducible refine pickW_split (fun _ => ?_) (fun _ => ?_)
    | (refine newW_intro ?_; intro bx hbx; (try simp only [fresh_box, fresh_tip, fresh_ty] at hbx))
    | (refine newT_plain ?_; intro bx hbx; (try simp only [fresh_box, fresh_tip, fresh_ty] at hbx))
    | ((refine Tri.mono (wb hB9 (by simp only [List.length_append]; omega) 124 124 rfl) ?_; rintro r s3 hB3; have h9b := hB3.le.box _ _ hb9; have h9p := hB3.le.box _ _ hF2.put; clear hB9))
    | ((refine Tri.mono (hPx σ2 _ b p q _ hF2 hB3 (by simp only [List.length_append, List.length_cons, List.length_nil]; omega)) ?_; rintro r s4 hB4))
    | refine storeX_w ?_
    | ((with_reducible refine And.intro ?_ ?_); omega)
    | refine bo_buildSlice (d' := ⟨⟩) ?_
    | (refine draw_all (by kernel_rfl) ?_)
    | refine finish_pure ?_ (by repeat' (first | exact AS.le.refl _ | assumption | (refine le_set (by first | assumption | (simp only [*]; done) | exact AS.le.fresh (by assumption) (by simp only [*])) ?_) | (refine le_ty (by first | assumption | (simp only [*]; done) | exact AS.le.fresh (by assumption) (by simp only [*])) ?_)))
    | simp -dsimp only [↓bp, bq, br, afin, bsk, cWrites, opsWrites, pieceGh, rsk, ne_eq, if_true, if_false, exists_eq_left', forall_const, forall_eq, Nat.reduceLT, Int.reduceSub, Nat.reduceAdd, Nat.reduceSub, Nat.reduceMul, Nat.reduceLeDiff, Nat.reduceEqDiff, Nat.reduceBEq, Nat.reduceBNe, Int.reduceNeg, Int.reduceAdd, Int.reduceMul, Int.reduceLE, Int.reduceLT, Int.reduceEq, Int.reduceToNat, reduceIte, reduceCtorEq, tbTText, *])
      try rw [hw]
      exact hnext _ (by have := hB4.weaken hle2; simpa using this)
    · have : i = t.tail.length := by omega
      subst this
      rw [List.take_length] at hBi
      clear hlt hile hi ht
      have hirr2 := eq_false (Int.lt_irrefl (t.tail.length : Int))
      simp -dsimp only [↓bp, bq, br, afin, bsk, cWrites, opsWrites, pieceGh, rsk, ne_eq, if_true, if_false, exists_eq_left', forall_const, forall_eq, Nat.reduceLT, Int.reduceSub, Nat.reduceAdd, Nat.reduceSub, Nat.reduceMul, Nat.reduceLeDiff, Nat.reduceEqDiff, Nat.reduceBEq, Nat.reduceBNe, Int.reduceNeg, Int.reduceAdd, Int.reduceMul, Int.reduceLE, Int.reduceLT, Int.reduceEq, Int.reduceToNat, reduceIte, reduceCtorEq, tbTText, h32, hirr2]
      repeat' (first
    | with_reducible refine condW_both (fun _ _ => ?_) (fun _ _ => ?_)
    | with_reducible refine gW_both (fun _ _ => ?_) (fun _ _ => ?_)
    | with_reducible refine condW_split (fun _ => ?_) (fun _ => ?_)
    | with_reducible refine gW_split (fun _ => ?_) (fun _ => ?_)
    | with_reducible refine pickW_split (fun _ => ?_) (fun _ => ?_)
    | (refine newW_intro ?_; intro bx hbx; (try simp only [fresh_box, fresh_tip, fresh_ty] at hbx))
    | (refine newT_plain ?_; intro bx hbx; (try simp only [fresh_box, fresh_tip, fresh_ty] at hbx))
    | ((refine Tri.mono (writeString_tri _ hBi to (by simp only [List.length_append]; omega)) ?_; rintro r s3 hB3))
    | refine storeX_w ?_
    | ((with_reducible refine And.intro ?_ ?_); omega)
    | refine bo_buildSlice (d' := ⟨⟩) ?_
    | (refine draw_all (by kernel_rfl) ?_)
    | refine finish_pure ?_ (by repeat' (first | exact AS.le.refl _ | assumption | (refine le_set (by first | assumption | (simp only [*]; done) | exact AS.le.fresh (by assumption) (by simp only [*])) ?_) | (refine le_ty (by first | assumption | (simp only [*]; done) | exact AS.le.fresh (by assumption) (by simp only [*])) ?_)))
    | simp -dsimp only [↓bp, bq, br, afin, bsk, cWrites, opsWrites, pieceGh, rsk, ne_eq, if_true, if_false, exists_eq_left', forall_const, forall_eq, Nat.reduceLT, Int.reduceSub, Nat.reduceAdd, Nat.reduceSub, Nat.reduceMul, Nat.reduceLeDiff, Nat.reduceEqDiff, Nat.reduceBEq, Nat.reduceBNe, Int.reduceNeg, Int.reduceAdd, Int.reduceMul, Int.reduceLE, Int.reduceLT, Int.reduceEq, Int.reduceToNat, reduceIte, reduceCtorEq, tbTText, *])
      exact finishW_some _ (AS.le.refl _) (hB3.weaken hle1)
end Go.Proofs.YtpginpbcndlfmaaDoor
