/- Right terms, and their size. -/
import Derived.Test.YtpginpbcndlfmaaDoorZSize
set_option linter.unusedVariables false
set_option linter.unusedSimpArgs false
set_option maxRecDepth 20000
set_option linter.defProp false
namespace Go.Proofs.YtpginpbcndlfmaaDoor
open Go Go.Av
def tbSize2 := And.intro (And.intro (And.intro (And.intro @tf3 @tf4) (And.intro @tf5 (And.intro @tf61 @tf9))) (And.intro (And.intro @tf38 (And.intro @tf37 @tf22)) (And.intro @tf40 (And.intro @Term.flat_enc @Term.isv_enc)))) (And.intro (And.intro (And.intro @Term.fold_enc (And.intro @isv_encs @flat_encs)) (And.intro @len_encs (And.intro @ix_encs @ix_encs'))) (And.intro (And.intro @isv_lims (And.intro @flat_lims @len_lims)) (And.intro @ix_lims (And.intro @ix_lims' @flat_limA))))
variable (G : Nat → AV)
/-- what is known of a term by what it has itself: how much it counts at first, and each item, and whether it may be -/
def head (t : Term) : Int × Int × Bool :=
  if t.knd = 2 then (1, 0, bare t true false false false && decide ((t.text.length : Int) ≤ 40))
  else if t.knd = 3 ∨ t.knd = 5 then (1, 0, bare t false true false false && decide (0 ≤ t.num) && decide (t.num ≤ 1099511627776))
  else if t.knd = 4 then (2, 0, bare t false true true false && decide (0 ≤ t.num) && decide (t.num ≤ 16384))
  else if t.knd = 6 then (1, 0, bare t false false true false)
  else if t.knd = 7 then (1, 1, bare t false false true true && decide ((t.tail.length : Int) ≤ if (t.items.length : Int) < 1 then (t.items.length : Int) else 1) && t.tail.all fun x => decide (x.knd ≠ 7))
  else (1, 0, false)
mutual
/-- a right term's size; 0: it is not right -/
def size : Term → Int
  | .mk k g l s n ks ts =>
    if (k.toNat : Int) = 1 then (if wr (.mk k g l s n ks ts) = true then 1 + l.length else 0) else
      let h := head (.mk k g l s n ks ts)
      let a := adds ks h.2.1 (h.1, h.2.2)
      let b := adds ts 0 a
      if b.2 = true then b.1 else 0
def adds : List Term → Int → Int × Bool → Int × Bool
  | [], _, a => a
  | k :: ks, each, a => if a.2 = true then adds ks each (a.1 + size k + each, decide (0 < size k) && decide (a.1 + size k + each ≤ 4096)) else a
end
theorem size_eq (t : Term) : size t = if t.knd = 1 then (if wr t = true then (1 + t.limbs.length : Int) else 0) else
    if (adds t.tail 0 (adds t.items (head t).2.1 ((head t).1, (head t).2.2))).2 = true then (adds t.tail 0 (adds t.items (head t).2.1 ((head t).1, (head t).2.2))).1 else 0 := by
  cases t; rw [size]; rfl
theorem adds_le (l : List Term) (h : ∀ x, x ∈ l → 0 ≤ size x ∧ size x ≤ 4096) (each : Int) (he0 : 0 ≤ each) (he1 : each ≤ 1) : ∀ a : Int × Bool, 0 < a.1 → (a.2 = true → a.1 ≤ 4096) → a.1 ≤ 10000 →
    0 < (adds l each a).1 ∧ ((adds l each a).2 = true → (adds l each a).1 ≤ 4096) ∧ (adds l each a).1 ≤ 10000 := by
  induction l with
  | nil => intro a h1 h2 h3; exact ⟨h1, h2, h3⟩
  | cons x l ih =>
    intro a h1 h2 h3
    have hx := h x (by simp)
    simp only [adds]
    split
    · rename_i hf
      have := h2 hf
      refine ih (fun y hy => h y (by simp [hy])) _ (by simp only; omega) (fun hh => ?_) (by simp only; omega)
      simp only [Bool.and_eq_true, decide_eq_true_eq] at hh
      exact hh.2
    · exact ⟨h1, h2, h3⟩
theorem head_le (t : Term) : 0 < (head t).1 ∧ (head t).1 ≤ 2 ∧ 0 ≤ (head t).2.1 ∧ (head t).2.1 ≤ 1 := by
  unfold head; split <;> (try split) <;> (try split) <;> (try split) <;> (try split) <;> simp
theorem size_le (t : Term) : 0 ≤ size t ∧ size t ≤ 4096 := by
  refine Term.ind (P := fun t => 0 ≤ size t ∧ size t ≤ 4096) (fun t ih1 ih2 => ?_) t
  obtain ⟨h1, h2, h3, h4⟩ := head_le t
  have a := adds_le t.items ih1 _ h3 h4 ((head t).1, (head t).2.2) h1 (fun _ => by simp only; omega) (by simp only; omega)
  have b := adds_le t.tail ih2 0 (by omega) (by omega) _ a.1 a.2.1 a.2.2
  rw [size_eq]
  split
  · split
    · rename_i hw
      simp only [wr, Bool.and_eq_true, decide_eq_true_eq] at hw
      omega
    · omega
  · split
    · rename_i hf
      have := b.2.1 hf
      omega
    · omega
theorem adds_false (l : List Term) (each n : Int) : adds l each (n, false) = (n, false) := by cases l <;> simp [adds]
/-- the closure that counts -/
theorem adds_tri (l : List Term) (each : Int) (he0 : 0 ≤ each) (he1 : each ≤ 1) (hl : l.length ≤ 1000000000) (hf : ∀ x, x ∈ l → Pure Tryd.prog G 43 [x.enc] (.int .i64 (size x))) (σ : AS) (bf bn : Nat) (hne : bf ≠ bn) (n : Int) (f : Bool)
    (hbf : σ.box bf = some [.bool f]) (hbn : σ.box bn = some [.int .i64 n]) (hn0 : 0 < n) (hn1 : f = true → n ≤ 4096) (hn2 : n ≤ 10000) :
    Tri Tryd.prog G 56 [encs l, .int .i64 each, .ptr bf 0, .ptr bn 0] σ fun r σ' => σ' = (σ.setBox bn [.int .i64 (adds l each (n, f)).1]).setBox bf [.bool (adds l each (n, f)).2] := by
  have hnb : bn ≠ bf := Ne.symm hne
  have hid : σ = (σ.setBox bn [.int .i64 n]).setBox bf [.bool f] := by
    unfold AS.setBox; cases σ with
    | mk box tip ty =>
      simp only [AS.mk.injEq, and_true]
      funext i
      split
      · rename_i h; subst h; exact hbf
      · split
        · rename_i h; subst h; exact hbn
        · rfl
  have sw : ∀ (m m' : Int) (g g' : Bool), (((σ.setBox bn [.int .i64 m]).setBox bf [.bool g]).setBox bn [.int .i64 m']).setBox bf [.bool g'] = (σ.setBox bn [.int .i64 m']).setBox bf [.bool g'] := fun m m' g g' => by
    unfold AS.setBox
    congr 1
    funext i
    simp only
    by_cases h1 : i = bf
    · simp [h1]
    · by_cases h2 : i = bn
      · simp [h1, h2]
      · simp [h1, h2]
  refine Tri.of_awp mixed Tryd.func56 rfl (by kernel_rfl) (by kernel_rfl) (by simp [Tryd.ntmps56]) Tryd.results56 ?_
  simp -dsimp only [↓bp, bq, br, afin, bsk, cWrites, opsWrites, pieceGh, rsk, ne_eq, if_true, if_false, exists_eq_left', forall_const, forall_eq, Nat.reduceLT, Int.reduceSub, Nat.reduceAdd, Nat.reduceSub, Nat.reduceMul, Nat.reduceLeDiff, Nat.reduceEqDiff, Nat.reduceBEq, Nat.reduceBNe, Int.reduceNeg, Int.reduceAdd, Int.reduceMul, Int.reduceLE, Int.reduceLT, Int.reduceEq, Int.reduceToNat, reduceIte, reduceCtorEq, tbSize2]
  refine loop_intro (fun k e σ' => ∃ (i : Nat) (a : Int × Bool), i ≤ l.length ∧ k = l.length - i ∧ e 6 = .int .i64 i ∧ 0 < a.1 ∧ (a.2 = true → a.1 ≤ 4096) ∧ a.1 ≤ 10000 ∧ adds (l.drop i) each a = adds l each (n, f) ∧ σ' = (σ.setBox bn [.int .i64 a.1]).setBox bf [.bool a.2]) l.length
    ⟨0, (n, f), by omega, by omega, by simp -dsimp only [↓bp, bq, br, afin, bsk, cWrites, opsWrites, pieceGh, rsk, ne_eq, if_true, if_false, exists_eq_left', forall_const, forall_eq, Nat.reduceLT, Int.reduceSub, Nat.reduceAdd, Nat.reduceSub, Nat.reduceMul, Nat.reduceLeDiff, Nat.reduceEqDiff, Nat.reduceBEq, Nat.reduceBNe, Int.reduceNeg, Int.reduceAdd, Int.reduceMul, Int.reduceLE, Int.reduceLT, Int.reduceEq, Int.reduceToNat, reduceIte, reduceCtorEq, tbSize2]; rfl, hn0, hn1, hn2, by rw [List.drop_zero], hid⟩ ?_
  rintro k v σ' ⟨i, ⟨m, g⟩, hi, rfl, h6, hm0, hm1, hm2, ha, rfl⟩
  simp only at hm0 hm1 hm2 ⊢
  simp -dsimp only [↓bp, bq, br, afin, bsk, cWrites, opsWrites, pieceGh, rsk, ne_eq, if_true, if_false, exists_eq_left', forall_const, forall_eq, Nat.reduceLT, Int.reduceSub, Nat.reduceAdd, Nat.reduceSub, Nat.reduceMul, Nat.reduceLeDiff, Nat.reduceEqDiff, Nat.reduceBEq, Nat.reduceBNe, Int.reduceNeg, Int.reduceAdd, Int.reduceMul, Int.reduceLE, Int.reduceLT, Int.reduceEq, Int.reduceToNat, reduceIte, reduceCtorEq, tbSize2] at h6
  simp -dsimp only [↓bp, bq, br, afin, bsk, cWrites, opsWrites, pieceGh, rsk, ne_eq, if_true, if_false, exists_eq_left', forall_const, forall_eq, Nat.reduceLT, Int.reduceSub, Nat.reduceAdd, Nat.reduceSub, Nat.reduceMul, Nat.reduceLeDiff, Nat.reduceEqDiff, Nat.reduceBEq, Nat.reduceBNe, Int.reduceNeg, Int.reduceAdd, Int.reduceMul, Int.reduceLE, Int.reduceLT, Int.reduceEq, Int.reduceToNat, reduceIte, reduceCtorEq, tbSize2, h6]
  refine gW_dec (fun hlt => ?_) (fun hge => ?_)
  · obtain ⟨x, hx⟩ : ∃ x, l[i]? = some x := ⟨_, List.getElem?_eq_getElem (by omega)⟩
    have hxm : x ∈ l := List.mem_of_getElem? hx
    have hs := size_le x
    have hdr := drop_get _ _ _ hx
    have hp := hf x hxm
    cases g with
    | false =>
      simp -dsimp only [↓bp, bq, br, afin, bsk, cWrites, opsWrites, pieceGh, rsk, ne_eq, if_true, if_false, exists_eq_left', forall_const, forall_eq, Nat.reduceLT, Int.reduceSub, Nat.reduceAdd, Nat.reduceSub, Nat.reduceMul, Nat.reduceLeDiff, Nat.reduceEqDiff, Nat.reduceBEq, Nat.reduceBNe, Int.reduceNeg, Int.reduceAdd, Int.reduceMul, Int.reduceLE, Int.reduceLT, Int.reduceEq, Int.reduceToNat, reduceIte, reduceCtorEq, tbSize2, h6, hx, hlt, hne, hnb]
      refine ⟨_, _, rfl, AS.le.refl _, ?_⟩
      rw [← ha, adds_false]
    | true =>
      have hm1 := hm1 rfl
      have hw1 : IntKind.i64.wrap (size x + each) = size x + each := wrap_nat (by omega) (by omega)
      have hw2 : IntKind.i64.wrap (m + (size x + each)) = m + size x + each := by rw [wrap_nat (by omega) (by omega)]; omega
      simp -dsimp only [↓bp, bq, br, afin, bsk, cWrites, opsWrites, pieceGh, rsk, ne_eq, if_true, if_false, exists_eq_left', forall_const, forall_eq, Nat.reduceLT, Int.reduceSub, Nat.reduceAdd, Nat.reduceSub, Nat.reduceMul, Nat.reduceLeDiff, Nat.reduceEqDiff, Nat.reduceBEq, Nat.reduceBNe, Int.reduceNeg, Int.reduceAdd, Int.reduceMul, Int.reduceLE, Int.reduceLT, Int.reduceEq, Int.reduceToNat, reduceIte, reduceCtorEq, tbSize2, h6, hx, hlt, hne, hnb]
      refine Pure.use hp ?_
      simp -dsimp only [↓bp, bq, br, afin, bsk, cWrites, opsWrites, pieceGh, rsk, ne_eq, if_true, if_false, exists_eq_left', forall_const, forall_eq, Nat.reduceLT, Int.reduceSub, Nat.reduceAdd, Nat.reduceSub, Nat.reduceMul, Nat.reduceLeDiff, Nat.reduceEqDiff, Nat.reduceBEq, Nat.reduceBNe, Int.reduceNeg, Int.reduceAdd, Int.reduceMul, Int.reduceLE, Int.reduceLT, Int.reduceEq, Int.reduceToNat, reduceIte, reduceCtorEq, tbSize2, h6, hx, hlt, hne, hnb, hw1, hw2]
      have hnx : adds (l.drop (i + 1)) each (m + size x + each, decide (0 < size x) && decide (m + size x + each ≤ 4096)) = adds l each (n, f) := by rw [← ha, hdr]; simp [adds]
      refine gW_dec (fun h0 => ?_) (fun h0 => ?_)
      · simp -dsimp only [↓bp, bq, br, afin, bsk, cWrites, opsWrites, pieceGh, rsk, ne_eq, if_true, if_false, exists_eq_left', forall_const, forall_eq, Nat.reduceLT, Int.reduceSub, Nat.reduceAdd, Nat.reduceSub, Nat.reduceMul, Nat.reduceLeDiff, Nat.reduceEqDiff, Nat.reduceBEq, Nat.reduceBNe, Int.reduceNeg, Int.reduceAdd, Int.reduceMul, Int.reduceLE, Int.reduceLT, Int.reduceEq, Int.reduceToNat, reduceIte, reduceCtorEq, tbSize2, h6, hx, hlt, hne, hnb, hw1, hw2, h0]
        refine ⟨l.length - (i + 1), by omega, i + 1, (m + size x + each, decide (0 < size x) && decide (m + size x + each ≤ 4096)), by omega, rfl, by rw [wrap_nat (by omega) (by omega)]; rfl, by simp only; omega, ?_, by simp only; omega, hnx, ?_⟩
        · intro hh
          simp only [Bool.and_eq_true, decide_eq_true_eq] at hh
          exact hh.2
        · simp only [h0, decide_true, Bool.true_and]
          exact sw _ _ _ _
      · simp -dsimp only [↓bp, bq, br, afin, bsk, cWrites, opsWrites, pieceGh, rsk, ne_eq, if_true, if_false, exists_eq_left', forall_const, forall_eq, Nat.reduceLT, Int.reduceSub, Nat.reduceAdd, Nat.reduceSub, Nat.reduceMul, Nat.reduceLeDiff, Nat.reduceEqDiff, Nat.reduceBEq, Nat.reduceBNe, Int.reduceNeg, Int.reduceAdd, Int.reduceMul, Int.reduceLE, Int.reduceLT, Int.reduceEq, Int.reduceToNat, reduceIte, reduceCtorEq, tbSize2, h6, hx, hlt, hne, hnb, hw1, hw2, h0]
        refine ⟨l.length - (i + 1), by omega, i + 1, (m + size x + each, decide (0 < size x) && decide (m + size x + each ≤ 4096)), by omega, rfl, by rw [wrap_nat (by omega) (by omega)]; rfl, by simp only; omega, ?_, by simp only; omega, hnx, ?_⟩
        · intro hh
          simp only [Bool.and_eq_true, decide_eq_true_eq] at hh
          exact hh.2
        · simp only [h0, decide_false, Bool.false_and]
          exact sw _ _ _ _
  · have : i = l.length := by omega
    subst this
    rw [List.drop_length] at ha
    simp -dsimp only [↓bp, bq, br, afin, bsk, cWrites, opsWrites, pieceGh, rsk, ne_eq, if_true, if_false, exists_eq_left', forall_const, forall_eq, Nat.reduceLT, Int.reduceSub, Nat.reduceAdd, Nat.reduceSub, Nat.reduceMul, Nat.reduceLeDiff, Nat.reduceEqDiff, Nat.reduceBEq, Nat.reduceBNe, Int.reduceNeg, Int.reduceAdd, Int.reduceMul, Int.reduceLE, Int.reduceLT, Int.reduceEq, Int.reduceToNat, reduceIte, reduceCtorEq, tbSize2, h6, hge]
    refine ⟨_, _, rfl, AS.le.refl _, ?_⟩
    rw [← ha]; rfl
end Go.Proofs.YtpginpbcndlfmaaDoor
