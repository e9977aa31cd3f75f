/- The reference's size, plainly, and that it is ours where a term is right. -/
import Derived.Test.YtjnhalmeddafdaaDoorZOrd
import Derived.Test.YtjnhalmeddafdaaDoorZGreat2
set_option linter.unusedVariables false
set_option linter.unusedSimpArgs false
set_option linter.defProp false
namespace Go.Proofs.YtjnhalmeddafdaaDoor
open Go Go.Av
mutual
/-- a term's size, if it is right but for being too great; -1: it is not right -/
def rsize : Term → Int
  | .mk k g l s n ks ts =>
    if (k.toNat : Int) = 1 then (if wr (.mk k g l s n ks ts) = true then 1 + l.length else -1)
    else if (head (.mk k g l s n ks ts)).2.2 = false then -1
    else if ritems ks (head (.mk k g l s n ks ts)).1 (head (.mk k g l s n ks ts)).2.1 < 0 then -1
    else ritems ts (ritems ks (head (.mk k g l s n ks ts)).1 (head (.mk k g l s n ks ts)).2.1) 0
/-- so much already, and the sizes of some, each with so much more -/
def ritems : List Term → Int → Int → Int
  | [], n, _ => n
  | x :: l, n, each => if rsize x < 0 then -1 else ritems l (n + rsize x + each) each
end
theorem rsize_eq (t : Term) : rsize t = if t.knd = 1 then (if wr t = true then (1 + t.limbs.length : Int) else -1) else if (head t).2.2 = false then -1
    else if ritems t.items (head t).1 (head t).2.1 < 0 then -1 else ritems t.tail (ritems t.items (head t).1 (head t).2.1) 0 := by
  cases t; rw [rsize]; rfl
/-- how the two sizes stand to each other -/
def SR (s r : Int) : Prop := 0 < s ∧ r = s ∧ s ≤ 4096 ∨ s = 0 ∧ (r = -1 ∨ 4096 < r)
theorem ritems_ge (l : List Term) (each : Int) (he : 0 ≤ each) (h : ∀ x, x ∈ l → rsize x = -1 ∨ 0 < rsize x) : ∀ n, ritems l n each = -1 ∨ n ≤ ritems l n each := by
  induction l with
  | nil => intro n; exact .inr (Int.le_refl _)
  | cons x l ih =>
    intro n
    simp only [ritems]
    have hx := h x (by simp)
    have h2 := ih (fun y hy => h y (by simp [hy])) (n + rsize x + each)
    split <;> omega
theorem SR.pos {s r : Int} (h : SR s r) : r = -1 ∨ 0 < r := by unfold SR at h; omega
theorem adds_ritems (l : List Term) (each : Int) (he : 0 ≤ each) (h : ∀ x, x ∈ l → SR (size x) (rsize x)) : ∀ n, 0 < n → n ≤ 4096 →
    ((adds l each (n, true)).2 = true ∧ ritems l n each = (adds l each (n, true)).1) ∨ ((adds l each (n, true)).2 = false ∧ (ritems l n each = -1 ∨ 4096 < ritems l n each)) := by
  induction l with
  | nil => intro n _ _; exact .inl ⟨rfl, rfl⟩
  | cons x l ih =>
    intro n h0 h1
    have hx := h x (by simp)
    have hp : ∀ y, y ∈ l → rsize y = -1 ∨ 0 < rsize y := fun y hy => (h y (by simp [hy])).pos
    simp only [adds, ritems, if_true]
    have hge := ritems_ge l each he hp
    unfold SR at hx
    rcases hx with ⟨a, b, c⟩ | ⟨a, b⟩
    · rw [b, if_neg (by omega)]
      by_cases hc : n + size x + each ≤ 4096
      · rw [decide_eq_true a, decide_eq_true hc]
        exact ih (fun y hy => h y (by simp [hy])) _ (by omega) hc
      · rw [decide_eq_false hc, Bool.and_false, adds_false]
        have := hge (n + size x + each)
        exact .inr ⟨rfl, by omega⟩
    · rw [a]
      have e : decide ((0 : Int) < 0) = false := rfl
      rw [e, Bool.false_and, adds_false]
      refine .inr ⟨rfl, ?_⟩
      split
      · exact .inl rfl
      · have := hge (n + rsize x + each)
        omega
theorem adds_false' (l : List Term) (a : Int × Bool) (h : a.2 = false) : adds l 0 a = (a.1, a.2) := by
  have e : a = (a.1, false) := by rw [← h]
  rw [e, adds_false]
theorem size_rsize (t : Term) : SR (size t) (rsize t) := by
  refine Term.ind (P := fun t => SR (size t) (rsize t)) (fun t ih1 ih2 => ?_) t
  obtain ⟨h1, h2, h3, h4⟩ := head_le t
  rw [size_eq, rsize_eq]
  by_cases k1 : t.knd = 1
  · rw [if_pos k1, if_pos k1]
    by_cases hw : wr t = true
    · rw [if_pos hw, if_pos hw]
      have := (wr_spec hw).2.2.2.2.2.1
      unfold SR; omega
    · rw [if_neg hw, if_neg hw]
      unfold SR; omega
  · rw [if_neg k1, if_neg k1]
    cases hh : (head t).2.2
    · rw [adds_false, adds_false]
      simp [SR]
    · have a := adds_ritems t.items (head t).2.1 h3 ih1 (head t).1 h1 (by omega)
      rw [if_neg (show ¬ (true = false) by decide)]
      have hge1 := ritems_ge t.items (head t).2.1 h3 (fun y hy => (ih1 y hy).pos) (head t).1
      have hge2 := ritems_ge t.tail 0 (by omega) (fun y hy => (ih2 y hy).pos)
      have hle := adds_le t.items (fun x hx => size_le x) (head t).2.1 h3 h4 ((head t).1, true) h1 (fun _ => by simp only; omega) (by simp only; omega)
      rcases a with ⟨a1, a2⟩ | ⟨a1, a2⟩
      · rw [a2]
        obtain ⟨p, hp⟩ : ∃ p, p = adds t.items (head t).2.1 ((head t).1, true) := ⟨_, rfl⟩
        rw [← hp] at a1 a2 hle ⊢
        have ep : p = (p.1, true) := by rw [← a1]
        rw [if_neg (show ¬ p.1 < 0 by omega)]
        have b := adds_ritems t.tail 0 (by omega) ih2 p.1 hle.1 (hle.2.1 a1)
        rw [← ep] at b
        have hle2 := adds_le t.tail (fun x hx => size_le x) 0 (by omega) (by omega) p hle.1 hle.2.1 hle.2.2
        rcases b with ⟨b1, b2⟩ | ⟨b1, b2⟩
        · rw [if_pos b1, b2]
          have := hle2.2.1 b1
          exact .inl ⟨hle2.1, rfl, this⟩
        · rw [if_neg (by simp [b1])]
          exact .inr ⟨rfl, b2⟩
      · have e : adds t.tail 0 (adds t.items (head t).2.1 ((head t).1, true)) = ((adds t.items (head t).2.1 ((head t).1, true)).1, false) := by
          rw [← a1]; exact adds_false' _ _ a1
        rw [e, if_neg (by simp)]
        refine .inr ⟨rfl, ?_⟩
        split
        · exact .inl rfl
        · have := hge2 (ritems t.items (head t).1 (head t).2.1)
          omega
theorem right_rsize (t : Term) : right t = (decide (0 < rsize t) && decide (rsize t ≤ 4096)) := by
  have h := size_rsize t
  unfold SR at h
  unfold right
  rw [Bool.eq_iff_iff]
  simp only [Bool.and_eq_true, decide_eq_true_eq]
  omega
end Go.Proofs.YtjnhalmeddafdaaDoor
set_option linter.unusedVariables false
set_option linter.unusedSimpArgs false
set_option maxRecDepth 20000
namespace Go.Proofs.YtjnhalmeddafdaaDoor
open Go Go.Av
def tbRefE := And.intro (And.intro (And.intro (And.intro @tf3 @tf4) (And.intro @tf5 (And.intro @tf44 @tf9))) (And.intro (And.intro @tf23 (And.intro @tf22 @tf24)) (And.intro @tf26 (And.intro @Term.flat_enc @Term.isv_enc)))) (And.intro (And.intro (And.intro @Term.fold_enc (And.intro @isv_encs @flat_encs)) (And.intro @len_encs (And.intro @ix_encs @ix_encs'))) (And.intro (And.intro @isv_lims (And.intro @flat_lims @len_lims)) (And.intro @ix_lims (And.intro @ix_lims' @flat_limA))))
theorem ritems_le (l : List Term) (each : Int) (he0 : 0 ≤ each) (he : each ≤ 1) (h : ∀ x, x ∈ l → -1 ≤ rsize x ∧ rsize x + 1 ≤ 3 * x.bulk) : ∀ n, 0 ≤ n → -1 ≤ ritems l n each ∧ ritems l n each ≤ n + 3 * bulks l := by
  induction l with
  | nil => intro n hn; simp only [ritems, bulks]; omega
  | cons x l ih =>
    intro n hn
    have hx := h x (by simp)
    simp only [ritems, bulks]
    split
    · omega
    · have := ih (fun y hy => h y (by simp [hy])) (n + rsize x + each) (by omega)
      omega
theorem rsize_le (t : Term) : -1 ≤ rsize t ∧ rsize t + 1 ≤ 3 * t.bulk := by
  refine Term.ind (P := fun t => -1 ≤ rsize t ∧ rsize t + 1 ≤ 3 * t.bulk) (fun t ih1 ih2 => ?_) t
  obtain ⟨h1, h2, h3, h4⟩ := head_le t
  have hb := t.bulk_eq
  rw [rsize_eq]
  split
  · split <;> omega
  · split
    · omega
    · have a := ritems_le t.items (head t).2.1 h3 h4 ih1 (head t).1 (by omega)
      split
      · omega
      · have b := ritems_le t.tail 0 (by omega) (by omega) ih2 (ritems t.items (head t).1 (head t).2.1) (by omega)
        omega
variable (G : Nat → AV)
theorem items_pure (l : List Term) (n each : Int) (he0 : 0 ≤ each) (he : each ≤ 1) (hn0 : 0 ≤ n) (hn : n ≤ 100000000000) (hb : bulks l ≤ 1000000000) (h : ∀ x, x ∈ l → Pure Tryd.prog G 60 [x.enc] (.int .i64 (rsize x))) :
    Pure Tryd.prog G 83 [encs l, .int .i64 n, .int .i64 each] (.int .i64 (ritems l n each)) := by
  intro σ
  have hll := len_le_bulks l
  refine Tri.of_awp mixed Tryd.func83 rfl (by kernel_rfl) (by kernel_rfl) (by simp [Tryd.ntmps83]) Tryd.results83 ?_
  simp -dsimp only [↓bp, bq, br, afin, bsk, cWrites, opsWrites, pieceGh, rsk, ne_eq, if_true, if_false, exists_eq_left', forall_const, forall_eq, Nat.reduceLT, Int.reduceSub, Nat.reduceAdd, Nat.reduceSub, Nat.reduceMul, Nat.reduceLeDiff, Nat.reduceEqDiff, Nat.reduceBEq, Nat.reduceBNe, Int.reduceNeg, Int.reduceAdd, Int.reduceMul, Int.reduceLE, Int.reduceLT, Int.reduceEq, Int.reduceToNat, reduceIte, reduceCtorEq, tbRefE]
  refine loop_keep mixed (fun k e => ∃ (i : Nat) (m : Int), i ≤ l.length ∧ k = l.length - i ∧ e 7 = .int .i64 i ∧ e 1 = .int .i64 m ∧ 0 ≤ m ∧ m ≤ n + 3 * bulks (l.take i) ∧ ritems (l.drop i) m each = ritems l n each) l.length
    ⟨0, n, by omega, by omega, by simp -dsimp only [↓bp, bq, br, afin, bsk, cWrites, opsWrites, pieceGh, rsk, ne_eq, if_true, if_false, exists_eq_left', forall_const, forall_eq, Nat.reduceLT, Int.reduceSub, Nat.reduceAdd, Nat.reduceSub, Nat.reduceMul, Nat.reduceLeDiff, Nat.reduceEqDiff, Nat.reduceBEq, Nat.reduceBNe, Int.reduceNeg, Int.reduceAdd, Int.reduceMul, Int.reduceLE, Int.reduceLT, Int.reduceEq, Int.reduceToNat, reduceIte, reduceCtorEq, tbRefE]; first | done | rfl, by simp -dsimp only [↓bp, bq, br, afin, bsk, cWrites, opsWrites, pieceGh, rsk, ne_eq, if_true, if_false, exists_eq_left', forall_const, forall_eq, Nat.reduceLT, Int.reduceSub, Nat.reduceAdd, Nat.reduceSub, Nat.reduceMul, Nat.reduceLeDiff, Nat.reduceEqDiff, Nat.reduceBEq, Nat.reduceBNe, Int.reduceNeg, Int.reduceAdd, Int.reduceMul, Int.reduceLE, Int.reduceLT, Int.reduceEq, Int.reduceToNat, reduceIte, reduceCtorEq, tbRefE]; first | done | rfl, hn0, by simp [bulks], by rw [List.drop_zero]⟩ ?_
  rintro k v ⟨i, m, hi, rfl, h7, h1, hm0, hm1, hz⟩
  have hbt := bulks_take l i
  simp -dsimp only [↓bp, bq, br, afin, bsk, cWrites, opsWrites, pieceGh, rsk, ne_eq, if_true, if_false, exists_eq_left', forall_const, forall_eq, Nat.reduceLT, Int.reduceSub, Nat.reduceAdd, Nat.reduceSub, Nat.reduceMul, Nat.reduceLeDiff, Nat.reduceEqDiff, Nat.reduceBEq, Nat.reduceBNe, Int.reduceNeg, Int.reduceAdd, Int.reduceMul, Int.reduceLE, Int.reduceLT, Int.reduceEq, Int.reduceToNat, reduceIte, reduceCtorEq, tbRefE] at h7 h1
  simp -dsimp only [↓bp, bq, br, afin, bsk, cWrites, opsWrites, pieceGh, rsk, ne_eq, if_true, if_false, exists_eq_left', forall_const, forall_eq, Nat.reduceLT, Int.reduceSub, Nat.reduceAdd, Nat.reduceSub, Nat.reduceMul, Nat.reduceLeDiff, Nat.reduceEqDiff, Nat.reduceBEq, Nat.reduceBNe, Int.reduceNeg, Int.reduceAdd, Int.reduceMul, Int.reduceLE, Int.reduceLT, Int.reduceEq, Int.reduceToNat, reduceIte, reduceCtorEq, tbRefE, h7, h1]
  refine condW_dec (fun hlt => ?_) (fun hge => ?_)
  · obtain ⟨x, hx⟩ : ∃ x, l[i]? = some x := ⟨_, List.getElem?_eq_getElem (by omega)⟩
    have hxm : x ∈ l := List.mem_of_getElem? hx
    have hxb := bulk_mem hxm
    have hxs := rsize_le x
    have hdr := drop_get _ _ _ hx
    simp -dsimp only [↓bp, bq, br, afin, bsk, cWrites, opsWrites, pieceGh, rsk, ne_eq, if_true, if_false, exists_eq_left', forall_const, forall_eq, Nat.reduceLT, Int.reduceSub, Nat.reduceAdd, Nat.reduceSub, Nat.reduceMul, Nat.reduceLeDiff, Nat.reduceEqDiff, Nat.reduceBEq, Nat.reduceBNe, Int.reduceNeg, Int.reduceAdd, Int.reduceMul, Int.reduceLE, Int.reduceLT, Int.reduceEq, Int.reduceToNat, reduceIte, reduceCtorEq, tbRefE, h7, h1, hx, hlt]
    refine Pure.use (h x hxm) ?_
    simp -dsimp only [↓bp, bq, br, afin, bsk, cWrites, opsWrites, pieceGh, rsk, ne_eq, if_true, if_false, exists_eq_left', forall_const, forall_eq, Nat.reduceLT, Int.reduceSub, Nat.reduceAdd, Nat.reduceSub, Nat.reduceMul, Nat.reduceLeDiff, Nat.reduceEqDiff, Nat.reduceBEq, Nat.reduceBNe, Int.reduceNeg, Int.reduceAdd, Int.reduceMul, Int.reduceLE, Int.reduceLT, Int.reduceEq, Int.reduceToNat, reduceIte, reduceCtorEq, tbRefE, h7, h1, hx, hlt]
    refine condW_dec (fun hneg => ?_) (fun hpos => ?_)
    · simp -dsimp only [↓bp, bq, br, afin, bsk, cWrites, opsWrites, pieceGh, rsk, ne_eq, if_true, if_false, exists_eq_left', forall_const, forall_eq, Nat.reduceLT, Int.reduceSub, Nat.reduceAdd, Nat.reduceSub, Nat.reduceMul, Nat.reduceLeDiff, Nat.reduceEqDiff, Nat.reduceBEq, Nat.reduceBNe, Int.reduceNeg, Int.reduceAdd, Int.reduceMul, Int.reduceLE, Int.reduceLT, Int.reduceEq, Int.reduceToNat, reduceIte, reduceCtorEq, tbRefE, h7, h1, hx, hlt]
      refine finish_pure ?_ (AS.le.refl σ)
      rw [← hz, hdr, ritems, if_pos hneg]
    · have w1 : IntKind.i64.wrap (m + rsize x) = m + rsize x := wrap_nat (by omega) (by omega)
      have w2 : IntKind.i64.wrap (m + rsize x + each) = m + rsize x + each := wrap_nat (by omega) (by omega)
      simp -dsimp only [↓bp, bq, br, afin, bsk, cWrites, opsWrites, pieceGh, rsk, ne_eq, if_true, if_false, exists_eq_left', forall_const, forall_eq, Nat.reduceLT, Int.reduceSub, Nat.reduceAdd, Nat.reduceSub, Nat.reduceMul, Nat.reduceLeDiff, Nat.reduceEqDiff, Nat.reduceBEq, Nat.reduceBNe, Int.reduceNeg, Int.reduceAdd, Int.reduceMul, Int.reduceLE, Int.reduceLT, Int.reduceEq, Int.reduceToNat, reduceIte, reduceCtorEq, tbRefE, h7, h1, hx, hlt, w1, w2]
      refine ⟨l.length - (i + 1), by omega, i + 1, m + rsize x + each, by omega, rfl, ?_, rfl, by omega, ?_, ?_⟩
      · rw [wrap_nat (by omega) (by omega)]; rfl
      · rw [take_succ_get _ _ _ hx, bulks_append]
        simp only [bulks]
        omega
      · rw [← hz, hdr, ritems, if_neg hpos]
  · have : i = l.length := by omega
    subst this
    simp -dsimp only [↓bp, bq, br, afin, bsk, cWrites, opsWrites, pieceGh, rsk, ne_eq, if_true, if_false, exists_eq_left', forall_const, forall_eq, Nat.reduceLT, Int.reduceSub, Nat.reduceAdd, Nat.reduceSub, Nat.reduceMul, Nat.reduceLeDiff, Nat.reduceEqDiff, Nat.reduceBEq, Nat.reduceBNe, Int.reduceNeg, Int.reduceAdd, Int.reduceMul, Int.reduceLE, Int.reduceLT, Int.reduceEq, Int.reduceToNat, reduceIte, reduceCtorEq, tbRefE, h7, h1]
    refine finish_pure ?_ (AS.le.refl σ)
    rw [← hz, List.drop_length, ritems]
end Go.Proofs.YtjnhalmeddafdaaDoor
set_option linter.unusedVariables false
set_option linter.unusedSimpArgs false
namespace Go.Proofs.YtjnhalmeddafdaaDoor
open Go Go.Av
theorem nil_of {α : Type} {l : List α} (h : (l.length : Int) = 0) : l = [] := List.eq_nil_of_length_eq_zero (by omega)
theorem rsize_none {t : Term} (h1 : ¬ t.knd = 1) (h : (head t).2.2 = false) : rsize t = -1 := by rw [rsize_eq, if_neg h1, if_pos h]
theorem rsize_some {t : Term} (h1 : ¬ t.knd = 1) (h : (head t).2.2 = true) : rsize t = if ritems t.items (head t).1 (head t).2.1 < 0 then -1 else ritems t.tail (ritems t.items (head t).1 (head t).2.1) 0 := by
  rw [rsize_eq, if_neg h1, if_neg (by rw [h]; decide)]
theorem rsize_2 {t : Term} (h : t.knd = 2) : rsize t = if t.neg = false ∧ (t.limbs.length : Int) = 0 ∧ t.num = 0 ∧ (t.items.length : Int) = 0 ∧ (t.tail.length : Int) = 0 ∧ (t.text.length : Int) ≤ 40 then 1 else -1 := by
  have hh : head t = (1, 0, bare t true false false false && decide ((t.text.length : Int) ≤ 40)) := by unfold head; rw [if_pos h]
  split
  · rename_i hc
    obtain ⟨c1, c2, c3, c4, c5, c6⟩ := hc
    rw [rsize_some (by omega) (by rw [hh]; simp [bare, c1, c2, c3, c4, c5, c6]), hh, nil_of c4, nil_of c5]
    rfl
  · rename_i hc
    refine rsize_none (by omega) ?_
    rw [hh]
    simp only [bare, Bool.true_or, Bool.false_or, Bool.and_true]
    rw [Bool.eq_false_iff]
    intro hb
    simp only [Bool.and_eq_true, decide_eq_true_eq, Bool.not_eq_true'] at hb
    exact hc ⟨hb.1.1.1.1.1, hb.1.1.1.1.2, hb.1.1.1.2, hb.1.1.2, hb.1.2, hb.2⟩
theorem rsize_35 {t : Term} (h : t.knd = 3 ∨ t.knd = 5) : rsize t = if t.neg = false ∧ (t.limbs.length : Int) = 0 ∧ t.text = [] ∧ (t.items.length : Int) = 0 ∧ (t.tail.length : Int) = 0 ∧ 0 ≤ t.num ∧ t.num ≤ 1099511627776 then 1 else -1 := by
  have hh : head t = (1, 0, bare t false true false false && decide (0 ≤ t.num) && decide (t.num ≤ 1099511627776)) := by unfold head; rw [if_neg (by omega), if_pos h]
  split
  · rename_i hc
    obtain ⟨c1, c2, c3, c4, c5, c6, c7⟩ := hc
    rw [rsize_some (by omega) (by rw [hh]; simp [bare, c1, c2, c3, c4, c5, c6, c7]), hh, nil_of c4, nil_of c5]
    rfl
  · rename_i hc
    refine rsize_none (by omega) ?_
    rw [hh]
    simp only [bare, Bool.true_or, Bool.false_or, Bool.and_true]
    rw [Bool.eq_false_iff]
    intro hb
    simp only [Bool.and_eq_true, decide_eq_true_eq, Bool.not_eq_true'] at hb
    exact hc ⟨hb.1.1.1.1.1.1, hb.1.1.1.1.1.2, hb.1.1.1.1.2, hb.1.1.1.2, hb.1.1.2, hb.1.2, hb.2⟩
theorem rsize_4 {t : Term} (h : t.knd = 4) : rsize t = if t.neg = false ∧ (t.limbs.length : Int) = 0 ∧ t.text = [] ∧ (t.tail.length : Int) = 0 ∧ 0 ≤ t.num ∧ t.num ≤ 16384 then ritems t.items 2 0 else -1 := by
  have hh : head t = (2, 0, bare t false true true false && decide (0 ≤ t.num) && decide (t.num ≤ 16384)) := by unfold head; rw [if_neg (by omega), if_neg (by omega), if_pos h]
  split
  · rename_i hc
    obtain ⟨c1, c2, c3, c5, c6, c7⟩ := hc
    have hr := ritems_le t.items 0 (by omega) (by omega) (fun x _ => rsize_le x) 2 (by omega)
    rw [rsize_some (by omega) (by rw [hh]; simp [bare, c1, c2, c3, c5, c6, c7]), hh, nil_of c5]
    simp only [ritems]
    split <;> omega
  · rename_i hc
    refine rsize_none (by omega) ?_
    rw [hh]
    simp only [bare, Bool.true_or, Bool.false_or, Bool.and_true]
    rw [Bool.eq_false_iff]
    intro hb
    simp only [Bool.and_eq_true, decide_eq_true_eq, Bool.not_eq_true'] at hb
    exact hc ⟨hb.1.1.1.1.1, hb.1.1.1.1.2, hb.1.1.1.2, hb.1.1.2, hb.1.2, hb.2⟩
theorem rsize_6 {t : Term} (h : t.knd = 6) : rsize t = if t.neg = false ∧ (t.limbs.length : Int) = 0 ∧ t.text = [] ∧ (t.tail.length : Int) = 0 ∧ t.num = 0 then ritems t.items 1 0 else -1 := by
  have hh : head t = (1, 0, bare t false false true false) := by unfold head; rw [if_neg (by omega), if_neg (by omega), if_neg (by omega), if_pos h]
  split
  · rename_i hc
    obtain ⟨c1, c2, c3, c5, c6⟩ := hc
    have hr := ritems_le t.items 0 (by omega) (by omega) (fun x _ => rsize_le x) 1 (by omega)
    rw [rsize_some (by omega) (by rw [hh]; simp [bare, c1, c2, c3, c5, c6]), hh, nil_of c5]
    simp only [ritems]
    split <;> omega
  · rename_i hc
    refine rsize_none (by omega) ?_
    rw [hh]
    simp only [bare, Bool.true_or, Bool.false_or, Bool.and_true]
    rw [Bool.eq_false_iff]
    intro hb
    simp only [Bool.and_eq_true, decide_eq_true_eq, Bool.not_eq_true'] at hb
    exact hc ⟨hb.1.1.1.1, hb.1.1.1.2, hb.1.1.2, hb.2, hb.1.2⟩
theorem rsize_0 {t : Term} (h : ¬ (1 ≤ t.knd ∧ t.knd ≤ 7)) : rsize t = -1 := by
  refine rsize_none (by omega) ?_
  unfold head
  rw [if_neg (by omega), if_neg (by omega), if_neg (by omega), if_neg (by omega), if_neg (by omega)]
theorem rsize_7 {t : Term} (h : t.knd = 7) : rsize t = if t.neg = false ∧ (t.limbs.length : Int) = 0 ∧ t.text = [] ∧ t.num = 0 ∧ (t.tail.length : Int) ≤ (if (t.items.length : Int) < 1 then (t.items.length : Int) else 1) ∧ (t.tail.all fun x => decide (x.knd ≠ 7)) = true then (if ritems t.items 1 1 < 0 then -1 else ritems t.tail (ritems t.items 1 1) 0) else -1 := by
  have hh : head t = (1, 1, bare t false false true true && decide ((t.tail.length : Int) ≤ if (t.items.length : Int) < 1 then (t.items.length : Int) else 1) && t.tail.all fun x => decide (x.knd ≠ 7)) := by unfold head; rw [if_neg (by omega), if_neg (by omega), if_neg (by omega), if_neg (by omega), if_pos h]
  by_cases hc : t.neg = false ∧ (t.limbs.length : Int) = 0 ∧ t.text = [] ∧ t.num = 0 ∧ (t.tail.length : Int) ≤ (if (t.items.length : Int) < 1 then (t.items.length : Int) else 1) ∧ (t.tail.all fun x => decide (x.knd ≠ 7)) = true
  · rw [if_pos hc]
    obtain ⟨c1, c2, c3, c4, c5, c6⟩ := hc
    rw [rsize_some (by omega) (by rw [hh]; simp only [bare, c1, c2, c3, c4, decide_eq_true c5, c6]; rfl), hh]
  · rw [if_neg hc]
    refine rsize_none (by omega) ?_
    rw [hh]
    simp only [bare, Bool.true_or, Bool.false_or, Bool.and_true]
    rw [Bool.eq_false_iff]
    intro hb
    simp only [Bool.and_eq_true, decide_eq_true_eq, Bool.not_eq_true'] at hb
    exact hc ⟨hb.1.1.1.1.1, hb.1.1.1.1.2, hb.1.1.1.2, hb.1.1.2, hb.1.2, hb.2⟩
end Go.Proofs.YtjnhalmeddafdaaDoor
