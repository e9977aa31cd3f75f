/- The reference's bits: at, cut, below. -/
import Derived.Test.YtjnhalmeddafdaaDoorZSize
set_option linter.unusedVariables false
set_option linter.unusedSimpArgs false
set_option maxRecDepth 20000
set_option linter.defProp false
namespace Go.Proofs.YtjnhalmeddafdaaDoor
open Go Go.Av
def tbRefA := And.intro (And.intro (And.intro (And.intro @tf3 (And.intro @tf4 @tf5)) (And.intro @tf44 (And.intro @tf103 @tf9))) (And.intro (And.intro @tf23 (And.intro @tf22 @tf24)) (And.intro (And.intro @tf26 @tf91) (And.intro @tf84 @Term.flat_enc)))) (And.intro (And.intro (And.intro @Term.isv_enc (And.intro @Term.fold_enc @isv_encs)) (And.intro @flat_encs (And.intro @len_encs @ix_encs))) (And.intro (And.intro @ix_encs' (And.intro @isv_lims @flat_lims)) (And.intro (And.intro @len_lims @ix_lims) (And.intro @ix_lims' @flat_limA))))
variable (G : Nat → AV)
def bools (l : List Bool) : AV := .sl .none (l.map AV.bool) []
theorem isv_bools (l : List Bool) : isv (bools l) = true := rfl
theorem flat_bools (l : List Bool) : flat (bools l) = [bools l] := rfl
theorem len_bools {P : Program} {t : TypeId} (l : List Bool) : ablt P .len #[t] [bools l] = if (el P t).isSome then some (.int .i64 l.length) else none := by
  simp [bools, l_sl]
theorem tbBE : el Tryd.prog 91 = some 4 := tf91.2.2.2.1
theorem slim_none (g : Gh) (xs ys sp : List AV) : slim (.sl .none xs []) (.sl g ys sp) = .sl g ys [] := rfl
/-- a bit; none behind the last one -/
def atB (l : List Bool) (i : Nat) : Bool := l[i]?.getD false
theorem at_pure (l : List Bool) (i : Nat) (hl : l.length ≤ 1000000000) (hi : i ≤ 1000000000) : Pure Tryd.prog G 92 [bools l, .int .i64 i] (.bool (atB l i)) := by
  unfold bools atB
  intro σ
  by_cases h : (i : Int) < l.length
  · obtain ⟨k, hk⟩ : ∃ k, l[i]? = some k := ⟨_, List.getElem?_eq_getElem (by omega)⟩
    have h1 := eq_true h
    clear h hl hi
    refine Tri.of_awp mixed Tryd.func92 rfl (by kernel_rfl) (by kernel_rfl) (by simp [Tryd.ntmps92]) Tryd.results92 ?_
    repeat' (first
    | with_reducible refine condW_both (fun _ _ => ?_) (fun _ _ => ?_)
    | with_reducible refine gW_both (fun _ _ => ?_) (fun _ _ => ?_)
    | with_reducible refine condW_split (fun _ => ?_) (fun _ => ?_)
    | with_reducible refine gW_split (fun _ => ?_) (fun _ => ?_)
    | with_reducible refine pickW_split (fun _ => ?_) (fun _ => ?_)
    | (refine newW_intro ?_; intro bx hbx; (try simp only [fresh_box, fresh_tip, fresh_ty] at hbx))
    | (refine newT_plain ?_; intro bx hbx; (try simp only [fresh_box, fresh_tip, fresh_ty] at hbx))
    | refine storeX_w ?_
    | ((with_reducible refine And.intro ?_ ?_); omega)
    | refine bo_buildSlice (d' := ⟨⟩) ?_
    | (refine draw_all (by kernel_rfl) ?_)
    | refine finish_pure ?_ (by repeat' (first | exact AS.le.refl _ | assumption | (refine le_set (by first | assumption | (simp only [*]; done) | exact AS.le.fresh (by assumption) (by simp only [*])) ?_) | (refine le_ty (by first | assumption | (simp only [*]; done) | exact AS.le.fresh (by assumption) (by simp only [*])) ?_)))
    | simp -dsimp only [↓bp, bq, br, afin, bsk, cWrites, opsWrites, pieceGh, rsk, ne_eq, if_true, if_false, exists_eq_left', forall_const, forall_eq, Nat.reduceLT, Int.reduceSub, Nat.reduceAdd, Nat.reduceSub, Nat.reduceMul, Nat.reduceLeDiff, Nat.reduceEqDiff, Nat.reduceBEq, Nat.reduceBNe, Int.reduceNeg, Int.reduceAdd, Int.reduceMul, Int.reduceLE, Int.reduceLT, Int.reduceEq, Int.reduceToNat, reduceIte, reduceCtorEq, tbRefA, Option.getD_some, *])
    all_goals first | rfl | simp
  · have hk : l[i]? = none := List.getElem?_eq_none (by omega)
    have h1 := eq_false h
    clear h hl hi
    refine Tri.of_awp mixed Tryd.func92 rfl (by kernel_rfl) (by kernel_rfl) (by simp [Tryd.ntmps92]) Tryd.results92 ?_
    repeat' (first
    | with_reducible refine condW_both (fun _ _ => ?_) (fun _ _ => ?_)
    | with_reducible refine gW_both (fun _ _ => ?_) (fun _ _ => ?_)
    | with_reducible refine condW_split (fun _ => ?_) (fun _ => ?_)
    | with_reducible refine gW_split (fun _ => ?_) (fun _ => ?_)
    | with_reducible refine pickW_split (fun _ => ?_) (fun _ => ?_)
    | (refine newW_intro ?_; intro bx hbx; (try simp only [fresh_box, fresh_tip, fresh_ty] at hbx))
    | (refine newT_plain ?_; intro bx hbx; (try simp only [fresh_box, fresh_tip, fresh_ty] at hbx))
    | refine storeX_w ?_
    | ((with_reducible refine And.intro ?_ ?_); omega)
    | refine bo_buildSlice (d' := ⟨⟩) ?_
    | (refine draw_all (by kernel_rfl) ?_)
    | refine finish_pure ?_ (by repeat' (first | exact AS.le.refl _ | assumption | (refine le_set (by first | assumption | (simp only [*]; done) | exact AS.le.fresh (by assumption) (by simp only [*])) ?_) | (refine le_ty (by first | assumption | (simp only [*]; done) | exact AS.le.fresh (by assumption) (by simp only [*])) ?_)))
    | simp -dsimp only [↓bp, bq, br, afin, bsk, cWrites, opsWrites, pieceGh, rsk, ne_eq, if_true, if_false, exists_eq_left', forall_const, forall_eq, Nat.reduceLT, Int.reduceSub, Nat.reduceAdd, Nat.reduceSub, Nat.reduceMul, Nat.reduceLeDiff, Nat.reduceEqDiff, Nat.reduceBEq, Nat.reduceBNe, Int.reduceNeg, Int.reduceAdd, Int.reduceMul, Int.reduceLE, Int.reduceLT, Int.reduceEq, Int.reduceToNat, reduceIte, reduceCtorEq, tbRefA, Option.getD_none, *])
    all_goals rfl
/-- how many bits, without the noughts at the end -/
def cutN (l : List Bool) : Nat → Nat
  | 0 => 0
  | n + 1 => if atB l n = false then cutN l n else n + 1
def cutB (l : List Bool) : List Bool := l.take (cutN l l.length)
theorem cutN_off (l : List Bool) : ∀ n i, i < n → cutN l n ≤ i → atB l i = false
  | 0, i, h, _ => by omega
  | n + 1, i, h, h2 => by
    simp only [cutN] at h2
    split at h2
    · rename_i h3
      by_cases e : i = n
      · subst e; exact h3
      · exact cutN_off l n i (by omega) h2
    · omega
theorem at_cut (l : List Bool) (i : Nat) : atB (cutB l) i = atB l i := by
  unfold cutB
  by_cases h : i < cutN l l.length
  · unfold atB; rw [List.getElem?_take, if_pos h]
  · have e : atB (l.take (cutN l l.length)) i = false := by unfold atB; rw [List.getElem?_take, if_neg h]; rfl
    rw [e]
    by_cases h2 : i < l.length
    · exact (cutN_off l _ i h2 (by omega)).symm
    · unfold atB; rw [List.getElem?_eq_none (by omega)]; rfl
theorem cutB_len (l : List Bool) : (cutB l).length ≤ l.length := by unfold cutB; rw [List.length_take]; omega
theorem cut_pure (l : List Bool) (hl : l.length ≤ 1000000000) : Pure Tryd.prog G 91 [bools l] (bools (cutB l)) := by
  unfold bools
  refine Pure.of_le fun σ => ?_
  refine Tri.of_awp mixed Tryd.func91 rfl (by kernel_rfl) (by kernel_rfl) (by simp [Tryd.ntmps91]) Tryd.results91 ?_
  simp -dsimp only [↓bp, bq, br, afin, bsk, cWrites, opsWrites, pieceGh, rsk, ne_eq, if_true, if_false, exists_eq_left', forall_const, forall_eq, Nat.reduceLT, Int.reduceSub, Nat.reduceAdd, Nat.reduceSub, Nat.reduceMul, Nat.reduceLeDiff, Nat.reduceEqDiff, Nat.reduceBEq, Nat.reduceBNe, Int.reduceNeg, Int.reduceAdd, Int.reduceMul, Int.reduceLE, Int.reduceLT, Int.reduceEq, Int.reduceToNat, reduceIte, reduceCtorEq, tbRefA]
  refine loop_keep mixed (fun n e => n ≤ l.length ∧ e 3 = .int .i64 (n : Int) ∧ cutN l n = cutN l l.length) l.length ⟨Nat.le_refl _, by simp -dsimp only [↓bp, bq, br, afin, bsk, cWrites, opsWrites, pieceGh, rsk, ne_eq, if_true, if_false, exists_eq_left', forall_const, forall_eq, Nat.reduceLT, Int.reduceSub, Nat.reduceAdd, Nat.reduceSub, Nat.reduceMul, Nat.reduceLeDiff, Nat.reduceEqDiff, Nat.reduceBEq, Nat.reduceBNe, Int.reduceNeg, Int.reduceAdd, Int.reduceMul, Int.reduceLE, Int.reduceLT, Int.reduceEq, Int.reduceToNat, reduceIte, reduceCtorEq, tbRefA]; first | done | rfl, rfl⟩ ?_
  rintro n v ⟨hn, h3, hz⟩
  simp -dsimp only [↓bp, bq, br, afin, bsk, cWrites, opsWrites, pieceGh, rsk, ne_eq, if_true, if_false, exists_eq_left', forall_const, forall_eq, Nat.reduceLT, Int.reduceSub, Nat.reduceAdd, Nat.reduceSub, Nat.reduceMul, Nat.reduceLeDiff, Nat.reduceEqDiff, Nat.reduceBEq, Nat.reduceBNe, Int.reduceNeg, Int.reduceAdd, Int.reduceMul, Int.reduceLE, Int.reduceLT, Int.reduceEq, Int.reduceToNat, reduceIte, reduceCtorEq, tbRefA] at h3
  simp -dsimp only [↓bp, bq, br, afin, bsk, cWrites, opsWrites, pieceGh, rsk, ne_eq, if_true, if_false, exists_eq_left', forall_const, forall_eq, Nat.reduceLT, Int.reduceSub, Nat.reduceAdd, Nat.reduceSub, Nat.reduceMul, Nat.reduceLeDiff, Nat.reduceEqDiff, Nat.reduceBEq, Nat.reduceBNe, Int.reduceNeg, Int.reduceAdd, Int.reduceMul, Int.reduceLE, Int.reduceLT, Int.reduceEq, Int.reduceToNat, reduceIte, reduceCtorEq, tbRefA, h3]
  cases n with
  | zero =>
    have e0 : ((0 : Nat) : Int) = 0 := rfl
    have hN : cutN l l.length = 0 := by rw [← hz]; rfl
    simp -dsimp only [↓bp, bq, br, afin, bsk, cWrites, opsWrites, pieceGh, rsk, ne_eq, if_true, if_false, exists_eq_left', forall_const, forall_eq, Nat.reduceLT, Int.reduceSub, Nat.reduceAdd, Nat.reduceSub, Nat.reduceMul, Nat.reduceLeDiff, Nat.reduceEqDiff, Nat.reduceBEq, Nat.reduceBNe, Int.reduceNeg, Int.reduceAdd, Int.reduceMul, Int.reduceLE, Int.reduceLT, Int.reduceEq, Int.reduceToNat, reduceIte, reduceCtorEq, tbRefA, h3, e0]
    refine piece (l := 0) (h := 0) tbBE tf4.1 rfl (by simp [abnd]) (by omega) (by simp) (fun a ha => ?_) (fun g' => ?_)
    · rw [List.append_nil] at ha
      obtain ⟨i, _, rfl⟩ := List.mem_map.1 ha
      rfl
    · have ec : ((l.map AV.bool ++ []).take 0).drop 0 = (cutB l).map AV.bool := by unfold cutB; rw [hN]; simp
      simp only [ec, slim_none]
      simp -dsimp only [↓bp, bq, br, afin, bsk, cWrites, opsWrites, pieceGh, rsk, ne_eq, if_true, if_false, exists_eq_left', forall_const, forall_eq, Nat.reduceLT, Int.reduceSub, Nat.reduceAdd, Nat.reduceSub, Nat.reduceMul, Nat.reduceLeDiff, Nat.reduceEqDiff, Nat.reduceBEq, Nat.reduceBNe, Int.reduceNeg, Int.reduceAdd, Int.reduceMul, Int.reduceLE, Int.reduceLT, Int.reduceEq, Int.reduceToNat, reduceIte, reduceCtorEq, tbRefA, h3, e0]
      exact finish_le Le.gh (AS.le.refl σ)
  | succ n =>
    obtain ⟨k, hk⟩ : ∃ k, l[n]? = some k := ⟨_, List.getElem?_eq_getElem (by omega)⟩
    have hw : IntKind.i64.wrap (((n + 1 : Nat) : Int) - 1) = (n : Int) := by rw [wrap_nat (by omega) (by omega)]; omega
    have hp : (0 < ((n + 1 : Nat) : Int)) = True := eq_true (by omega)
    have ha : atB l n = k := by unfold atB; rw [hk]; rfl
    cases k
    · simp -dsimp only [↓bp, bq, br, afin, bsk, cWrites, opsWrites, pieceGh, rsk, ne_eq, if_true, if_false, exists_eq_left', forall_const, forall_eq, Nat.reduceLT, Int.reduceSub, Nat.reduceAdd, Nat.reduceSub, Nat.reduceMul, Nat.reduceLeDiff, Nat.reduceEqDiff, Nat.reduceBEq, Nat.reduceBNe, Int.reduceNeg, Int.reduceAdd, Int.reduceMul, Int.reduceLE, Int.reduceLT, Int.reduceEq, Int.reduceToNat, reduceIte, reduceCtorEq, tbRefA, h3, hw, hp, hk]
      refine ⟨n, by omega, by omega, rfl, ?_⟩
      rw [← hz]; simp only [cutN]; rw [if_pos ha]
    · have hN : cutN l l.length = n + 1 := by rw [← hz]; simp only [cutN]; rw [if_neg (by simp [ha])]
      simp -dsimp only [↓bp, bq, br, afin, bsk, cWrites, opsWrites, pieceGh, rsk, ne_eq, if_true, if_false, exists_eq_left', forall_const, forall_eq, Nat.reduceLT, Int.reduceSub, Nat.reduceAdd, Nat.reduceSub, Nat.reduceMul, Nat.reduceLeDiff, Nat.reduceEqDiff, Nat.reduceBEq, Nat.reduceBNe, Int.reduceNeg, Int.reduceAdd, Int.reduceMul, Int.reduceLE, Int.reduceLT, Int.reduceEq, Int.reduceToNat, reduceIte, reduceCtorEq, tbRefA, h3, hw, hp, hk]
      refine piece (l := 0) (h := n + 1) tbBE tf4.1 rfl (by simp [abnd]; omega) (by omega) (by simp; omega) (fun a ha => ?_) (fun g' => ?_)
      · rw [List.append_nil] at ha
        obtain ⟨i, _, rfl⟩ := List.mem_map.1 ha
        rfl
      · have ec : ((l.map AV.bool ++ []).take (n + 1)).drop 0 = (cutB l).map AV.bool := by unfold cutB; rw [hN]; simp
        simp only [ec, slim_none]
        simp -dsimp only [↓bp, bq, br, afin, bsk, cWrites, opsWrites, pieceGh, rsk, ne_eq, if_true, if_false, exists_eq_left', forall_const, forall_eq, Nat.reduceLT, Int.reduceSub, Nat.reduceAdd, Nat.reduceSub, Nat.reduceMul, Nat.reduceLeDiff, Nat.reduceEqDiff, Nat.reduceBEq, Nat.reduceBNe, Int.reduceNeg, Int.reduceAdd, Int.reduceMul, Int.reduceLE, Int.reduceLT, Int.reduceEq, Int.reduceToNat, reduceIte, reduceCtorEq, tbRefA, h3]
        exact finish_le Le.gh (AS.le.refl σ)
/-- is an amount below another one? of the lowest bits, so many -/
def bel (x y : List Bool) : Nat → Bool
  | 0 => false
  | n + 1 => if atB x n = atB y n then bel x y n else atB y n
def below (x y : List Bool) : Bool := bel x y (max x.length y.length)
theorem below_pure (x y : List Bool) (hx : x.length ≤ 1000000000) (hy : y.length ≤ 1000000000) : Pure Tryd.prog G 85 [bools x, bools y] (.bool (below x y)) := by
  have hm : (if (y.length : Int) > x.length then (y.length : Int) else x.length) = ((max x.length y.length : Nat) : Int) := by split <;> omega
  obtain ⟨N, hN⟩ : ∃ N, N = max x.length y.length := ⟨_, rfl⟩
  have hw0 : IntKind.i64.wrap ((N : Int) - 1) = N - 1 := wrap_nat (by omega) (by omega)
  unfold below
  rw [← hN] at hm ⊢
  intro σ
  refine Tri.of_awp mixed Tryd.func85 rfl (by kernel_rfl) (by kernel_rfl) (by simp [Tryd.ntmps85]) Tryd.results85 ?_
  simp -dsimp only [↓bp, bq, br, afin, bsk, cWrites, opsWrites, pieceGh, rsk, ne_eq, if_true, if_false, exists_eq_left', forall_const, forall_eq, Nat.reduceLT, Int.reduceSub, Nat.reduceAdd, Nat.reduceSub, Nat.reduceMul, Nat.reduceLeDiff, Nat.reduceEqDiff, Nat.reduceBEq, Nat.reduceBNe, Int.reduceNeg, Int.reduceAdd, Int.reduceMul, Int.reduceLE, Int.reduceLT, Int.reduceEq, Int.reduceToNat, reduceIte, reduceCtorEq, tbRefA, len_bools, hm, hw0]
  refine loop_keep mixed (fun n e => n ≤ N ∧ e 5 = .int .i64 ((n : Int) - 1) ∧ bel x y n = bel x y N) N ⟨Nat.le_refl _, by simp -dsimp only [↓bp, bq, br, afin, bsk, cWrites, opsWrites, pieceGh, rsk, ne_eq, if_true, if_false, exists_eq_left', forall_const, forall_eq, Nat.reduceLT, Int.reduceSub, Nat.reduceAdd, Nat.reduceSub, Nat.reduceMul, Nat.reduceLeDiff, Nat.reduceEqDiff, Nat.reduceBEq, Nat.reduceBNe, Int.reduceNeg, Int.reduceAdd, Int.reduceMul, Int.reduceLE, Int.reduceLT, Int.reduceEq, Int.reduceToNat, reduceIte, reduceCtorEq, tbRefA]; first | done | rfl, rfl⟩ ?_
  rintro n v ⟨hn, h5, hz⟩
  simp -dsimp only [↓bp, bq, br, afin, bsk, cWrites, opsWrites, pieceGh, rsk, ne_eq, if_true, if_false, exists_eq_left', forall_const, forall_eq, Nat.reduceLT, Int.reduceSub, Nat.reduceAdd, Nat.reduceSub, Nat.reduceMul, Nat.reduceLeDiff, Nat.reduceEqDiff, Nat.reduceBEq, Nat.reduceBNe, Int.reduceNeg, Int.reduceAdd, Int.reduceMul, Int.reduceLE, Int.reduceLT, Int.reduceEq, Int.reduceToNat, reduceIte, reduceCtorEq, tbRefA] at h5
  cases n with
  | zero =>
    have e0 : ((0 : Nat) : Int) - 1 = -1 := rfl
    simp -dsimp only [↓bp, bq, br, afin, bsk, cWrites, opsWrites, pieceGh, rsk, ne_eq, if_true, if_false, exists_eq_left', forall_const, forall_eq, Nat.reduceLT, Int.reduceSub, Nat.reduceAdd, Nat.reduceSub, Nat.reduceMul, Nat.reduceLeDiff, Nat.reduceEqDiff, Nat.reduceBEq, Nat.reduceBNe, Int.reduceNeg, Int.reduceAdd, Int.reduceMul, Int.reduceLE, Int.reduceLT, Int.reduceEq, Int.reduceToNat, reduceIte, reduceCtorEq, tbRefA, h5, e0]
    refine finish_pure ?_ (AS.le.refl σ)
    rw [← hz]; rfl
  | succ n =>
    have e1 : ((n + 1 : Nat) : Int) - 1 = (n : Int) := by omega
    have hw : IntKind.i64.wrap ((n : Int) - 1) = (n : Int) - 1 := wrap_nat (by omega) (by omega)
    have a1 := at_pure G x n hx (by omega)
    have a2 := at_pure G y n hy (by omega)
    have hzz : bel x y N = if atB x n = atB y n then bel x y n else atB y n := hz.symm
    generalize atB x n = p at *
    generalize atB y n = q at *
    rw [e1] at h5
    by_cases hpq : p = q
    · rw [if_pos hpq] at hzz
      subst hpq
      repeat' (first
    | with_reducible refine condW_both (fun _ _ => ?_) (fun _ _ => ?_)
    | with_reducible refine gW_both (fun _ _ => ?_) (fun _ _ => ?_)
    | with_reducible refine condW_split (fun _ => ?_) (fun _ => ?_)
    | with_reducible refine gW_split (fun _ => ?_) (fun _ => ?_)
    | with_reducible refine pickW_split (fun _ => ?_) (fun _ => ?_)
    | (refine newW_intro ?_; intro bx hbx; (try simp only [fresh_box, fresh_tip, fresh_ty] at hbx))
    | (refine newT_plain ?_; intro bx hbx; (try simp only [fresh_box, fresh_tip, fresh_ty] at hbx))
    | refine Pure.use (a1) ?_
    | refine Pure.head (a1) ?_
    | refine Pure.use (a2) ?_
    | refine Pure.head (a2) ?_
    | refine storeX_w ?_
    | ((with_reducible refine And.intro ?_ ?_); omega)
    | refine bo_buildSlice (d' := ⟨⟩) ?_
    | (refine draw_all (by kernel_rfl) ?_)
    | refine finish_pure ?_ (by repeat' (first | exact AS.le.refl _ | assumption | (refine le_set (by first | assumption | (simp only [*]; done) | exact AS.le.fresh (by assumption) (by simp only [*])) ?_) | (refine le_ty (by first | assumption | (simp only [*]; done) | exact AS.le.fresh (by assumption) (by simp only [*])) ?_)))
    | simp -dsimp only [↓bp, bq, br, afin, bsk, cWrites, opsWrites, pieceGh, rsk, ne_eq, if_true, if_false, exists_eq_left', forall_const, forall_eq, Nat.reduceLT, Int.reduceSub, Nat.reduceAdd, Nat.reduceSub, Nat.reduceMul, Nat.reduceLeDiff, Nat.reduceEqDiff, Nat.reduceBEq, Nat.reduceBNe, Int.reduceNeg, Int.reduceAdd, Int.reduceMul, Int.reduceLE, Int.reduceLT, Int.reduceEq, Int.reduceToNat, reduceIte, reduceCtorEq, tbRefA, h5, hw, isv_bools, flat_bools, *])
      exact ⟨n, by omega, by omega, rfl, by rw [← hN]; exact hzz.symm⟩
    · rw [if_neg hpq] at hzz
      rw [hzz]
      have hq : q = !p := by cases p <;> cases q <;> simp_all
      subst hq
      clear hpq hzz hz
      repeat' (first
    | with_reducible refine condW_both (fun _ _ => ?_) (fun _ _ => ?_)
    | with_reducible refine gW_both (fun _ _ => ?_) (fun _ _ => ?_)
    | with_reducible refine condW_split (fun _ => ?_) (fun _ => ?_)
    | with_reducible refine gW_split (fun _ => ?_) (fun _ => ?_)
    | with_reducible refine pickW_split (fun _ => ?_) (fun _ => ?_)
    | (refine newW_intro ?_; intro bx hbx; (try simp only [fresh_box, fresh_tip, fresh_ty] at hbx))
    | (refine newT_plain ?_; intro bx hbx; (try simp only [fresh_box, fresh_tip, fresh_ty] at hbx))
    | refine Pure.use (a1) ?_
    | refine Pure.head (a1) ?_
    | refine Pure.use (a2) ?_
    | refine Pure.head (a2) ?_
    | refine storeX_w ?_
    | ((with_reducible refine And.intro ?_ ?_); omega)
    | refine bo_buildSlice (d' := ⟨⟩) ?_
    | (refine draw_all (by kernel_rfl) ?_)
    | refine finish_pure ?_ (by repeat' (first | exact AS.le.refl _ | assumption | (refine le_set (by first | assumption | (simp only [*]; done) | exact AS.le.fresh (by assumption) (by simp only [*])) ?_) | (refine le_ty (by first | assumption | (simp only [*]; done) | exact AS.le.fresh (by assumption) (by simp only [*])) ?_)))
    | simp -dsimp only [↓bp, bq, br, afin, bsk, cWrites, opsWrites, pieceGh, rsk, ne_eq, if_true, if_false, exists_eq_left', forall_const, forall_eq, Nat.reduceLT, Int.reduceSub, Nat.reduceAdd, Nat.reduceSub, Nat.reduceMul, Nat.reduceLeDiff, Nat.reduceEqDiff, Nat.reduceBEq, Nat.reduceBNe, Int.reduceNeg, Int.reduceAdd, Int.reduceMul, Int.reduceLE, Int.reduceLT, Int.reduceEq, Int.reduceToNat, reduceIte, reduceCtorEq, tbRefA, h5, hw, isv_bools, flat_bools, *])
      all_goals first | rfl | (exfalso; cases p <;> simp at *)
/-! bits of limbs -/
/-- a limb's bit -/
def bitL (x : UInt32) (k : Nat) : Bool := decide (((x.toNat >>> k) &&& 1 : Nat) = 1)
def bitsL : List UInt32 → List Bool
  | [] => []
  | x :: l => (List.range 32).map (bitL x) ++ bitsL l
theorem bitsL_len (l : List UInt32) : (bitsL l).length = 32 * l.length := by
  induction l with
  | nil => rfl
  | cons x l ih => simp only [bitsL, List.length_append, List.length_map, List.length_range, ih, List.length_cons]; omega
theorem bitsL_append (l r : List UInt32) : bitsL (l ++ r) = bitsL l ++ bitsL r := by
  induction l with
  | nil => rfl
  | cons x l ih => simp only [List.cons_append, bitsL, ih, List.append_assoc]
/-- the first limbs' bits, and some of the next one -/
def bitsTo (l : List UInt32) (i k : Nat) : List Bool := bitsL (l.take i) ++ (List.range k).map fun j => match l[i]? with | some x => bitL x j | none => false
theorem bitsTo_zero (l : List UInt32) (i : Nat) : bitsTo l i 0 = bitsL (l.take i) := by simp [bitsTo]
theorem bitsTo_succ {l : List UInt32} {i k : Nat} {x : UInt32} (h : l[i]? = some x) : bitsTo l i (k + 1) = bitsTo l i k ++ [bitL x k] := by
  simp only [bitsTo, h, List.range_succ, List.map_append, List.map_cons, List.map_nil, List.append_assoc]
theorem bitsTo_full {l : List UInt32} {i : Nat} {x : UInt32} (h : l[i]? = some x) : bitsTo l i 32 = bitsTo l (i + 1) 0 := by
  rw [bitsTo_zero, take_succ_get _ _ _ h, bitsL_append]
  simp only [bitsTo, h, bitsL, List.append_nil]
theorem bitsTo_len (l : List UInt32) (i k : Nat) : (bitsTo l i k).length ≤ 32 * l.length + k := by
  simp only [bitsTo, List.length_append, bitsL_len, List.length_map, List.length_range, List.length_take]
  omega
theorem tbB : aelt Tryd.prog 91 = some (4, 1, 1) := tf91.2.2.2.2.2.2
theorem bit_eq (x : UInt32) (k : Nat) (hk : k < 32) : decide (IntKind.u32.wrap ↑(BitVec.ofInt IntKind.u32.bits ((x.toNat : Int).fdiv (2 ^ min k IntKind.u32.bits)) &&& BitVec.ofInt IntKind.u32.bits 1).toNat = 1) = bitL x k := by
  have hm : min k IntKind.u32.bits = k := by have : IntKind.u32.bits = 32 := rfl; omega
  have hxl := x.toNat_lt
  have hf : (x.toNat : Int).fdiv (2 ^ k) = ((x.toNat / 2 ^ k : Nat) : Int) := by
    rw [Int.fdiv_eq_ediv_of_nonneg _ (by exact_mod_cast Nat.zero_le (2 ^ k))]
    simp
  have hd : x.toNat / 2 ^ k < 4294967296 := Nat.lt_of_le_of_lt (Nat.div_le_self _ _) hxl
  rw [hm, hf]
  unfold bitL
  rw [Nat.shiftRight_eq_div_pow]
  have e : (BitVec.ofInt IntKind.u32.bits ((x.toNat / 2 ^ k : Nat) : Int) &&& BitVec.ofInt IntKind.u32.bits 1).toNat = (x.toNat / 2 ^ k) &&& 1 := by
    show (BitVec.ofInt 32 ((x.toNat / 2 ^ k : Nat) : Int) &&& BitVec.ofInt 32 1).toNat = _
    rw [BitVec.toNat_and, BitVec.ofInt_natCast, BitVec.toNat_ofNat]
    have e1 : (BitVec.ofInt 32 1).toNat = 1 := by decide
    rw [e1, Nat.mod_eq_of_lt hd]
  rw [e]
  have h1 : (x.toNat / 2 ^ k) &&& 1 < 2 := by rw [Nat.and_one_is_mod]; omega
  have e2 : IntKind.u32.wrap (((x.toNat / 2 ^ k) &&& 1 : Nat) : Int) = (((x.toNat / 2 ^ k) &&& 1 : Nat) : Int) := by
    have e : IntKind.u32.wrap (((x.toNat / 2 ^ k) &&& 1 : Nat) : Int) = (((x.toNat / 2 ^ k) &&& 1 : Nat) : Int) % 4294967296 := by first | rfl | simp [IntKind.wrap]
    rw [e]; omega
  rw [e2, Bool.eq_iff_iff, decide_eq_true_eq, decide_eq_true_eq]
  omega
set_option maxHeartbeats 2000000 in
theorem bits_pure (t : Term) (hb : t.limbs.length ≤ 10000000) : Pure Tryd.prog G 84 [t.enc] (bools (cutB (bitsL t.limbs))) := by
  obtain ⟨l, hl⟩ : ∃ l, l = t.limbs := ⟨_, rfl⟩
  refine Pure.of_le fun σ => ?_
  refine Tri.of_awp mixed Tryd.func84 rfl (by kernel_rfl) (by kernel_rfl) (by simp [Tryd.ntmps84]) Tryd.results84 ?_
  simp -dsimp only [↓bp, bq, br, afin, bsk, cWrites, opsWrites, pieceGh, rsk, ne_eq, if_true, if_false, exists_eq_left', forall_const, forall_eq, Nat.reduceLT, Int.reduceSub, Nat.reduceAdd, Nat.reduceSub, Nat.reduceMul, Nat.reduceLeDiff, Nat.reduceEqDiff, Nat.reduceBEq, Nat.reduceBNe, Int.reduceNeg, Int.reduceAdd, Int.reduceMul, Int.reduceLE, Int.reduceLT, Int.reduceEq, Int.reduceToNat, reduceIte, reduceCtorEq, tbRefA]
  intro b hb1
  simp -dsimp only [↓bp, bq, br, afin, bsk, cWrites, opsWrites, pieceGh, rsk, ne_eq, if_true, if_false, exists_eq_left', forall_const, forall_eq, Nat.reduceLT, Int.reduceSub, Nat.reduceAdd, Nat.reduceSub, Nat.reduceMul, Nat.reduceLeDiff, Nat.reduceEqDiff, Nat.reduceBEq, Nat.reduceBNe, Int.reduceNeg, Int.reduceAdd, Int.reduceMul, Int.reduceLE, Int.reduceLT, Int.reduceEq, Int.reduceToNat, reduceIte, reduceCtorEq, tbRefA]
  obtain ⟨σ1, hσ1⟩ : ∃ σ1, σ1 = σ.setBox b [.int .u8 t.knd, .bool t.neg, lims t.limbs, .str t.text, .int .i64 t.num, encs t.items, encs t.tail] := ⟨_, rfl⟩
  have hbx : σ1.box b = some [.int .u8 t.knd, .bool t.neg, lims t.limbs, .str t.text, .int .i64 t.num, encs t.items, encs t.tail] := by rw [hσ1]; simp [AS.setBox]
  have hle1 : σ.le σ1 := by rw [hσ1]; exact (AS.le.refl σ).setBox hb1.1 _
  rw [← hσ1]
  refine loop_intro (fun n e σ' => ∃ (i : Nat) (v : AV), i ≤ t.limbs.length ∧ n = t.limbs.length - i ∧ e 4 = .int .i64 i ∧ e 3 = v ∧ Buf 1 σ1 σ' v ((bitsTo t.limbs i 0).map AV.bool)) t.limbs.length
    ⟨0, .nil, by omega, by omega, by simp -dsimp only [↓bp, bq, br, afin, bsk, cWrites, opsWrites, pieceGh, rsk, ne_eq, if_true, if_false, exists_eq_left', forall_const, forall_eq, Nat.reduceLT, Int.reduceSub, Nat.reduceAdd, Nat.reduceSub, Nat.reduceMul, Nat.reduceLeDiff, Nat.reduceEqDiff, Nat.reduceBEq, Nat.reduceBNe, Int.reduceNeg, Int.reduceAdd, Int.reduceMul, Int.reduceLE, Int.reduceLT, Int.reduceEq, Int.reduceToNat, reduceIte, reduceCtorEq, tbRefA]; first | done | rfl, by simp -dsimp only [↓bp, bq, br, afin, bsk, cWrites, opsWrites, pieceGh, rsk, ne_eq, if_true, if_false, exists_eq_left', forall_const, forall_eq, Nat.reduceLT, Int.reduceSub, Nat.reduceAdd, Nat.reduceSub, Nat.reduceMul, Nat.reduceLeDiff, Nat.reduceEqDiff, Nat.reduceBEq, Nat.reduceBNe, Int.reduceNeg, Int.reduceAdd, Int.reduceMul, Int.reduceLE, Int.reduceLT, Int.reduceEq, Int.reduceToNat, reduceIte, reduceCtorEq, tbRefA]; first | done | rfl, by
      have e : bitsTo t.limbs 0 0 = [] := by simp [bitsTo, bitsL]
      rw [e]; exact .nil (AS.le.refl σ1)⟩ ?_
  rintro n e2 σ3 ⟨i, v3, hi2, rfl, h4, h3, hB3⟩
  have hbx3 := hB3.le.box _ _ hbx
  simp -dsimp only [↓bp, bq, br, afin, bsk, cWrites, opsWrites, pieceGh, rsk, ne_eq, if_true, if_false, exists_eq_left', forall_const, forall_eq, Nat.reduceLT, Int.reduceSub, Nat.reduceAdd, Nat.reduceSub, Nat.reduceMul, Nat.reduceLeDiff, Nat.reduceEqDiff, Nat.reduceBEq, Nat.reduceBNe, Int.reduceNeg, Int.reduceAdd, Int.reduceMul, Int.reduceLE, Int.reduceLT, Int.reduceEq, Int.reduceToNat, reduceIte, reduceCtorEq, tbRefA] at h4 h3
  simp -dsimp only [↓bp, bq, br, afin, bsk, cWrites, opsWrites, pieceGh, rsk, ne_eq, if_true, if_false, exists_eq_left', forall_const, forall_eq, Nat.reduceLT, Int.reduceSub, Nat.reduceAdd, Nat.reduceSub, Nat.reduceMul, Nat.reduceLeDiff, Nat.reduceEqDiff, Nat.reduceBEq, Nat.reduceBNe, Int.reduceNeg, Int.reduceAdd, Int.reduceMul, Int.reduceLE, Int.reduceLT, Int.reduceEq, Int.reduceToNat, reduceIte, reduceCtorEq, tbRefA, h4, h3, hbx3]
  refine condW_dec (fun hlt => ?_) (fun hge => ?_)
  · obtain ⟨x, hx⟩ : ∃ x, t.limbs[i]? = some x := ⟨_, List.getElem?_eq_getElem (by omega)⟩
    simp -dsimp only [↓bp, bq, br, afin, bsk, cWrites, opsWrites, pieceGh, rsk, ne_eq, if_true, if_false, exists_eq_left', forall_const, forall_eq, Nat.reduceLT, Int.reduceSub, Nat.reduceAdd, Nat.reduceSub, Nat.reduceMul, Nat.reduceLeDiff, Nat.reduceEqDiff, Nat.reduceBEq, Nat.reduceBNe, Int.reduceNeg, Int.reduceAdd, Int.reduceMul, Int.reduceLE, Int.reduceLT, Int.reduceEq, Int.reduceToNat, reduceIte, reduceCtorEq, tbRefA, h4, h3]
    refine loop_intro (fun n e σ' => ∃ (k : Nat) (v : AV), k ≤ 32 ∧ n = 32 - k ∧ e 5 = .int .i64 k ∧ e 3 = v ∧ Buf 1 σ1 σ' v ((bitsTo t.limbs i k).map AV.bool)) 32
      ⟨0, v3, by omega, by omega, by first | (simp -dsimp only [↓bp, bq, br, afin, bsk, cWrites, opsWrites, pieceGh, rsk, ne_eq, if_true, if_false, exists_eq_left', forall_const, forall_eq, Nat.reduceLT, Int.reduceSub, Nat.reduceAdd, Nat.reduceSub, Nat.reduceMul, Nat.reduceLeDiff, Nat.reduceEqDiff, Nat.reduceBEq, Nat.reduceBNe, Int.reduceNeg, Int.reduceAdd, Int.reduceMul, Int.reduceLE, Int.reduceLT, Int.reduceEq, Int.reduceToNat, reduceIte, reduceCtorEq, tbRefA, h4, h3]; done) | (simp -dsimp only [↓bp, bq, br, afin, bsk, cWrites, opsWrites, pieceGh, rsk, ne_eq, if_true, if_false, exists_eq_left', forall_const, forall_eq, Nat.reduceLT, Int.reduceSub, Nat.reduceAdd, Nat.reduceSub, Nat.reduceMul, Nat.reduceLeDiff, Nat.reduceEqDiff, Nat.reduceBEq, Nat.reduceBNe, Int.reduceNeg, Int.reduceAdd, Int.reduceMul, Int.reduceLE, Int.reduceLT, Int.reduceEq, Int.reduceToNat, reduceIte, reduceCtorEq, tbRefA, h4, h3]; rfl), by first | (simp -dsimp only [↓bp, bq, br, afin, bsk, cWrites, opsWrites, pieceGh, rsk, ne_eq, if_true, if_false, exists_eq_left', forall_const, forall_eq, Nat.reduceLT, Int.reduceSub, Nat.reduceAdd, Nat.reduceSub, Nat.reduceMul, Nat.reduceLeDiff, Nat.reduceEqDiff, Nat.reduceBEq, Nat.reduceBNe, Int.reduceNeg, Int.reduceAdd, Int.reduceMul, Int.reduceLE, Int.reduceLT, Int.reduceEq, Int.reduceToNat, reduceIte, reduceCtorEq, tbRefA, h4, h3]; done) | (simp -dsimp only [↓bp, bq, br, afin, bsk, cWrites, opsWrites, pieceGh, rsk, ne_eq, if_true, if_false, exists_eq_left', forall_const, forall_eq, Nat.reduceLT, Int.reduceSub, Nat.reduceAdd, Nat.reduceSub, Nat.reduceMul, Nat.reduceLeDiff, Nat.reduceEqDiff, Nat.reduceBEq, Nat.reduceBNe, Int.reduceNeg, Int.reduceAdd, Int.reduceMul, Int.reduceLE, Int.reduceLT, Int.reduceEq, Int.reduceToNat, reduceIte, reduceCtorEq, tbRefA, h4, h3]; rfl), hB3⟩ ?_
    rintro n3 e3 σ4 ⟨k, v4, hk2, rfl, h5, h3', hB4⟩
    have hbx4 := hB4.le.box _ _ hbx
    simp -dsimp only [↓bp, bq, br, afin, bsk, cWrites, opsWrites, pieceGh, rsk, ne_eq, if_true, if_false, exists_eq_left', forall_const, forall_eq, Nat.reduceLT, Int.reduceSub, Nat.reduceAdd, Nat.reduceSub, Nat.reduceMul, Nat.reduceLeDiff, Nat.reduceEqDiff, Nat.reduceBEq, Nat.reduceBNe, Int.reduceNeg, Int.reduceAdd, Int.reduceMul, Int.reduceLE, Int.reduceLT, Int.reduceEq, Int.reduceToNat, reduceIte, reduceCtorEq, tbRefA] at h5 h3'
    simp -dsimp only [↓bp, bq, br, afin, bsk, cWrites, opsWrites, pieceGh, rsk, ne_eq, if_true, if_false, exists_eq_left', forall_const, forall_eq, Nat.reduceLT, Int.reduceSub, Nat.reduceAdd, Nat.reduceSub, Nat.reduceMul, Nat.reduceLeDiff, Nat.reduceEqDiff, Nat.reduceBEq, Nat.reduceBNe, Int.reduceNeg, Int.reduceAdd, Int.reduceMul, Int.reduceLE, Int.reduceLT, Int.reduceEq, Int.reduceToNat, reduceIte, reduceCtorEq, tbRefA, h5, h3', h4]
    refine condW_dec (fun hlt2 => ?_) (fun hge2 => ?_)
    · have hw64 : IntKind.u64.wrap (k : Int) = k := by
        have e : IntKind.u64.wrap (k : Int) = (k : Int) % 18446744073709551616 := by first | rfl | simp [IntKind.wrap]
        rw [e]; omega
      have hk0 : ((k : Int) < 0) = False := eq_false (by omega)
      simp -dsimp only [↓bp, bq, br, afin, bsk, cWrites, opsWrites, pieceGh, rsk, ne_eq, if_true, if_false, exists_eq_left', forall_const, forall_eq, Nat.reduceLT, Int.reduceSub, Nat.reduceAdd, Nat.reduceSub, Nat.reduceMul, Nat.reduceLeDiff, Nat.reduceEqDiff, Nat.reduceBEq, Nat.reduceBNe, Int.reduceNeg, Int.reduceAdd, Int.reduceMul, Int.reduceLE, Int.reduceLT, Int.reduceEq, Int.reduceToNat, reduceIte, reduceCtorEq, tbRefA, h5, h3', h4, hbx4, hx, hw64, hk0, limA]
      have hbit := bit_eq x k (by omega)
      rw [hbit]
      refine build_one tbB rfl rfl (by omega) ?_
      simp -dsimp only [↓bp, bq, br, afin, bsk, cWrites, opsWrites, pieceGh, rsk, ne_eq, if_true, if_false, exists_eq_left', forall_const, forall_eq, Nat.reduceLT, Int.reduceSub, Nat.reduceAdd, Nat.reduceSub, Nat.reduceMul, Nat.reduceLeDiff, Nat.reduceEqDiff, Nat.reduceBEq, Nat.reduceBNe, Int.reduceNeg, Int.reduceAdd, Int.reduceMul, Int.reduceLE, Int.reduceLT, Int.reduceEq, Int.reduceToNat, reduceIte, reduceCtorEq, tbRefA, h5, h3', h4]
      refine app_buf (ys := [.bool (bitL x k)]) hB4 tbB (asrc_sl tbBE) (fun a ha => by simp at ha; subst ha; rfl) (by have := bitsTo_len t.limbs i k; simp; omega) (fun v5 σ5 hB5 hx5 => ?_)
      simp -dsimp only [↓bp, bq, br, afin, bsk, cWrites, opsWrites, pieceGh, rsk, ne_eq, if_true, if_false, exists_eq_left', forall_const, forall_eq, Nat.reduceLT, Int.reduceSub, Nat.reduceAdd, Nat.reduceSub, Nat.reduceMul, Nat.reduceLeDiff, Nat.reduceEqDiff, Nat.reduceBEq, Nat.reduceBNe, Int.reduceNeg, Int.reduceAdd, Int.reduceMul, Int.reduceLE, Int.reduceLT, Int.reduceEq, Int.reduceToNat, reduceIte, reduceCtorEq, tbRefA, h5, h3', h4]
      refine ⟨32 - (k + 1), by omega, k + 1, v5, by omega, rfl, ?_, rfl, ?_⟩
      · rw [wrap_nat (by omega) (by omega)]; rfl
      · rw [bitsTo_succ hx, List.map_append]; exact hB5
    · have : k = 32 := by omega
      subst this
      simp -dsimp only [↓bp, bq, br, afin, bsk, cWrites, opsWrites, pieceGh, rsk, ne_eq, if_true, if_false, exists_eq_left', forall_const, forall_eq, Nat.reduceLT, Int.reduceSub, Nat.reduceAdd, Nat.reduceSub, Nat.reduceMul, Nat.reduceLeDiff, Nat.reduceEqDiff, Nat.reduceBEq, Nat.reduceBNe, Int.reduceNeg, Int.reduceAdd, Int.reduceMul, Int.reduceLE, Int.reduceLT, Int.reduceEq, Int.reduceToNat, reduceIte, reduceCtorEq, tbRefA, h5, h3', h4]
      refine ⟨t.limbs.length - (i + 1), by omega, i + 1, v4, by omega, rfl, ?_, rfl, ?_⟩
      · rw [wrap_nat (by omega) (by omega)]; rfl
      · rw [← bitsTo_full hx]; exact hB4
  · have : i = t.limbs.length := by omega
    subst this
    have hz : bitsTo t.limbs t.limbs.length 0 = bitsL t.limbs := by rw [bitsTo_zero, List.take_length]
    rw [hz] at hB3
    simp -dsimp only [↓bp, bq, br, afin, bsk, cWrites, opsWrites, pieceGh, rsk, ne_eq, if_true, if_false, exists_eq_left', forall_const, forall_eq, Nat.reduceLT, Int.reduceSub, Nat.reduceAdd, Nat.reduceSub, Nat.reduceMul, Nat.reduceLeDiff, Nat.reduceEqDiff, Nat.reduceBEq, Nat.reduceBNe, Int.reduceNeg, Int.reduceAdd, Int.reduceMul, Int.reduceLE, Int.reduceLT, Int.reduceEq, Int.reduceToNat, reduceIte, reduceCtorEq, tbRefA, h4, h3]
    refine Pure.use ((cut_pure G (bitsL t.limbs) (by rw [bitsL_len]; omega)).lessArgs (.cons hB3.told .nil)) ?_
    simp -dsimp only [↓bp, bq, br, afin, bsk, cWrites, opsWrites, pieceGh, rsk, ne_eq, if_true, if_false, exists_eq_left', forall_const, forall_eq, Nat.reduceLT, Int.reduceSub, Nat.reduceAdd, Nat.reduceSub, Nat.reduceMul, Nat.reduceLeDiff, Nat.reduceEqDiff, Nat.reduceBEq, Nat.reduceBNe, Int.reduceNeg, Int.reduceAdd, Int.reduceMul, Int.reduceLE, Int.reduceLT, Int.reduceEq, Int.reduceToNat, reduceIte, reduceCtorEq, tbRefA, h4, h3]
    exact finish_le (Le.refl _) (hle1.trans hB3.le)
end Go.Proofs.YtjnhalmeddafdaaDoor
