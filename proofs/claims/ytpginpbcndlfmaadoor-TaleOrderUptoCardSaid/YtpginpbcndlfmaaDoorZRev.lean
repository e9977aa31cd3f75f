/- A row of bytes turned round in its place. -/
import Derived.Test.YtpginpbcndlfmaaDoorZI
import Derived.Test.YtpginpbcndlfmaaDoorZSaid
set_option linter.unusedVariables false
set_option linter.unusedSimpArgs false
set_option maxRecDepth 20000
set_option linter.defProp false
namespace Go.Proofs.YtpginpbcndlfmaaDoor
open Go Go.Av
def tbRev := And.intro (And.intro @tf3 (And.intro @tf4 @tf5)) (And.intro (And.intro @tf9 @tf63) (And.intro @isv_byteA @flat_byteA))
variable (G : Nat → AV)
theorem bytesA_set (s : List UInt8) (i : Nat) (c : UInt8) (h : i < s.length) : (bytesA s).take i ++ [byteA c] ++ (bytesA s).drop (i + 1) = bytesA (s.set i c) := by
  unfold bytesA
  rw [List.append_assoc, ← List.map_take, ← List.map_drop, List.set_eq_take_append_cons_drop, if_pos h, List.map_append, List.map_cons]
  rfl
theorem bytesA_get (s : List UInt8) (i : Nat) : (bytesA s)[i]? = (s[i]?).map byteA := by simp [bytesA]
/-- so far turned round -/
def Turned (s t : List UInt8) (i : Nat) : Prop := t.length = s.length ∧ ∀ k, k < s.length → t[k]? = if k < i ∨ s.length - i ≤ k then s[s.length - 1 - k]? else s[k]?
theorem Turned.step {s t : List UInt8} {i : Nat} (h : Turned s t i) (hi : i + i + 1 < s.length) {x y : UInt8} (hx : t[i]? = some x) (hy : t[s.length - 1 - i]? = some y) : Turned s ((t.set i y).set (s.length - 1 - i) x) (i + 1) := by
  obtain ⟨h1, h2⟩ := h
  have gx := h2 i (by omega)
  have gy := h2 (s.length - 1 - i) (by omega)
  rw [if_neg (by omega), hx] at gx
  rw [if_neg (by omega), hy] at gy
  refine ⟨by simp [h1], fun k hk => ?_⟩
  rw [List.getElem?_set]
  by_cases e1 : s.length - 1 - i = k
  · rw [if_pos e1, if_pos (by simp; omega), if_pos (by omega)]
    rw [gx]; congr 1; omega
  · rw [if_neg e1, List.getElem?_set]
    by_cases e2 : i = k
    · rw [if_pos e2, if_pos (by omega), if_pos (by omega), gy]; subst e2; rfl
    · rw [if_neg e2, h2 k hk]
      by_cases e3 : k < i ∨ s.length - i ≤ k
      · rw [if_pos e3, if_pos (by omega)]
      · rw [if_neg e3, if_neg (by omega)]
theorem Turned.done {s t : List UInt8} {i : Nat} (h : Turned s t i) (hi : s.length ≤ i + i + 1) : t = s.reverse := by
  obtain ⟨h1, h2⟩ := h
  refine List.ext_getElem? fun k => ?_
  by_cases hk : k < s.length
  · rw [h2 k hk, List.getElem?_reverse hk]
    split
    · rfl
    · congr 1; omega
  · rw [List.getElem?_eq_none (by omega), List.getElem?_eq_none (by simp; omega)]
theorem reverse_tri (s : List UInt8) (hl : s.length ≤ 1000000000) (σ : AS) (b : Nat) (hb : σ.box b = some (bytesA s)) :
    Tri Tryd.prog G 59 [.bs b s.length 1 5] σ fun r σ' => σ' = σ.setBox b (bytesA s.reverse) := by
  have hw0 : IntKind.i64.wrap ((s.length : Int) - 1) = s.length - 1 := wrap_nat (by omega) (by omega)
  refine Tri.of_awp mixed Tryd.func59 rfl (by kernel_rfl) (by kernel_rfl) (by simp [Tryd.ntmps59]) Tryd.results59 ?_
  repeat' (first
    | with_reducible refine condW_both (fun _ _ => ?_) (fun _ _ => ?_)
    | with_reducible refine gW_both (fun _ _ => ?_) (fun _ _ => ?_)
    | with_reducible refine condW_split (fun _ => ?_) (fun _ => ?_)
    | with_reducible refine gW_split (fun _ => ?_) (fun _ => ?_)
    | with_reducible refine pickW_split (fun _ => ?_) (fun _ => ?_)
    | (refine newW_intro ?_; intro bx hbx; (try simp only [fresh_box, fresh_tip, fresh_ty] at hbx))
    | (refine newT_plain ?_; intro bx hbx; (try simp only [fresh_box, fresh_tip, fresh_ty] at hbx))
    | refine storeX_w ?_
    | ((with_reducible refine And.intro ?_ ?_); omega)
    | refine bo_buildSlice (d' := ⟨⟩) ?_
    | (refine draw_all (by kernel_rfl) ?_)
    | refine finish_pure ?_ (by repeat' (first | exact AS.le.refl _ | assumption | (refine le_set (by first | assumption | (simp only [*]; done) | exact AS.le.fresh (by assumption) (by simp only [*])) ?_) | (refine le_ty (by first | assumption | (simp only [*]; done) | exact AS.le.fresh (by assumption) (by simp only [*])) ?_)))
    | simp -dsimp only [↓bp, bq, br, afin, bsk, cWrites, opsWrites, pieceGh, rsk, ne_eq, if_true, if_false, exists_eq_left', forall_const, forall_eq, Nat.reduceLT, Int.reduceSub, Nat.reduceAdd, Nat.reduceSub, Nat.reduceMul, Nat.reduceLeDiff, Nat.reduceEqDiff, Nat.reduceBEq, Nat.reduceBNe, Int.reduceNeg, Int.reduceAdd, Int.reduceMul, Int.reduceLE, Int.reduceLT, Int.reduceEq, Int.reduceToNat, reduceIte, reduceCtorEq, tbRev, Nat.mul_one, List.head?_drop, *])
  refine loop_intro (fun n e σ' => ∃ (i : Nat) (t : List UInt8), i ≤ s.length ∧ n = s.length - i ∧ e 2 = .int .i64 i ∧ e 3 = .int .i64 ((s.length : Int) - 1 - i) ∧ Turned s t i ∧ σ' = σ.setBox b (bytesA t)) s.length
    ⟨0, s, by omega, by omega, by first | (simp -dsimp only [↓bp, bq, br, afin, bsk, cWrites, opsWrites, pieceGh, rsk, ne_eq, if_true, if_false, exists_eq_left', forall_const, forall_eq, Nat.reduceLT, Int.reduceSub, Nat.reduceAdd, Nat.reduceSub, Nat.reduceMul, Nat.reduceLeDiff, Nat.reduceEqDiff, Nat.reduceBEq, Nat.reduceBNe, Int.reduceNeg, Int.reduceAdd, Int.reduceMul, Int.reduceLE, Int.reduceLT, Int.reduceEq, Int.reduceToNat, reduceIte, reduceCtorEq, tbRev, Nat.mul_one, List.head?_drop]; done) | (simp -dsimp only [↓bp, bq, br, afin, bsk, cWrites, opsWrites, pieceGh, rsk, ne_eq, if_true, if_false, exists_eq_left', forall_const, forall_eq, Nat.reduceLT, Int.reduceSub, Nat.reduceAdd, Nat.reduceSub, Nat.reduceMul, Nat.reduceLeDiff, Nat.reduceEqDiff, Nat.reduceBEq, Nat.reduceBNe, Int.reduceNeg, Int.reduceAdd, Int.reduceMul, Int.reduceLE, Int.reduceLT, Int.reduceEq, Int.reduceToNat, reduceIte, reduceCtorEq, tbRev, Nat.mul_one, List.head?_drop]; rfl), by first | (simp -dsimp only [↓bp, bq, br, afin, bsk, cWrites, opsWrites, pieceGh, rsk, ne_eq, if_true, if_false, exists_eq_left', forall_const, forall_eq, Nat.reduceLT, Int.reduceSub, Nat.reduceAdd, Nat.reduceSub, Nat.reduceMul, Nat.reduceLeDiff, Nat.reduceEqDiff, Nat.reduceBEq, Nat.reduceBNe, Int.reduceNeg, Int.reduceAdd, Int.reduceMul, Int.reduceLE, Int.reduceLT, Int.reduceEq, Int.reduceToNat, reduceIte, reduceCtorEq, tbRev, Nat.mul_one, List.head?_drop]; done) | (simp -dsimp only [↓bp, bq, br, afin, bsk, cWrites, opsWrites, pieceGh, rsk, ne_eq, if_true, if_false, exists_eq_left', forall_const, forall_eq, Nat.reduceLT, Int.reduceSub, Nat.reduceAdd, Nat.reduceSub, Nat.reduceMul, Nat.reduceLeDiff, Nat.reduceEqDiff, Nat.reduceBEq, Nat.reduceBNe, Int.reduceNeg, Int.reduceAdd, Int.reduceMul, Int.reduceLE, Int.reduceLT, Int.reduceEq, Int.reduceToNat, reduceIte, reduceCtorEq, tbRev, Nat.mul_one, List.head?_drop]; simp), ⟨rfl, fun k hk => by rw [if_neg (by omega)]⟩, (setBox_id hb).symm⟩ ?_
  rintro n v σ' ⟨i, t, hi, rfl, h2, h3, ht, rfl⟩
  simp -dsimp only [↓bp, bq, br, afin, bsk, cWrites, opsWrites, pieceGh, rsk, ne_eq, if_true, if_false, exists_eq_left', forall_const, forall_eq, Nat.reduceLT, Int.reduceSub, Nat.reduceAdd, Nat.reduceSub, Nat.reduceMul, Nat.reduceLeDiff, Nat.reduceEqDiff, Nat.reduceBEq, Nat.reduceBNe, Int.reduceNeg, Int.reduceAdd, Int.reduceMul, Int.reduceLE, Int.reduceLT, Int.reduceEq, Int.reduceToNat, reduceIte, reduceCtorEq, tbRev, Nat.mul_one, List.head?_drop] at h2 h3
  by_cases hlt : i + i + 1 < s.length
  · obtain ⟨x, hx⟩ : ∃ x, t[i]? = some x := ⟨_, List.getElem?_eq_getElem (by rw [ht.1]; omega)⟩
    obtain ⟨y, hy⟩ : ∃ y, t[s.length - 1 - i]? = some y := ⟨_, List.getElem?_eq_getElem (by rw [ht.1]; omega)⟩
    have hst := ht.step hlt hx hy
    have c1 : (i : Int) < (s.length : Int) - 1 - i := by omega
    have hj : (s.length : Int) - 1 - i = ((s.length - 1 - i : Nat) : Int) := by omega
    have hbx : (bytesA t)[i]? = some (byteA x) := by rw [bytesA_get, hx]; rfl
    have hby : (bytesA t)[s.length - 1 - i]? = some (byteA y) := by rw [bytesA_get, hy]; rfl
    obtain ⟨j, hjj⟩ : ∃ j, s.length - 1 - i = j := ⟨_, rfl⟩
    rw [hjj] at hj hby hst
    rw [hj] at h3 c1
    have hb1 : (0 : Int) ≤ i ∧ (i : Int) < s.length := by omega
    have hb2 : (0 : Int) ≤ j ∧ (j : Int) < s.length := by omega
    have hl1 : i + 1 ≤ (bytesA t).length := by rw [bytesA_len, ht.1]; omega
    have hset1 := bytesA_set t i y (by rw [ht.1]; omega)
    have hset2 := bytesA_set (t.set i y) j x (by simp; rw [ht.1]; omega)
    have hl2 : j + 1 ≤ (bytesA (t.set i y)).length := by rw [bytesA_len]; simp; rw [ht.1]; omega
    clear hx hy ht hlt hi hw0 hb
    repeat' (first
    | with_reducible refine condW_both (fun _ _ => ?_) (fun _ _ => ?_)
    | with_reducible refine gW_both (fun _ _ => ?_) (fun _ _ => ?_)
    | with_reducible refine condW_split (fun _ => ?_) (fun _ => ?_)
    | with_reducible refine gW_split (fun _ => ?_) (fun _ => ?_)
    | with_reducible refine pickW_split (fun _ => ?_) (fun _ => ?_)
    | (refine newW_intro ?_; intro bx hbx; (try simp only [fresh_box, fresh_tip, fresh_ty] at hbx))
    | (refine newT_plain ?_; intro bx hbx; (try simp only [fresh_box, fresh_tip, fresh_ty] at hbx))
    | (refine draw_all_f [(13, 2), (13, 3)] (by kernel_rfl) (by kernel_rfl) ?_)
    | refine storeX_w ?_
    | ((with_reducible refine And.intro ?_ ?_); omega)
    | refine bo_buildSlice (d' := ⟨⟩) ?_
    | (refine draw_all (by kernel_rfl) ?_)
    | refine finish_pure ?_ (by repeat' (first | exact AS.le.refl _ | assumption | (refine le_set (by first | assumption | (simp only [*]; done) | exact AS.le.fresh (by assumption) (by simp only [*])) ?_) | (refine le_ty (by first | assumption | (simp only [*]; done) | exact AS.le.fresh (by assumption) (by simp only [*])) ?_)))
    | simp -dsimp only [↓bp, bq, br, afin, bsk, cWrites, opsWrites, pieceGh, rsk, ne_eq, if_true, if_false, exists_eq_left', forall_const, forall_eq, Nat.reduceLT, Int.reduceSub, Nat.reduceAdd, Nat.reduceSub, Nat.reduceMul, Nat.reduceLeDiff, Nat.reduceEqDiff, Nat.reduceBEq, Nat.reduceBNe, Int.reduceNeg, Int.reduceAdd, Int.reduceMul, Int.reduceLE, Int.reduceLT, Int.reduceEq, Int.reduceToNat, reduceIte, reduceCtorEq, tbRev, Nat.mul_one, List.head?_drop, *])
    have h3' : IntKind.i64.wrap ((j : Int) - 1) = (s.length : Int) - 1 - ((i + 1 : Nat) : Int) := by rw [wrap_nat (by omega) (by omega)]; omega
    have h2' : IntKind.i64.wrap ((i : Int) + 1) = ((i + 1 : Nat) : Int) := by rw [wrap_nat (by omega) (by omega)]; rfl
    refine ⟨s.length - (i + 1), by omega, i + 1, _, by omega, rfl, by rw [h2'], by rw [h3'], hst, ?_⟩
    rfl
  · have hd := ht.done (by omega)
    subst hd
    have c1 : ¬ (i : Int) < (s.length : Int) - 1 - i := by omega
    clear hi hlt ht hw0
    repeat' (first
    | with_reducible refine condW_both (fun _ _ => ?_) (fun _ _ => ?_)
    | with_reducible refine gW_both (fun _ _ => ?_) (fun _ _ => ?_)
    | with_reducible refine condW_split (fun _ => ?_) (fun _ => ?_)
    | with_reducible refine gW_split (fun _ => ?_) (fun _ => ?_)
    | with_reducible refine pickW_split (fun _ => ?_) (fun _ => ?_)
    | (refine newW_intro ?_; intro bx hbx; (try simp only [fresh_box, fresh_tip, fresh_ty] at hbx))
    | (refine newT_plain ?_; intro bx hbx; (try simp only [fresh_box, fresh_tip, fresh_ty] at hbx))
    | refine storeX_w ?_
    | ((with_reducible refine And.intro ?_ ?_); omega)
    | refine bo_buildSlice (d' := ⟨⟩) ?_
    | (refine draw_all (by kernel_rfl) ?_)
    | refine finish_pure ?_ (by repeat' (first | exact AS.le.refl _ | assumption | (refine le_set (by first | assumption | (simp only [*]; done) | exact AS.le.fresh (by assumption) (by simp only [*])) ?_) | (refine le_ty (by first | assumption | (simp only [*]; done) | exact AS.le.fresh (by assumption) (by simp only [*])) ?_)))
    | simp -dsimp only [↓bp, bq, br, afin, bsk, cWrites, opsWrites, pieceGh, rsk, ne_eq, if_true, if_false, exists_eq_left', forall_const, forall_eq, Nat.reduceLT, Int.reduceSub, Nat.reduceAdd, Nat.reduceSub, Nat.reduceMul, Nat.reduceLeDiff, Nat.reduceEqDiff, Nat.reduceBEq, Nat.reduceBNe, Int.reduceNeg, Int.reduceAdd, Int.reduceMul, Int.reduceLE, Int.reduceLT, Int.reduceEq, Int.reduceToNat, reduceIte, reduceCtorEq, tbRev, Nat.mul_one, List.head?_drop, *])
    exact finishW_some _ (AS.le.refl _) rfl
end Go.Proofs.YtpginpbcndlfmaaDoor
