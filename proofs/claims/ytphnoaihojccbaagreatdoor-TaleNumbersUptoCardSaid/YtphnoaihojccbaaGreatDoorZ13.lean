/- The reference's size, on abstract values: by kinds. -/
import Derived.Test.YtphnoaihojccbaaGreatDoorZ12
import Derived.Test.YtphnoaihojccbaaGreatDoorZ11
import Derived.Test.YtphnoaihojccbaaGreatDoorZ08
import Derived.Test.YtphnoaihojccbaaGreatDoorZ09
import Derived.Test.YtphnoaihojccbaaGreatDoorZ04
import Derived.Test.YtphnoaihojccbaaGreatDoorChecked
import Derived.KernelRfl
set_option linter.unusedVariables false
set_option linter.unusedSimpArgs false
set_option maxRecDepth 20000
set_option linter.defProp false
namespace Go.Proofs.YtphnoaihojccbaaGreatDoor
open Go Go.Av
section
def tbRefH := And.intro (And.intro (And.intro (And.intro @tf3 @tf4) (And.intro @tf5 @tf85)) (And.intro (And.intro @tf9 @tf40) (And.intro @tf39 (And.intro @tf22 @tf42)))) (And.intro (And.intro (And.intro @Term.flat_enc @Term.isv_enc) (And.intro @Term.fold_enc @isv_encs)) (And.intro (And.intro @flat_encs @len_encs) (And.intro @isv_lims (And.intro @flat_lims @len_lims))))
def Hid (p : Prop) : Prop := p
variable (G : Nat → AV)
theorem rsz_1 (t : Term) (hb : t.bulk ≤ 1000000000) (hk : t.knd = 1) : Pure Tryz.prog G 147 [t.enc] (.int .i64 (rsize t)) := by
  have hr := rright_pure G t hb
  have hl := len_limbs t
  have e : rsize t = if wr t = true then (1 + t.limbs.length : Int) else -1 := by rw [rsize_eq, if_pos hk]
  have hw1 : IntKind.i64.wrap (1 + (t.limbs.length : Int)) = 1 + t.limbs.length := wrap_nat (by omega) (by omega)
  have k1 := eq_true hk
  clear hk
  rw [e]
  clear e
  generalize wr t = W at *
  intro σ
  cases W
  all_goals
    refine Tri.of_awp mixed Tryz.func147 rfl (by kernel_rfl) (by kernel_rfl) (by simp [Tryz.ntmps147]) Tryz.results147 ?_
    repeat' (first | refine xs ?_ ?_ <;> intros | ((first | refine xh ?_ | refine xi ?_); intro bx hbx; (try simp only [fb] at hbx)) | refine Pure.use (hr) ?_ | refine Pure.head (hr) ?_ | refine xj ?_ | ((with_reducible refine And.intro ?_ ?_); omega) | refine bo_buildSlice (d' := ⟨⟩) ?_ | refine xk (by kernel_rfl) ?_ | refine xf ?_ (by repeat' first | exact lr _ | assumption | refine ls ?_ ?_ | refine lt ?_ ?_ | simp only [*]; done | exact lf ‹_› (by simp only [*])) | simp -dsimp only [↓bp, bq, br, seval, tbRefH, if_true, if_false, *])
  all_goals rfl
set_option maxHeartbeats 4000000 in
theorem rsz_2 (t : Term) (hb : t.bulk ≤ 1000000000) (hk : t.knd = 2) : Pure Tryz.prog G 147 [t.enc] (.int .i64 (rsize t)) := by
  have e : Hid _ := rsize_2 hk
  have k1 := eq_false (show ¬ t.knd = 1 by omega)
  have k7 := eq_false (show ¬ t.knd = 7 by omega)
  have k2 := eq_true hk
  clear hk
  generalize rsize t = r at *
  intro σ
  clear hb
  refine Tri.of_awp mixed Tryz.func147 rfl (by kernel_rfl) (by kernel_rfl) (by simp [Tryz.ntmps147]) Tryz.results147 ?_
  repeat' (first | refine xs ?_ ?_ <;> intros | ((first | refine xh ?_ | refine xi ?_); intro bx hbx; (try simp only [fb] at hbx)) | refine xj ?_ | ((with_reducible refine And.intro ?_ ?_); omega) | refine bo_buildSlice (d' := ⟨⟩) ?_ | refine xk (by kernel_rfl) ?_ | refine xf ?_ (by repeat' first | exact lr _ | assumption | refine ls ?_ ?_ | refine lt ?_ ?_ | simp only [*]; done | exact lf ‹_› (by simp only [*])) | simp -dsimp only [↓bp, bq, br, seval, tbRefH, *])
  all_goals
    unfold Hid at e
    rw [e]
    split
    · rename_i hc
      obtain ⟨c1, c2, c3, c4, c5, c6⟩ := hc
      first | rfl | (exfalso; first | omega | (simp_all; done))
    · rename_i hc
      first | rfl | (exfalso; apply hc; refine ⟨?_, ?_, ?_, ?_, ?_, ?_⟩ <;> first | assumption | omega | (simp_all; done))
end
set_option maxRecDepth 20000
section
def tbRefH2 := And.intro (And.intro (And.intro (And.intro @tf3 @tf4) (And.intro @tf5 @tf85)) (And.intro (And.intro @tf9 @tf40) (And.intro @tf39 (And.intro @tf22 @tf42)))) (And.intro (And.intro (And.intro @Term.flat_enc @Term.isv_enc) (And.intro @Term.fold_enc @isv_encs)) (And.intro (And.intro @flat_encs @len_encs) (And.intro @isv_lims (And.intro @flat_lims @len_lims))))
variable (G : Nat → AV)
set_option maxHeartbeats 4000000 in
theorem rsz_3 (t : Term) (hb : t.bulk ≤ 1000000000) (hk : t.knd = 3) : Pure Tryz.prog G 147 [t.enc] (.int .i64 (rsize t)) := by
  have e : Hid _ := rsize_35 (.inl hk)
  have k1 := eq_false (show ¬ t.knd = 1 by omega)
  have k2 := eq_false (show ¬ t.knd = 2 by omega)
  have k4 := eq_false (show ¬ t.knd = 4 by omega)
  have k5 := eq_false (show ¬ t.knd = 5 by omega)
  have k6 := eq_false (show ¬ t.knd = 6 by omega)
  have k7 := eq_false (show ¬ t.knd = 7 by omega)
  have k3 := eq_true hk
  clear hk
  generalize rsize t = r at *
  intro σ
  clear hb
  refine Tri.of_awp mixed Tryz.func147 rfl (by kernel_rfl) (by kernel_rfl) (by simp [Tryz.ntmps147]) Tryz.results147 ?_
  repeat' (first | refine xs ?_ ?_ <;> intros | ((first | refine xh ?_ | refine xi ?_); intro bx hbx; (try simp only [fb] at hbx)) | refine xj ?_ | ((with_reducible refine And.intro ?_ ?_); omega) | refine bo_buildSlice (d' := ⟨⟩) ?_ | refine xk (by kernel_rfl) ?_ | refine xf ?_ (by repeat' first | exact lr _ | assumption | refine ls ?_ ?_ | refine lt ?_ ?_ | simp only [*]; done | exact lf ‹_› (by simp only [*])) | simp -dsimp only [↓bp, bq, br, seval, tbRefH2, *])
  all_goals
    unfold Hid at e
    rw [e]
    split
    · rename_i hc
      obtain ⟨c1, c2, c3, c4, c5, c6, c7⟩ := hc
      first | rfl | (exfalso; first | omega | (simp_all; done))
    · rename_i hc
      first | rfl | (exfalso; apply hc; refine ⟨?_, ?_, ?_, ?_, ?_, ?_, ?_⟩ <;> first | assumption | omega | (simp_all; done))
set_option maxHeartbeats 4000000 in
theorem rsz_5 (t : Term) (hb : t.bulk ≤ 1000000000) (hk : t.knd = 5) : Pure Tryz.prog G 147 [t.enc] (.int .i64 (rsize t)) := by
  have e : Hid _ := rsize_35 (.inr hk)
  have k1 := eq_false (show ¬ t.knd = 1 by omega)
  have k2 := eq_false (show ¬ t.knd = 2 by omega)
  have k3 := eq_false (show ¬ t.knd = 3 by omega)
  have k4 := eq_false (show ¬ t.knd = 4 by omega)
  have k6 := eq_false (show ¬ t.knd = 6 by omega)
  have k7 := eq_false (show ¬ t.knd = 7 by omega)
  have k5 := eq_true hk
  clear hk
  generalize rsize t = r at *
  intro σ
  clear hb
  refine Tri.of_awp mixed Tryz.func147 rfl (by kernel_rfl) (by kernel_rfl) (by simp [Tryz.ntmps147]) Tryz.results147 ?_
  repeat' (first | refine xs ?_ ?_ <;> intros | ((first | refine xh ?_ | refine xi ?_); intro bx hbx; (try simp only [fb] at hbx)) | refine xj ?_ | ((with_reducible refine And.intro ?_ ?_); omega) | refine bo_buildSlice (d' := ⟨⟩) ?_ | refine xk (by kernel_rfl) ?_ | refine xf ?_ (by repeat' first | exact lr _ | assumption | refine ls ?_ ?_ | refine lt ?_ ?_ | simp only [*]; done | exact lf ‹_› (by simp only [*])) | simp -dsimp only [↓bp, bq, br, seval, tbRefH2, *])
  all_goals
    unfold Hid at e
    rw [e]
    split
    · rename_i hc
      obtain ⟨c1, c2, c3, c4, c5, c6, c7⟩ := hc
      first | rfl | (exfalso; first | omega | (simp_all; done))
    · rename_i hc
      first | rfl | (exfalso; apply hc; refine ⟨?_, ?_, ?_, ?_, ?_, ?_, ?_⟩ <;> first | assumption | omega | (simp_all; done))
set_option maxHeartbeats 4000000 in
theorem rsz_4 (t : Term) (hb : t.bulk ≤ 1000000000) (hk : t.knd = 4) (hit : ∀ x, x ∈ t.items → Pure Tryz.prog G 147 [x.enc] (.int .i64 (rsize x))) : Pure Tryz.prog G 147 [t.enc] (.int .i64 (rsize t)) := by
  have e : Hid _ := rsize_4 hk
  have hbe := t.bulk_eq
  have hi := items_pure G t.items 2 0 (by omega) (by omega) (by omega) (by omega) (by omega) hit
  clear hbe hit
  generalize ritems t.items 2 0 = s at *
  have k1 := eq_false (show ¬ t.knd = 1 by omega)
  have k2 := eq_false (show ¬ t.knd = 2 by omega)
  have k3 := eq_false (show ¬ t.knd = 3 by omega)
  have k5 := eq_false (show ¬ t.knd = 5 by omega)
  have k6 := eq_false (show ¬ t.knd = 6 by omega)
  have k7 := eq_false (show ¬ t.knd = 7 by omega)
  have k4 := eq_true hk
  clear hk
  generalize rsize t = r at *
  intro σ
  clear hb
  refine Tri.of_awp mixed Tryz.func147 rfl (by kernel_rfl) (by kernel_rfl) (by simp [Tryz.ntmps147]) Tryz.results147 ?_
  repeat' (first | refine xs ?_ ?_ <;> intros | ((first | refine xh ?_ | refine xi ?_); intro bx hbx; (try simp only [fb] at hbx)) | refine Pure.use (hi) ?_ | refine Pure.head (hi) ?_ | refine xj ?_ | ((with_reducible refine And.intro ?_ ?_); omega) | refine bo_buildSlice (d' := ⟨⟩) ?_ | refine xk (by kernel_rfl) ?_ | refine xf ?_ (by repeat' first | exact lr _ | assumption | refine ls ?_ ?_ | refine lt ?_ ?_ | simp only [*]; done | exact lf ‹_› (by simp only [*])) | simp -dsimp only [↓bp, bq, br, seval, tbRefH2, *])
  all_goals
    unfold Hid at e
    rw [e]
    split
    · rename_i hc
      obtain ⟨c1, c2, c3, c4, c5, c6⟩ := hc
      first | rfl | (exfalso; first | omega | (simp_all; done))
    · rename_i hc
      first | rfl | (exfalso; apply hc; refine ⟨?_, ?_, ?_, ?_, ?_, ?_⟩ <;> first | assumption | omega | (simp_all; done))
set_option maxHeartbeats 4000000 in
theorem rsz_6 (t : Term) (hb : t.bulk ≤ 1000000000) (hk : t.knd = 6) (hit : ∀ x, x ∈ t.items → Pure Tryz.prog G 147 [x.enc] (.int .i64 (rsize x))) : Pure Tryz.prog G 147 [t.enc] (.int .i64 (rsize t)) := by
  have e : Hid _ := rsize_6 hk
  have hbe := t.bulk_eq
  have hi := items_pure G t.items 1 0 (by omega) (by omega) (by omega) (by omega) (by omega) hit
  clear hbe hit
  generalize ritems t.items 1 0 = s at *
  have k1 := eq_false (show ¬ t.knd = 1 by omega)
  have k2 := eq_false (show ¬ t.knd = 2 by omega)
  have k3 := eq_false (show ¬ t.knd = 3 by omega)
  have k4 := eq_false (show ¬ t.knd = 4 by omega)
  have k5 := eq_false (show ¬ t.knd = 5 by omega)
  have k7 := eq_false (show ¬ t.knd = 7 by omega)
  have k6 := eq_true hk
  clear hk
  generalize rsize t = r at *
  intro σ
  clear hb
  refine Tri.of_awp mixed Tryz.func147 rfl (by kernel_rfl) (by kernel_rfl) (by simp [Tryz.ntmps147]) Tryz.results147 ?_
  repeat' (first | refine xs ?_ ?_ <;> intros | ((first | refine xh ?_ | refine xi ?_); intro bx hbx; (try simp only [fb] at hbx)) | refine Pure.use (hi) ?_ | refine Pure.head (hi) ?_ | refine xj ?_ | ((with_reducible refine And.intro ?_ ?_); omega) | refine bo_buildSlice (d' := ⟨⟩) ?_ | refine xk (by kernel_rfl) ?_ | refine xf ?_ (by repeat' first | exact lr _ | assumption | refine ls ?_ ?_ | refine lt ?_ ?_ | simp only [*]; done | exact lf ‹_› (by simp only [*])) | simp -dsimp only [↓bp, bq, br, seval, tbRefH2, *])
  all_goals
    unfold Hid at e
    rw [e]
    split
    · rename_i hc
      obtain ⟨c1, c2, c3, c4, c5⟩ := hc
      first | rfl | (exfalso; first | omega | (simp_all; done))
    · rename_i hc
      first | rfl | (exfalso; apply hc; refine ⟨?_, ?_, ?_, ?_, ?_⟩ <;> first | assumption | omega | (simp_all; done))
end
set_option maxRecDepth 20000
section
def tbRefH3 := And.intro (And.intro (And.intro (And.intro @tf3 @tf4) (And.intro @tf5 @tf85)) (And.intro (And.intro @tf9 @tf40) (And.intro @tf39 (And.intro @tf22 @tf42)))) (And.intro (And.intro (And.intro @Term.flat_enc @Term.isv_enc) (And.intro @Term.fold_enc @isv_encs)) (And.intro (And.intro @flat_encs @len_encs) (And.intro @isv_lims (And.intro @flat_lims @len_lims))))
variable (G : Nat → AV)
set_option maxHeartbeats 4000000 in
theorem rsz_7a (t : Term) (hb : t.bulk ≤ 1000000000) (hk : t.knd = 7) (hit : ∀ x, x ∈ t.items → Pure Tryz.prog G 147 [x.enc] (.int .i64 (rsize x))) (htt : ∀ x, x ∈ t.tail → Pure Tryz.prog G 147 [x.enc] (.int .i64 (rsize x))) (hl : t.tail.length = 0) : Pure Tryz.prog G 147 [t.enc] (.int .i64 (rsize t)) := by
  have hbe := t.bulk_eq
  have hi := items_pure G t.items 1 1 (by omega) (by omega) (by omega) (by omega) (by omega) hit
  have hsl := ritems_le t.items 1 (by omega) (by omega) (fun x _ => rsize_le x) 1 (by omega)
  have hj : 0 ≤ ritems t.items 1 1 → Pure Tryz.prog G 168 [encs t.tail, .int .i64 (ritems t.items 1 1), .int .i64 0] (.int .i64 (ritems t.tail (ritems t.items 1 1) 0)) := fun h => items_pure G t.tail _ 0 (by omega) (by omega) h (by omega) (by omega) htt
  have e0 : rsize t = if t.neg = false ∧ (t.limbs.length : Int) = 0 ∧ t.text = [] ∧ t.num = 0 then (if ritems t.items 1 1 < 0 then -1 else ritems t.tail (ritems t.items 1 1) 0) else -1 := by
    rw [rsize_7 hk]
    have e1 : t.tail = [] := List.eq_nil_of_length_eq_zero hl
    have e2 : ((t.tail.length : Int) ≤ (if (t.items.length : Int) < 1 then (t.items.length : Int) else 1)) = True := eq_true (by rw [hl]; split <;> omega)
    have e3 : (t.tail.all fun x => decide (x.knd ≠ 7)) = true := by rw [e1]; rfl
    rw [e3]
    simp only [e2, and_true]
  have k1 := eq_false (show ¬ t.knd = 1 by omega)
  have k2 := eq_false (show ¬ t.knd = 2 by omega)
  have k3 := eq_false (show ¬ t.knd = 3 by omega)
  have k4 := eq_false (show ¬ t.knd = 4 by omega)
  have k5 := eq_false (show ¬ t.knd = 5 by omega)
  have k6 := eq_false (show ¬ t.knd = 6 by omega)
  have k7 := eq_true hk
  have l0 : (t.tail.length : Int) = 0 := by omega
  clear hk hbe hb hit htt hsl hl
  generalize rsize t = r at *
  generalize ritems t.items 1 1 = s at *
  by_cases hs : s < 0
  · clear hj
    rw [if_pos hs] at e0
    have e : Hid _ := e0
    clear e0
    have hs := eq_true hs
    intro σ
    refine Tri.of_awp mixed Tryz.func147 rfl (by kernel_rfl) (by kernel_rfl) (by simp [Tryz.ntmps147]) Tryz.results147 ?_
    repeat' (first | refine xs ?_ ?_ <;> intros | ((first | refine xh ?_ | refine xi ?_); intro bx hbx; (try simp only [fb] at hbx)) | refine Pure.use (hi) ?_ | refine Pure.head (hi) ?_ | refine xj ?_ | ((with_reducible refine And.intro ?_ ?_); omega) | refine bo_buildSlice (d' := ⟨⟩) ?_ | refine xk (by kernel_rfl) ?_ | refine xf ?_ (by repeat' first | exact lr _ | assumption | refine ls ?_ ?_ | refine lt ?_ ?_ | simp only [*]; done | exact lf ‹_› (by simp only [*])) | simp -dsimp only [↓bp, bq, br, seval, tbRefH3, *])
    all_goals
      unfold Hid at e
      rw [e]
      split
      · rename_i hc
        obtain ⟨c1, c2, c3, c4⟩ := hc
        first | rfl | (exfalso; first | omega | (simp_all; done))
      · rename_i hc
        first | rfl | (exfalso; apply hc; refine ⟨?_, ?_, ?_, ?_⟩ <;> first | assumption | omega | (simp_all; done))
  · have hj := hj (by omega)
    rw [if_neg hs] at e0
    have e : Hid _ := e0
    clear e0
    generalize ritems t.tail s 0 = u at *
    have hs := eq_false hs
    intro σ
    refine Tri.of_awp mixed Tryz.func147 rfl (by kernel_rfl) (by kernel_rfl) (by simp [Tryz.ntmps147]) Tryz.results147 ?_
    repeat' (first | refine xs ?_ ?_ <;> intros | ((first | refine xh ?_ | refine xi ?_); intro bx hbx; (try simp only [fb] at hbx)) | refine Pure.use (hi) ?_ | refine Pure.head (hi) ?_ | refine Pure.use (hj) ?_ | refine Pure.head (hj) ?_ | refine xj ?_ | ((with_reducible refine And.intro ?_ ?_); omega) | refine bo_buildSlice (d' := ⟨⟩) ?_ | refine xk (by kernel_rfl) ?_ | refine xf ?_ (by repeat' first | exact lr _ | assumption | refine ls ?_ ?_ | refine lt ?_ ?_ | simp only [*]; done | exact lf ‹_› (by simp only [*])) | simp -dsimp only [↓bp, bq, br, seval, tbRefH3, *])
    all_goals
      unfold Hid at e
      rw [e]
      split
      · rename_i hc
        obtain ⟨c1, c2, c3, c4⟩ := hc
        first | rfl | (exfalso; first | omega | (simp_all; done))
      · rename_i hc
        first | rfl | (exfalso; apply hc; refine ⟨?_, ?_, ?_, ?_⟩ <;> first | assumption | omega | (simp_all; done))
end
set_option maxRecDepth 20000
section
def tbRefH4 := And.intro (And.intro (And.intro (And.intro @tf3 @tf4) (And.intro @tf5 @tf85)) (And.intro (And.intro @tf9 @tf40) (And.intro @tf39 (And.intro @tf22 @tf42)))) (And.intro (And.intro (And.intro @Term.flat_enc @Term.isv_enc) (And.intro @Term.fold_enc @isv_encs)) (And.intro (And.intro @flat_encs @len_encs) (And.intro @isv_lims (And.intro @flat_lims @len_lims))))
variable (G : Nat → AV)
set_option maxHeartbeats 4000000 in
theorem rsz_0 (t : Term) (hk : ¬ (1 ≤ t.knd ∧ t.knd ≤ 7)) : Pure Tryz.prog G 147 [t.enc] (.int .i64 (rsize t)) := by
  rw [rsize_0 hk]
  have k1 := eq_false (show ¬ t.knd = 1 by omega)
  have k2 := eq_false (show ¬ t.knd = 2 by omega)
  have k3 := eq_false (show ¬ t.knd = 3 by omega)
  have k4 := eq_false (show ¬ t.knd = 4 by omega)
  have k5 := eq_false (show ¬ t.knd = 5 by omega)
  have k6 := eq_false (show ¬ t.knd = 6 by omega)
  have k7 := eq_false (show ¬ t.knd = 7 by omega)
  clear hk
  intro σ
  refine Tri.of_awp mixed Tryz.func147 rfl (by kernel_rfl) (by kernel_rfl) (by simp [Tryz.ntmps147]) Tryz.results147 ?_
  repeat' (first | refine xs ?_ ?_ <;> intros | ((first | refine xh ?_ | refine xi ?_); intro bx hbx; (try simp only [fb] at hbx)) | refine xj ?_ | ((with_reducible refine And.intro ?_ ?_); omega) | refine bo_buildSlice (d' := ⟨⟩) ?_ | refine xk (by kernel_rfl) ?_ | refine xf ?_ (by repeat' first | exact lr _ | assumption | refine ls ?_ ?_ | refine lt ?_ ?_ | simp only [*]; done | exact lf ‹_› (by simp only [*])) | simp -dsimp only [↓bp, bq, br, seval, tbRefH4, *])
  all_goals rfl
set_option maxHeartbeats 4000000 in
theorem rsz_7c (t : Term) (hk : t.knd = 7) (hl : 1 < (t.tail.length : Int)) : Pure Tryz.prog G 147 [t.enc] (.int .i64 (rsize t)) := by
  have e : rsize t = -1 := by
    rw [rsize_7 hk, if_neg (fun hc => ?_)]
    have := hc.2.2.2.2.1
    split at this <;> omega
  rw [e]
  have k1 := eq_false (show ¬ t.knd = 1 by omega)
  have k2 := eq_false (show ¬ t.knd = 2 by omega)
  have k3 := eq_false (show ¬ t.knd = 3 by omega)
  have k4 := eq_false (show ¬ t.knd = 4 by omega)
  have k5 := eq_false (show ¬ t.knd = 5 by omega)
  have k6 := eq_false (show ¬ t.knd = 6 by omega)
  have k7 := eq_true hk
  have l1 := eq_true hl
  clear hk e hl
  intro σ
  refine Tri.of_awp mixed Tryz.func147 rfl (by kernel_rfl) (by kernel_rfl) (by simp [Tryz.ntmps147]) Tryz.results147 ?_
  repeat' (first | refine xs ?_ ?_ <;> intros | ((first | refine xh ?_ | refine xi ?_); intro bx hbx; (try simp only [fb] at hbx)) | refine xj ?_ | ((with_reducible refine And.intro ?_ ?_); omega) | refine bo_buildSlice (d' := ⟨⟩) ?_ | refine xk (by kernel_rfl) ?_ | refine xf ?_ (by repeat' first | exact lr _ | assumption | refine ls ?_ ?_ | refine lt ?_ ?_ | simp only [*]; done | exact lf ‹_› (by simp only [*])) | simp -dsimp only [↓bp, bq, br, seval, tbRefH4, *])
  all_goals rfl
end
set_option maxRecDepth 20000
section
def tbRefH5 := And.intro (And.intro (And.intro (And.intro @tf3 @tf4) (And.intro @tf5 (And.intro @tf85 @tf9))) (And.intro (And.intro @tf40 @tf39) (And.intro @tf22 (And.intro @tf42 @Term.flat_enc)))) (And.intro (And.intro (And.intro @Term.isv_enc @Term.fold_enc) (And.intro @isv_encs (And.intro @flat_encs @len_encs))) (And.intro (And.intro @ix_encs @ix_encs') (And.intro @isv_lims (And.intro @flat_lims @len_lims))))
variable (G : Nat → AV)
set_option maxHeartbeats 4000000 in
theorem rsz_7b1 (t x : Term) (s u : Int) (k1 : (t.knd = 1) = False) (k2 : (t.knd = 2) = False) (k3 : (t.knd = 3) = False) (k4 : (t.knd = 4) = False) (k5 : (t.knd = 5) = False) (k6 : (t.knd = 6) = False) (k7 : (t.knd = 7) = True) (l0 : (t.tail.length : Int) = 1) (hx : t.tail[0]? = some x) (hi : Pure Tryz.prog G 168 [encs t.items, .int .i64 1, .int .i64 1] (.int .i64 s)) (hs : (s < 0) = True) : Pure Tryz.prog G 147 [t.enc] (.int .i64 (-1)) := by
  intro σ
  refine Tri.of_awp mixed Tryz.func147 rfl (by kernel_rfl) (by kernel_rfl) (by simp [Tryz.ntmps147]) Tryz.results147 ?_
  repeat' (first | refine xs ?_ ?_ <;> intros | ((first | refine xh ?_ | refine xi ?_); intro bx hbx; (try simp only [fb] at hbx)) | refine Pure.use (hi) ?_ | refine Pure.head (hi) ?_ | refine xj ?_ | ((with_reducible refine And.intro ?_ ?_); omega) | refine bo_buildSlice (d' := ⟨⟩) ?_ | refine xk (by kernel_rfl) ?_ | refine xf ?_ (by repeat' first | exact lr _ | assumption | refine ls ?_ ?_ | refine lt ?_ ?_ | simp only [*]; done | exact lf ‹_› (by simp only [*])) | simp -dsimp only [↓bp, bq, br, seval, tbRefH5, *])
  all_goals rfl
set_option maxHeartbeats 4000000 in
theorem rsz_7b2 (t x : Term) (s u : Int) (k1 : (t.knd = 1) = False) (k2 : (t.knd = 2) = False) (k3 : (t.knd = 3) = False) (k4 : (t.knd = 4) = False) (k5 : (t.knd = 5) = False) (k6 : (t.knd = 6) = False) (k7 : (t.knd = 7) = True) (l0 : (t.tail.length : Int) = 1) (hx : t.tail[0]? = some x) (hi : Pure Tryz.prog G 168 [encs t.items, .int .i64 1, .int .i64 1] (.int .i64 s)) (hj : Pure Tryz.prog G 168 [encs t.tail, .int .i64 s, .int .i64 0] (.int .i64 u)) (hs : (s < 0) = False) (x7 : (x.knd = 7) = True) : Pure Tryz.prog G 147 [t.enc] (.int .i64 (-1)) := by
  intro σ
  refine Tri.of_awp mixed Tryz.func147 rfl (by kernel_rfl) (by kernel_rfl) (by simp [Tryz.ntmps147]) Tryz.results147 ?_
  repeat' (first | refine xs ?_ ?_ <;> intros | ((first | refine xh ?_ | refine xi ?_); intro bx hbx; (try simp only [fb] at hbx)) | refine Pure.use (hi) ?_ | refine Pure.head (hi) ?_ | refine Pure.use (hj) ?_ | refine Pure.head (hj) ?_ | refine xj ?_ | ((with_reducible refine And.intro ?_ ?_); omega) | refine bo_buildSlice (d' := ⟨⟩) ?_ | refine xk (by kernel_rfl) ?_ | refine xf ?_ (by repeat' first | exact lr _ | assumption | refine ls ?_ ?_ | refine lt ?_ ?_ | simp only [*]; done | exact lf ‹_› (by simp only [*])) | simp -dsimp only [↓bp, bq, br, seval, tbRefH5, *])
  all_goals rfl
set_option maxHeartbeats 4000000 in
theorem rsz_7b3 (t x : Term) (s u : Int) (k1 : (t.knd = 1) = False) (k2 : (t.knd = 2) = False) (k3 : (t.knd = 3) = False) (k4 : (t.knd = 4) = False) (k5 : (t.knd = 5) = False) (k6 : (t.knd = 6) = False) (k7 : (t.knd = 7) = True) (l0 : (t.tail.length : Int) = 1) (hx : t.tail[0]? = some x) (hi : Pure Tryz.prog G 168 [encs t.items, .int .i64 1, .int .i64 1] (.int .i64 s)) (hj : Pure Tryz.prog G 168 [encs t.tail, .int .i64 s, .int .i64 0] (.int .i64 u)) (hs : (s < 0) = False) (x7 : (x.knd = 7) = False) (c1 : t.neg = false) (c2' : (0 < (t.limbs.length : Int)) = False) (c2 : ((t.limbs.length : Int) = 0) = True) (c3 : (t.text = []) = True) (c4 : (t.num = 0) = True) (c5 : ((t.items.length : Int) = 0) = False) : Pure Tryz.prog G 147 [t.enc] (.int .i64 u) := by
  intro σ
  refine Tri.of_awp mixed Tryz.func147 rfl (by kernel_rfl) (by kernel_rfl) (by simp [Tryz.ntmps147]) Tryz.results147 ?_
  repeat' (first | refine xs ?_ ?_ <;> intros | ((first | refine xh ?_ | refine xi ?_); intro bx hbx; (try simp only [fb] at hbx)) | refine Pure.use (hi) ?_ | refine Pure.head (hi) ?_ | refine Pure.use (hj) ?_ | refine Pure.head (hj) ?_ | refine xj ?_ | ((with_reducible refine And.intro ?_ ?_); omega) | refine bo_buildSlice (d' := ⟨⟩) ?_ | refine xk (by kernel_rfl) ?_ | refine xf ?_ (by repeat' first | exact lr _ | assumption | refine ls ?_ ?_ | refine lt ?_ ?_ | simp only [*]; done | exact lf ‹_› (by simp only [*])) | simp -dsimp only [↓bp, bq, br, seval, tbRefH5, *])
  all_goals rfl
set_option maxHeartbeats 4000000 in
theorem rsz_7b4 (t x : Term) (s u : Int) (k1 : (t.knd = 1) = False) (k2 : (t.knd = 2) = False) (k3 : (t.knd = 3) = False) (k4 : (t.knd = 4) = False) (k5 : (t.knd = 5) = False) (k6 : (t.knd = 6) = False) (k7 : (t.knd = 7) = True) (l0 : (t.tail.length : Int) = 1) (hx : t.tail[0]? = some x) (hi : Pure Tryz.prog G 168 [encs t.items, .int .i64 1, .int .i64 1] (.int .i64 s)) (hj : Pure Tryz.prog G 168 [encs t.tail, .int .i64 s, .int .i64 0] (.int .i64 u)) (hs : (s < 0) = False) (x7 : (x.knd = 7) = False) (hc : Hid (¬ (t.neg = false ∧ (t.limbs.length : Int) = 0 ∧ t.text = [] ∧ t.num = 0 ∧ ¬ (t.items.length : Int) = 0))) : Pure Tryz.prog G 147 [t.enc] (.int .i64 (-1)) := by
  intro σ
  refine Tri.of_awp mixed Tryz.func147 rfl (by kernel_rfl) (by kernel_rfl) (by simp [Tryz.ntmps147]) Tryz.results147 ?_
  repeat' (first | refine xs ?_ ?_ <;> intros | ((first | refine xh ?_ | refine xi ?_); intro bx hbx; (try simp only [fb] at hbx)) | refine Pure.use (hi) ?_ | refine Pure.head (hi) ?_ | refine Pure.use (hj) ?_ | refine Pure.head (hj) ?_ | refine xj ?_ | ((with_reducible refine And.intro ?_ ?_); omega) | refine bo_buildSlice (d' := ⟨⟩) ?_ | refine xk (by kernel_rfl) ?_ | refine xf ?_ (by repeat' first | exact lr _ | assumption | refine ls ?_ ?_ | refine lt ?_ ?_ | simp only [*]; done | exact lf ‹_› (by simp only [*])) | simp -dsimp only [↓bp, bq, br, seval, tbRefH5, *])
  all_goals first | rfl | (exfalso; unfold Hid at hc; apply hc; refine ⟨?_, ?_, ?_, ?_, ?_⟩ <;> first | assumption | omega | (simp_all; done))
set_option maxHeartbeats 4000000 in
theorem rsz_7b (t : Term) (hb : t.bulk ≤ 1000000000) (hk : t.knd = 7) (hit : ∀ x, x ∈ t.items → Pure Tryz.prog G 147 [x.enc] (.int .i64 (rsize x))) (htt : ∀ x, x ∈ t.tail → Pure Tryz.prog G 147 [x.enc] (.int .i64 (rsize x))) (x : Term) (hx : t.tail[0]? = some x) (hl : t.tail.length = 1) : Pure Tryz.prog G 147 [t.enc] (.int .i64 (rsize t)) := by
  have hbe := t.bulk_eq
  have hi := items_pure G t.items 1 1 (by omega) (by omega) (by omega) (by omega) (by omega) hit
  have hsl := ritems_le t.items 1 (by omega) (by omega) (fun x _ => rsize_le x) 1 (by omega)
  have hj : 0 ≤ ritems t.items 1 1 → Pure Tryz.prog G 168 [encs t.tail, .int .i64 (ritems t.items 1 1), .int .i64 0] (.int .i64 (ritems t.tail (ritems t.items 1 1) 0)) := fun h => items_pure G t.tail _ 0 (by omega) (by omega) h (by omega) (by omega) htt
  have e0 : rsize t = if t.neg = false ∧ (t.limbs.length : Int) = 0 ∧ t.text = [] ∧ t.num = 0 ∧ ¬ (t.items.length : Int) = 0 ∧ ¬ x.knd = 7 then (if ritems t.items 1 1 < 0 then -1 else ritems t.tail (ritems t.items 1 1) 0) else -1 := by
    rw [rsize_7 hk]
    have e1 : t.tail = [x] := by
      cases ht : t.tail with
      | nil => rw [ht] at hl; simp at hl
      | cons y l => rw [ht] at hl hx; simp at hl hx; rw [hl, hx]
    have e2 : ((t.tail.length : Int) ≤ (if (t.items.length : Int) < 1 then (t.items.length : Int) else 1)) = (¬ (t.items.length : Int) = 0) := by
      rw [hl]; apply propext; constructor
      · intro h; split at h <;> omega
      · intro h; split <;> omega
    have e3 : (t.tail.all fun x => decide (x.knd ≠ 7)) = decide (¬ x.knd = 7) := by rw [e1]; simp
    rw [e3]
    simp only [e2, decide_eq_true_eq]
  have k1 := eq_false (show ¬ t.knd = 1 by omega)
  have k2 := eq_false (show ¬ t.knd = 2 by omega)
  have k3 := eq_false (show ¬ t.knd = 3 by omega)
  have k4 := eq_false (show ¬ t.knd = 4 by omega)
  have k5 := eq_false (show ¬ t.knd = 5 by omega)
  have k6 := eq_false (show ¬ t.knd = 6 by omega)
  have k7 := eq_true hk
  have l0 : (t.tail.length : Int) = 1 := by omega
  clear hk hbe hb hit htt hsl hl
  generalize rsize t = r at *
  generalize ritems t.items 1 1 = s at *
  by_cases hs : s < 0
  · have e : r = -1 := by rw [e0, if_pos hs, ite_self]
    rw [e]
    exact rsz_7b1 G t x s 0 k1 k2 k3 k4 k5 k6 k7 l0 hx hi (eq_true hs)
  · have hj := hj (by omega)
    rw [if_neg hs] at e0
    generalize ritems t.tail s 0 = u at *
    by_cases x7 : x.knd = 7
    · have e : r = -1 := by rw [e0, if_neg (fun hc => hc.2.2.2.2.2 x7)]
      rw [e]
      exact rsz_7b2 G t x s u k1 k2 k3 k4 k5 k6 k7 l0 hx hi hj (eq_false hs) (eq_true x7)
    · simp only [x7, not_false_eq_true, and_true] at e0
      by_cases hc : t.neg = false ∧ (t.limbs.length : Int) = 0 ∧ t.text = [] ∧ t.num = 0 ∧ ¬ (t.items.length : Int) = 0
      · rw [if_pos hc] at e0
        obtain ⟨c1, c2, c3, c4, c5⟩ := hc
        rw [e0]
        exact rsz_7b3 G t x s u k1 k2 k3 k4 k5 k6 k7 l0 hx hi hj (eq_false hs) (eq_false x7) c1 (eq_false (by omega)) (eq_true c2) (eq_true c3) (eq_true c4) (eq_false c5)
      · rw [if_neg hc] at e0
        rw [e0]
        exact rsz_7b4 G t x s u k1 k2 k3 k4 k5 k6 k7 l0 hx hi hj (eq_false hs) (eq_false x7) hc
end
section
variable (G : Nat → AV)
theorem rsz_pure (t : Term) (hb : t.bulk ≤ 1000000000) : Pure Tryz.prog G 147 [t.enc] (.int .i64 (rsize t)) := by
  revert hb
  refine Term.ind (P := fun t => t.bulk ≤ 1000000000 → Pure Tryz.prog G 147 [t.enc] (.int .i64 (rsize t))) (fun t ih1 ih2 hb => ?_) t
  have hit : ∀ x, x ∈ t.items → Pure Tryz.prog G 147 [x.enc] (.int .i64 (rsize x)) := fun x hx => ih1 x hx (by have := bulk_item hx; omega)
  have htt : ∀ x, x ∈ t.tail → Pure Tryz.prog G 147 [x.enc] (.int .i64 (rsize x)) := fun x hx => ih2 x hx (by have := bulk_tail hx; omega)
  by_cases h0 : 1 ≤ t.knd ∧ t.knd ≤ 7
  · rcases (show t.knd = 1 ∨ t.knd = 2 ∨ t.knd = 3 ∨ t.knd = 4 ∨ t.knd = 5 ∨ t.knd = 6 ∨ t.knd = 7 by omega) with h | h | h | h | h | h | h
    · exact rsz_1 G t hb h
    · exact rsz_2 G t hb h
    · exact rsz_3 G t hb h
    · exact rsz_4 G t hb h hit
    · exact rsz_5 G t hb h
    · exact rsz_6 G t hb h hit
    · by_cases l0 : t.tail.length = 0
      · exact rsz_7a G t hb h hit htt l0
      · by_cases l1 : t.tail.length = 1
        · exact rsz_7b G t hb h hit htt (t.tail[0]'(by omega)) (List.getElem?_eq_getElem (by omega)) l1
        · exact rsz_7c G t h (by omega)
  · exact rsz_0 G t h0
end
set_option maxRecDepth 20000
section
def tbRefG := And.intro (And.intro (And.intro (And.intro @tf3 @tf4) (And.intro @tf5 @tf85)) (And.intro (And.intro @tf9 @tf40) (And.intro @tf39 @tf22))) (And.intro (And.intro (And.intro @tf42 @Term.flat_enc) (And.intro @Term.isv_enc @Term.fold_enc)) (And.intro (And.intro @isv_encs @flat_encs) (And.intro @len_encs (And.intro @isv_lims @flat_lims))))
variable (G : Nat → AV)
theorem rrightT_pure (t : Term) (h : Pure Tryz.prog G 147 [t.enc] (.int .i64 (rsize t))) : Pure Tryz.prog G 104 [t.enc] (.bool (right t)) := by
  have e := right_rsize t
  generalize rsize t = r at *
  intro σ
  by_cases h1 : 0 < r <;> by_cases h2 : r ≤ 4096
  all_goals
    simp only [h1, h2, decide_true, decide_false, Bool.and_true, Bool.true_and, Bool.and_false, Bool.false_and, Bool.and_self] at e
    rw [e]
    clear e
    first | replace h1 := eq_false h1 | replace h1 := eq_true h1
    first | replace h2 := eq_false h2 | replace h2 := eq_true h2
    refine Tri.of_awp mixed Tryz.func104 rfl (by kernel_rfl) (by kernel_rfl) (by simp [Tryz.ntmps104]) Tryz.results104 ?_
    repeat' (first | refine xs ?_ ?_ <;> intros | ((first | refine xh ?_ | refine xi ?_); intro bx hbx; (try simp only [fb] at hbx)) | refine Pure.use (h) ?_ | refine Pure.head (h) ?_ | refine xj ?_ | ((with_reducible refine And.intro ?_ ?_); omega) | refine bo_buildSlice (d' := ⟨⟩) ?_ | refine xk (by kernel_rfl) ?_ | refine xf ?_ (by repeat' first | exact lr _ | assumption | refine ls ?_ ?_ | refine lt ?_ ?_ | simp only [*]; done | exact lf ‹_› (by simp only [*])) | simp -dsimp only [↓bp, bq, br, seval, tbRefG, *])
  all_goals rfl
end
set_option maxRecDepth 20000
section
def tbRefY := And.intro (And.intro (And.intro (And.intro @tf3 @tf4) (And.intro @tf5 (And.intro @tf85 @tf9))) (And.intro (And.intro @tf40 @tf39) (And.intro @tf22 (And.intro @tf42 @Term.flat_enc)))) (And.intro (And.intro (And.intro @Term.isv_enc @Term.fold_enc) (And.intro @isv_encs (And.intro @flat_encs @len_encs))) (And.intro (And.intro @ix_encs @ix_encs') (And.intro @isv_lims (And.intro @flat_lims @len_lims))))
variable (G : Nat → AV)
theorem max_is : maxLen = 9223372036854775807 := rfl
theorem rsaid_1 (t : Term) (hk : t.knd = 1) (hp : Pure Tryz.prog G 60 [t.enc] (.str (wsaid t))) : Pure Tryz.prog G 105 [t.enc] (.str (said t)) := by
  have k1 : (t.knd = 1) = True := by first | exact eq_true hk | exact eq_false (by omega)
  have k2 : (t.knd = 2) = False := by first | exact eq_true hk | exact eq_false (by omega)
  have k3 : (t.knd = 3) = False := by first | exact eq_true hk | exact eq_false (by omega)
  have k4 : (t.knd = 4) = False := by first | exact eq_true hk | exact eq_false (by omega)
  have k5 : (t.knd = 5) = False := by first | exact eq_true hk | exact eq_false (by omega)
  have hs : said t = _ := said_eq t
  simp only [k1, k2, k3, k4, k5, if_true, if_false] at hs
  rw [hs]
  clear hs hk
  intro σ
  have hmx := max_is
  refine Tri.of_awp mixed Tryz.func105 rfl (by kernel_rfl) (by kernel_rfl) (by simp [Tryz.ntmps105]) Tryz.results105 ?_
  repeat' (first | refine xs ?_ ?_ <;> intros | ((first | refine xh ?_ | refine xi ?_); intro bx hbx; (try simp only [fb] at hbx)) | refine Pure.use (hp) ?_ | refine Pure.head (hp) ?_ | refine xj ?_ | ((with_reducible refine And.intro ?_ ?_); omega) | refine bo_buildSlice (d' := ⟨⟩) ?_ | refine xk (by kernel_rfl) ?_ | refine xf ?_ (by repeat' first | exact lr _ | assumption | refine ls ?_ ?_ | refine lt ?_ ?_ | simp only [*]; done | exact lf ‹_› (by simp only [*])) | simp -dsimp only [↓bp, bq, br, seval, tbRefY, *])
  all_goals rfl
theorem rsaid_2 (t : Term) (hk : t.knd = 2) (hp : Pure Tryz.prog G 148 [.str t.text] (.str (atomT t.text))) : Pure Tryz.prog G 105 [t.enc] (.str (said t)) := by
  have k1 : (t.knd = 1) = False := by first | exact eq_true hk | exact eq_false (by omega)
  have k2 : (t.knd = 2) = True := by first | exact eq_true hk | exact eq_false (by omega)
  have k3 : (t.knd = 3) = False := by first | exact eq_true hk | exact eq_false (by omega)
  have k4 : (t.knd = 4) = False := by first | exact eq_true hk | exact eq_false (by omega)
  have k5 : (t.knd = 5) = False := by first | exact eq_true hk | exact eq_false (by omega)
  have hs : said t = _ := said_eq t
  simp only [k1, k2, k3, k4, k5, if_true, if_false] at hs
  rw [hs]
  clear hs hk
  intro σ
  have hmx := max_is
  refine Tri.of_awp mixed Tryz.func105 rfl (by kernel_rfl) (by kernel_rfl) (by simp [Tryz.ntmps105]) Tryz.results105 ?_
  repeat' (first | refine xs ?_ ?_ <;> intros | ((first | refine xh ?_ | refine xi ?_); intro bx hbx; (try simp only [fb] at hbx)) | refine Pure.use (hp) ?_ | refine Pure.head (hp) ?_ | refine xj ?_ | ((with_reducible refine And.intro ?_ ?_); omega) | refine bo_buildSlice (d' := ⟨⟩) ?_ | refine xk (by kernel_rfl) ?_ | refine xf ?_ (by repeat' first | exact lr _ | assumption | refine ls ?_ ?_ | refine lt ?_ ?_ | simp only [*]; done | exact lf ‹_› (by simp only [*])) | simp -dsimp only [↓bp, bq, br, seval, tbRefY, *])
  all_goals rfl
theorem rsaid_3 (t : Term) (hk : t.knd = 3) (hl : (itoa t.num).length ≤ 31) (hp : Pure Tryz.prog G 149 [.int .i64 t.num] (.str (itoa t.num))) : Pure Tryz.prog G 105 [t.enc] (.str (said t)) := by
  have k1 : (t.knd = 1) = False := by first | exact eq_true hk | exact eq_false (by omega)
  have k2 : (t.knd = 2) = False := by first | exact eq_true hk | exact eq_false (by omega)
  have k3 : (t.knd = 3) = True := by first | exact eq_true hk | exact eq_false (by omega)
  have k4 : (t.knd = 4) = False := by first | exact eq_true hk | exact eq_false (by omega)
  have k5 : (t.knd = 5) = False := by first | exact eq_true hk | exact eq_false (by omega)
  have hs : said t = _ := said_eq t
  simp only [k1, k2, k3, k4, k5, if_true, if_false] at hs
  rw [hs]
  clear hs hk
  intro σ
  have hmx := max_is
  refine Tri.of_awp mixed Tryz.func105 rfl (by kernel_rfl) (by kernel_rfl) (by simp [Tryz.ntmps105]) Tryz.results105 ?_
  repeat' (first | refine xs ?_ ?_ <;> intros | ((first | refine xh ?_ | refine xi ?_); intro bx hbx; (try simp only [fb] at hbx)) | refine Pure.use (hp) ?_ | refine Pure.head (hp) ?_ | refine xj ?_ | ((with_reducible refine And.intro ?_ ?_); omega) | refine bo_buildSlice (d' := ⟨⟩) ?_ | refine xk (by kernel_rfl) ?_ | refine xf ?_ (by repeat' first | exact lr _ | assumption | refine ls ?_ ?_ | refine lt ?_ ?_ | simp only [*]; done | exact lf ‹_› (by simp only [*])) | simp -dsimp only [↓bp, bq, br, seval, tbRefY, List.length_append, *])
  all_goals rfl
theorem rsaid_4 (t : Term) (hk : t.knd = 4) (hl : (itoa t.num).length ≤ 31) (hp : Pure Tryz.prog G 149 [.int .i64 t.num] (.str (itoa t.num))) : Pure Tryz.prog G 105 [t.enc] (.str (said t)) := by
  have k1 : (t.knd = 1) = False := by first | exact eq_true hk | exact eq_false (by omega)
  have k2 : (t.knd = 2) = False := by first | exact eq_true hk | exact eq_false (by omega)
  have k3 : (t.knd = 3) = False := by first | exact eq_true hk | exact eq_false (by omega)
  have k4 : (t.knd = 4) = True := by first | exact eq_true hk | exact eq_false (by omega)
  have k5 : (t.knd = 5) = False := by first | exact eq_true hk | exact eq_false (by omega)
  have hs : said t = _ := said_eq t
  simp only [k1, k2, k3, k4, k5, if_true, if_false] at hs
  rw [hs]
  clear hs hk
  intro σ
  have hmx := max_is
  refine Tri.of_awp mixed Tryz.func105 rfl (by kernel_rfl) (by kernel_rfl) (by simp [Tryz.ntmps105]) Tryz.results105 ?_
  repeat' (first | refine xs ?_ ?_ <;> intros | ((first | refine xh ?_ | refine xi ?_); intro bx hbx; (try simp only [fb] at hbx)) | refine Pure.use (hp) ?_ | refine Pure.head (hp) ?_ | refine xj ?_ | ((with_reducible refine And.intro ?_ ?_); omega) | refine bo_buildSlice (d' := ⟨⟩) ?_ | refine xk (by kernel_rfl) ?_ | refine xf ?_ (by repeat' first | exact lr _ | assumption | refine ls ?_ ?_ | refine lt ?_ ?_ | simp only [*]; done | exact lf ‹_› (by simp only [*])) | simp -dsimp only [↓bp, bq, br, seval, tbRefY, List.length_append, *])
  all_goals rfl
theorem rsaid_5 (t : Term) (hk : t.knd = 5) (hl : (itoa t.num).length ≤ 31) (hp : Pure Tryz.prog G 149 [.int .i64 t.num] (.str (itoa t.num))) : Pure Tryz.prog G 105 [t.enc] (.str (said t)) := by
  have k1 : (t.knd = 1) = False := by first | exact eq_true hk | exact eq_false (by omega)
  have k2 : (t.knd = 2) = False := by first | exact eq_true hk | exact eq_false (by omega)
  have k3 : (t.knd = 3) = False := by first | exact eq_true hk | exact eq_false (by omega)
  have k4 : (t.knd = 4) = False := by first | exact eq_true hk | exact eq_false (by omega)
  have k5 : (t.knd = 5) = True := by first | exact eq_true hk | exact eq_false (by omega)
  have hs : said t = _ := said_eq t
  simp only [k1, k2, k3, k4, k5, if_true, if_false] at hs
  rw [hs]
  clear hs hk
  intro σ
  have hmx := max_is
  refine Tri.of_awp mixed Tryz.func105 rfl (by kernel_rfl) (by kernel_rfl) (by simp [Tryz.ntmps105]) Tryz.results105 ?_
  repeat' (first | refine xs ?_ ?_ <;> intros | ((first | refine xh ?_ | refine xi ?_); intro bx hbx; (try simp only [fb] at hbx)) | refine Pure.use (hp) ?_ | refine Pure.head (hp) ?_ | refine xj ?_ | ((with_reducible refine And.intro ?_ ?_); omega) | refine bo_buildSlice (d' := ⟨⟩) ?_ | refine xk (by kernel_rfl) ?_ | refine xf ?_ (by repeat' first | exact lr _ | assumption | refine ls ?_ ?_ | refine lt ?_ ?_ | simp only [*]; done | exact lf ‹_› (by simp only [*])) | simp -dsimp only [↓bp, bq, br, seval, tbRefY, List.length_append, *])
  all_goals rfl
set_option maxHeartbeats 2000000 in
theorem rsaid_67 (t : Term) (hk : t.knd = 6 ∨ t.knd = 7) (hb : t.bulk ≤ 2000000) (htl : t.tail.length ≤ 1) (hlen : (saidI t.items).length + (saidT t.tail).length ≤ 1000000000)
    (hi : ∀ x, x ∈ t.items → Pure Tryz.prog G 105 [x.enc] (.str (said x))) (ht : ∀ x, x ∈ t.tail → Pure Tryz.prog G 105 [x.enc] (.str (said x))) : Pure Tryz.prog G 105 [t.enc] (.str (said t)) := by
  have k1 : (t.knd = 1) = False := eq_false (by omega)
  have k2 : (t.knd = 2) = False := eq_false (by omega)
  have k3 : (t.knd = 3) = False := eq_false (by omega)
  have k4 : (t.knd = 4) = False := eq_false (by omega)
  have k5 : (t.knd = 5) = False := eq_false (by omega)
  have hil := len_items t
  have hLI := saidI_le t.items
  refine Pure.of_le fun σ => ?_
  have hmx := max_is
  refine Tri.of_awp mixed Tryz.func105 rfl (by kernel_rfl) (by kernel_rfl) (by simp [Tryz.ntmps105]) Tryz.results105 ?_
  simp -dsimp only [↓bp, bq, br, seval, tbRefY]
  refine newW_intro fun b1 h1 => ?_
  obtain ⟨S, hS⟩ : ∃ S, S = σ.setBox b1 [.int .u8 t.knd, .bool t.neg, lims t.limbs, .str t.text, .int .i64 t.num, encs t.items, encs t.tail] := ⟨_, rfl⟩
  have hSb : S.box b1 = some [.int .u8 t.knd, .bool t.neg, lims t.limbs, .str t.text, .int .i64 t.num, encs t.items, encs t.tail] := by rw [hS]; simp [AS.setBox]
  have hle : σ.le S := by rw [hS]; exact (AS.le.refl σ).setBox h1.1 _
  rw [← hS]
  clear hS
  simp -dsimp only [↓bp, bq, br, seval, tbRefY, hSb, k1, k2, k3, k4, k5]
  refine loop_keep mixed (fun n e => ∃ i : Nat, i ≤ t.items.length ∧ n = t.items.length - i ∧ e 4 = .int .i64 i ∧ e 3 = .str (saidI (t.items.take i))) t.items.length
    ⟨0, by omega, by omega, by first | (simp -dsimp only [↓bp, bq, br, seval, tbRefY]; done) | (simp -dsimp only [↓bp, bq, br, seval, tbRefY]; try rfl), by rw [List.take_zero, saidI]; first | (simp -dsimp only [↓bp, bq, br, seval, tbRefY]; done) | (simp -dsimp only [↓bp, bq, br, seval, tbRefY]; try rfl)⟩ ?_
  rintro n e ⟨i, hin, rfl, h4, h3⟩
  simp -dsimp only [↓bp, bq, br, seval, tbRefY] at h4 h3
  by_cases hlt : (i : Int) < t.items.length
  · obtain ⟨x, hx⟩ : ∃ x, t.items[i]? = some x := ⟨_, List.getElem?_eq_getElem (by omega)⟩
    have hp := hi x (List.mem_of_getElem? hx)
    have hwi : IntKind.i64.wrap ((i : Int) + 1) = ((i + 1 : Nat) : Int) := by rw [wrap_nat (by omega) (by omega)]; rfl
    have hst := saidI_take t.items i x hx
    have hl1 := hLI (i + 1)
    have hlt' := eq_true hlt
    rw [hst, List.length_append] at hl1
    have hm : t.items.length - (i + 1) < t.items.length - i := by omega
    have hi1 : i + 1 ≤ t.items.length := by omega
    by_cases e0 : i = 0
    · subst e0
      have z : saidI (t.items.take 0) = [] := by rw [List.take_zero, saidI]
      rw [if_pos rfl, z, List.nil_append] at hst
      rw [if_pos rfl] at hl1
      rw [z] at h3
      have c0 : ((0 : Int) < ((0 : Nat) : Int)) = False := eq_false (by omega)
      replace hlt' : ((0 : Int) < (t.items.length : Int)) = True := hlt'
      have hw1 : IntKind.i64.wrap 1 = 1 := by decide
      clear hi ht hk hLI hlt z
      repeat' (first | refine xs ?_ ?_ <;> intros | ((first | refine xh ?_ | refine xi ?_); intro bx hbx; (try simp only [fb] at hbx)) | refine Pure.use (hp) ?_ | refine Pure.head (hp) ?_ | refine xj ?_ | ((with_reducible refine And.intro ?_ ?_); omega) | refine bo_buildSlice (d' := ⟨⟩) ?_ | refine xk (by kernel_rfl) ?_ | refine xf ?_ (by repeat' first | exact lr _ | assumption | refine ls ?_ ?_ | refine lt ?_ ?_ | simp only [*]; done | exact lf ‹_› (by simp only [*])) | simp -dsimp only [↓bp, bq, br, seval, tbRefY, List.length_append, *])
      all_goals exact ⟨t.items.length - (0 + 1), hm, 0 + 1, hi1, rfl, rfl, by rw [hst]⟩
    · rw [if_neg e0] at hst hl1
      simp only [List.length_cons] at hl1
      have c0 : ((0 : Int) < (i : Int)) = True := eq_true (by omega)
      generalize saidI (t.items.take i) = s at *
      clear hi ht hk hLI hlt e0
      repeat' (first | refine xs ?_ ?_ <;> intros | ((first | refine xh ?_ | refine xi ?_); intro bx hbx; (try simp only [fb] at hbx)) | refine Pure.use (hp) ?_ | refine Pure.head (hp) ?_ | refine xj ?_ | ((with_reducible refine And.intro ?_ ?_); omega) | refine bo_buildSlice (d' := ⟨⟩) ?_ | refine xk (by kernel_rfl) ?_ | refine xf ?_ (by repeat' first | exact lr _ | assumption | refine ls ?_ ?_ | refine lt ?_ ?_ | simp only [*]; done | exact lf ‹_› (by simp only [*])) | simp -dsimp only [↓bp, bq, br, seval, tbRefY, List.length_append, *])
      all_goals exact ⟨t.items.length - (i + 1), hm, i + 1, hi1, rfl, rfl, by rw [hst]; simp⟩
  · have : i = t.items.length := by omega
    subst this
    rw [List.take_length] at h3
    have hlt' := eq_false (Int.lt_irrefl (t.items.length : Int))
    clear hi hlt hin hLI hil
    have hs6 : t.knd = 6 → said t = [123] ++ (saidI t.items ++ saidT t.tail) ++ [125] := fun k => by
      rw [said_eq]; simp [k]
    have hs7 : t.knd = 7 → said t = [91] ++ (saidI t.items ++ saidT t.tail) ++ [93] := fun k => by
      rw [said_eq]; simp [k]
    generalize saidI t.items = s at *
    rcases htt : t.tail with _ | ⟨x, r⟩
    · have hT : saidT t.tail = [] := by rw [htt, saidT]
      have ht0 : ((0 : Int) < (t.tail.length : Int)) = False := eq_false (by rw [htt]; simp)
      rw [hT] at hlen
      replace hT : s ++ saidT t.tail = s := by rw [hT, List.append_nil]
      clear ht htl htt hb
      rcases hk with k6 | k7
      · have k6' := eq_true k6
        rw [hs6 k6]
        rw [hT]
        clear hs6 hs7 k6 hT
        repeat' (first | refine xs ?_ ?_ <;> intros | ((first | refine xh ?_ | refine xi ?_); intro bx hbx; (try simp only [fb] at hbx)) | refine xj ?_ | ((with_reducible refine And.intro ?_ ?_); omega) | refine bo_buildSlice (d' := ⟨⟩) ?_ | refine xk (by kernel_rfl) ?_ | refine xf ?_ (by repeat' first | exact lr _ | assumption | refine ls ?_ ?_ | refine lt ?_ ?_ | simp only [*]; done | exact lf ‹_› (by simp only [*])) | simp -dsimp only [↓bp, bq, br, seval, tbRefY, List.length_append, *])
        all_goals first | exact finish_le (Le.refl _) hle | exact finish_le (by simp only [List.append_assoc, List.cons_append, List.nil_append]; exact Le.refl _) hle
      · have k6' : (t.knd = 6) = False := eq_false (by omega)
        rw [hs7 k7]
        rw [hT]
        clear hs6 hs7 k7 hT
        repeat' (first | refine xs ?_ ?_ <;> intros | ((first | refine xh ?_ | refine xi ?_); intro bx hbx; (try simp only [fb] at hbx)) | refine xj ?_ | ((with_reducible refine And.intro ?_ ?_); omega) | refine bo_buildSlice (d' := ⟨⟩) ?_ | refine xk (by kernel_rfl) ?_ | refine xf ?_ (by repeat' first | exact lr _ | assumption | refine ls ?_ ?_ | refine lt ?_ ?_ | simp only [*]; done | exact lf ‹_› (by simp only [*])) | simp -dsimp only [↓bp, bq, br, seval, tbRefY, List.length_append, *])
        all_goals first | exact finish_le (Le.refl _) hle | exact finish_le (by simp only [List.append_assoc, List.cons_append, List.nil_append]; exact Le.refl _) hle
    · have hr : r = [] := by rw [htt] at htl; simp only [List.length_cons] at htl; exact List.eq_nil_of_length_eq_zero (by omega)
      subst hr
      have hx : t.tail[0]? = some x := by rw [htt]; rfl
      have hp := ht x (by rw [htt]; simp)
      have hT : saidT t.tail = 124 :: said x := by rw [htt, saidT, saidT, List.append_nil]
      have ht0 : ((0 : Int) < (t.tail.length : Int)) = True := eq_true (by rw [htt]; simp)
      rw [hT] at hlen
      simp only [List.length_cons] at hlen
      replace hT : s ++ saidT t.tail = s ++ [124] ++ said x := by rw [hT]; simp
      have hl3 : (s ++ [124] ++ said x).length ≤ 1000000001 := by simp only [List.length_append, List.length_cons, List.length_nil]; omega
      clear ht htl htt hb hl3
      rcases hk with k6 | k7
      · have k6' := eq_true k6
        rw [hs6 k6]
        rw [hT]
        clear hs6 hs7 k6 hT
        repeat' (first | refine xs ?_ ?_ <;> intros | ((first | refine xh ?_ | refine xi ?_); intro bx hbx; (try simp only [fb] at hbx)) | refine Pure.use (hp) ?_ | refine Pure.head (hp) ?_ | refine xj ?_ | ((with_reducible refine And.intro ?_ ?_); omega) | refine bo_buildSlice (d' := ⟨⟩) ?_ | refine xk (by kernel_rfl) ?_ | refine xf ?_ (by repeat' first | exact lr _ | assumption | refine ls ?_ ?_ | refine lt ?_ ?_ | simp only [*]; done | exact lf ‹_› (by simp only [*])) | simp -dsimp only [↓bp, bq, br, seval, tbRefY, List.length_append, *])
        all_goals first | exact finish_le (Le.refl _) hle | exact finish_le (by simp only [List.append_assoc, List.cons_append, List.nil_append]; exact Le.refl _) hle
      · have k6' : (t.knd = 6) = False := eq_false (by omega)
        rw [hs7 k7]
        rw [hT]
        clear hs6 hs7 k7 hT
        repeat' (first | refine xs ?_ ?_ <;> intros | ((first | refine xh ?_ | refine xi ?_); intro bx hbx; (try simp only [fb] at hbx)) | refine Pure.use (hp) ?_ | refine Pure.head (hp) ?_ | refine xj ?_ | ((with_reducible refine And.intro ?_ ?_); omega) | refine bo_buildSlice (d' := ⟨⟩) ?_ | refine xk (by kernel_rfl) ?_ | refine xf ?_ (by repeat' first | exact lr _ | assumption | refine ls ?_ ?_ | refine lt ?_ ?_ | simp only [*]; done | exact lf ‹_› (by simp only [*])) | simp -dsimp only [↓bp, bq, br, seval, tbRefY, List.length_append, *])
        all_goals first | exact finish_le (Le.refl _) hle | exact finish_le (by simp only [List.append_assoc, List.cons_append, List.nil_append]; exact Le.refl _) hle
theorem rsaid_pure (t : Term) : t.bulk ≤ 2000000 → right t = true → Pure Tryz.prog G 105 [t.enc] (.str (said t)) := by
  refine Term.ind (P := fun t => t.bulk ≤ 2000000 → right t = true → Pure Tryz.prog G 105 [t.enc] (.str (said t))) (fun t ih1 ih2 hb hr => ?_) t
  have A := right_spec hr
  have h1 : ∀ x, x ∈ t.items → (said x).length + 1 ≤ 400 * x.bulk := fun x hx => said_len x (A.items x hx)
  have h2 : ∀ x, x ∈ t.tail → (said x).length + 1 ≤ 400 * x.bulk := fun x hx => said_len x (A.tail x hx)
  have hL := saidI_len t.items h1
  have hT := saidT_len t.tail h2
  have hbe := t.bulk_eq
  have hi : ∀ x, x ∈ t.items → Pure Tryz.prog G 105 [x.enc] (.str (said x)) := fun x hx => ih1 x hx (by have := bulk_item hx; omega) (A.items x hx)
  have ht : ∀ x, x ∈ t.tail → Pure Tryz.prog G 105 [x.enc] (.str (said x)) := fun x hx => ih2 x hx (by have := bulk_tail hx; omega) (A.tail x hx)
  have hk := A.kind
  have hnum : t.knd = 3 ∨ t.knd = 4 ∨ t.knd = 5 → (itoa t.num).length ≤ 31 ∧ Pure Tryz.prog G 149 [.int .i64 t.num] (.str (itoa t.num)) := fun h => by
    obtain ⟨n0, n1⟩ := right_num hr h
    exact ⟨Nat.le_trans (itoa_len n0 n1) (by omega), rnum_pure G t.num (by omega) (by omega)⟩
  rcases (show t.knd = 1 ∨ t.knd = 2 ∨ t.knd = 3 ∨ t.knd = 4 ∨ t.knd = 5 ∨ t.knd = 6 ∨ t.knd = 7 by omega) with h | h | h | h | h | h | h
  · obtain ⟨_, w2, _, w4, w5, w6, _⟩ := wr_spec (A.int h)
    have hw := rwtext_pure G t (by rw [hbe, w2, w4, w5]; simp only [List.length_nil, bulks]; omega)
    rw [A.int h, if_pos rfl] at hw
    exact rsaid_1 G t h hw
  · exact rsaid_2 G t h (ratom_pure G t.text (by omega))
  · exact rsaid_3 G t h (hnum (.inl h)).1 (hnum (.inl h)).2
  · exact rsaid_4 G t h (hnum (.inr (.inl h))).1 (hnum (.inr (.inl h))).2
  · exact rsaid_5 G t h (hnum (.inr (.inr h))).1 (hnum (.inr (.inr h))).2
  · have htl : t.tail.length ≤ 1 := by rw [(A.rest (by omega)).2.2.2.1 (by omega)]; simp
    exact rsaid_67 G t (.inl h) (by omega) htl (by omega) hi ht
  · exact rsaid_67 G t (.inr h) (by omega) (A.list h).1 (by omega) hi ht
theorem rtermtext_pure (t : Term) (hb : t.bulk ≤ 2000000) : Pure Tryz.prog G 59 [t.enc] (.str (text t)) := by
  have hr := rrightT_pure G t (rsz_pure G t (by omega))
  unfold text
  cases e : right t with
  | false =>
    rw [e] at hr
    intro σ
    refine Tri.of_awp mixed Tryz.func59 rfl (by kernel_rfl) (by kernel_rfl) (by simp [Tryz.ntmps59]) Tryz.results59 ?_
    repeat' (first | refine xs ?_ ?_ <;> intros | ((first | refine xh ?_ | refine xi ?_); intro bx hbx; (try simp only [fb] at hbx)) | refine Pure.use (hr) ?_ | refine Pure.head (hr) ?_ | refine xj ?_ | ((with_reducible refine And.intro ?_ ?_); omega) | refine bo_buildSlice (d' := ⟨⟩) ?_ | refine xk (by kernel_rfl) ?_ | refine xf ?_ (by repeat' first | exact lr _ | assumption | refine ls ?_ ?_ | refine lt ?_ ?_ | simp only [*]; done | exact lf ‹_› (by simp only [*])) | simp -dsimp only [↓bp, bq, br, seval, tbRefY, *])
    all_goals rfl
  | true =>
    rw [e] at hr
    have hs := rsaid_pure G t hb e
    clear hb
    intro σ
    refine Tri.of_awp mixed Tryz.func59 rfl (by kernel_rfl) (by kernel_rfl) (by simp [Tryz.ntmps59]) Tryz.results59 ?_
    repeat' (first | refine xs ?_ ?_ <;> intros | ((first | refine xh ?_ | refine xi ?_); intro bx hbx; (try simp only [fb] at hbx)) | refine Pure.use (hr) ?_ | refine Pure.head (hr) ?_ | refine Pure.use (hs) ?_ | refine Pure.head (hs) ?_ | refine xj ?_ | ((with_reducible refine And.intro ?_ ?_); omega) | refine bo_buildSlice (d' := ⟨⟩) ?_ | refine xk (by kernel_rfl) ?_ | refine xf ?_ (by repeat' first | exact lr _ | assumption | refine ls ?_ ?_ | refine lt ?_ ?_ | simp only [*]; done | exact lf ‹_› (by simp only [*])) | simp -dsimp only [↓bp, bq, br, seval, tbRefY, *])
    all_goals rfl
end
set_option maxRecDepth 20000
section
open Go Go.Av Go.RowKit
def tbRefZ3 := And.intro (And.intro (And.intro (And.intro (And.intro @tf3 @tf2) (And.intro @tf4 (And.intro @tf5 @tf85))) (And.intro (And.intro @tf9 @tf31) (And.intro @tf40 (And.intro @tf39 @tf22)))) (And.intro (And.intro (And.intro @tf42 @tf23) (And.intro @tf44 (And.intro @tf24 @tf46))) (And.intro (And.intro @tf26 (And.intro @Term.flat_enc @Term.isv_enc)) (And.intro @Term.fold_enc (And.intro @isv_encs @flat_encs))))) (And.intro (And.intro (And.intro (And.intro @len_encs @ix_encs) (And.intro @isv_lims (And.intro @flat_lims @len_lims))) (And.intro (And.intro @Ended.flat_enc (And.intro @Ended.isv_enc @Ended.fold_enc)) (And.intro @Named.flat_enc (And.intro @Named.isv_enc @Named.fold_enc)))) (And.intro (And.intro (And.intro @Seen.flat_enc @Seen.isv_enc) (And.intro @Seen.fold_enc (And.intro @isv_encE @flat_encE))) (And.intro (And.intro @len_encE (And.intro @ix_encE @isv_encN)) (And.intro @flat_encN (And.intro @len_encN @ix_encN)))))
variable (G : Nat → AV)
theorem rline_pure (t : Term) (hb : t.bulk ≤ 2000000) : Pure Tryz.prog G 35 [t.enc] (.str (32 :: lineT t)) := by
  have hp := rtermtext_pure G t hb
  have hl := lineT_len t hb
  have hne := text_ne t
  unfold lineT at *
  have hmx := max_is
  cases e : right t with
  | true =>
    rw [e, if_pos rfl] at hl
    rw [if_pos rfl]
    have hc : (text t = []) = False := eq_false (by rw [e] at hne; exact of_decide_eq_true hne.symm)
    generalize text t = s at *
    clear hne e hb
    intro σ
    refine Tri.of_awp mixed Tryz.func35 rfl (by kernel_rfl) (by kernel_rfl) (by simp [Tryz.ntmps35]) Tryz.results35 ?_
    repeat' (first | refine xs ?_ ?_ <;> intros | ((first | refine xh ?_ | refine xi ?_); intro bx hbx; (try simp only [fb] at hbx)) | refine Pure.use (hp) ?_ | refine Pure.head (hp) ?_ | refine xj ?_ | ((with_reducible refine And.intro ?_ ?_); omega) | refine bo_buildSlice (d' := ⟨⟩) ?_ | refine xk (by kernel_rfl) ?_ | refine xf ?_ (by repeat' first | exact lr _ | assumption | refine ls ?_ ?_ | refine lt ?_ ?_ | simp only [*]; done | exact lf ‹_› (by simp only [*])) | simp -dsimp only [↓bp, bq, br, seval, tbRefZ3, *])
    all_goals rfl
  | false =>
    have hc : text t = [] := by unfold text; rw [e]; rfl
    rw [hc] at hp
    rw [if_neg (by simp)]
    clear hne e hb hl hc
    intro σ
    refine Tri.of_awp mixed Tryz.func35 rfl (by kernel_rfl) (by kernel_rfl) (by simp [Tryz.ntmps35]) Tryz.results35 ?_
    repeat' (first | refine xs ?_ ?_ <;> intros | ((first | refine xh ?_ | refine xi ?_); intro bx hbx; (try simp only [fb] at hbx)) | refine Pure.use (hp) ?_ | refine Pure.head (hp) ?_ | refine xj ?_ | ((with_reducible refine And.intro ?_ ?_); omega) | refine bo_buildSlice (d' := ⟨⟩) ?_ | refine xk (by kernel_rfl) ?_ | refine xf ?_ (by repeat' first | exact lr _ | assumption | refine ls ?_ ?_ | refine lt ?_ ?_ | simp only [*]; done | exact lf ‹_› (by simp only [*])) | simp -dsimp only [↓bp, bq, br, seval, tbRefZ3, *])
    all_goals rfl
theorem rnumber_pure (n : Int) (hn : i64R n) : Pure Tryz.prog G 36 [.int .i64 n] (.str (32 :: itoa n)) := by
  have hp := rof_pure G n hn.1 hn.2
  have hq := rwtext_pure G (ofT n) (ofT_bulk hn.1 hn.2)
  rw [ofT_wr hn.1 hn.2, if_pos rfl, ofT_said] at hq
  have hl := itoa_len2 n hn.1 hn.2
  have hmx := max_is
  clear hn
  intro σ
  refine Tri.of_awp mixed Tryz.func36 rfl (by kernel_rfl) (by kernel_rfl) (by simp [Tryz.ntmps36]) Tryz.results36 ?_
  repeat' (first | refine xs ?_ ?_ <;> intros | ((first | refine xh ?_ | refine xi ?_); intro bx hbx; (try simp only [fb] at hbx)) | refine Pure.use (hp) ?_ | refine Pure.head (hp) ?_ | refine Pure.use (hq) ?_ | refine Pure.head (hq) ?_ | refine xj ?_ | ((with_reducible refine And.intro ?_ ?_); omega) | refine bo_buildSlice (d' := ⟨⟩) ?_ | refine xk (by kernel_rfl) ?_ | refine xf ?_ (by repeat' first | exact lr _ | assumption | refine ls ?_ ?_ | refine lt ?_ ?_ | simp only [*]; done | exact lf ‹_› (by simp only [*])) | simp -dsimp only [↓bp, bq, br, seval, tbRefZ3, *])
  all_goals rfl
set_option maxHeartbeats 2000000 in
theorem rTaleText_pure (s : Seen) (hb : s.bulk ≤ 2000000) (hr : s.Rng) : Pure Tryz.prog G 14 [s.enc] (texts (tlines s)) := by
  have hto : ∀ x, x ∈ s.out → Pure Tryz.prog G 35 [x.enc] (.str (32 :: lineT x)) ∧ (lineT x).length ≤ 800000001 := fun x hx => by
    have := bulk_mem hx
    unfold Seen.bulk at hb
    exact ⟨rline_pure G x (by omega), lineT_len x (by omega)⟩
  have hte : ∀ x, x ∈ s.ended → Pure Tryz.prog G 35 [x.reason.enc] (.str (32 :: lineT x.reason)) ∧ (lineT x.reason).length ≤ 800000001 := fun x hx => by
    have := bulkE_mem hx
    unfold Seen.bulk at hb
    exact ⟨rline_pure G x.reason (by omega), lineT_len x.reason (by omega)⟩
  have htn : ∀ x, x ∈ s.names → Pure Tryz.prog G 35 [.agg [.int .u8 2, .bool false, .nil, .str x.name, .int .i64 0, .nil, .nil]] (.str (32 :: lineT (atomTm x.name))) ∧ (lineT (atomTm x.name)).length ≤ 800000001 := fun x hx => by
    have := bulkN_mem hx
    unfold Seen.bulk at hb
    have hk : (atomTm x.name).bulk ≤ 2000000 := by simp only [atomTm, Term.bulk, bulks, List.length_nil]; omega
    exact ⟨(rline_pure G (atomTm x.name) hk).lessArgs (.cons (enc_nil 2 false x.name 0) .nil), lineT_len _ hk⟩
  have hio : ∀ n, i64R n → Pure Tryz.prog G 36 [.int .i64 n] (.str (32 :: itoa n)) ∧ (itoa n).length ≤ 31 := fun n hn => ⟨rnumber_pure G n hn, itoa_len2 n hn.1 hn.2⟩
  have hie : ∀ x, x ∈ s.ended → Pure Tryz.prog G 36 [.int .i64 x.pid] (.str (32 :: itoa x.pid)) ∧ (itoa x.pid).length ≤ 31 := fun x hx => hio _ (hr.ended x hx)
  have hin : ∀ x, x ∈ s.names → Pure Tryz.prog G 36 [.int .i64 x.pid] (.str (32 :: itoa x.pid)) ∧ (itoa x.pid).length ≤ 31 := fun x hx => hio _ (hr.names x hx)
  obtain ⟨hi1, hl1⟩ := hio _ hr.verdict
  obtain ⟨hi2, hl2⟩ := hio _ hr.spent
  obtain ⟨hi3, hl3⟩ := hio _ hr.clock
  have n1 : s.out.length ≤ 2000000 := by have := len_le_bulks s.out; unfold Seen.bulk at hb; omega
  have n2 : s.ended.length ≤ 2000000 := by have := lenE_le s.ended; unfold Seen.bulk at hb; omega
  have n3 : s.names.length ≤ 2000000 := by have := lenN_le s.names; unfold Seen.bulk at hb; omega
  have hmx := max_is
  clear hb hr hio
  refine Pure.of_le fun σ => ?_
  refine Tri.of_awp mixed Tryz.func14 rfl (by kernel_rfl) (by kernel_rfl) (by simp [Tryz.ntmps14]) Tryz.results14 ?_
  simp -dsimp only [↓bp, bq, br, seval, tbRefZ3]
  refine newW_intro fun b1 h1 => ?_
  obtain ⟨σa, hσa⟩ : ∃ σa, σa = σ.setBox b1 [encs s.out, encE s.ended, encN s.names, .int .i64 s.verdict, .int .i64 s.spent, .int .i64 s.clock] := ⟨_, rfl⟩
  have hla : σ.le σa := by rw [hσa]; exact (AS.le.refl σ).setBox h1.1 _
  have ha : σa.box b1 = some [encs s.out, encE s.ended, encN s.names, .int .i64 s.verdict, .int .i64 s.spent, .int .i64 s.clock] := by rw [hσa]; simp [AS.setBox]
  rw [← hσa]
  clear hσa h1
  simp -dsimp only [↓bp, bq, br, seval, tbRefZ3, ha]
  refine loop_intro (fun n e σ' => ∃ (i : Nat) (v : AV), i ≤ s.out.length ∧ n = s.out.length - i ∧ e 4 = .int .i64 i ∧ e 3 = v ∧ Buf 1 σa σ' v (((s.out.take i).map outL).map AV.str)) s.out.length
    ⟨0, .nil, by omega, by omega, by first | (simp -dsimp only [↓bp, bq, br, seval, tbRefZ3]; done) | (simp -dsimp only [↓bp, bq, br, seval, tbRefZ3]; try rfl), by first | (simp -dsimp only [↓bp, bq, br, seval, tbRefZ3]; done) | (simp -dsimp only [↓bp, bq, br, seval, tbRefZ3]; try rfl), .nil (AS.le.refl _)⟩ ?_
  rintro n e σ2 ⟨i, v, hi, rfl, h4, h3, hO⟩
  simp -dsimp only [↓bp, bq, br, seval, tbRefZ3] at h4 h3
  by_cases hlt : (i : Int) < s.out.length
  · obtain ⟨x, hx⟩ : ∃ x, s.out[i]? = some x := ⟨_, List.getElem?_eq_getElem (by omega)⟩
    have hw : IntKind.i64.wrap ((i : Int) + 1) = ((i + 1 : Nat) : Int) := by rw [wrap_nat (by omega) (by omega)]; rfl
    have ha1 : σ2.box b1 = some [encs s.out, encE s.ended, encN s.names, .int .i64 s.verdict, .int .i64 s.spent, .int .i64 s.clock] := hO.le.box _ _ ha
    obtain ⟨hp, hpl⟩ := hto x (List.mem_of_getElem? hx)
    have hlt' := eq_true hlt
    have hil : (((s.out.take i).map outL).map AV.str).length ≤ 2000000 := by rw [List.length_map, List.length_map, List.length_take]; omega
    clear hto hte htn hie hin hi1 hi2 hi3
    repeat' (first | refine xs ?_ ?_ <;> intros | ((first | refine xh ?_ | refine xi ?_); intro bx hbx; (try simp only [fb] at hbx)) | refine Pure.use (hp) ?_ | refine Pure.head (hp) ?_ | (refine build_one tsN (a := .str _) rfl rfl (by omega) ?_) | (refine app_buf (ys := [.str (outL x)]) hO tsN (asrc_sl tsE) (fun a ha => by simp at ha; subst ha; rfl) (by simp only [List.length_cons, List.length_nil]; omega) (fun v5 σ5 hB5 hx5 => ?_)) | refine xj ?_ | ((with_reducible refine And.intro ?_ ?_); omega) | refine bo_buildSlice (d' := ⟨⟩) ?_ | refine xk (by kernel_rfl) ?_ | refine xf ?_ (by repeat' first | exact lr _ | assumption | refine ls ?_ ?_ | refine lt ?_ ?_ | simp only [*]; done | exact lf ‹_› (by simp only [*])) | simp -dsimp only [↓bp, bq, br, seval, tbRefZ3, *])
    all_goals exact ⟨s.out.length - (i + 1), by omega, i + 1, v5, by omega, rfl, rfl, rfl, by rw [take_succ_get _ _ _ hx, List.map_append, List.map_append]; exact hB5⟩
  · have : i = s.out.length := by omega
    subst this
    rw [List.take_length] at hO
    have hlt' := eq_false hlt
    have ha1 : σ2.box b1 = some [encs s.out, encE s.ended, encN s.names, .int .i64 s.verdict, .int .i64 s.spent, .int .i64 s.clock] := hO.le.box _ _ ha
    simp -dsimp only [↓bp, bq, br, seval, tbRefZ3, h4, h3, hlt', ha1]
    generalize hL1 : s.out.map outL = L1 at *
    have m1 : L1.length ≤ 2000000 := by rw [← hL1, List.length_map]; exact n1
    clear hto hlt hlt' hi
    refine loop_intro (fun n e σ' => ∃ (i : Nat) (v : AV), i ≤ s.ended.length ∧ n = s.ended.length - i ∧ e 5 = .int .i64 i ∧ e 3 = v ∧ Buf 1 σa σ' v ((L1 ++ (s.ended.take i).map endL).map AV.str)) s.ended.length
      ⟨0, v, by omega, by omega, by first | (simp -dsimp only [↓bp, bq, br, seval, tbRefZ3, h3]; done) | (simp -dsimp only [↓bp, bq, br, seval, tbRefZ3, h3]; try rfl), by first | (simp -dsimp only [↓bp, bq, br, seval, tbRefZ3, h3]; done) | (simp -dsimp only [↓bp, bq, br, seval, tbRefZ3, h3]; try rfl), by simpa using hO⟩ ?_
    clear hO h4 h3 ha1
    rintro n e2 σ2 ⟨i, v, hi, rfl, h5, h3, hO⟩
    simp -dsimp only [↓bp, bq, br, seval, tbRefZ3] at h5 h3
    by_cases hlt : (i : Int) < s.ended.length
    · obtain ⟨x, hx⟩ : ∃ x, s.ended[i]? = some x := ⟨_, List.getElem?_eq_getElem (by omega)⟩
      have hw : IntKind.i64.wrap ((i : Int) + 1) = ((i + 1 : Nat) : Int) := by rw [wrap_nat (by omega) (by omega)]; rfl
      have ha1 : σ2.box b1 = some [encs s.out, encE s.ended, encN s.names, .int .i64 s.verdict, .int .i64 s.spent, .int .i64 s.clock] := hO.le.box _ _ ha
      obtain ⟨hp, hpl⟩ := hte x (List.mem_of_getElem? hx)
      obtain ⟨hq, hql⟩ := hie x (List.mem_of_getElem? hx)
      have hlt' := eq_true hlt
      have hil : ((L1 ++ (s.ended.take i).map endL).map AV.str).length ≤ 4000000 := by rw [List.length_map, List.length_append, List.length_map, List.length_take]; omega
      have hee : endL x = 101 :: 110 :: 100 :: 101 :: 100 :: 32 :: (itoa x.pid ++ 32 :: lineT x.reason) := rfl
      clear hte htn hie hin hi1 hi2 hi3
      repeat' (first | refine xs ?_ ?_ <;> intros | ((first | refine xh ?_ | refine xi ?_); intro bx hbx; (try simp only [fb] at hbx)) | refine Pure.use (hp) ?_ | refine Pure.head (hp) ?_ | refine Pure.use (hq) ?_ | refine Pure.head (hq) ?_ | (refine build_one tsN (a := .str _) rfl rfl (by omega) ?_) | (refine app_buf (ys := [.str (endL x)]) hO tsN (asrc_sl tsE) (fun a ha => by simp at ha; subst ha; rfl) (by simp only [List.length_cons, List.length_nil]; omega) (fun v5 σ5 hB5 hx5 => ?_)) | refine xj ?_ | ((with_reducible refine And.intro ?_ ?_); omega) | refine bo_buildSlice (d' := ⟨⟩) ?_ | refine xk (by kernel_rfl) ?_ | refine xf ?_ (by repeat' first | exact lr _ | assumption | refine ls ?_ ?_ | refine lt ?_ ?_ | simp only [*]; done | exact lf ‹_› (by simp only [*])) | simp -dsimp only [↓bp, bq, br, seval, tbRefZ3, List.length_append, *])
      all_goals exact ⟨s.ended.length - (i + 1), by omega, i + 1, v5, by omega, rfl, rfl, rfl, by rw [take_succ_get _ _ _ hx]; simpa [List.map_append, List.append_assoc] using hB5⟩
    · have : i = s.ended.length := by omega
      subst this
      rw [List.take_length] at hO
      have hlt' := eq_false hlt
      have ha1 : σ2.box b1 = some [encs s.out, encE s.ended, encN s.names, .int .i64 s.verdict, .int .i64 s.spent, .int .i64 s.clock] := hO.le.box _ _ ha
      simp -dsimp only [↓bp, bq, br, seval, tbRefZ3, h5, h3, hlt', ha1]
      generalize hL2 : L1 ++ s.ended.map endL = L2 at *
      have m2 : L2.length ≤ 4000000 := by rw [← hL2, List.length_append, List.length_map]; omega
      clear hte hie hlt hlt' hi
      refine loop_intro (fun n e σ' => ∃ (i : Nat) (v : AV), i ≤ s.names.length ∧ n = s.names.length - i ∧ e 6 = .int .i64 i ∧ e 3 = v ∧ Buf 1 σa σ' v ((L2 ++ (s.names.take i).map namL).map AV.str)) s.names.length
        ⟨0, v, by omega, by omega, by first | (simp -dsimp only [↓bp, bq, br, seval, tbRefZ3, h3]; done) | (simp -dsimp only [↓bp, bq, br, seval, tbRefZ3, h3]; try rfl), by first | (simp -dsimp only [↓bp, bq, br, seval, tbRefZ3, h3]; done) | (simp -dsimp only [↓bp, bq, br, seval, tbRefZ3, h3]; try rfl), by simpa using hO⟩ ?_
      clear hO h5 h3 ha1
      rintro n e3 σ2 ⟨i, v, hi, rfl, h6, h3, hO⟩
      simp -dsimp only [↓bp, bq, br, seval, tbRefZ3] at h6 h3
      by_cases hlt : (i : Int) < s.names.length
      · obtain ⟨x, hx⟩ : ∃ x, s.names[i]? = some x := ⟨_, List.getElem?_eq_getElem (by omega)⟩
        have hw : IntKind.i64.wrap ((i : Int) + 1) = ((i + 1 : Nat) : Int) := by rw [wrap_nat (by omega) (by omega)]; rfl
        have ha1 : σ2.box b1 = some [encs s.out, encE s.ended, encN s.names, .int .i64 s.verdict, .int .i64 s.spent, .int .i64 s.clock] := hO.le.box _ _ ha
        obtain ⟨hp, hpl⟩ := htn x (List.mem_of_getElem? hx)
        obtain ⟨hq, hql⟩ := hin x (List.mem_of_getElem? hx)
        have hlt' := eq_true hlt
        have hil : ((L2 ++ (s.names.take i).map namL).map AV.str).length ≤ 6000000 := by rw [List.length_map, List.length_append, List.length_map, List.length_take]; omega
        clear htn hin hi1 hi2 hi3
        repeat' (first | refine xs ?_ ?_ <;> intros | ((first | refine xh ?_ | refine xi ?_); intro bx hbx; (try simp only [fb] at hbx)) | refine Pure.use (hp) ?_ | refine Pure.head (hp) ?_ | refine Pure.use (hq) ?_ | refine Pure.head (hq) ?_ | (refine build_one tsN (a := .str _) rfl rfl (by omega) ?_) | (refine app_buf (ys := [.str (namL x)]) hO tsN (asrc_sl tsE) (fun a ha => by simp at ha; subst ha; rfl) (by simp only [List.length_cons, List.length_nil]; omega) (fun v5 σ5 hB5 hx5 => ?_)) | refine xj ?_ | ((with_reducible refine And.intro ?_ ?_); omega) | refine bo_buildSlice (d' := ⟨⟩) ?_ | refine xk (by kernel_rfl) ?_ | refine xf ?_ (by repeat' first | exact lr _ | assumption | refine ls ?_ ?_ | refine lt ?_ ?_ | simp only [*]; done | exact lf ‹_› (by simp only [*])) | simp -dsimp only [↓bp, bq, br, seval, tbRefZ3, List.length_append, *])
        all_goals exact ⟨s.names.length - (i + 1), by omega, i + 1, v5, by omega, rfl, rfl, rfl, by rw [take_succ_get _ _ _ hx]; simpa [List.map_append, List.append_assoc] using hB5⟩
      · have : i = s.names.length := by omega
        subst this
        rw [List.take_length] at hO
        have hlt' := eq_false hlt
        have ha1 : σ2.box b1 = some [encs s.out, encE s.ended, encN s.names, .int .i64 s.verdict, .int .i64 s.spent, .int .i64 s.clock] := hO.le.box _ _ ha
        generalize hL3 : L2 ++ s.names.map namL = L3 at *
        have m3 : L3.length ≤ 6000000 := by rw [← hL3, List.length_append, List.length_map]; omega
        have hT : tlines s = L3 ++ [verL s.verdict, speL s.spent, cloL s.clock] := by
          rw [← hL3, ← hL2, ← hL1]; simp [tlines]
        rw [hT]
        have hil : (L3.map AV.str).length ≤ 6000000 := by rw [List.length_map]; omega
        clear htn hin hlt hi hL1 hL2 hL3 hT
        repeat' (first | refine xs ?_ ?_ <;> intros | ((first | refine xh ?_ | refine xi ?_); intro bx hbx; (try simp only [fb] at hbx)) | refine Pure.use (hi1) ?_ | refine Pure.head (hi1) ?_ | refine Pure.use (hi2) ?_ | refine Pure.head (hi2) ?_ | refine Pure.use (hi3) ?_ | refine Pure.head (hi3) ?_ | (refine app_buf (ys := [.str (verL s.verdict), .str (speL s.spent), .str (cloL s.clock)]) hO tsN (asrc_sl tsE) (fun a ha => by simp at ha; rcases ha with rfl | rfl | rfl <;> rfl) (by simp only [List.length_cons, List.length_nil]; omega) (fun v5 σ5 hB5 hx5 => ?_)) | refine xj ?_ | ((with_reducible refine And.intro ?_ ?_); omega) | refine bo_buildSlice (d' := ⟨⟩) ?_ | refine xk (by kernel_rfl) ?_ | refine xf ?_ (by repeat' first | exact lr _ | assumption | refine ls ?_ ?_ | refine lt ?_ ?_ | simp only [*]; done | exact lf ‹_› (by simp only [*])) | simp -dsimp only [↓bp, bq, br, seval, tbRefZ3, List.length_append, *])
        all_goals exact finish_le (by have h := hB5.told; rw [texts, List.map_append]; exact h) (hla.trans hB5.le)
end
set_option maxRecDepth 100000
section
theorem tf35 : tk Tryz.prog 35 = some (false, 1) ∧ sk Tryz.prog 35 = .sl 31 ∧ (Tryz.prog.underlying 35).isSome = true ∧ el Tryz.prog 35 = some 31 ∧ zc Tryz.prog 35 = some [.nil] ∧ by_ Tryz.prog 35 = some 24 ∧ aelt Tryz.prog 35 = some (31, 1, 24) := ⟨by kernel_rfl, by kernel_rfl, by kernel_rfl, by kernel_rfl, by kernel_rfl, by kernel_rfl, by kernel_rfl⟩
theorem tf62 : tk Tryz.prog 62 = some (false, 1) ∧ sk Tryz.prog 62 = .ptr 83 ∧ (Tryz.prog.underlying 62).isSome = true ∧ el Tryz.prog 62 = none ∧ zc Tryz.prog 62 = some [.nilptr] ∧ by_ Tryz.prog 62 = some 8 := ⟨by kernel_rfl, by kernel_rfl, by kernel_rfl, by kernel_rfl, by kernel_rfl, by kernel_rfl⟩
theorem tf63 : tk Tryz.prog 63 = some (false, 1) ∧ sk Tryz.prog 63 = .sl 40 ∧ (Tryz.prog.underlying 63).isSome = true ∧ el Tryz.prog 63 = some 40 ∧ zc Tryz.prog 63 = some [.nil] ∧ by_ Tryz.prog 63 = some 24 ∧ aelt Tryz.prog 63 = some (40, 1, 24) := ⟨by kernel_rfl, by kernel_rfl, by kernel_rfl, by kernel_rfl, by kernel_rfl, by kernel_rfl, by kernel_rfl⟩
theorem tf64 : tk Tryz.prog 64 = some (false, 1) ∧ sk Tryz.prog 64 = .sl 141 ∧ (Tryz.prog.underlying 64).isSome = true ∧ el Tryz.prog 64 = some 141 ∧ zc Tryz.prog 64 = some [.nil] ∧ by_ Tryz.prog 64 = some 24 ∧ aelt Tryz.prog 64 = some (141, 1, 24) := ⟨by kernel_rfl, by kernel_rfl, by kernel_rfl, by kernel_rfl, by kernel_rfl, by kernel_rfl, by kernel_rfl⟩
theorem tf65 : tk Tryz.prog 65 = some (false, 1) ∧ sk Tryz.prog 65 = .sl 142 ∧ (Tryz.prog.underlying 65).isSome = true ∧ el Tryz.prog 65 = some 142 ∧ zc Tryz.prog 65 = some [.nil] ∧ by_ Tryz.prog 65 = some 24 ∧ aelt Tryz.prog 65 = some (142, 1, 24) := ⟨by kernel_rfl, by kernel_rfl, by kernel_rfl, by kernel_rfl, by kernel_rfl, by kernel_rfl, by kernel_rfl⟩
theorem tf66 : tk Tryz.prog 66 = some (false, 1) ∧ sk Tryz.prog 66 = .sl 143 ∧ (Tryz.prog.underlying 66).isSome = true ∧ el Tryz.prog 66 = some 143 ∧ zc Tryz.prog 66 = some [.nil] ∧ by_ Tryz.prog 66 = some 24 ∧ aelt Tryz.prog 66 = some (143, 1, 24) := ⟨by kernel_rfl, by kernel_rfl, by kernel_rfl, by kernel_rfl, by kernel_rfl, by kernel_rfl, by kernel_rfl⟩
theorem tf67 : tk Tryz.prog 67 = some (false, 1) ∧ sk Tryz.prog 67 = .sl 86 ∧ (Tryz.prog.underlying 67).isSome = true ∧ el Tryz.prog 67 = some 86 ∧ zc Tryz.prog 67 = some [.nil] ∧ by_ Tryz.prog 67 = some 24 ∧ aelt Tryz.prog 67 = some (86, 1, 24) := ⟨by kernel_rfl, by kernel_rfl, by kernel_rfl, by kernel_rfl, by kernel_rfl, by kernel_rfl, by kernel_rfl⟩
theorem tf68 : tk Tryz.prog 68 = some (false, 1) ∧ sk Tryz.prog 68 = .sl 146 ∧ (Tryz.prog.underlying 68).isSome = true ∧ el Tryz.prog 68 = some 146 ∧ zc Tryz.prog 68 = some [.nil] ∧ by_ Tryz.prog 68 = some 24 ∧ aelt Tryz.prog 68 = some (146, 1, 24) := ⟨by kernel_rfl, by kernel_rfl, by kernel_rfl, by kernel_rfl, by kernel_rfl, by kernel_rfl, by kernel_rfl⟩
theorem tf70 : tk Tryz.prog 70 = some (false, 1) ∧ sk Tryz.prog 70 = .sl 151 ∧ (Tryz.prog.underlying 70).isSome = true ∧ el Tryz.prog 70 = some 151 ∧ zc Tryz.prog 70 = some [.nil] ∧ by_ Tryz.prog 70 = some 24 ∧ aelt Tryz.prog 70 = some (151, 1, 24) := ⟨by kernel_rfl, by kernel_rfl, by kernel_rfl, by kernel_rfl, by kernel_rfl, by kernel_rfl, by kernel_rfl⟩
theorem tf71 : tk Tryz.prog 71 = some (false, 1) ∧ sk Tryz.prog 71 = .sl 156 ∧ (Tryz.prog.underlying 71).isSome = true ∧ el Tryz.prog 71 = some 156 ∧ zc Tryz.prog 71 = some [.nil] ∧ by_ Tryz.prog 71 = some 24 ∧ aelt Tryz.prog 71 = some (156, 1, 24) := ⟨by kernel_rfl, by kernel_rfl, by kernel_rfl, by kernel_rfl, by kernel_rfl, by kernel_rfl, by kernel_rfl⟩
theorem tf72 : tk Tryz.prog 72 = some (false, 1) ∧ sk Tryz.prog 72 = .sl 162 ∧ (Tryz.prog.underlying 72).isSome = true ∧ el Tryz.prog 72 = some 162 ∧ zc Tryz.prog 72 = some [.nil] ∧ by_ Tryz.prog 72 = some 24 ∧ aelt Tryz.prog 72 = some (162, 1, 24) := ⟨by kernel_rfl, by kernel_rfl, by kernel_rfl, by kernel_rfl, by kernel_rfl, by kernel_rfl, by kernel_rfl⟩
theorem tf73 : tk Tryz.prog 73 = some (false, 1) ∧ sk Tryz.prog 73 = .sl 168 ∧ (Tryz.prog.underlying 73).isSome = true ∧ el Tryz.prog 73 = some 168 ∧ zc Tryz.prog 73 = some [.nil] ∧ by_ Tryz.prog 73 = some 24 ∧ aelt Tryz.prog 73 = some (168, 1, 24) := ⟨by kernel_rfl, by kernel_rfl, by kernel_rfl, by kernel_rfl, by kernel_rfl, by kernel_rfl, by kernel_rfl⟩
theorem tf74 : tk Tryz.prog 74 = some (false, 1) ∧ sk Tryz.prog 74 = .sl 173 ∧ (Tryz.prog.underlying 74).isSome = true ∧ el Tryz.prog 74 = some 173 ∧ zc Tryz.prog 74 = some [.nil] ∧ by_ Tryz.prog 74 = some 24 ∧ aelt Tryz.prog 74 = some (173, 1, 24) := ⟨by kernel_rfl, by kernel_rfl, by kernel_rfl, by kernel_rfl, by kernel_rfl, by kernel_rfl, by kernel_rfl⟩
theorem tf75 : tk Tryz.prog 75 = some (false, 1) ∧ sk Tryz.prog 75 = .sl 178 ∧ (Tryz.prog.underlying 75).isSome = true ∧ el Tryz.prog 75 = some 178 ∧ zc Tryz.prog 75 = some [.nil] ∧ by_ Tryz.prog 75 = some 24 ∧ aelt Tryz.prog 75 = some (178, 1, 24) := ⟨by kernel_rfl, by kernel_rfl, by kernel_rfl, by kernel_rfl, by kernel_rfl, by kernel_rfl, by kernel_rfl⟩
theorem tf76 : tk Tryz.prog 76 = some (false, 1) ∧ sk Tryz.prog 76 = .sl 184 ∧ (Tryz.prog.underlying 76).isSome = true ∧ el Tryz.prog 76 = some 184 ∧ zc Tryz.prog 76 = some [.nil] ∧ by_ Tryz.prog 76 = some 24 ∧ aelt Tryz.prog 76 = some (184, 1, 24) := ⟨by kernel_rfl, by kernel_rfl, by kernel_rfl, by kernel_rfl, by kernel_rfl, by kernel_rfl, by kernel_rfl⟩
theorem tf77 : tk Tryz.prog 77 = some (false, 1) ∧ sk Tryz.prog 77 = .sl 188 ∧ (Tryz.prog.underlying 77).isSome = true ∧ el Tryz.prog 77 = some 188 ∧ zc Tryz.prog 77 = some [.nil] ∧ by_ Tryz.prog 77 = some 24 ∧ aelt Tryz.prog 77 = some (188, 1, 24) := ⟨by kernel_rfl, by kernel_rfl, by kernel_rfl, by kernel_rfl, by kernel_rfl, by kernel_rfl, by kernel_rfl⟩
theorem tf78 : tk Tryz.prog 78 = some (false, 1) ∧ sk Tryz.prog 78 = .sl 193 ∧ (Tryz.prog.underlying 78).isSome = true ∧ el Tryz.prog 78 = some 193 ∧ zc Tryz.prog 78 = some [.nil] ∧ by_ Tryz.prog 78 = some 24 ∧ aelt Tryz.prog 78 = some (193, 1, 24) := ⟨by kernel_rfl, by kernel_rfl, by kernel_rfl, by kernel_rfl, by kernel_rfl, by kernel_rfl, by kernel_rfl⟩
theorem tf79 : tk Tryz.prog 79 = some (false, 1) ∧ sk Tryz.prog 79 = .sl 23 ∧ (Tryz.prog.underlying 79).isSome = true ∧ el Tryz.prog 79 = some 23 ∧ zc Tryz.prog 79 = some [.nil] ∧ by_ Tryz.prog 79 = some 24 ∧ aelt Tryz.prog 79 = some (23, 1, 24) := ⟨by kernel_rfl, by kernel_rfl, by kernel_rfl, by kernel_rfl, by kernel_rfl, by kernel_rfl, by kernel_rfl⟩
theorem tf80 : tk Tryz.prog 80 = some (false, 1) ∧ sk Tryz.prog 80 = .sl 24 ∧ (Tryz.prog.underlying 80).isSome = true ∧ el Tryz.prog 80 = some 24 ∧ zc Tryz.prog 80 = some [.nil] ∧ by_ Tryz.prog 80 = some 24 ∧ aelt Tryz.prog 80 = some (24, 1, 24) := ⟨by kernel_rfl, by kernel_rfl, by kernel_rfl, by kernel_rfl, by kernel_rfl, by kernel_rfl, by kernel_rfl⟩
theorem tf81 : tk Tryz.prog 81 = some (false, 1) ∧ sk Tryz.prog 81 = .sl 198 ∧ (Tryz.prog.underlying 81).isSome = true ∧ el Tryz.prog 81 = some 198 ∧ zc Tryz.prog 81 = some [.nil] ∧ by_ Tryz.prog 81 = some 24 ∧ aelt Tryz.prog 81 = some (198, 1, 24) := ⟨by kernel_rfl, by kernel_rfl, by kernel_rfl, by kernel_rfl, by kernel_rfl, by kernel_rfl, by kernel_rfl⟩
theorem tf83 : tk Tryz.prog 83 = some (true, 20) ∧ sk Tryz.prog 83 = .st ∧ (Tryz.prog.underlying 83).isSome = true ∧ el Tryz.prog 83 = none ∧ zc Tryz.prog 83 = some [.nil, .nil, .nil, .nil, .nil, .nil, .nil, .nil, .nil, .nil, .nil, .nil, .nil, .nil, .nil, .nil, .nil, .nil, .nil, .nil] ∧ by_ Tryz.prog 83 = some 480 ∧ places Tryz.prog 83 = some [(0, 1), (1, 1), (2, 1), (3, 1), (4, 1), (5, 1), (6, 1), (7, 1), (8, 1), (9, 1), (10, 1), (11, 1), (12, 1), (13, 1), (14, 1), (15, 1), (16, 1), (17, 1), (18, 1), (19, 1)] ∧ fld Tryz.prog 83 0 = some (0, false, 1) ∧ fld Tryz.prog 83 1 = some (1, false, 1) ∧ fld Tryz.prog 83 2 = some (2, false, 1) ∧ fld Tryz.prog 83 3 = some (3, false, 1) ∧ fld Tryz.prog 83 4 = some (4, false, 1) ∧ fld Tryz.prog 83 5 = some (5, false, 1) ∧ fld Tryz.prog 83 6 = some (6, false, 1) ∧ fld Tryz.prog 83 7 = some (7, false, 1) ∧ fld Tryz.prog 83 8 = some (8, false, 1) ∧ fld Tryz.prog 83 9 = some (9, false, 1) ∧ fld Tryz.prog 83 10 = some (10, false, 1) ∧ fld Tryz.prog 83 11 = some (11, false, 1) ∧ fld Tryz.prog 83 12 = some (12, false, 1) ∧ fld Tryz.prog 83 13 = some (13, false, 1) ∧ fld Tryz.prog 83 14 = some (14, false, 1) ∧ fld Tryz.prog 83 15 = some (15, false, 1) ∧ fld Tryz.prog 83 16 = some (16, false, 1) ∧ fld Tryz.prog 83 17 = some (17, false, 1) ∧ fld Tryz.prog 83 18 = some (18, false, 1) ∧ fld Tryz.prog 83 19 = some (19, false, 1) := ⟨by kernel_rfl, by kernel_rfl, by kernel_rfl, by kernel_rfl, by kernel_rfl, by kernel_rfl, by kernel_rfl, by kernel_rfl, by kernel_rfl, by kernel_rfl, by kernel_rfl, by kernel_rfl, by kernel_rfl, by kernel_rfl, by kernel_rfl, by kernel_rfl, by kernel_rfl, by kernel_rfl, by kernel_rfl, by kernel_rfl, by kernel_rfl, by kernel_rfl, by kernel_rfl, by kernel_rfl, by kernel_rfl, by kernel_rfl, by kernel_rfl⟩
end
end Go.Proofs.YtphnoaihojccbaaGreatDoor
