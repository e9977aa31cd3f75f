/- The token that a text begins with: quotes, stops, signs; the whole. -/
import Derived.Test.YtldmniappliepaaGreatDoorY19
import Derived.Test.YtldmniappliepaaGreatDoorY11
set_option linter.unusedVariables false
set_option linter.unusedSimpArgs false
set_option maxRecDepth 20000
set_option linter.defProp false
namespace Go.Proofs.YtldmniappliepaaGreatDoor
open Go Go.Av
section
def tbScnF := And.intro (And.intro (And.intro @tf3 (And.intro @tf4 @tf5)) (And.intro (And.intro @tf9 @tf33) (And.intro @tf43 @tf41))) (And.intro (And.intro @tf24 (And.intro @tf76 @tf98)) (And.intro (And.intro @tf26 @tf23) (And.intro @ares_tmpc @ares_cellc)))
variable {G : Nat → AV}
set_option maxHeartbeats 2000000 in
theorem token_quote (c : UInt8) (r : List UInt8) (hs : (c :: r).length ≤ 1000000) (h0 : (lowB c || highB c) = false) (h3 : digitB c = false) (hc : c = 39 ∨ c = 34) : Pure Tryz.prog G 20 [.str (c :: r)] (tkV (tokS (c :: r))) := by
  have hqp := quoted_pure G c r hc (by simp only [List.length_cons] at hs; omega)
  have q1 := slow_pure G c
  have q2 := shigh_pure G c
  have q3 := sdigit_pure G c
  simp only [Bool.or_eq_false_iff] at h0
  rw [h0.1] at q1
  rw [h0.2] at q2
  rw [h3] at q3
  have hx0 : (c :: r)[0]? = some c := rfl
  rw [tokS_cons, h0.1, h0.2, h3]
  simp only [Bool.or_self, Bool.false_eq_true, if_false, if_true]
  rw [if_pos hc]
  have hk : (c.toNat : Int) = 39 ∧ ((c.toNat : Int) = 34) = False ∧ qMost c = 40 ∧ qKind c = 2 ∨ (c.toNat : Int) = 34 ∧ ((c.toNat : Int) = 39) = False ∧ qMost c = 400 ∧ qKind c = 4 := by
    rcases hc with rfl | rfl
    · exact .inl ⟨by decide, by decide, by decide, by decide⟩
    · exact .inr ⟨by decide, by decide, by decide, by decide⟩
  clear hc
  cases ho : qscan c r with
  | none =>
    rw [ho] at hqp
    simp only [qText, qNum] at hqp
    generalize c :: r = S at *
    clear hs h0 h3
    rcases hk with ⟨k1, k2, k3, k4⟩ | ⟨k1, k2, k3, k4⟩
    · replace k1 := eq_true k1
      clear k3 k4 ho
      intro σ
      refine Tri.of_awp mixed Tryz.func20 rfl (by kernel_rfl) (by kernel_rfl) (by simp [Tryz.ntmps20]) Tryz.results20 ?_
      simp -dsimp only [↓bp, bq, br, seval, tbScnF]
      refine newW_intro fun b1 h1 => ?_
      simp -dsimp only [↓bp, bq, br, seval, tbScnF]
      refine newT_plain fun b2 h2 => ?_
      simp only [fb] at h2
      repeat' (first | refine xs ?_ ?_ <;> intros | ((first | refine xh ?_ | refine xi ?_); intro bx hbx; (try simp only [fb] at hbx)) | refine Pure.use (q1) ?_ | refine Pure.head (q1) ?_ | refine Pure.use (q2) ?_ | refine Pure.head (q2) ?_ | refine Pure.use (q3) ?_ | refine Pure.head (q3) ?_ | refine Pure.use (hqp) ?_ | refine Pure.head (hqp) ?_ | refine xj ?_ | refine cv_plain ?_ | ((with_reducible refine And.intro ?_ ?_); omega) | refine bo_buildSlice (d' := ⟨⟩) ?_ | refine xk (by kernel_rfl) ?_ | refine xf ?_ (by repeat' first | exact lr _ | assumption | refine ls ?_ ?_ | refine lt ?_ ?_ | simp only [*]; done | simp only [fb, *, not_false_eq_true, and_self]; done | exact lf ‹_› (by simp only [*])) | refine finish_two ?_ (by repeat' first | exact lr _ | assumption | refine ls ?_ ?_ | refine lt ?_ ?_ | simp only [*]; done | simp only [fb, *, not_false_eq_true, and_self]; done | exact lf ‹_› (by simp only [*])) | simp -dsimp only [↓bp, bq, br, seval, tbScnF, *] | refine cv_any ?_)
      all_goals rfl
    · replace k1 := eq_true k1
      clear k3 k4 ho
      intro σ
      refine Tri.of_awp mixed Tryz.func20 rfl (by kernel_rfl) (by kernel_rfl) (by simp [Tryz.ntmps20]) Tryz.results20 ?_
      simp -dsimp only [↓bp, bq, br, seval, tbScnF]
      refine newW_intro fun b1 h1 => ?_
      simp -dsimp only [↓bp, bq, br, seval, tbScnF]
      refine newT_plain fun b2 h2 => ?_
      simp only [fb] at h2
      repeat' (first | refine xs ?_ ?_ <;> intros | ((first | refine xh ?_ | refine xi ?_); intro bx hbx; (try simp only [fb] at hbx)) | refine Pure.use (q1) ?_ | refine Pure.head (q1) ?_ | refine Pure.use (q2) ?_ | refine Pure.head (q2) ?_ | refine Pure.use (q3) ?_ | refine Pure.head (q3) ?_ | refine Pure.use (hqp) ?_ | refine Pure.head (hqp) ?_ | refine xj ?_ | refine cv_plain ?_ | ((with_reducible refine And.intro ?_ ?_); omega) | refine bo_buildSlice (d' := ⟨⟩) ?_ | refine xk (by kernel_rfl) ?_ | refine xf ?_ (by repeat' first | exact lr _ | assumption | refine ls ?_ ?_ | refine lt ?_ ?_ | simp only [*]; done | simp only [fb, *, not_false_eq_true, and_self]; done | exact lf ‹_› (by simp only [*])) | refine finish_two ?_ (by repeat' first | exact lr _ | assumption | refine ls ?_ ?_ | refine lt ?_ ?_ | simp only [*]; done | simp only [fb, *, not_false_eq_true, and_self]; done | exact lf ‹_› (by simp only [*])) | simp -dsimp only [↓bp, bq, br, seval, tbScnF, *] | refine cv_any ?_)
      all_goals rfl
  | some p =>
    rw [ho] at hqp
    simp only [qText, qNum] at hqp
    have hn0 : (((p.2 + 1 : Nat) : Int) = 0) = False := eq_false (by omega)
    have hml := qscan_len c r.length r (Nat.le_refl _) p ho
    obtain ⟨T, n⟩ := p
    simp only at hqp hn0 ⊢
    generalize n + 1 = m at *
    generalize c :: r = S at *
    clear hs h0 h3 ho hml
    rcases hk with ⟨k1, k2, k3, k4⟩ | ⟨k1, k2, k3, k4⟩
    · replace k1 := eq_true k1
      rw [k3, k4]
      clear k3 k4
      by_cases hT : 40 < T.length
      · have hT' : ((40 : Int) < T.length) = True := eq_true (by omega)
        rw [if_pos hT]
        clear hT
        intro σ
        refine Tri.of_awp mixed Tryz.func20 rfl (by kernel_rfl) (by kernel_rfl) (by simp [Tryz.ntmps20]) Tryz.results20 ?_
        simp -dsimp only [↓bp, bq, br, seval, tbScnF]
        refine newW_intro fun b1 h1 => ?_
        simp -dsimp only [↓bp, bq, br, seval, tbScnF]
        refine newT_plain fun b2 h2 => ?_
        simp only [fb] at h2
        repeat' (first | refine xs ?_ ?_ <;> intros | ((first | refine xh ?_ | refine xi ?_); intro bx hbx; (try simp only [fb] at hbx)) | refine Pure.use (q1) ?_ | refine Pure.head (q1) ?_ | refine Pure.use (q2) ?_ | refine Pure.head (q2) ?_ | refine Pure.use (q3) ?_ | refine Pure.head (q3) ?_ | refine Pure.use (hqp) ?_ | refine Pure.head (hqp) ?_ | refine xj ?_ | refine cv_plain ?_ | ((with_reducible refine And.intro ?_ ?_); omega) | refine bo_buildSlice (d' := ⟨⟩) ?_ | refine xk (by kernel_rfl) ?_ | refine xf ?_ (by repeat' first | exact lr _ | assumption | refine ls ?_ ?_ | refine lt ?_ ?_ | simp only [*]; done | simp only [fb, *, not_false_eq_true, and_self]; done | exact lf ‹_› (by simp only [*])) | refine finish_two ?_ (by repeat' first | exact lr _ | assumption | refine ls ?_ ?_ | refine lt ?_ ?_ | simp only [*]; done | simp only [fb, *, not_false_eq_true, and_self]; done | exact lf ‹_› (by simp only [*])) | simp -dsimp only [↓bp, bq, br, seval, tbScnF, *] | refine cv_any ?_)
        all_goals rfl
      · have hT' : ((40 : Int) < T.length) = False := eq_false (by omega)
        rw [if_neg hT]
        clear hT
        intro σ
        refine Tri.of_awp mixed Tryz.func20 rfl (by kernel_rfl) (by kernel_rfl) (by simp [Tryz.ntmps20]) Tryz.results20 ?_
        simp -dsimp only [↓bp, bq, br, seval, tbScnF]
        refine newW_intro fun b1 h1 => ?_
        simp -dsimp only [↓bp, bq, br, seval, tbScnF]
        refine newT_plain fun b2 h2 => ?_
        simp only [fb] at h2
        repeat' (first | refine xs ?_ ?_ <;> intros | ((first | refine xh ?_ | refine xi ?_); intro bx hbx; (try simp only [fb] at hbx)) | refine Pure.use (q1) ?_ | refine Pure.head (q1) ?_ | refine Pure.use (q2) ?_ | refine Pure.head (q2) ?_ | refine Pure.use (q3) ?_ | refine Pure.head (q3) ?_ | refine Pure.use (hqp) ?_ | refine Pure.head (hqp) ?_ | refine xj ?_ | refine cv_plain ?_ | ((with_reducible refine And.intro ?_ ?_); omega) | refine bo_buildSlice (d' := ⟨⟩) ?_ | refine xk (by kernel_rfl) ?_ | refine xf ?_ (by repeat' first | exact lr _ | assumption | refine ls ?_ ?_ | refine lt ?_ ?_ | simp only [*]; done | simp only [fb, *, not_false_eq_true, and_self]; done | exact lf ‹_› (by simp only [*])) | refine finish_two ?_ (by repeat' first | exact lr _ | assumption | refine ls ?_ ?_ | refine lt ?_ ?_ | simp only [*]; done | simp only [fb, *, not_false_eq_true, and_self]; done | exact lf ‹_› (by simp only [*])) | simp -dsimp only [↓bp, bq, br, seval, tbScnF, *] | refine cv_any ?_)
        all_goals rfl
    · replace k1 := eq_true k1
      rw [k3, k4]
      clear k3 k4
      by_cases hT : 400 < T.length
      · have hT' : ((400 : Int) < T.length) = True := eq_true (by omega)
        rw [if_pos hT]
        clear hT
        intro σ
        refine Tri.of_awp mixed Tryz.func20 rfl (by kernel_rfl) (by kernel_rfl) (by simp [Tryz.ntmps20]) Tryz.results20 ?_
        simp -dsimp only [↓bp, bq, br, seval, tbScnF]
        refine newW_intro fun b1 h1 => ?_
        simp -dsimp only [↓bp, bq, br, seval, tbScnF]
        refine newT_plain fun b2 h2 => ?_
        simp only [fb] at h2
        repeat' (first | refine xs ?_ ?_ <;> intros | ((first | refine xh ?_ | refine xi ?_); intro bx hbx; (try simp only [fb] at hbx)) | refine Pure.use (q1) ?_ | refine Pure.head (q1) ?_ | refine Pure.use (q2) ?_ | refine Pure.head (q2) ?_ | refine Pure.use (q3) ?_ | refine Pure.head (q3) ?_ | refine Pure.use (hqp) ?_ | refine Pure.head (hqp) ?_ | refine xj ?_ | refine cv_plain ?_ | ((with_reducible refine And.intro ?_ ?_); omega) | refine bo_buildSlice (d' := ⟨⟩) ?_ | refine xk (by kernel_rfl) ?_ | refine xf ?_ (by repeat' first | exact lr _ | assumption | refine ls ?_ ?_ | refine lt ?_ ?_ | simp only [*]; done | simp only [fb, *, not_false_eq_true, and_self]; done | exact lf ‹_› (by simp only [*])) | refine finish_two ?_ (by repeat' first | exact lr _ | assumption | refine ls ?_ ?_ | refine lt ?_ ?_ | simp only [*]; done | simp only [fb, *, not_false_eq_true, and_self]; done | exact lf ‹_› (by simp only [*])) | simp -dsimp only [↓bp, bq, br, seval, tbScnF, *] | refine cv_any ?_)
        all_goals rfl
      · have hT' : ((400 : Int) < T.length) = False := eq_false (by omega)
        rw [if_neg hT]
        clear hT
        intro σ
        refine Tri.of_awp mixed Tryz.func20 rfl (by kernel_rfl) (by kernel_rfl) (by simp [Tryz.ntmps20]) Tryz.results20 ?_
        simp -dsimp only [↓bp, bq, br, seval, tbScnF]
        refine newW_intro fun b1 h1 => ?_
        simp -dsimp only [↓bp, bq, br, seval, tbScnF]
        refine newT_plain fun b2 h2 => ?_
        simp only [fb] at h2
        repeat' (first | refine xs ?_ ?_ <;> intros | ((first | refine xh ?_ | refine xi ?_); intro bx hbx; (try simp only [fb] at hbx)) | refine Pure.use (q1) ?_ | refine Pure.head (q1) ?_ | refine Pure.use (q2) ?_ | refine Pure.head (q2) ?_ | refine Pure.use (q3) ?_ | refine Pure.head (q3) ?_ | refine Pure.use (hqp) ?_ | refine Pure.head (hqp) ?_ | refine xj ?_ | refine cv_plain ?_ | ((with_reducible refine And.intro ?_ ?_); omega) | refine bo_buildSlice (d' := ⟨⟩) ?_ | refine xk (by kernel_rfl) ?_ | refine xf ?_ (by repeat' first | exact lr _ | assumption | refine ls ?_ ?_ | refine lt ?_ ?_ | simp only [*]; done | simp only [fb, *, not_false_eq_true, and_self]; done | exact lf ‹_› (by simp only [*])) | refine finish_two ?_ (by repeat' first | exact lr _ | assumption | refine ls ?_ ?_ | refine lt ?_ ?_ | simp only [*]; done | simp only [fb, *, not_false_eq_true, and_self]; done | exact lf ‹_› (by simp only [*])) | simp -dsimp only [↓bp, bq, br, seval, tbScnF, *] | refine cv_any ?_)
        all_goals rfl
theorem contains_blank (d : UInt8) : Lib.contains [32, 9, 13, 10, 37] [d] = decide (d = 32 ∨ d = 9 ∨ d = 13 ∨ d = 10 ∨ d = 37) := by
  have h2 := u8_all (p := fun d => Lib.contains [32, 9, 13, 10, 37] [d] == decide (d = 32 ∨ d = 9 ∨ d = 13 ∨ d = 10 ∨ d = 37)) (by decide +kernel) d
  simpa using h2
set_option maxHeartbeats 2000000 in
theorem token_dot (hg : GlobS G) (c : UInt8) (r : List UInt8) (hs : (c :: r).length ≤ 1000000) (h0 : (lowB c || highB c) = false) (h3 : digitB c = false) (hc : ¬ (c = 39 ∨ c = 34)) (h46 : c = 46) : Pure Tryz.prog G 20 [.str (c :: r)] (tkV (tokS (c :: r))) := by
  have n39 : ((c.toNat : Int) = 39) = False := eq_false fun h => hc (.inl (UInt8.toNat_inj.1 (show c.toNat = (39 : UInt8).toNat by rw [show (39 : UInt8).toNat = 39 from rfl]; omega)))
  have n34 : ((c.toNat : Int) = 34) = False := eq_false fun h => hc (.inr (UInt8.toNat_inj.1 (show c.toNat = (34 : UInt8).toNat by rw [show (34 : UInt8).toNat = 34 from rfl]; omega)))
  have q1 := slow_pure G c
  have q2 := shigh_pure G c
  have q3 := sdigit_pure G c
  simp only [Bool.or_eq_false_iff] at h0
  rw [h0.1] at q1
  rw [h0.2] at q2
  rw [h3] at q3
  have hx0 : (c :: r)[0]? = some c := rfl
  rw [tokS_cons, h0.1, h0.2, h3]
  simp only [Bool.or_self, Bool.false_eq_true, if_false, if_true]
  rw [if_neg hc, if_pos h46]
  have n46 : ((c.toNat : Int) = 46) = True := eq_true (by rw [h46]; rfl)
  match r with
  | [] =>
    clear hc h0 h3 hs h46
    intro σ
    refine Tri.of_awp mixed Tryz.func20 rfl (by kernel_rfl) (by kernel_rfl) (by simp [Tryz.ntmps20]) Tryz.results20 ?_
    simp -dsimp only [↓bp, bq, br, seval, tbScnF]
    refine newW_intro fun b1 h1 => ?_
    simp -dsimp only [↓bp, bq, br, seval, tbScnF]
    refine newT_plain fun b2 h2 => ?_
    simp only [fb] at h2
    repeat' (first | refine xs ?_ ?_ <;> intros | ((first | refine xh ?_ | refine xi ?_); intro bx hbx; (try simp only [fb] at hbx)) | refine Pure.use (q1) ?_ | refine Pure.head (q1) ?_ | refine Pure.use (q2) ?_ | refine Pure.head (q2) ?_ | refine Pure.use (q3) ?_ | refine Pure.head (q3) ?_ | refine xj ?_ | refine cv_plain ?_ | ((with_reducible refine And.intro ?_ ?_); omega) | refine bo_buildSlice (d' := ⟨⟩) ?_ | refine xk (by kernel_rfl) ?_ | refine xf ?_ (by repeat' first | exact lr _ | assumption | refine ls ?_ ?_ | refine lt ?_ ?_ | simp only [*]; done | simp only [fb, *, not_false_eq_true, and_self]; done | exact lf ‹_› (by simp only [*])) | refine finish_two ?_ (by repeat' first | exact lr _ | assumption | refine ls ?_ ?_ | refine lt ?_ ?_ | simp only [*]; done | simp only [fb, *, not_false_eq_true, and_self]; done | exact lf ‹_› (by simp only [*])) | simp -dsimp only [↓bp, bq, br, seval, tbScnF, *] | refine cv_any ?_)
    all_goals rfl
  | d :: r =>
    have hct := scontains_pure hg [32, 9, 13, 10, 37] [d] (by decide)
    rw [contains_blank] at hct
    have hsl : ((c :: d :: r).take 2).drop 1 = [d] := rfl
    have hl1 : (((c :: d :: r).length : Int) = 1) = False := eq_false (by simp only [List.length_cons]; omega)
    have hl2 : (2 ≤ (c :: d :: r).length) = True := eq_true (by simp only [List.length_cons]; omega)
    simp only
    generalize c :: d :: r = S at *
    clear hc h0 h3 hs h46
    by_cases hd : d = 32 ∨ d = 9 ∨ d = 13 ∨ d = 10 ∨ d = 37
    · rw [if_pos hd]
      rw [decide_eq_true hd] at hct
      clear hd
      intro σ
      refine Tri.of_awp mixed Tryz.func20 rfl (by kernel_rfl) (by kernel_rfl) (by simp [Tryz.ntmps20]) Tryz.results20 ?_
      simp -dsimp only [↓bp, bq, br, seval, tbScnF]
      refine newW_intro fun b1 h1 => ?_
      simp -dsimp only [↓bp, bq, br, seval, tbScnF]
      refine newT_plain fun b2 h2 => ?_
      simp only [fb] at h2
      repeat' (first | refine xs ?_ ?_ <;> intros | ((first | refine xh ?_ | refine xi ?_); intro bx hbx; (try simp only [fb] at hbx)) | refine Pure.use (q1) ?_ | refine Pure.head (q1) ?_ | refine Pure.use (q2) ?_ | refine Pure.head (q2) ?_ | refine Pure.use (q3) ?_ | refine Pure.head (q3) ?_ | refine Pure.use (hct) ?_ | refine Pure.head (hct) ?_ | refine xj ?_ | refine cv_plain ?_ | ((with_reducible refine And.intro ?_ ?_); omega) | refine bo_buildSlice (d' := ⟨⟩) ?_ | refine xk (by kernel_rfl) ?_ | refine xf ?_ (by repeat' first | exact lr _ | assumption | refine ls ?_ ?_ | refine lt ?_ ?_ | simp only [*]; done | simp only [fb, *, not_false_eq_true, and_self]; done | exact lf ‹_› (by simp only [*])) | refine finish_two ?_ (by repeat' first | exact lr _ | assumption | refine ls ?_ ?_ | refine lt ?_ ?_ | simp only [*]; done | simp only [fb, *, not_false_eq_true, and_self]; done | exact lf ‹_› (by simp only [*])) | simp -dsimp only [↓bp, bq, br, seval, tbScnF, *] | refine cv_any ?_)
      all_goals rfl
    · rw [if_neg hd]
      rw [decide_eq_false hd] at hct
      clear hd
      intro σ
      refine Tri.of_awp mixed Tryz.func20 rfl (by kernel_rfl) (by kernel_rfl) (by simp [Tryz.ntmps20]) Tryz.results20 ?_
      simp -dsimp only [↓bp, bq, br, seval, tbScnF]
      refine newW_intro fun b1 h1 => ?_
      simp -dsimp only [↓bp, bq, br, seval, tbScnF]
      refine newT_plain fun b2 h2 => ?_
      simp only [fb] at h2
      repeat' (first | refine xs ?_ ?_ <;> intros | ((first | refine xh ?_ | refine xi ?_); intro bx hbx; (try simp only [fb] at hbx)) | refine Pure.use (q1) ?_ | refine Pure.head (q1) ?_ | refine Pure.use (q2) ?_ | refine Pure.head (q2) ?_ | refine Pure.use (q3) ?_ | refine Pure.head (q3) ?_ | refine Pure.use (hct) ?_ | refine Pure.head (hct) ?_ | refine xj ?_ | refine cv_plain ?_ | ((with_reducible refine And.intro ?_ ?_); omega) | refine bo_buildSlice (d' := ⟨⟩) ?_ | refine xk (by kernel_rfl) ?_ | refine xf ?_ (by repeat' first | exact lr _ | assumption | refine ls ?_ ?_ | refine lt ?_ ?_ | simp only [*]; done | simp only [fb, *, not_false_eq_true, and_self]; done | exact lf ‹_› (by simp only [*])) | refine finish_two ?_ (by repeat' first | exact lr _ | assumption | refine ls ?_ ?_ | refine lt ?_ ?_ | simp only [*]; done | simp only [fb, *, not_false_eq_true, and_self]; done | exact lf ‹_› (by simp only [*])) | simp -dsimp only [↓bp, bq, br, seval, tbScnF, *] | refine cv_any ?_)
      all_goals rfl
set_option maxHeartbeats 2000000 in
theorem token_sign (hg : GlobS G) (c : UInt8) (r : List UInt8) (hs : (c :: r).length ≤ 1000000) (h0 : (lowB c || highB c) = false) (h3 : digitB c = false) (hc : ¬ (c = 39 ∨ c = 34)) (h46 : ¬ c = 46) : Pure Tryz.prog G 20 [.str (c :: r)] (tkV (tokS (c :: r))) := by
  have n39 : ((c.toNat : Int) = 39) = False := eq_false fun h => hc (.inl (UInt8.toNat_inj.1 (show c.toNat = (39 : UInt8).toNat by rw [show (39 : UInt8).toNat = 39 from rfl]; omega)))
  have n34 : ((c.toNat : Int) = 34) = False := eq_false fun h => hc (.inr (UInt8.toNat_inj.1 (show c.toNat = (34 : UInt8).toNat by rw [show (34 : UInt8).toNat = 34 from rfl]; omega)))
  have q1 := slow_pure G c
  have q2 := shigh_pure G c
  have q3 := sdigit_pure G c
  simp only [Bool.or_eq_false_iff] at h0
  rw [h0.1] at q1
  rw [h0.2] at q2
  rw [h3] at q3
  have hx0 : (c :: r)[0]? = some c := rfl
  rw [tokS_cons, h0.1, h0.2, h3]
  simp only [Bool.or_self, Bool.false_eq_true, if_false, if_true]
  rw [if_neg hc, if_neg h46]
  have n46 : ((c.toNat : Int) = 46) = False := eq_false fun h => h46 (UInt8.toNat_inj.1 (show c.toNat = (46 : UInt8).toNat by rw [show (46 : UInt8).toNat = 46 from rfl]; omega))
  have hgs := hg.signs
  have hL : scanSigns.length = 29 := rfl
  have hpf := fun g => hasPrefix_pure G (c :: r) g
  generalize c :: r = S at *
  generalize scanSigns = L at *
  have hL1 : (29 ≤ L.length) = True := eq_true (by omega)
  have htk : (L.map AV.str).take 29 = L.map AV.str := List.take_of_length_le (by rw [List.length_map]; omega)
  clear hc h0 h3 hs h46 hg
  intro σ
  refine Tri.of_awp mixed Tryz.func20 rfl (by kernel_rfl) (by kernel_rfl) (by simp [Tryz.ntmps20]) Tryz.results20 ?_
  simp -dsimp only [↓bp, bq, br, seval, tbScnF]
  refine newW_intro fun b1 h1 => ?_
  simp -dsimp only [↓bp, bq, br, seval, tbScnF]
  refine newT_plain fun b2 h2 => ?_
  simp only [fb] at h2
  repeat' (first | refine xs ?_ ?_ <;> intros | ((first | refine xh ?_ | refine xi ?_); intro bx hbx; (try simp only [fb] at hbx)) | refine Pure.use (q1) ?_ | refine Pure.head (q1) ?_ | refine Pure.use (q2) ?_ | refine Pure.head (q2) ?_ | refine Pure.use (q3) ?_ | refine Pure.head (q3) ?_ | refine xj ?_ | refine cv_plain ?_ | ((with_reducible refine And.intro ?_ ?_); omega) | refine bo_buildSlice (d' := ⟨⟩) ?_ | refine xk (by kernel_rfl) ?_ | refine xf ?_ (by repeat' first | exact lr _ | assumption | refine ls ?_ ?_ | refine lt ?_ ?_ | simp only [*]; done | simp only [fb, *, not_false_eq_true, and_self]; done | exact lf ‹_› (by simp only [*])) | refine finish_two ?_ (by repeat' first | exact lr _ | assumption | refine ls ?_ ?_ | refine lt ?_ ?_ | simp only [*]; done | simp only [fb, *, not_false_eq_true, and_self]; done | exact lf ‹_› (by simp only [*])) | simp -dsimp only [↓bp, bq, br, seval, tbScnF, *] | refine cv_any ?_)
  refine loop_keep mixed (fun n e => ∃ i : Nat, i ≤ 29 ∧ n = 29 - i ∧ e 107 = .int .i64 i ∧ L.find? (fun g => g.isPrefixOf S) = (L.drop i).find? (fun g => g.isPrefixOf S)) 29
    ⟨0, by omega, by omega, by first | (simp -dsimp only [↓bp, bq, br, seval, tbScnF]; done) | (simp -dsimp only [↓bp, bq, br, seval, tbScnF]; try rfl), by rw [List.drop_zero]⟩ ?_
  rintro n v ⟨i, hi, rfl, h107, hf⟩
  simp -dsimp only [↓bp, bq, br, seval, tbScnF] at h107
  by_cases hlt : (i : Int) < 29
  · obtain ⟨g, hgi⟩ : ∃ g, L[i]? = some g := ⟨_, List.getElem?_eq_getElem (by omega)⟩
    have hdr := drop_get _ _ _ hgi
    rw [hdr, List.find?_cons] at hf
    have hhd : (List.drop (i * 1) (L.map AV.str)).head? = some (.str g) := by rw [Nat.mul_one, ← List.map_drop, hdr]; rfl
    have hw : IntKind.i64.wrap ((i : Int) + 1) = ((i + 1 : Nat) : Int) := by rw [wrap_nat (by omega) (by omega)]; rfl
    have hlt' := eq_true hlt
    have hp := hpf g
    cases hx : g.isPrefixOf S
    · rw [hx] at hp hf
      simp only at hf
      clear hdr hgi hx hpf hL
      repeat' (first | refine xs ?_ ?_ <;> intros | ((first | refine xh ?_ | refine xi ?_); intro bx hbx; (try simp only [fb] at hbx)) | refine Pure.use (hp) ?_ | refine Pure.head (hp) ?_ | refine xj ?_ | refine cv_plain ?_ | ((with_reducible refine And.intro ?_ ?_); omega) | refine bo_buildSlice (d' := ⟨⟩) ?_ | refine xk (by kernel_rfl) ?_ | refine xf ?_ (by repeat' first | exact lr _ | assumption | refine ls ?_ ?_ | refine lt ?_ ?_ | simp only [*]; done | simp only [fb, *, not_false_eq_true, and_self]; done | exact lf ‹_› (by simp only [*])) | refine finish_two ?_ (by repeat' first | exact lr _ | assumption | refine ls ?_ ?_ | refine lt ?_ ?_ | simp only [*]; done | simp only [fb, *, not_false_eq_true, and_self]; done | exact lf ‹_› (by simp only [*])) | simp -dsimp only [↓bp, bq, br, seval, tbScnF, *] | refine cv_any ?_)
      all_goals (have hlt := of_eq_true hlt')
      all_goals exact ⟨29 - (i + 1), by omega, i + 1, by omega, rfl, rfl, rfl⟩
    · rw [hx] at hp hf
      simp only at hf
      rw [hf]
      clear hdr hgi hx hpf hL hf
      repeat' (first | refine xs ?_ ?_ <;> intros | ((first | refine xh ?_ | refine xi ?_); intro bx hbx; (try simp only [fb] at hbx)) | refine Pure.use (hp) ?_ | refine Pure.head (hp) ?_ | refine xj ?_ | refine cv_plain ?_ | ((with_reducible refine And.intro ?_ ?_); omega) | refine bo_buildSlice (d' := ⟨⟩) ?_ | refine xk (by kernel_rfl) ?_ | refine xf ?_ (by repeat' first | exact lr _ | assumption | refine ls ?_ ?_ | refine lt ?_ ?_ | simp only [*]; done | simp only [fb, *, not_false_eq_true, and_self]; done | exact lf ‹_› (by simp only [*])) | refine finish_two ?_ (by repeat' first | exact lr _ | assumption | refine ls ?_ ?_ | refine lt ?_ ?_ | simp only [*]; done | simp only [fb, *, not_false_eq_true, and_self]; done | exact lf ‹_› (by simp only [*])) | simp -dsimp only [↓bp, bq, br, seval, tbScnF, *] | refine cv_any ?_)
      all_goals rfl
  · have : i = 29 := by omega
    subst this
    rw [List.drop_eq_nil_of_le (by omega)] at hf
    have hlt' := eq_false hlt
    rw [hf]
    clear hpf hf hlt hL hi
    repeat' (first | refine xs ?_ ?_ <;> intros | ((first | refine xh ?_ | refine xi ?_); intro bx hbx; (try simp only [fb] at hbx)) | refine xj ?_ | refine cv_plain ?_ | ((with_reducible refine And.intro ?_ ?_); omega) | refine bo_buildSlice (d' := ⟨⟩) ?_ | refine xk (by kernel_rfl) ?_ | refine xf ?_ (by repeat' first | exact lr _ | assumption | refine ls ?_ ?_ | refine lt ?_ ?_ | simp only [*]; done | simp only [fb, *, not_false_eq_true, and_self]; done | exact lf ‹_› (by simp only [*])) | refine finish_two ?_ (by repeat' first | exact lr _ | assumption | refine ls ?_ ?_ | refine lt ?_ ?_ | simp only [*]; done | simp only [fb, *, not_false_eq_true, and_self]; done | exact lf ‹_› (by simp only [*])) | simp -dsimp only [↓bp, bq, br, seval, tbScnF, *] | refine cv_any ?_)
    all_goals rfl
theorem stoken_pure (hg : GlobS G) (s : List UInt8) (h0 : s ≠ []) (hs : s.length ≤ 1000000) : Pure Tryz.prog G 20 [.str s] (tkV (tokS s)) := by
  match s, h0 with
  | c :: r, _ =>
    by_cases h1 : (lowB c || highB c) = true
    · by_cases h2 : highB c = true
      · exact token_high c r (by omega) h2
      · exact token_low hg c r (by omega) (by simpa [h2] using h1)
    · have h1 : (lowB c || highB c) = false := by simpa using h1
      by_cases h3 : digitB c = true
      · exact token_digit c r (by omega) h1 h3
      · have h3 : digitB c = false := by simpa using h3
        by_cases h4 : c = 39 ∨ c = 34
        · exact token_quote c r hs h1 h3 h4
        · by_cases h5 : c = 46
          · exact token_dot hg c r hs h1 h3 h4 h5
          · exact token_sign hg c r hs h1 h3 h4 h5
end
section
open Go
structure Stop (x : UInt8) : Prop where
  name : namedB x = false
  digit : digitB x = false
  hex : hexB x = false
  esc : escB x = none
  ex : x ≠ 120
  low : x.toNat < 32
  dot : x = 32 ∨ x = 9 ∨ x = 13 ∨ x = 10 ∨ x = 37
  sign : ∀ g, g ∈ scanSigns → x ∉ g
theorem stop_cr : Stop 13 := ⟨by decide, by decide, by decide, by decide, by decide, by decide, by decide, by decide⟩
theorem takeWhile_stop {p : UInt8 → Bool} {x : UInt8} (h : p x = false) (b : List UInt8) : ∀ s : List UInt8, (s ++ x :: b).takeWhile p = s.takeWhile p
  | [] => by simp [List.takeWhile_cons, h]
  | c :: r => by
    rw [List.cons_append, List.takeWhile_cons, List.takeWhile_cons, takeWhile_stop h b r]
theorem qscan_stop {q x : UInt8} (hq : x ≠ q) (h : Stop x) (b : List UInt8) : ∀ (m : Nat) (s : List UInt8), s.length ≤ m → qscan q (s ++ x :: b) = qscan q s := by
  intro m
  induction m with
  | zero =>
    intro s hs
    cases s with
    | nil => rw [List.nil_append, qscan_cons, if_neg hq, if_pos h.low]; rfl
    | cons c r => simp at hs
  | succ m ih =>
    intro s hs
    match s, hs with
    | [], _ => rw [List.nil_append, qscan_cons, if_neg hq, if_pos h.low]; rfl
    | c :: r, hs =>
      simp only [List.length_cons] at hs
      rw [List.cons_append, qscan_cons, qscan_cons]
      split
      · rfl
      split
      · rfl
      split
      · match r, hs with
        | [], _ => simp only [List.nil_append, h.esc, if_neg h.ex]
        | e :: r1, hs =>
          simp only [List.length_cons] at hs
          simp only [List.cons_append]
          rw [ih r1 (by omega)]
          split
          · rfl
          · split
            · match r1, hs with
              | [], _ =>
                cases b with
                | nil => rfl
                | cons d b => simp only [List.nil_append, h.hex, Bool.false_and, Bool.false_eq_true, if_false]
              | [h1], _ => simp only [List.cons_append, List.nil_append, h.hex, Bool.and_false, Bool.false_eq_true, if_false]
              | h1 :: h2 :: r2, hs =>
                simp only [List.length_cons] at hs
                simp only [List.cons_append]
                rw [ih r2 (by omega)]
            · rfl
      · rw [ih r (by omega)]
theorem prefix_stop {x : UInt8} (b : List UInt8) : ∀ (g s : List UInt8), x ∉ g → g.isPrefixOf (s ++ x :: b) = g.isPrefixOf s
  | [], s, _ => by simp [List.isPrefixOf]
  | c :: g, [], h => by
    have : (c == x) = false := by simp only [List.mem_cons, not_or] at h; exact beq_eq_false_iff_ne.2 (Ne.symm h.1)
    simp [List.isPrefixOf, this]
  | c :: g, d :: s, h => by
    simp only [List.cons_append, List.isPrefixOf]
    rw [prefix_stop b g s (fun hm => h (List.mem_cons_of_mem _ hm))]
theorem find_congr {α : Type} {p q : α → Bool} : ∀ (l : List α), (∀ a, a ∈ l → p a = q a) → l.find? p = l.find? q
  | [], _ => rfl
  | a :: l, h => by
    rw [List.find?_cons, List.find?_cons, h a (by simp), find_congr l fun b hb => h b (by simp [hb])]
theorem tokS_stop {x : UInt8} (h : Stop x) (h39 : x ≠ 39) (h34 : x ≠ 34) (b : List UInt8) : ∀ s : List UInt8, s ≠ [] → tokS (s ++ x :: b) = tokS s
  | [], h0 => absurd rfl h0
  | c :: r, _ => by
    have e1 := takeWhile_stop h.name b (c :: r)
    have e2 := takeWhile_stop h.digit b (c :: r)
    rw [List.cons_append] at e1 e2
    have e4 : scanSigns.find? (fun g => g.isPrefixOf (c :: (r ++ x :: b))) = scanSigns.find? (fun g => g.isPrefixOf (c :: r)) :=
      find_congr _ fun g hg => prefix_stop b g (c :: r) (h.sign g hg)
    rw [List.cons_append]
    unfold tokS
    simp only [e1, e2, e4]
    split
    · rfl
    split
    · rfl
    split
    · rename_i hc
      have e3 : qscan c (r ++ x :: b) = qscan c r := qscan_stop (by rcases hc with rfl | rfl <;> assumption) h b _ r (Nat.le_refl _)
      rw [e3]
    split
    · match r with
      | [] => simp only [List.nil_append]; rw [if_pos h.dot]
      | d :: r => rfl
    · rfl
def Tok.up (d : Nat) (t : Tok) : Tok := ⟨t.kind, t.text, t.pos + d⟩
def Tks.up (d : Nat) : Tks → Tks
  | .ok l => .ok (l.map (Tok.up d))
  | .bad e p => .bad e (p + d)
end
section
open Go
def digitsL : List UInt8 := [48, 49, 50, 51, 52, 53, 54, 55, 56, 57, 97, 66, 99, 68, 101, 70]
def dig (n : Nat) : UInt8 := digitsL.getD n 0
def escs (t : List UInt8) : List UInt8 := t.flatMap fun c => [92, 120, dig (c.toNat / 16), dig (c.toNat % 16)]
def sepL : List UInt8 := [13, 9, 37, 32, 97, 32, 39, 99, 111, 109, 109, 101, 110, 116, 10, 32]
def spelt (k : Nat) (t : List UInt8) : List UInt8 := if k = 2 then 39 :: (escs t ++ [39]) else if k = 4 then 34 :: (escs t ++ [34]) else t
theorem escs_len (t : List UInt8) : (escs t).length = 4 * t.length := by
  unfold escs
  induction t with
  | nil => rfl
  | cons c t ih => rw [List.flatMap_cons, List.length_append, ih]; simp; omega
theorem dig_hex : ∀ n, n < 16 → hexB (dig n) = true ∧ hexV (dig n) = n := by decide
theorem dig_byte (c : UInt8) : UInt8.ofNat (16 * hexV (dig (c.toNat / 16)) + hexV (dig (c.toNat % 16))) = c := by
  have h := c.toNat_lt
  rw [(dig_hex (c.toNat / 16) (by omega)).2, (dig_hex (c.toNat % 16) (by omega)).2, Nat.div_add_mod]
  exact UInt8.ofNat_toNat
theorem qscan_escs {q : UInt8} (hq : q ≠ 92) (rest : List UInt8) : ∀ t : List UInt8, qscan q (escs t ++ q :: rest) = some (t, 4 * t.length + 1)
  | [] => by rw [escs, List.flatMap_nil, List.nil_append, qscan_cons, if_pos rfl]; rfl
  | c :: t => by
    have h := c.toNat_lt
    have e : escs (c :: t) ++ q :: rest = 92 :: 120 :: dig (c.toNat / 16) :: dig (c.toNat % 16) :: (escs t ++ q :: rest) := by simp [escs]
    have h1 := (dig_hex (c.toNat / 16) (by omega)).1
    have h2 := (dig_hex (c.toNat % 16) (by omega)).1
    rw [e, qscan_cons, if_neg (Ne.symm hq), if_neg (by decide), if_pos rfl]
    simp only [show escB 120 = none by decide, if_true, h1, h2, Bool.and_self, qscan_escs hq rest t, Option.map_some, dig_byte, List.length_cons]
    rw [show 4 * t.length + 1 + 4 = 4 * (t.length + 1) + 1 by omega]
structure Told (k : Nat) (t : List UInt8) : Prop where
  what : (k = 3 ∨ k = 6) ∧ t.all namedB = true ∧ t.length ≤ 40 ∧ (∃ c r, t = c :: r ∧ (lowB c || highB c) = true ∧ (if highB c then 3 else if scanWords.contains t then 6 else 2) = k) ∨ k = 1 ∧ t.all digitB = true ∧ t ≠ [] ∧ t.length ≤ 400 ∨
    k = 2 ∧ t.length ≤ 40 ∨ k = 4 ∧ t.length ≤ 400 ∨ k = 7 ∧ t = [46] ∨ k = 5 ∧ t ∈ scanSigns
theorem takeWhile_all' {p : UInt8 → Bool} (s : List UInt8) : (s.takeWhile p).all p = true := by
  rw [List.all_eq_true]; intro x hx
  induction s with
  | nil => simp at hx
  | cons c s ih =>
    rw [List.takeWhile_cons] at hx
    split at hx
    · rcases List.mem_cons.1 hx with rfl | hx
      · assumption
      · exact ih hx
    · cases hx
theorem tokS_told {s : List UInt8} {k n : Nat} {t : List UInt8} (h : tokS s = .tok k t n) : Told k t ∧ (k ≠ 2 → k ≠ 4 → t <+: s) := by
  unfold tokS at h
  split at h
  · cases h
  rename_i c r
  split at h
  · rename_i hc
    split at h
    · cases h
    · rename_i h40
      injection h with h4 h5 h6
      subst h5
      have hn : namedB c = true := by unfold namedB; simp only [Bool.or_eq_true] at hc ⊢; exact .inl (.inl hc)
      refine ⟨⟨?_⟩, fun _ _ => List.takeWhile_prefix _⟩
      have hall := takeWhile_all' (p := namedB) (c :: r)
      have hex : ∃ c' r', (c :: r).takeWhile namedB = c' :: r' ∧ (lowB c' || highB c') = true ∧ (if highB c' then 3 else if scanWords.contains ((c :: r).takeWhile namedB) then 6 else 2) = k :=
        ⟨c, r.takeWhile namedB, by rw [List.takeWhile_cons, if_pos hn], hc, h4⟩
      by_cases hk : k = 2
      · exact .inr (.inr (.inl ⟨hk, by omega⟩))
      · refine .inl ⟨?_, hall, by omega, hex⟩
        split at h4
        · exact .inl h4.symm
        · split at h4
          · exact .inr h4.symm
          · exact absurd h4.symm hk
  split at h
  · rename_i hc
    split at h
    · cases h
    · rename_i h40
      injection h with h4 h5 h6
      subst h4 h5
      exact ⟨⟨.inr (.inl ⟨rfl, takeWhile_all' _, by rw [List.takeWhile_cons, if_pos hc]; simp, by omega⟩)⟩, fun _ _ => List.takeWhile_prefix _⟩
  split at h
  · rename_i hq
    split at h
    · cases h
    · rename_i p hp
      split at h
      · cases h
      · rename_i hm
        injection h with h4 h5 h6
        subst h5
        rcases hq with rfl | rfl
        · rw [show qKind 39 = 2 by decide] at h4
          rw [show qMost 39 = 40 by decide] at hm
          exact ⟨⟨.inr (.inr (.inl ⟨h4.symm, by omega⟩))⟩, fun h2 _ => absurd h4.symm h2⟩
        · rw [show qKind 34 = 4 by decide] at h4
          rw [show qMost 34 = 400 by decide] at hm
          exact ⟨⟨.inr (.inr (.inr (.inl ⟨h4.symm, by omega⟩)))⟩, fun _ h2 => absurd h4.symm h2⟩
  split at h
  · rename_i hd
    subst hd
    split at h
    · cases h
      exact ⟨⟨.inr (.inr (.inr (.inr (.inl ⟨rfl, rfl⟩))))⟩, fun _ _ => List.prefix_refl _⟩
    · split at h
      · cases h
        exact ⟨⟨.inr (.inr (.inr (.inr (.inl ⟨rfl, rfl⟩))))⟩, fun _ _ => ⟨_, rfl⟩⟩
      · cases h
  split at h
  · rename_i g hg
    injection h with h4 h5 h6
    subst h4 h5
    have h1 := List.mem_of_find?_eq_some hg
    have h2 := List.find?_some hg
    exact ⟨⟨.inr (.inr (.inr (.inr (.inr ⟨rfl, h1⟩))))⟩, fun _ _ => List.isPrefixOf_iff_prefix.1 h2⟩
  · cases h
theorem takeWhile_full {p : UInt8 → Bool} {x : UInt8} (h : p x = false) (b : List UInt8) (t : List UInt8) (ht : t.all p = true) : (t ++ x :: b).takeWhile p = t := by
  rw [takeWhile_stop h]
  induction t with
  | nil => rfl
  | cons c t ih =>
    simp only [List.all_cons, Bool.and_eq_true] at ht
    rw [List.takeWhile_cons, if_pos ht.1, ih ht.2]
theorem sign_again : ∀ g, g ∈ scanSigns → tokS g = .tok 5 g g.length ∧ g ≠ [] ∧ ∀ c, g.head? = some c → blankB c = false ∧ c ≠ 37 := by decide
theorem named_of_digit {c : UInt8} (h : digitB c = true) : namedB c = true := by unfold namedB; rw [h]; simp
theorem low_facts (c : UInt8) (h : (lowB c || highB c) = true) : blankB c = false ∧ c ≠ 37 ∧ namedB c = true := by
  refine ⟨?_, ?_, by unfold namedB; rw [h]; simp⟩
  · cases hb : blankB c
    · rfl
    · unfold blankB at hb
      simp only [Bool.or_eq_true, decide_eq_true_eq] at hb
      rcases hb with ((rfl | rfl) | rfl) | rfl <;> revert h <;> decide
  · rintro rfl; revert h; decide
theorem digit_facts (c : UInt8) (h : digitB c = true) : blankB c = false ∧ c ≠ 37 ∧ (lowB c || highB c) = false := by
  refine ⟨?_, ?_, ?_⟩
  · cases hb : blankB c
    · rfl
    · unfold blankB at hb
      simp only [Bool.or_eq_true, decide_eq_true_eq] at hb
      rcases hb with ((rfl | rfl) | rfl) | rfl <;> revert h <;> decide
  · rintro rfl; revert h; decide
  · unfold digitB at h
    simp only [Bool.and_eq_true, decide_eq_true_eq] at h
    unfold lowB highB
    simp only [Bool.or_eq_false_iff, Bool.and_eq_false_iff, decide_eq_false_iff_not]
    omega
theorem tokS_again {k : Nat} {t : List UInt8} (h : Told k t) (rest : List UInt8) : ∃ c r, spelt k t = c :: r ∧ blankB c = false ∧ c ≠ 37 ∧ tokS (spelt k t ++ 13 :: rest) = .tok k t (spelt k t).length := by
  rcases h.what with ⟨hk, h1, h2, c, r, rfl, hc, hkk⟩ | ⟨rfl, h1, h2, h3⟩ | ⟨rfl, h1⟩ | ⟨rfl, h1⟩ | ⟨rfl, rfl⟩ | ⟨rfl, h1⟩
  · have e : spelt k (c :: r) = c :: r := by unfold spelt; rw [if_neg (by omega), if_neg (by omega)]
    obtain ⟨f1, f2, f3⟩ := low_facts c hc
    refine ⟨c, r, e, f1, f2, ?_⟩
    rw [e, List.cons_append]
    have ew : (c :: (r ++ 13 :: rest)).takeWhile namedB = c :: r := takeWhile_full (by decide) rest (c :: r) h1
    rw [tokS_cons, if_pos hc, ew, if_neg (by omega), hkk]
  · match t, h2 with
    | c :: r, _ =>
      have hd : digitB c = true := by simp only [List.all_cons, Bool.and_eq_true] at h1; exact h1.1
      obtain ⟨f1, f2, f3⟩ := digit_facts c hd
      refine ⟨c, r, rfl, f1, f2, ?_⟩
      have ew : (c :: (r ++ 13 :: rest)).takeWhile digitB = c :: r := takeWhile_full (by decide) rest (c :: r) h1
      have en : (c :: (r ++ 13 :: rest)).takeWhile namedB = c :: r := takeWhile_full (by decide) rest (c :: r) (by
        rw [List.all_eq_true] at h1 ⊢
        exact fun x hx => named_of_digit (h1 x hx))
      show tokS (c :: r ++ 13 :: rest) = _
      rw [List.cons_append, tokS_cons, if_neg (by rw [f3]; simp), if_pos hd, ew, en, if_neg (by omega)]
      rfl
  · refine ⟨39, escs t ++ [39], rfl, by decide, by decide, ?_⟩
    have e : spelt 2 t ++ 13 :: rest = 39 :: (escs t ++ 39 :: (13 :: rest)) := by simp [spelt]
    rw [e, tokS_cons, if_neg (by decide), if_neg (by decide), if_pos (by simp), qscan_escs (by decide)]
    simp only [show qMost 39 = 40 by decide, show qKind 39 = 2 by decide]
    rw [if_neg (by omega)]
    simp [spelt, escs_len]
  · refine ⟨34, escs t ++ [34], rfl, by decide, by decide, ?_⟩
    have e : spelt 4 t ++ 13 :: rest = 34 :: (escs t ++ 34 :: (13 :: rest)) := by simp [spelt]
    rw [e, tokS_cons, if_neg (by decide), if_neg (by decide), if_pos (by simp), qscan_escs (by decide)]
    simp only [show qMost 34 = 400 by decide, show qKind 34 = 4 by decide]
    rw [if_neg (by omega)]
    simp [spelt, escs_len]
  · exact ⟨46, [], rfl, by decide, by decide, rfl⟩
  · obtain ⟨g1, g2, g3⟩ := sign_again t h1
    match t, g2 with
    | c :: r, _ =>
      obtain ⟨f1, f2⟩ := g3 c rfl
      refine ⟨c, r, rfl, f1, f2, ?_⟩
      show tokS ((c :: r) ++ 13 :: rest) = _
      rw [tokS_stop stop_cr (by decide) (by decide) rest (c :: r) (by simp), g1]
      rfl
def bareK (l : List Tok) : List (Nat × List UInt8) := l.map fun t => (t.kind, t.text)
def textOf (l : List Tok) : List UInt8 := l.flatMap fun t => spelt t.kind t.text ++ sepL
theorem lexAt_sep (pos : Nat) (rest : List UInt8) : lexAt pos (sepL ++ rest) = lexAt (pos + 16) rest := by
  have e : sepL ++ rest = 13 :: 9 :: 37 :: ([32, 97, 32, 39, 99, 111, 109, 109, 101, 110, 116] ++ 10 :: (32 :: rest)) := rfl
  have e2 : (37 :: ([32, 97, 32, 39, 99, 111, 109, 109, 101, 110, 116] ++ 10 :: (32 :: rest)) : List UInt8).takeWhile notNL = [37, 32, 97, 32, 39, 99, 111, 109, 109, 101, 110, 116] := by
    have := takeWhile_stop (p := notNL) (x := 10) (by decide) (32 :: rest) [37, 32, 97, 32, 39, 99, 111, 109, 109, 101, 110, 116]
    exact this.trans (by decide)
  rw [e, lexAt_blank (by decide), lexAt_blank (by decide), lexAt_note, e2]
  show lexAt (pos + 1 + 1 + 12) (10 :: 32 :: rest) = _
  rw [lexAt_blank (by decide), lexAt_blank (by decide)]
theorem lexAt_text : ∀ (l : List Tok), (∀ t, t ∈ l → Told t.kind t.text) → ∀ (tail : List UInt8) (pos : Nat), ∃ m, bareK m = bareK l ∧ lexAt pos (textOf l ++ tail) = (lexAt (pos + (textOf l).length) tail).pre m
  | [], _, tail, pos => ⟨[], rfl, by simp [textOf, Tks.pre_nil]⟩
  | t :: l, h, tail, pos => by
    obtain ⟨c, r, e, h1, h2, h3⟩ := tokS_again (h t (by simp)) ((9 :: 37 :: 32 :: 97 :: 32 :: 39 :: 99 :: 111 :: 109 :: 109 :: 101 :: 110 :: 116 :: 10 :: 32 :: []) ++ (textOf l ++ tail))
    obtain ⟨m, hm, hl⟩ := lexAt_text l (fun x hx => h x (by simp [hx])) tail (pos + (spelt t.kind t.text).length + 16)
    refine ⟨⟨t.kind, t.text, pos⟩ :: m, by simp only [bareK, List.map_cons] at hm ⊢; rw [hm], ?_⟩
    have e1 : textOf (t :: l) ++ tail = spelt t.kind t.text ++ (sepL ++ (textOf l ++ tail)) := by simp [textOf]
    have e2 : sepL ++ (textOf l ++ tail) = 13 :: ((9 :: 37 :: 32 :: 97 :: 32 :: 39 :: 99 :: 111 :: 109 :: 109 :: 101 :: 110 :: 116 :: 10 :: 32 :: []) ++ (textOf l ++ tail)) := rfl
    have e3 : lexAt pos (spelt t.kind t.text ++ (sepL ++ (textOf l ++ tail))) = (lexAt (pos + (spelt t.kind t.text).length) ((spelt t.kind t.text ++ (sepL ++ (textOf l ++ tail))).drop (spelt t.kind t.text).length)).pre [⟨t.kind, t.text, pos⟩] := by
      rw [← e2] at h3
      generalize (spelt t.kind t.text).length = n at *
      rw [e, List.cons_append] at h3 ⊢
      exact lexAt_tok h1 h2 h3
    rw [e1, e3, List.drop_left, lexAt_sep, hl, Tks.pre_pre]
    have e4 : pos + (textOf (t :: l)).length = pos + (spelt t.kind t.text).length + 16 + (textOf l).length := by
      simp only [textOf, List.flatMap_cons, List.length_append, show sepL.length = 16 by rfl]; omega
    rw [e4]; rfl
theorem lexAt_places : ∀ (m : Nat) (s : List UInt8), s.length ≤ m → ∀ pos l, lexAt pos s = .ok l →
    l.Pairwise (fun a b => a.pos < b.pos) ∧ ∀ t, t ∈ l → pos ≤ t.pos ∧ t.pos < pos + s.length ∧ Told t.kind t.text ∧ (t.kind ≠ 2 → t.kind ≠ 4 → t.text <+: s.drop (t.pos - pos)) := by
  intro m
  induction m with
  | zero => intro s hs pos l hl; cases s with | nil => cases hl; simp | cons c r => simp at hs
  | succ m ih =>
    intro s hs pos l hl
    match s, hs, hl with
    | [], _, hl => cases hl; simp
    | c :: r, hs, hl =>
      simp only [List.length_cons] at hs
      by_cases h1 : blankB c = true
      · rw [lexAt_blank h1] at hl
        obtain ⟨g1, g2⟩ := ih r (by omega) _ _ hl
        refine ⟨g1, fun t ht => ?_⟩
        obtain ⟨k1, k2, k3, k4⟩ := g2 t ht
        refine ⟨by omega, by simp only [List.length_cons]; omega, k3, fun q1 q2 => ?_⟩
        have := k4 q1 q2
        rw [show t.pos - pos = (t.pos - (pos + 1)) + 1 by omega, List.drop_succ_cons]; exact this
      · have h1 : blankB c = false := by simpa using h1
        have push : ∀ n, 0 < n → n ≤ (c :: r).length → ∀ (t : Tok), (pos + n ≤ t.pos ∧ t.pos < pos + n + ((c :: r).drop n).length ∧ Told t.kind t.text ∧ (t.kind ≠ 2 → t.kind ≠ 4 → t.text <+: ((c :: r).drop n).drop (t.pos - (pos + n)))) →
            (pos ≤ t.pos ∧ t.pos < pos + (c :: r).length ∧ Told t.kind t.text ∧ (t.kind ≠ 2 → t.kind ≠ 4 → t.text <+: (c :: r).drop (t.pos - pos))) := by
          rintro n hn hnl t ⟨k1, k2, k3, k4⟩
          rw [List.length_drop] at k2
          refine ⟨by omega, by omega, k3, fun q1 q2 => ?_⟩
          have := k4 q1 q2
          rw [List.drop_drop] at this
          rwa [show n + (t.pos - (pos + n)) = t.pos - pos by omega] at this
        by_cases h2 : c = 37
        · subst h2
          have h3 : 0 < (((37 : UInt8) :: r).takeWhile notNL).length := takeWhile_pos r (by decide)
          have h4 := takeWhile_len (p := notNL) ((37 : UInt8) :: r)
          rw [lexAt_note] at hl
          obtain ⟨g1, g2⟩ := ih _ (by rw [List.length_drop, List.length_cons]; omega) _ _ hl
          exact ⟨g1, fun t ht => push _ h3 h4 t (g2 t ht)⟩
        · cases hk : tokS (c :: r) with
          | err e => rw [lexAt_err h1 h2 hk] at hl; cases hl
          | tok k t n =>
            have h0 := tokS_len hk
            have hT := tokS_told hk
            rw [lexAt_tok h1 h2 hk] at hl
            cases hx : lexAt (pos + n) ((c :: r).drop n) with
            | bad e p => rw [hx] at hl; cases hl
            | ok l' =>
              rw [hx] at hl
              cases hl
              obtain ⟨g1, g2⟩ := ih _ (by rw [List.length_drop, List.length_cons]; omega) _ _ hx
              refine ⟨by
                simp only [List.cons_append, List.nil_append]
                exact List.pairwise_cons.2 ⟨fun x hx => by have := (g2 x hx).1; simp only; omega, g1⟩, fun x hx => ?_⟩
              simp only [List.cons_append, List.nil_append, List.mem_cons] at hx
              rcases hx with rfl | hx
              · exact ⟨Nat.le_refl _, by simp only [List.length_cons]; omega, hT.1, fun q1 q2 => by simpa using hT.2 q1 q2⟩
              · exact push n h0.1 h0.2.1 x (g2 x hx)
theorem tokS_err {s : List UInt8} {e : Nat} (h : tokS s = .err e) : e = 200 ∨ e = 201 := by
  unfold tokS at h
  split at h
  · cases h; simp
  split at h
  · split at h <;> cases h
    simp
  split at h
  · split at h <;> cases h
    simp
  split at h
  · split at h
    · cases h; simp
    · split at h <;> cases h
      simp
  split at h
  · split at h
    · cases h
    · split at h <;> cases h
      simp
  split at h <;> cases h
  simp
end
end Go.Proofs.YtldmniappliepaaGreatDoor
