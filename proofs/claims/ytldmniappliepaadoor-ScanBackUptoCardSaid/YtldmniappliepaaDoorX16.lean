/- What a call has made may be told as what it holds. -/
import Derived.Test.YtldmniappliepaaDoorX15
import Derived.Test.YtldmniappliepaaDoorX14
set_option linter.unusedVariables false
set_option linter.unusedSimpArgs false
set_option linter.defProp false
namespace Go.Av
open Go Go.RowKit
section
variable {P : Program} {e : Env} {σ : AS}
theorem ares_tmpc {t : Tmp} {r : ResultVar} {rs : List ResultVar} : ares P e σ (.tmp t :: r :: rs) = (ares P e σ (r :: rs)).map (e t :: ·) := by
  rw [ares]
  simp only [ares1]
  cases ares P e σ (r :: rs) <;> rfl
theorem ares_cellc {t : Tmp} {ty : TypeId} {r : ResultVar} {rs : List ResultVar} : ares P e σ (.cell t ty :: r :: rs) = (aload P σ ty (e t)).bind fun x => (ares P e σ (r :: rs)).map (x :: ·) := by
  rw [ares]
  simp only [ares1]
  cases aload P σ ty (e t) <;> cases ares P e σ (r :: rs) <;> rfl
end
theorem AS.le.noBox {σ σ' : AS} (h : σ.le σ') {b : Nat} (hb : σ'.box b = none) : σ.box b = none := by
  cases e : σ.box b with
  | none => rfl
  | some z => rw [h.box _ _ e] at hb; cases hb
theorem AS.le.noTip {σ σ' : AS} (h : σ.le σ') {b : Nat} (hb : σ'.tip b = none) : σ.tip b = none := by
  cases e : σ.tip b with
  | none => rfl
  | some z => rw [h.tip _ _ e] at hb; cases hb
end Go.Av
set_option maxRecDepth 20000
namespace Go.Proofs.YtldmniappliepaaDoor
open Go Go.Av
def tbScnE := And.intro (And.intro (And.intro @tf3 (And.intro @tf4 @tf5)) (And.intro (And.intro @tf9 @tf39) (And.intro @tf31 @tf29))) (And.intro (And.intro @tf24 (And.intro @tf46 @tf52)) (And.intro (And.intro @tf26 @tf23) (And.intro @ares_tmpc @ares_cellc)))
variable {G : Nat → AV}
def tkV : Tk → AV
  | .tok k t n => .tup [.agg [.int .u8 (k : Nat), .str t, .int .i64 0], .int .i64 (n : Nat), .int .i64 0]
  | .err e => .tup [.agg [.int .u8 0, .str [], .int .i64 0], .int .i64 0, .int .i64 (e : Nat)]
theorem low_high (c : UInt8) (h : lowB c = true) : highB c = false := by
  have h2 := u8_all (p := fun c => !lowB c || !highB c) (by decide +kernel) c
  simpa [h] using h2
theorem slice_words {g : Gh} : aslice Tryd.prog 46 (.rp (scanWords.map AV.str)) none none = some (texts scanWords) := by
  have h19 : rsk (some (19, 1)) (scanWords.map AV.str) = some (texts scanWords) := by
    show (if 19 = (scanWords.map AV.str).length ∧ 19 ≤ maxLen then some (AV.sl .none (scanWords.map AV.str) []) else none) = _
    exact if_pos ⟨rfl, by unfold maxLen; decide⟩
  have ha : arrT Tryd.prog 46 = some (19, 1) := tf46.2.2.2.2.2.2.1
  rw [aslice_rp, ha, h19]
set_option maxHeartbeats 2000000 in
theorem token_high (c : UInt8) (r : List UInt8) (hs : (c :: r).length ≤ 1000000000) (hc : highB c = true) : Pure Tryd.prog G 15 [.str (c :: r)] (tkV (tokS (c :: r))) := by
  have hwn := fun (σ0 : AS) (b : Nat) hb => while_pure G 21 namedB (snamed_pure G) (c :: r) hs σ0 b hb
  have e1 : lowB c = false := by cases h : lowB c with | false => rfl | true => rw [low_high c h] at hc; cases hc
  have q1 := slow_pure G c
  have q2 := shigh_pure G c
  rw [e1] at q1
  rw [hc] at q2
  have hx0 : (c :: r)[0]? = some c := rfl
  rw [tokS_cons, e1, hc]
  simp only [Bool.false_or, if_true]
  have hlen := takeWhile_len (p := namedB) (c :: r)
  generalize c :: r = S at *
  generalize S.takeWhile namedB = W at *
  by_cases h40 : 40 < W.length
  · have n40 : ((40 : Int) < W.length) = True := eq_true (by omega)
    rw [if_pos h40]
    intro σ
    refine Tri.of_awp mixed Tryd.func15 rfl (by kernel_rfl) (by kernel_rfl) (by simp [Tryd.ntmps15]) Tryd.results15 ?_
    simp -dsimp only [↓bp, bq, br, seval, tbScnE]
    refine newW_intro fun b1 h1 => ?_
    simp -dsimp only [↓bp, bq, br, seval, tbScnE]
    refine newT_plain fun b2 h2 => ?_
    simp only [fb] at h2
    replace hwn := hwn (σ.setBox b1 [.str S]) b1 (by simp [AS.setBox])
    clear h40 hs hlen
    repeat' (first | refine xs ?_ ?_ <;> intros | ((first | refine xh ?_ | refine xi ?_); intro bx hbx; (try simp only [fb] at hbx)) | refine Pure.use (q1) ?_ | refine Pure.head (q1) ?_ | refine Pure.use (q2) ?_ | refine Pure.head (q2) ?_ | refine PureC.use (hwn) (by repeat' first | exact lr _ | assumption | refine ls ?_ ?_ | refine lt ?_ ?_ | simp only [*]; done | simp only [fb, *, not_false_eq_true, and_self]; done | exact lf ‹_› (by simp only [*])) ?_ | refine xj ?_ | refine cv_plain ?_ | ((with_reducible refine And.intro ?_ ?_); omega) | refine bo_buildSlice (d' := ⟨⟩) ?_ | refine xk (by kernel_rfl) ?_ | refine xf ?_ (by repeat' first | exact lr _ | assumption | refine ls ?_ ?_ | refine lt ?_ ?_ | simp only [*]; done | simp only [fb, *, not_false_eq_true, and_self]; done | exact lf ‹_› (by simp only [*])) | refine finish_two ?_ (by repeat' first | exact lr _ | assumption | refine ls ?_ ?_ | refine lt ?_ ?_ | simp only [*]; done | simp only [fb, *, not_false_eq_true, and_self]; done | exact lf ‹_› (by simp only [*])) | simp -dsimp only [↓bp, bq, br, seval, tbScnE, *] | refine cv_any ?_)
    all_goals rfl
  · have n40 : ((40 : Int) < W.length) = False := eq_false (by omega)
    rw [if_neg h40]
    intro σ
    refine Tri.of_awp mixed Tryd.func15 rfl (by kernel_rfl) (by kernel_rfl) (by simp [Tryd.ntmps15]) Tryd.results15 ?_
    simp -dsimp only [↓bp, bq, br, seval, tbScnE]
    refine newW_intro fun b1 h1 => ?_
    simp -dsimp only [↓bp, bq, br, seval, tbScnE]
    refine newT_plain fun b2 h2 => ?_
    simp only [fb] at h2
    replace hwn := hwn (σ.setBox b1 [.str S]) b1 (by simp [AS.setBox])
    clear h40 hs hlen
    repeat' (first | refine xs ?_ ?_ <;> intros | ((first | refine xh ?_ | refine xi ?_); intro bx hbx; (try simp only [fb] at hbx)) | refine Pure.use (q1) ?_ | refine Pure.head (q1) ?_ | refine Pure.use (q2) ?_ | refine Pure.head (q2) ?_ | refine PureC.use (hwn) (by repeat' first | exact lr _ | assumption | refine ls ?_ ?_ | refine lt ?_ ?_ | simp only [*]; done | simp only [fb, *, not_false_eq_true, and_self]; done | exact lf ‹_› (by simp only [*])) ?_ | refine xj ?_ | refine cv_plain ?_ | ((with_reducible refine And.intro ?_ ?_); omega) | refine bo_buildSlice (d' := ⟨⟩) ?_ | refine xk (by kernel_rfl) ?_ | refine xf ?_ (by repeat' first | exact lr _ | assumption | refine ls ?_ ?_ | refine lt ?_ ?_ | simp only [*]; done | simp only [fb, *, not_false_eq_true, and_self]; done | exact lf ‹_› (by simp only [*])) | refine finish_two ?_ (by repeat' first | exact lr _ | assumption | refine ls ?_ ?_ | refine lt ?_ ?_ | simp only [*]; done | simp only [fb, *, not_false_eq_true, and_self]; done | exact lf ‹_› (by simp only [*])) | simp -dsimp only [↓bp, bq, br, seval, tbScnE, *] | refine cv_any ?_)
    all_goals rfl
set_option maxHeartbeats 2000000 in
theorem token_low (hg : GlobS G) (c : UInt8) (r : List UInt8) (hs : (c :: r).length ≤ 1000000000) (hc : lowB c = true) : Pure Tryd.prog G 15 [.str (c :: r)] (tkV (tokS (c :: r))) := by
  have hwn := fun (σ0 : AS) (b : Nat) hb => while_pure G 21 namedB (snamed_pure G) (c :: r) hs σ0 b hb
  have q1 := slow_pure G c
  have q2 := shigh_pure G c
  rw [hc] at q1
  rw [low_high c hc] at q2
  have hx0 : (c :: r)[0]? = some c := rfl
  rw [tokS_cons, low_high c hc, hc]
  simp only [Bool.true_or, if_true, Bool.false_eq_true, if_false]
  have hlen := takeWhile_len (p := namedB) (c :: r)
  generalize c :: r = S at *
  generalize S.takeWhile namedB = W at *
  have hct := contains_pure G scanWords W (by decide)
  have hgw := hg.words
  have hsl := slice_words (g := .none)
  generalize hLL : scanWords.map AV.str = LL at *
  clear hLL
  by_cases h40 : 40 < W.length
  · have n40 : ((40 : Int) < W.length) = True := eq_true (by omega)
    rw [if_pos h40]
    cases e3 : scanWords.contains W <;> rw [e3] at hct
    · intro σ
      refine Tri.of_awp mixed Tryd.func15 rfl (by kernel_rfl) (by kernel_rfl) (by simp [Tryd.ntmps15]) Tryd.results15 ?_
      simp -dsimp only [↓bp, bq, br, seval, tbScnE]
      refine newW_intro fun b1 h1 => ?_
      simp -dsimp only [↓bp, bq, br, seval, tbScnE]
      refine newT_plain fun b2 h2 => ?_
      simp only [fb] at h2
      replace hwn := hwn (σ.setBox b1 [.str S]) b1 (by simp [AS.setBox])
      clear h40 hs hlen e3 hg
      repeat' (first | refine xs ?_ ?_ <;> intros | ((first | refine xh ?_ | refine xi ?_); intro bx hbx; (try simp only [fb] at hbx)) | refine Pure.use (q1) ?_ | refine Pure.head (q1) ?_ | refine Pure.use (q2) ?_ | refine Pure.head (q2) ?_ | refine Pure.use (hct) ?_ | refine Pure.head (hct) ?_ | refine PureC.use (hwn) (by repeat' first | exact lr _ | assumption | refine ls ?_ ?_ | refine lt ?_ ?_ | simp only [*]; done | simp only [fb, *, not_false_eq_true, and_self]; done | exact lf ‹_› (by simp only [*])) ?_ | refine xj ?_ | refine cv_plain ?_ | ((with_reducible refine And.intro ?_ ?_); omega) | refine bo_buildSlice (d' := ⟨⟩) ?_ | refine xk (by kernel_rfl) ?_ | refine xf ?_ (by repeat' first | exact lr _ | assumption | refine ls ?_ ?_ | refine lt ?_ ?_ | simp only [*]; done | simp only [fb, *, not_false_eq_true, and_self]; done | exact lf ‹_› (by simp only [*])) | refine finish_two ?_ (by repeat' first | exact lr _ | assumption | refine ls ?_ ?_ | refine lt ?_ ?_ | simp only [*]; done | simp only [fb, *, not_false_eq_true, and_self]; done | exact lf ‹_› (by simp only [*])) | simp -dsimp only [↓bp, bq, br, seval, tbScnE, *] | refine cv_any ?_)
      all_goals rfl
    · intro σ
      refine Tri.of_awp mixed Tryd.func15 rfl (by kernel_rfl) (by kernel_rfl) (by simp [Tryd.ntmps15]) Tryd.results15 ?_
      simp -dsimp only [↓bp, bq, br, seval, tbScnE]
      refine newW_intro fun b1 h1 => ?_
      simp -dsimp only [↓bp, bq, br, seval, tbScnE]
      refine newT_plain fun b2 h2 => ?_
      simp only [fb] at h2
      replace hwn := hwn (σ.setBox b1 [.str S]) b1 (by simp [AS.setBox])
      clear h40 hs hlen e3 hg
      repeat' (first | refine xs ?_ ?_ <;> intros | ((first | refine xh ?_ | refine xi ?_); intro bx hbx; (try simp only [fb] at hbx)) | refine Pure.use (q1) ?_ | refine Pure.head (q1) ?_ | refine Pure.use (q2) ?_ | refine Pure.head (q2) ?_ | refine Pure.use (hct) ?_ | refine Pure.head (hct) ?_ | refine PureC.use (hwn) (by repeat' first | exact lr _ | assumption | refine ls ?_ ?_ | refine lt ?_ ?_ | simp only [*]; done | simp only [fb, *, not_false_eq_true, and_self]; done | exact lf ‹_› (by simp only [*])) ?_ | refine xj ?_ | refine cv_plain ?_ | ((with_reducible refine And.intro ?_ ?_); omega) | refine bo_buildSlice (d' := ⟨⟩) ?_ | refine xk (by kernel_rfl) ?_ | refine xf ?_ (by repeat' first | exact lr _ | assumption | refine ls ?_ ?_ | refine lt ?_ ?_ | simp only [*]; done | simp only [fb, *, not_false_eq_true, and_self]; done | exact lf ‹_› (by simp only [*])) | refine finish_two ?_ (by repeat' first | exact lr _ | assumption | refine ls ?_ ?_ | refine lt ?_ ?_ | simp only [*]; done | simp only [fb, *, not_false_eq_true, and_self]; done | exact lf ‹_› (by simp only [*])) | simp -dsimp only [↓bp, bq, br, seval, tbScnE, *] | refine cv_any ?_)
      all_goals rfl
  · have n40 : ((40 : Int) < W.length) = False := eq_false (by omega)
    rw [if_neg h40]
    cases e3 : scanWords.contains W <;> rw [e3] at hct
    · simp only [Bool.false_eq_true, if_false]
      intro σ
      refine Tri.of_awp mixed Tryd.func15 rfl (by kernel_rfl) (by kernel_rfl) (by simp [Tryd.ntmps15]) Tryd.results15 ?_
      simp -dsimp only [↓bp, bq, br, seval, tbScnE]
      refine newW_intro fun b1 h1 => ?_
      simp -dsimp only [↓bp, bq, br, seval, tbScnE]
      refine newT_plain fun b2 h2 => ?_
      simp only [fb] at h2
      replace hwn := hwn (σ.setBox b1 [.str S]) b1 (by simp [AS.setBox])
      clear h40 hs hlen e3 hg
      repeat' (first | refine xs ?_ ?_ <;> intros | ((first | refine xh ?_ | refine xi ?_); intro bx hbx; (try simp only [fb] at hbx)) | refine Pure.use (q1) ?_ | refine Pure.head (q1) ?_ | refine Pure.use (q2) ?_ | refine Pure.head (q2) ?_ | refine Pure.use (hct) ?_ | refine Pure.head (hct) ?_ | refine PureC.use (hwn) (by repeat' first | exact lr _ | assumption | refine ls ?_ ?_ | refine lt ?_ ?_ | simp only [*]; done | simp only [fb, *, not_false_eq_true, and_self]; done | exact lf ‹_› (by simp only [*])) ?_ | refine xj ?_ | refine cv_plain ?_ | ((with_reducible refine And.intro ?_ ?_); omega) | refine bo_buildSlice (d' := ⟨⟩) ?_ | refine xk (by kernel_rfl) ?_ | refine xf ?_ (by repeat' first | exact lr _ | assumption | refine ls ?_ ?_ | refine lt ?_ ?_ | simp only [*]; done | simp only [fb, *, not_false_eq_true, and_self]; done | exact lf ‹_› (by simp only [*])) | refine finish_two ?_ (by repeat' first | exact lr _ | assumption | refine ls ?_ ?_ | refine lt ?_ ?_ | simp only [*]; done | simp only [fb, *, not_false_eq_true, and_self]; done | exact lf ‹_› (by simp only [*])) | simp -dsimp only [↓bp, bq, br, seval, tbScnE, *] | refine cv_any ?_)
      all_goals rfl
    · simp only [if_true]
      intro σ
      refine Tri.of_awp mixed Tryd.func15 rfl (by kernel_rfl) (by kernel_rfl) (by simp [Tryd.ntmps15]) Tryd.results15 ?_
      simp -dsimp only [↓bp, bq, br, seval, tbScnE]
      refine newW_intro fun b1 h1 => ?_
      simp -dsimp only [↓bp, bq, br, seval, tbScnE]
      refine newT_plain fun b2 h2 => ?_
      simp only [fb] at h2
      replace hwn := hwn (σ.setBox b1 [.str S]) b1 (by simp [AS.setBox])
      clear h40 hs hlen e3 hg
      repeat' (first | refine xs ?_ ?_ <;> intros | ((first | refine xh ?_ | refine xi ?_); intro bx hbx; (try simp only [fb] at hbx)) | refine Pure.use (q1) ?_ | refine Pure.head (q1) ?_ | refine Pure.use (q2) ?_ | refine Pure.head (q2) ?_ | refine Pure.use (hct) ?_ | refine Pure.head (hct) ?_ | refine PureC.use (hwn) (by repeat' first | exact lr _ | assumption | refine ls ?_ ?_ | refine lt ?_ ?_ | simp only [*]; done | simp only [fb, *, not_false_eq_true, and_self]; done | exact lf ‹_› (by simp only [*])) ?_ | refine xj ?_ | refine cv_plain ?_ | ((with_reducible refine And.intro ?_ ?_); omega) | refine bo_buildSlice (d' := ⟨⟩) ?_ | refine xk (by kernel_rfl) ?_ | refine xf ?_ (by repeat' first | exact lr _ | assumption | refine ls ?_ ?_ | refine lt ?_ ?_ | simp only [*]; done | simp only [fb, *, not_false_eq_true, and_self]; done | exact lf ‹_› (by simp only [*])) | refine finish_two ?_ (by repeat' first | exact lr _ | assumption | refine ls ?_ ?_ | refine lt ?_ ?_ | simp only [*]; done | simp only [fb, *, not_false_eq_true, and_self]; done | exact lf ‹_› (by simp only [*])) | simp -dsimp only [↓bp, bq, br, seval, tbScnE, *] | refine cv_any ?_)
      all_goals rfl
set_option maxHeartbeats 2000000 in
theorem token_digit (c : UInt8) (r : List UInt8) (hs : (c :: r).length ≤ 1000000000) (h0 : (lowB c || highB c) = false) (hc : digitB c = true) : Pure Tryd.prog G 15 [.str (c :: r)] (tkV (tokS (c :: r))) := by
  have hwn := fun (σ0 : AS) (b : Nat) hb => while_pure G 21 namedB (snamed_pure G) (c :: r) hs σ0 b hb
  have hwd := fun (σ0 : AS) (b : Nat) hb => while_pure G 23 digitB (sdigit_pure G) (c :: r) hs σ0 b hb
  have q1 := slow_pure G c
  have q2 := shigh_pure G c
  have q3 := sdigit_pure G c
  simp only [Bool.or_eq_false_iff] at h0
  rw [h0.1] at q1
  rw [h0.2] at q2
  rw [hc] at q3
  have hx0 : (c :: r)[0]? = some c := rfl
  rw [tokS_cons, h0.1, h0.2, hc]
  simp only [Bool.or_self, Bool.false_eq_true, if_false, if_true]
  have hlen := takeWhile_len (p := namedB) (c :: r)
  have hlen2 := takeWhile_len (p := digitB) (c :: r)
  generalize c :: r = S at *
  generalize S.takeWhile namedB = W at *
  generalize S.takeWhile digitB = D at *
  by_cases h4 : 400 < D.length
  · have n4 : ((400 : Int) < D.length) = True := eq_true (by omega)
    rw [if_pos (.inl h4)]
    intro σ
    refine Tri.of_awp mixed Tryd.func15 rfl (by kernel_rfl) (by kernel_rfl) (by simp [Tryd.ntmps15]) Tryd.results15 ?_
    simp -dsimp only [↓bp, bq, br, seval, tbScnE]
    refine newW_intro fun b1 h1 => ?_
    simp -dsimp only [↓bp, bq, br, seval, tbScnE]
    refine newT_plain fun b2 h2 => ?_
    simp only [fb] at h2
    replace hwn := hwn (σ.setBox b1 [.str S]) b1 (by simp [AS.setBox])
    replace hwd := hwd (σ.setBox b1 [.str S]) b1 (by simp [AS.setBox])
    clear h4 hs hlen hlen2 h0
    repeat' (first | refine xs ?_ ?_ <;> intros | ((first | refine xh ?_ | refine xi ?_); intro bx hbx; (try simp only [fb] at hbx)) | refine Pure.use (q1) ?_ | refine Pure.head (q1) ?_ | refine Pure.use (q2) ?_ | refine Pure.head (q2) ?_ | refine Pure.use (q3) ?_ | refine Pure.head (q3) ?_ | refine PureC.use (hwd) (by repeat' first | exact lr _ | assumption | refine ls ?_ ?_ | refine lt ?_ ?_ | simp only [*]; done | simp only [fb, *, not_false_eq_true, and_self]; done | exact lf ‹_› (by simp only [*])) ?_ | refine PureC.use (hwn) (by repeat' first | exact lr _ | assumption | refine ls ?_ ?_ | refine lt ?_ ?_ | simp only [*]; done | simp only [fb, *, not_false_eq_true, and_self]; done | exact lf ‹_› (by simp only [*])) ?_ | refine xj ?_ | refine cv_plain ?_ | ((with_reducible refine And.intro ?_ ?_); omega) | refine bo_buildSlice (d' := ⟨⟩) ?_ | refine xk (by kernel_rfl) ?_ | refine xf ?_ (by repeat' first | exact lr _ | assumption | refine ls ?_ ?_ | refine lt ?_ ?_ | simp only [*]; done | simp only [fb, *, not_false_eq_true, and_self]; done | exact lf ‹_› (by simp only [*])) | refine finish_two ?_ (by repeat' first | exact lr _ | assumption | refine ls ?_ ?_ | refine lt ?_ ?_ | simp only [*]; done | simp only [fb, *, not_false_eq_true, and_self]; done | exact lf ‹_› (by simp only [*])) | simp -dsimp only [↓bp, bq, br, seval, tbScnE, *] | refine cv_any ?_)
    all_goals rfl
  · have n4 : ((400 : Int) < D.length) = False := eq_false (by omega)
    by_cases h5 : D.length < W.length
    · have n5 : ((D.length : Int) < W.length) = True := eq_true (by omega)
      rw [if_pos (.inr h5)]
      intro σ
      refine Tri.of_awp mixed Tryd.func15 rfl (by kernel_rfl) (by kernel_rfl) (by simp [Tryd.ntmps15]) Tryd.results15 ?_
      simp -dsimp only [↓bp, bq, br, seval, tbScnE]
      refine newW_intro fun b1 h1 => ?_
      simp -dsimp only [↓bp, bq, br, seval, tbScnE]
      refine newT_plain fun b2 h2 => ?_
      simp only [fb] at h2
      replace hwn := hwn (σ.setBox b1 [.str S]) b1 (by simp [AS.setBox])
      replace hwd := hwd (σ.setBox b1 [.str S]) b1 (by simp [AS.setBox])
      clear h4 h5 hs hlen hlen2 h0
      repeat' (first | refine xs ?_ ?_ <;> intros | ((first | refine xh ?_ | refine xi ?_); intro bx hbx; (try simp only [fb] at hbx)) | refine Pure.use (q1) ?_ | refine Pure.head (q1) ?_ | refine Pure.use (q2) ?_ | refine Pure.head (q2) ?_ | refine Pure.use (q3) ?_ | refine Pure.head (q3) ?_ | refine PureC.use (hwd) (by repeat' first | exact lr _ | assumption | refine ls ?_ ?_ | refine lt ?_ ?_ | simp only [*]; done | simp only [fb, *, not_false_eq_true, and_self]; done | exact lf ‹_› (by simp only [*])) ?_ | refine PureC.use (hwn) (by repeat' first | exact lr _ | assumption | refine ls ?_ ?_ | refine lt ?_ ?_ | simp only [*]; done | simp only [fb, *, not_false_eq_true, and_self]; done | exact lf ‹_› (by simp only [*])) ?_ | refine xj ?_ | refine cv_plain ?_ | ((with_reducible refine And.intro ?_ ?_); omega) | refine bo_buildSlice (d' := ⟨⟩) ?_ | refine xk (by kernel_rfl) ?_ | refine xf ?_ (by repeat' first | exact lr _ | assumption | refine ls ?_ ?_ | refine lt ?_ ?_ | simp only [*]; done | simp only [fb, *, not_false_eq_true, and_self]; done | exact lf ‹_› (by simp only [*])) | refine finish_two ?_ (by repeat' first | exact lr _ | assumption | refine ls ?_ ?_ | refine lt ?_ ?_ | simp only [*]; done | simp only [fb, *, not_false_eq_true, and_self]; done | exact lf ‹_› (by simp only [*])) | simp -dsimp only [↓bp, bq, br, seval, tbScnE, *] | refine cv_any ?_)
      all_goals rfl
    · have n5 : ((D.length : Int) < W.length) = False := eq_false (by omega)
      rw [if_neg (by omega)]
      intro σ
      refine Tri.of_awp mixed Tryd.func15 rfl (by kernel_rfl) (by kernel_rfl) (by simp [Tryd.ntmps15]) Tryd.results15 ?_
      simp -dsimp only [↓bp, bq, br, seval, tbScnE]
      refine newW_intro fun b1 h1 => ?_
      simp -dsimp only [↓bp, bq, br, seval, tbScnE]
      refine newT_plain fun b2 h2 => ?_
      simp only [fb] at h2
      replace hwn := hwn (σ.setBox b1 [.str S]) b1 (by simp [AS.setBox])
      replace hwd := hwd (σ.setBox b1 [.str S]) b1 (by simp [AS.setBox])
      clear h4 h5 hs hlen hlen2 h0
      repeat' (first | refine xs ?_ ?_ <;> intros | ((first | refine xh ?_ | refine xi ?_); intro bx hbx; (try simp only [fb] at hbx)) | refine Pure.use (q1) ?_ | refine Pure.head (q1) ?_ | refine Pure.use (q2) ?_ | refine Pure.head (q2) ?_ | refine Pure.use (q3) ?_ | refine Pure.head (q3) ?_ | refine PureC.use (hwd) (by repeat' first | exact lr _ | assumption | refine ls ?_ ?_ | refine lt ?_ ?_ | simp only [*]; done | simp only [fb, *, not_false_eq_true, and_self]; done | exact lf ‹_› (by simp only [*])) ?_ | refine PureC.use (hwn) (by repeat' first | exact lr _ | assumption | refine ls ?_ ?_ | refine lt ?_ ?_ | simp only [*]; done | simp only [fb, *, not_false_eq_true, and_self]; done | exact lf ‹_› (by simp only [*])) ?_ | refine xj ?_ | refine cv_plain ?_ | ((with_reducible refine And.intro ?_ ?_); omega) | refine bo_buildSlice (d' := ⟨⟩) ?_ | refine xk (by kernel_rfl) ?_ | refine xf ?_ (by repeat' first | exact lr _ | assumption | refine ls ?_ ?_ | refine lt ?_ ?_ | simp only [*]; done | simp only [fb, *, not_false_eq_true, and_self]; done | exact lf ‹_› (by simp only [*])) | refine finish_two ?_ (by repeat' first | exact lr _ | assumption | refine ls ?_ ?_ | refine lt ?_ ?_ | simp only [*]; done | simp only [fb, *, not_false_eq_true, and_self]; done | exact lf ‹_› (by simp only [*])) | simp -dsimp only [↓bp, bq, br, seval, tbScnE, *] | refine cv_any ?_)
      all_goals rfl
end Go.Proofs.YtldmniappliepaaDoor
set_option maxRecDepth 20000
namespace Go.Proofs.YtldmniappliepaaDoor
open Go Go.Av
def tbScnF := And.intro (And.intro (And.intro @tf3 (And.intro @tf4 @tf5)) (And.intro (And.intro @tf9 @tf39) (And.intro @tf31 @tf29))) (And.intro (And.intro @tf24 (And.intro @tf46 @tf52)) (And.intro (And.intro @tf26 @tf23) (And.intro @ares_tmpc @ares_cellc)))
variable {G : Nat → AV}
set_option maxHeartbeats 2000000 in
theorem token_quote (c : UInt8) (r : List UInt8) (hs : (c :: r).length ≤ 1000000) (h0 : (lowB c || highB c) = false) (h3 : digitB c = false) (hc : c = 39 ∨ c = 34) : Pure Tryd.prog G 15 [.str (c :: r)] (tkV (tokS (c :: r))) := by
  have hqp := quoted_pure G c r hc (by simp only [List.length_cons] at hs; omega)
  have q1 := slow_pure G c
  have q2 := shigh_pure G c
  have q3 := sdigit_pure G c
  simp only [Bool.or_eq_false_iff] at h0
  rw [h0.1] at q1
  rw [h0.2] at q2
  rw [h3] at q3
  have hx0 : (c :: r)[0]? = some c := rfl
  rw [tokS_cons, h0.1, h0.2, h3]
  simp only [Bool.or_self, Bool.false_eq_true, if_false, if_true]
  rw [if_pos hc]
  have hk : (c.toNat : Int) = 39 ∧ ((c.toNat : Int) = 34) = False ∧ qMost c = 40 ∧ qKind c = 2 ∨ (c.toNat : Int) = 34 ∧ ((c.toNat : Int) = 39) = False ∧ qMost c = 400 ∧ qKind c = 4 := by
    rcases hc with rfl | rfl
    · exact .inl ⟨by decide, by decide, by decide, by decide⟩
    · exact .inr ⟨by decide, by decide, by decide, by decide⟩
  clear hc
  cases ho : qscan c r with
  | none =>
    rw [ho] at hqp
    simp only [qText, qNum] at hqp
    generalize c :: r = S at *
    clear hs h0 h3
    rcases hk with ⟨k1, k2, k3, k4⟩ | ⟨k1, k2, k3, k4⟩
    · replace k1 := eq_true k1
      clear k3 k4 ho
      intro σ
      refine Tri.of_awp mixed Tryd.func15 rfl (by kernel_rfl) (by kernel_rfl) (by simp [Tryd.ntmps15]) Tryd.results15 ?_
      simp -dsimp only [↓bp, bq, br, seval, tbScnF]
      refine newW_intro fun b1 h1 => ?_
      simp -dsimp only [↓bp, bq, br, seval, tbScnF]
      refine newT_plain fun b2 h2 => ?_
      simp only [fb] at h2
      repeat' (first | refine xs ?_ ?_ <;> intros | ((first | refine xh ?_ | refine xi ?_); intro bx hbx; (try simp only [fb] at hbx)) | refine Pure.use (q1) ?_ | refine Pure.head (q1) ?_ | refine Pure.use (q2) ?_ | refine Pure.head (q2) ?_ | refine Pure.use (q3) ?_ | refine Pure.head (q3) ?_ | refine Pure.use (hqp) ?_ | refine Pure.head (hqp) ?_ | refine xj ?_ | refine cv_plain ?_ | ((with_reducible refine And.intro ?_ ?_); omega) | refine bo_buildSlice (d' := ⟨⟩) ?_ | refine xk (by kernel_rfl) ?_ | refine xf ?_ (by repeat' first | exact lr _ | assumption | refine ls ?_ ?_ | refine lt ?_ ?_ | simp only [*]; done | simp only [fb, *, not_false_eq_true, and_self]; done | exact lf ‹_› (by simp only [*])) | refine finish_two ?_ (by repeat' first | exact lr _ | assumption | refine ls ?_ ?_ | refine lt ?_ ?_ | simp only [*]; done | simp only [fb, *, not_false_eq_true, and_self]; done | exact lf ‹_› (by simp only [*])) | simp -dsimp only [↓bp, bq, br, seval, tbScnF, *] | refine cv_any ?_)
      all_goals rfl
    · replace k1 := eq_true k1
      clear k3 k4 ho
      intro σ
      refine Tri.of_awp mixed Tryd.func15 rfl (by kernel_rfl) (by kernel_rfl) (by simp [Tryd.ntmps15]) Tryd.results15 ?_
      simp -dsimp only [↓bp, bq, br, seval, tbScnF]
      refine newW_intro fun b1 h1 => ?_
      simp -dsimp only [↓bp, bq, br, seval, tbScnF]
      refine newT_plain fun b2 h2 => ?_
      simp only [fb] at h2
      repeat' (first | refine xs ?_ ?_ <;> intros | ((first | refine xh ?_ | refine xi ?_); intro bx hbx; (try simp only [fb] at hbx)) | refine Pure.use (q1) ?_ | refine Pure.head (q1) ?_ | refine Pure.use (q2) ?_ | refine Pure.head (q2) ?_ | refine Pure.use (q3) ?_ | refine Pure.head (q3) ?_ | refine Pure.use (hqp) ?_ | refine Pure.head (hqp) ?_ | refine xj ?_ | refine cv_plain ?_ | ((with_reducible refine And.intro ?_ ?_); omega) | refine bo_buildSlice (d' := ⟨⟩) ?_ | refine xk (by kernel_rfl) ?_ | refine xf ?_ (by repeat' first | exact lr _ | assumption | refine ls ?_ ?_ | refine lt ?_ ?_ | simp only [*]; done | simp only [fb, *, not_false_eq_true, and_self]; done | exact lf ‹_› (by simp only [*])) | refine finish_two ?_ (by repeat' first | exact lr _ | assumption | refine ls ?_ ?_ | refine lt ?_ ?_ | simp only [*]; done | simp only [fb, *, not_false_eq_true, and_self]; done | exact lf ‹_› (by simp only [*])) | simp -dsimp only [↓bp, bq, br, seval, tbScnF, *] | refine cv_any ?_)
      all_goals rfl
  | some p =>
    rw [ho] at hqp
    simp only [qText, qNum] at hqp
    have hn0 : (((p.2 + 1 : Nat) : Int) = 0) = False := eq_false (by omega)
    have hml := qscan_len c r.length r (Nat.le_refl _) p ho
    obtain ⟨T, n⟩ := p
    simp only at hqp hn0 ⊢
    generalize n + 1 = m at *
    generalize c :: r = S at *
    clear hs h0 h3 ho hml
    rcases hk with ⟨k1, k2, k3, k4⟩ | ⟨k1, k2, k3, k4⟩
    · replace k1 := eq_true k1
      rw [k3, k4]
      clear k3 k4
      by_cases hT : 40 < T.length
      · have hT' : ((40 : Int) < T.length) = True := eq_true (by omega)
        rw [if_pos hT]
        clear hT
        intro σ
        refine Tri.of_awp mixed Tryd.func15 rfl (by kernel_rfl) (by kernel_rfl) (by simp [Tryd.ntmps15]) Tryd.results15 ?_
        simp -dsimp only [↓bp, bq, br, seval, tbScnF]
        refine newW_intro fun b1 h1 => ?_
        simp -dsimp only [↓bp, bq, br, seval, tbScnF]
        refine newT_plain fun b2 h2 => ?_
        simp only [fb] at h2
        repeat' (first | refine xs ?_ ?_ <;> intros | ((first | refine xh ?_ | refine xi ?_); intro bx hbx; (try simp only [fb] at hbx)) | refine Pure.use (q1) ?_ | refine Pure.head (q1) ?_ | refine Pure.use (q2) ?_ | refine Pure.head (q2) ?_ | refine Pure.use (q3) ?_ | refine Pure.head (q3) ?_ | refine Pure.use (hqp) ?_ | refine Pure.head (hqp) ?_ | refine xj ?_ | refine cv_plain ?_ | ((with_reducible refine And.intro ?_ ?_); omega) | refine bo_buildSlice (d' := ⟨⟩) ?_ | refine xk (by kernel_rfl) ?_ | refine xf ?_ (by repeat' first | exact lr _ | assumption | refine ls ?_ ?_ | refine lt ?_ ?_ | simp only [*]; done | simp only [fb, *, not_false_eq_true, and_self]; done | exact lf ‹_› (by simp only [*])) | refine finish_two ?_ (by repeat' first | exact lr _ | assumption | refine ls ?_ ?_ | refine lt ?_ ?_ | simp only [*]; done | simp only [fb, *, not_false_eq_true, and_self]; done | exact lf ‹_› (by simp only [*])) | simp -dsimp only [↓bp, bq, br, seval, tbScnF, *] | refine cv_any ?_)
        all_goals rfl
      · have hT' : ((40 : Int) < T.length) = False := eq_false (by omega)
        rw [if_neg hT]
        clear hT
        intro σ
        refine Tri.of_awp mixed Tryd.func15 rfl (by kernel_rfl) (by kernel_rfl) (by simp [Tryd.ntmps15]) Tryd.results15 ?_
        simp -dsimp only [↓bp, bq, br, seval, tbScnF]
        refine newW_intro fun b1 h1 => ?_
        simp -dsimp only [↓bp, bq, br, seval, tbScnF]
        refine newT_plain fun b2 h2 => ?_
        simp only [fb] at h2
        repeat' (first | refine xs ?_ ?_ <;> intros | ((first | refine xh ?_ | refine xi ?_); intro bx hbx; (try simp only [fb] at hbx)) | refine Pure.use (q1) ?_ | refine Pure.head (q1) ?_ | refine Pure.use (q2) ?_ | refine Pure.head (q2) ?_ | refine Pure.use (q3) ?_ | refine Pure.head (q3) ?_ | refine Pure.use (hqp) ?_ | refine Pure.head (hqp) ?_ | refine xj ?_ | refine cv_plain ?_ | ((with_reducible refine And.intro ?_ ?_); omega) | refine bo_buildSlice (d' := ⟨⟩) ?_ | refine xk (by kernel_rfl) ?_ | refine xf ?_ (by repeat' first | exact lr _ | assumption | refine ls ?_ ?_ | refine lt ?_ ?_ | simp only [*]; done | simp only [fb, *, not_false_eq_true, and_self]; done | exact lf ‹_› (by simp only [*])) | refine finish_two ?_ (by repeat' first | exact lr _ | assumption | refine ls ?_ ?_ | refine lt ?_ ?_ | simp only [*]; done | simp only [fb, *, not_false_eq_true, and_self]; done | exact lf ‹_› (by simp only [*])) | simp -dsimp only [↓bp, bq, br, seval, tbScnF, *] | refine cv_any ?_)
        all_goals rfl
    · replace k1 := eq_true k1
      rw [k3, k4]
      clear k3 k4
      by_cases hT : 400 < T.length
      · have hT' : ((400 : Int) < T.length) = True := eq_true (by omega)
        rw [if_pos hT]
        clear hT
        intro σ
        refine Tri.of_awp mixed Tryd.func15 rfl (by kernel_rfl) (by kernel_rfl) (by simp [Tryd.ntmps15]) Tryd.results15 ?_
        simp -dsimp only [↓bp, bq, br, seval, tbScnF]
        refine newW_intro fun b1 h1 => ?_
        simp -dsimp only [↓bp, bq, br, seval, tbScnF]
        refine newT_plain fun b2 h2 => ?_
        simp only [fb] at h2
        repeat' (first | refine xs ?_ ?_ <;> intros | ((first | refine xh ?_ | refine xi ?_); intro bx hbx; (try simp only [fb] at hbx)) | refine Pure.use (q1) ?_ | refine Pure.head (q1) ?_ | refine Pure.use (q2) ?_ | refine Pure.head (q2) ?_ | refine Pure.use (q3) ?_ | refine Pure.head (q3) ?_ | refine Pure.use (hqp) ?_ | refine Pure.head (hqp) ?_ | refine xj ?_ | refine cv_plain ?_ | ((with_reducible refine And.intro ?_ ?_); omega) | refine bo_buildSlice (d' := ⟨⟩) ?_ | refine xk (by kernel_rfl) ?_ | refine xf ?_ (by repeat' first | exact lr _ | assumption | refine ls ?_ ?_ | refine lt ?_ ?_ | simp only [*]; done | simp only [fb, *, not_false_eq_true, and_self]; done | exact lf ‹_› (by simp only [*])) | refine finish_two ?_ (by repeat' first | exact lr _ | assumption | refine ls ?_ ?_ | refine lt ?_ ?_ | simp only [*]; done | simp only [fb, *, not_false_eq_true, and_self]; done | exact lf ‹_› (by simp only [*])) | simp -dsimp only [↓bp, bq, br, seval, tbScnF, *] | refine cv_any ?_)
        all_goals rfl
      · have hT' : ((400 : Int) < T.length) = False := eq_false (by omega)
        rw [if_neg hT]
        clear hT
        intro σ
        refine Tri.of_awp mixed Tryd.func15 rfl (by kernel_rfl) (by kernel_rfl) (by simp [Tryd.ntmps15]) Tryd.results15 ?_
        simp -dsimp only [↓bp, bq, br, seval, tbScnF]
        refine newW_intro fun b1 h1 => ?_
        simp -dsimp only [↓bp, bq, br, seval, tbScnF]
        refine newT_plain fun b2 h2 => ?_
        simp only [fb] at h2
        repeat' (first | refine xs ?_ ?_ <;> intros | ((first | refine xh ?_ | refine xi ?_); intro bx hbx; (try simp only [fb] at hbx)) | refine Pure.use (q1) ?_ | refine Pure.head (q1) ?_ | refine Pure.use (q2) ?_ | refine Pure.head (q2) ?_ | refine Pure.use (q3) ?_ | refine Pure.head (q3) ?_ | refine Pure.use (hqp) ?_ | refine Pure.head (hqp) ?_ | refine xj ?_ | refine cv_plain ?_ | ((with_reducible refine And.intro ?_ ?_); omega) | refine bo_buildSlice (d' := ⟨⟩) ?_ | refine xk (by kernel_rfl) ?_ | refine xf ?_ (by repeat' first | exact lr _ | assumption | refine ls ?_ ?_ | refine lt ?_ ?_ | simp only [*]; done | simp only [fb, *, not_false_eq_true, and_self]; done | exact lf ‹_› (by simp only [*])) | refine finish_two ?_ (by repeat' first | exact lr _ | assumption | refine ls ?_ ?_ | refine lt ?_ ?_ | simp only [*]; done | simp only [fb, *, not_false_eq_true, and_self]; done | exact lf ‹_› (by simp only [*])) | simp -dsimp only [↓bp, bq, br, seval, tbScnF, *] | refine cv_any ?_)
        all_goals rfl
theorem contains_blank (d : UInt8) : Lib.contains [32, 9, 13, 10, 37] [d] = decide (d = 32 ∨ d = 9 ∨ d = 13 ∨ d = 10 ∨ d = 37) := by
  have h2 := u8_all (p := fun d => Lib.contains [32, 9, 13, 10, 37] [d] == decide (d = 32 ∨ d = 9 ∨ d = 13 ∨ d = 10 ∨ d = 37)) (by decide +kernel) d
  simpa using h2
set_option maxHeartbeats 2000000 in
theorem token_dot (hg : GlobS G) (c : UInt8) (r : List UInt8) (hs : (c :: r).length ≤ 1000000) (h0 : (lowB c || highB c) = false) (h3 : digitB c = false) (hc : ¬ (c = 39 ∨ c = 34)) (h46 : c = 46) : Pure Tryd.prog G 15 [.str (c :: r)] (tkV (tokS (c :: r))) := by
  have n39 : ((c.toNat : Int) = 39) = False := eq_false fun h => hc (.inl (UInt8.toNat_inj.1 (show c.toNat = (39 : UInt8).toNat by rw [show (39 : UInt8).toNat = 39 from rfl]; omega)))
  have n34 : ((c.toNat : Int) = 34) = False := eq_false fun h => hc (.inr (UInt8.toNat_inj.1 (show c.toNat = (34 : UInt8).toNat by rw [show (34 : UInt8).toNat = 34 from rfl]; omega)))
  have q1 := slow_pure G c
  have q2 := shigh_pure G c
  have q3 := sdigit_pure G c
  simp only [Bool.or_eq_false_iff] at h0
  rw [h0.1] at q1
  rw [h0.2] at q2
  rw [h3] at q3
  have hx0 : (c :: r)[0]? = some c := rfl
  rw [tokS_cons, h0.1, h0.2, h3]
  simp only [Bool.or_self, Bool.false_eq_true, if_false, if_true]
  rw [if_neg hc, if_pos h46]
  have n46 : ((c.toNat : Int) = 46) = True := eq_true (by rw [h46]; rfl)
  match r with
  | [] =>
    clear hc h0 h3 hs h46
    intro σ
    refine Tri.of_awp mixed Tryd.func15 rfl (by kernel_rfl) (by kernel_rfl) (by simp [Tryd.ntmps15]) Tryd.results15 ?_
    simp -dsimp only [↓bp, bq, br, seval, tbScnF]
    refine newW_intro fun b1 h1 => ?_
    simp -dsimp only [↓bp, bq, br, seval, tbScnF]
    refine newT_plain fun b2 h2 => ?_
    simp only [fb] at h2
    repeat' (first | refine xs ?_ ?_ <;> intros | ((first | refine xh ?_ | refine xi ?_); intro bx hbx; (try simp only [fb] at hbx)) | refine Pure.use (q1) ?_ | refine Pure.head (q1) ?_ | refine Pure.use (q2) ?_ | refine Pure.head (q2) ?_ | refine Pure.use (q3) ?_ | refine Pure.head (q3) ?_ | refine xj ?_ | refine cv_plain ?_ | ((with_reducible refine And.intro ?_ ?_); omega) | refine bo_buildSlice (d' := ⟨⟩) ?_ | refine xk (by kernel_rfl) ?_ | refine xf ?_ (by repeat' first | exact lr _ | assumption | refine ls ?_ ?_ | refine lt ?_ ?_ | simp only [*]; done | simp only [fb, *, not_false_eq_true, and_self]; done | exact lf ‹_› (by simp only [*])) | refine finish_two ?_ (by repeat' first | exact lr _ | assumption | refine ls ?_ ?_ | refine lt ?_ ?_ | simp only [*]; done | simp only [fb, *, not_false_eq_true, and_self]; done | exact lf ‹_› (by simp only [*])) | simp -dsimp only [↓bp, bq, br, seval, tbScnF, *] | refine cv_any ?_)
    all_goals rfl
  | d :: r =>
    have hct := scontains_pure hg [32, 9, 13, 10, 37] [d] (by decide)
    rw [contains_blank] at hct
    have hsl : ((c :: d :: r).take 2).drop 1 = [d] := rfl
    have hl1 : (((c :: d :: r).length : Int) = 1) = False := eq_false (by simp only [List.length_cons]; omega)
    have hl2 : (2 ≤ (c :: d :: r).length) = True := eq_true (by simp only [List.length_cons]; omega)
    simp only
    generalize c :: d :: r = S at *
    clear hc h0 h3 hs h46
    by_cases hd : d = 32 ∨ d = 9 ∨ d = 13 ∨ d = 10 ∨ d = 37
    · rw [if_pos hd]
      rw [decide_eq_true hd] at hct
      clear hd
      intro σ
      refine Tri.of_awp mixed Tryd.func15 rfl (by kernel_rfl) (by kernel_rfl) (by simp [Tryd.ntmps15]) Tryd.results15 ?_
      simp -dsimp only [↓bp, bq, br, seval, tbScnF]
      refine newW_intro fun b1 h1 => ?_
      simp -dsimp only [↓bp, bq, br, seval, tbScnF]
      refine newT_plain fun b2 h2 => ?_
      simp only [fb] at h2
      repeat' (first | refine xs ?_ ?_ <;> intros | ((first | refine xh ?_ | refine xi ?_); intro bx hbx; (try simp only [fb] at hbx)) | refine Pure.use (q1) ?_ | refine Pure.head (q1) ?_ | refine Pure.use (q2) ?_ | refine Pure.head (q2) ?_ | refine Pure.use (q3) ?_ | refine Pure.head (q3) ?_ | refine Pure.use (hct) ?_ | refine Pure.head (hct) ?_ | refine xj ?_ | refine cv_plain ?_ | ((with_reducible refine And.intro ?_ ?_); omega) | refine bo_buildSlice (d' := ⟨⟩) ?_ | refine xk (by kernel_rfl) ?_ | refine xf ?_ (by repeat' first | exact lr _ | assumption | refine ls ?_ ?_ | refine lt ?_ ?_ | simp only [*]; done | simp only [fb, *, not_false_eq_true, and_self]; done | exact lf ‹_› (by simp only [*])) | refine finish_two ?_ (by repeat' first | exact lr _ | assumption | refine ls ?_ ?_ | refine lt ?_ ?_ | simp only [*]; done | simp only [fb, *, not_false_eq_true, and_self]; done | exact lf ‹_› (by simp only [*])) | simp -dsimp only [↓bp, bq, br, seval, tbScnF, *] | refine cv_any ?_)
      all_goals rfl
    · rw [if_neg hd]
      rw [decide_eq_false hd] at hct
      clear hd
      intro σ
      refine Tri.of_awp mixed Tryd.func15 rfl (by kernel_rfl) (by kernel_rfl) (by simp [Tryd.ntmps15]) Tryd.results15 ?_
      simp -dsimp only [↓bp, bq, br, seval, tbScnF]
      refine newW_intro fun b1 h1 => ?_
      simp -dsimp only [↓bp, bq, br, seval, tbScnF]
      refine newT_plain fun b2 h2 => ?_
      simp only [fb] at h2
      repeat' (first | refine xs ?_ ?_ <;> intros | ((first | refine xh ?_ | refine xi ?_); intro bx hbx; (try simp only [fb] at hbx)) | refine Pure.use (q1) ?_ | refine Pure.head (q1) ?_ | refine Pure.use (q2) ?_ | refine Pure.head (q2) ?_ | refine Pure.use (q3) ?_ | refine Pure.head (q3) ?_ | refine Pure.use (hct) ?_ | refine Pure.head (hct) ?_ | refine xj ?_ | refine cv_plain ?_ | ((with_reducible refine And.intro ?_ ?_); omega) | refine bo_buildSlice (d' := ⟨⟩) ?_ | refine xk (by kernel_rfl) ?_ | refine xf ?_ (by repeat' first | exact lr _ | assumption | refine ls ?_ ?_ | refine lt ?_ ?_ | simp only [*]; done | simp only [fb, *, not_false_eq_true, and_self]; done | exact lf ‹_› (by simp only [*])) | refine finish_two ?_ (by repeat' first | exact lr _ | assumption | refine ls ?_ ?_ | refine lt ?_ ?_ | simp only [*]; done | simp only [fb, *, not_false_eq_true, and_self]; done | exact lf ‹_› (by simp only [*])) | simp -dsimp only [↓bp, bq, br, seval, tbScnF, *] | refine cv_any ?_)
      all_goals rfl
set_option maxHeartbeats 2000000 in
theorem token_sign (hg : GlobS G) (c : UInt8) (r : List UInt8) (hs : (c :: r).length ≤ 1000000) (h0 : (lowB c || highB c) = false) (h3 : digitB c = false) (hc : ¬ (c = 39 ∨ c = 34)) (h46 : ¬ c = 46) : Pure Tryd.prog G 15 [.str (c :: r)] (tkV (tokS (c :: r))) := by
  have n39 : ((c.toNat : Int) = 39) = False := eq_false fun h => hc (.inl (UInt8.toNat_inj.1 (show c.toNat = (39 : UInt8).toNat by rw [show (39 : UInt8).toNat = 39 from rfl]; omega)))
  have n34 : ((c.toNat : Int) = 34) = False := eq_false fun h => hc (.inr (UInt8.toNat_inj.1 (show c.toNat = (34 : UInt8).toNat by rw [show (34 : UInt8).toNat = 34 from rfl]; omega)))
  have q1 := slow_pure G c
  have q2 := shigh_pure G c
  have q3 := sdigit_pure G c
  simp only [Bool.or_eq_false_iff] at h0
  rw [h0.1] at q1
  rw [h0.2] at q2
  rw [h3] at q3
  have hx0 : (c :: r)[0]? = some c := rfl
  rw [tokS_cons, h0.1, h0.2, h3]
  simp only [Bool.or_self, Bool.false_eq_true, if_false, if_true]
  rw [if_neg hc, if_neg h46]
  have n46 : ((c.toNat : Int) = 46) = False := eq_false fun h => h46 (UInt8.toNat_inj.1 (show c.toNat = (46 : UInt8).toNat by rw [show (46 : UInt8).toNat = 46 from rfl]; omega))
  have hgs := hg.signs
  have hL : scanSigns.length = 29 := rfl
  have hpf := fun g => hasPrefix_pure G (c :: r) g
  generalize c :: r = S at *
  generalize scanSigns = L at *
  have hL1 : (29 ≤ L.length) = True := eq_true (by omega)
  have htk : (L.map AV.str).take 29 = L.map AV.str := List.take_of_length_le (by rw [List.length_map]; omega)
  clear hc h0 h3 hs h46 hg
  intro σ
  refine Tri.of_awp mixed Tryd.func15 rfl (by kernel_rfl) (by kernel_rfl) (by simp [Tryd.ntmps15]) Tryd.results15 ?_
  simp -dsimp only [↓bp, bq, br, seval, tbScnF]
  refine newW_intro fun b1 h1 => ?_
  simp -dsimp only [↓bp, bq, br, seval, tbScnF]
  refine newT_plain fun b2 h2 => ?_
  simp only [fb] at h2
  repeat' (first | refine xs ?_ ?_ <;> intros | ((first | refine xh ?_ | refine xi ?_); intro bx hbx; (try simp only [fb] at hbx)) | refine Pure.use (q1) ?_ | refine Pure.head (q1) ?_ | refine Pure.use (q2) ?_ | refine Pure.head (q2) ?_ | refine Pure.use (q3) ?_ | refine Pure.head (q3) ?_ | refine xj ?_ | refine cv_plain ?_ | ((with_reducible refine And.intro ?_ ?_); omega) | refine bo_buildSlice (d' := ⟨⟩) ?_ | refine xk (by kernel_rfl) ?_ | refine xf ?_ (by repeat' first | exact lr _ | assumption | refine ls ?_ ?_ | refine lt ?_ ?_ | simp only [*]; done | simp only [fb, *, not_false_eq_true, and_self]; done | exact lf ‹_› (by simp only [*])) | refine finish_two ?_ (by repeat' first | exact lr _ | assumption | refine ls ?_ ?_ | refine lt ?_ ?_ | simp only [*]; done | simp only [fb, *, not_false_eq_true, and_self]; done | exact lf ‹_› (by simp only [*])) | simp -dsimp only [↓bp, bq, br, seval, tbScnF, *] | refine cv_any ?_)
  refine loop_keep mixed (fun n e => ∃ i : Nat, i ≤ 29 ∧ n = 29 - i ∧ e 107 = .int .i64 i ∧ L.find? (fun g => g.isPrefixOf S) = (L.drop i).find? (fun g => g.isPrefixOf S)) 29
    ⟨0, by omega, by omega, by first | (simp -dsimp only [↓bp, bq, br, seval, tbScnF]; done) | (simp -dsimp only [↓bp, bq, br, seval, tbScnF]; try rfl), by rw [List.drop_zero]⟩ ?_
  rintro n v ⟨i, hi, rfl, h107, hf⟩
  simp -dsimp only [↓bp, bq, br, seval, tbScnF] at h107
  by_cases hlt : (i : Int) < 29
  · obtain ⟨g, hgi⟩ : ∃ g, L[i]? = some g := ⟨_, List.getElem?_eq_getElem (by omega)⟩
    have hdr := drop_get _ _ _ hgi
    rw [hdr, List.find?_cons] at hf
    have hhd : (List.drop (i * 1) (L.map AV.str)).head? = some (.str g) := by rw [Nat.mul_one, ← List.map_drop, hdr]; rfl
    have hw : IntKind.i64.wrap ((i : Int) + 1) = ((i + 1 : Nat) : Int) := by rw [wrap_nat (by omega) (by omega)]; rfl
    have hlt' := eq_true hlt
    have hp := hpf g
    cases hx : g.isPrefixOf S
    · rw [hx] at hp hf
      simp only at hf
      clear hdr hgi hx hpf hL
      repeat' (first | refine xs ?_ ?_ <;> intros | ((first | refine xh ?_ | refine xi ?_); intro bx hbx; (try simp only [fb] at hbx)) | refine Pure.use (hp) ?_ | refine Pure.head (hp) ?_ | refine xj ?_ | refine cv_plain ?_ | ((with_reducible refine And.intro ?_ ?_); omega) | refine bo_buildSlice (d' := ⟨⟩) ?_ | refine xk (by kernel_rfl) ?_ | refine xf ?_ (by repeat' first | exact lr _ | assumption | refine ls ?_ ?_ | refine lt ?_ ?_ | simp only [*]; done | simp only [fb, *, not_false_eq_true, and_self]; done | exact lf ‹_› (by simp only [*])) | refine finish_two ?_ (by repeat' first | exact lr _ | assumption | refine ls ?_ ?_ | refine lt ?_ ?_ | simp only [*]; done | simp only [fb, *, not_false_eq_true, and_self]; done | exact lf ‹_› (by simp only [*])) | simp -dsimp only [↓bp, bq, br, seval, tbScnF, *] | refine cv_any ?_)
      all_goals (have hlt := of_eq_true hlt')
      all_goals exact ⟨29 - (i + 1), by omega, i + 1, by omega, rfl, rfl, rfl⟩
    · rw [hx] at hp hf
      simp only at hf
      rw [hf]
      clear hdr hgi hx hpf hL hf
      repeat' (first | refine xs ?_ ?_ <;> intros | ((first | refine xh ?_ | refine xi ?_); intro bx hbx; (try simp only [fb] at hbx)) | refine Pure.use (hp) ?_ | refine Pure.head (hp) ?_ | refine xj ?_ | refine cv_plain ?_ | ((with_reducible refine And.intro ?_ ?_); omega) | refine bo_buildSlice (d' := ⟨⟩) ?_ | refine xk (by kernel_rfl) ?_ | refine xf ?_ (by repeat' first | exact lr _ | assumption | refine ls ?_ ?_ | refine lt ?_ ?_ | simp only [*]; done | simp only [fb, *, not_false_eq_true, and_self]; done | exact lf ‹_› (by simp only [*])) | refine finish_two ?_ (by repeat' first | exact lr _ | assumption | refine ls ?_ ?_ | refine lt ?_ ?_ | simp only [*]; done | simp only [fb, *, not_false_eq_true, and_self]; done | exact lf ‹_› (by simp only [*])) | simp -dsimp only [↓bp, bq, br, seval, tbScnF, *] | refine cv_any ?_)
      all_goals rfl
  · have : i = 29 := by omega
    subst this
    rw [List.drop_eq_nil_of_le (by omega)] at hf
    have hlt' := eq_false hlt
    rw [hf]
    clear hpf hf hlt hL hi
    repeat' (first | refine xs ?_ ?_ <;> intros | ((first | refine xh ?_ | refine xi ?_); intro bx hbx; (try simp only [fb] at hbx)) | refine xj ?_ | refine cv_plain ?_ | ((with_reducible refine And.intro ?_ ?_); omega) | refine bo_buildSlice (d' := ⟨⟩) ?_ | refine xk (by kernel_rfl) ?_ | refine xf ?_ (by repeat' first | exact lr _ | assumption | refine ls ?_ ?_ | refine lt ?_ ?_ | simp only [*]; done | simp only [fb, *, not_false_eq_true, and_self]; done | exact lf ‹_› (by simp only [*])) | refine finish_two ?_ (by repeat' first | exact lr _ | assumption | refine ls ?_ ?_ | refine lt ?_ ?_ | simp only [*]; done | simp only [fb, *, not_false_eq_true, and_self]; done | exact lf ‹_› (by simp only [*])) | simp -dsimp only [↓bp, bq, br, seval, tbScnF, *] | refine cv_any ?_)
    all_goals rfl
theorem stoken_pure (hg : GlobS G) (s : List UInt8) (h0 : s ≠ []) (hs : s.length ≤ 1000000) : Pure Tryd.prog G 15 [.str s] (tkV (tokS s)) := by
  match s, h0 with
  | c :: r, _ =>
    by_cases h1 : (lowB c || highB c) = true
    · by_cases h2 : highB c = true
      · exact token_high c r (by omega) h2
      · exact token_low hg c r (by omega) (by simpa [h2] using h1)
    · have h1 : (lowB c || highB c) = false := by simpa using h1
      by_cases h3 : digitB c = true
      · exact token_digit c r (by omega) h1 h3
      · have h3 : digitB c = false := by simpa using h3
        by_cases h4 : c = 39 ∨ c = 34
        · exact token_quote c r hs h1 h3 h4
        · by_cases h5 : c = 46
          · exact token_dot hg c r hs h1 h3 h4 h5
          · exact token_sign hg c r hs h1 h3 h4 h5
end Go.Proofs.YtldmniappliepaaDoor
