/- The token at a place, the document's way: quotes, stops, signs; the whole. -/
import Derived.Test.YtldmniappliepaaGreatDoorY18
import Derived.Test.YtldmniappliepaaGreatDoorY17
set_option linter.unusedVariables false
set_option linter.unusedSimpArgs false
set_option maxRecDepth 20000
set_option linter.defProp false
namespace Go.Proofs.YtldmniappliepaaGreatDoor
open Go Go.Av
section
def tbRScF := And.intro (And.intro (And.intro @tf3 @tf4) (And.intro @tf5 (And.intro @tf9 @tf33))) (And.intro (And.intro @tf43 @tf41) (And.intro @tf24 (And.intro @ares_tmpc @ares_cellc)))
variable (G : Nat → AV)
set_option maxHeartbeats 2000000 in
theorem rtoken_quote (s : List UInt8) (i0 : Nat) (c : UInt8) (h0 : s[i0]? = some c) (hs : s.length ≤ 1000000) (hc : (lowB c || highB c) = false) (hdc : digitB c = false) (hq : c = 39 ∨ c = 34) : Pure Tryz.prog G 22 [.str s, .int .i64 i0] (tkR i0 (tokS (s.drop i0))) := by
  have hqp := rquoted_pure G s i0 c h0 hq hs
  have hk : (c.toNat : Int) = 39 ∧ ((c.toNat : Int) = 34) = False ∧ qMost c = 40 ∧ qKind c = 2 ∨ (c.toNat : Int) = 34 ∧ ((c.toNat : Int) = 39) = False ∧ qMost c = 400 ∧ qKind c = 4 := by
    rcases hq with rfl | rfl
    · exact .inl ⟨by decide, by decide, by decide, by decide⟩
    · exact .inr ⟨by decide, by decide, by decide, by decide⟩
  have q1 := rlow_pure G c
  have q2 := rhigh_pure G c
  have q3 := rdigit_pure G c
  have hil := (List.getElem?_eq_some_iff.1 h0).1
  have hd := drop_get _ _ _ h0
  rw [hd, tokS_cons, if_neg (by rw [hc]; simp), if_neg (by rw [hdc]; simp)]
  simp only [Bool.or_eq_false_iff] at hc
  rw [hc.1] at q1
  rw [hc.2] at q2
  rw [hdc] at q3
  rw [if_pos hq]
  clear hq hd hc hdc
  cases ho : qscan c (s.drop (i0 + 1)) with
  | none =>
    rw [ho] at hqp
    unfold rqV at hqp
    simp only
    clear hs ho hil
    rcases hk with ⟨k1, k2, k3, k4⟩ | ⟨k1, k2, k3, k4⟩
    · replace k1 := eq_true k1
      clear k3 k4
      intro σ
      refine Tri.of_awp mixed Tryz.func22 rfl (by kernel_rfl) (by kernel_rfl) (by simp [Tryz.ntmps22]) Tryz.results22 ?_
      repeat' (first | refine xs ?_ ?_ <;> intros | ((first | refine xh ?_ | refine xi ?_); intro bx hbx; (try simp only [fb] at hbx)) | refine Pure.use (q1) ?_ | refine Pure.head (q1) ?_ | refine Pure.use (q2) ?_ | refine Pure.head (q2) ?_ | refine Pure.use (q3) ?_ | refine Pure.head (q3) ?_ | refine Pure.use (hqp) ?_ | refine Pure.head (hqp) ?_ | refine xj ?_ | refine cv_plain ?_ | ((with_reducible refine And.intro ?_ ?_); omega) | refine bo_buildSlice (d' := ⟨⟩) ?_ | refine xk (by kernel_rfl) ?_ | refine xf ?_ (by repeat' first | exact lr _ | assumption | refine ls ?_ ?_ | refine lt ?_ ?_ | simp only [*]; done | simp only [fb, *, not_false_eq_true, and_self]; done | exact lf ‹_› (by simp only [*])) | refine finish_two ?_ (by repeat' first | exact lr _ | assumption | refine ls ?_ ?_ | refine lt ?_ ?_ | simp only [*]; done | simp only [fb, *, not_false_eq_true, and_self]; done | exact lf ‹_› (by simp only [*])) | simp -dsimp only [↓bp, bq, br, seval, tbRScF, *] | refine cv_any ?_)
      all_goals rfl
    · replace k1 := eq_true k1
      clear k3 k4
      intro σ
      refine Tri.of_awp mixed Tryz.func22 rfl (by kernel_rfl) (by kernel_rfl) (by simp [Tryz.ntmps22]) Tryz.results22 ?_
      repeat' (first | refine xs ?_ ?_ <;> intros | ((first | refine xh ?_ | refine xi ?_); intro bx hbx; (try simp only [fb] at hbx)) | refine Pure.use (q1) ?_ | refine Pure.head (q1) ?_ | refine Pure.use (q2) ?_ | refine Pure.head (q2) ?_ | refine Pure.use (q3) ?_ | refine Pure.head (q3) ?_ | refine Pure.use (hqp) ?_ | refine Pure.head (hqp) ?_ | refine xj ?_ | refine cv_plain ?_ | ((with_reducible refine And.intro ?_ ?_); omega) | refine bo_buildSlice (d' := ⟨⟩) ?_ | refine xk (by kernel_rfl) ?_ | refine xf ?_ (by repeat' first | exact lr _ | assumption | refine ls ?_ ?_ | refine lt ?_ ?_ | simp only [*]; done | simp only [fb, *, not_false_eq_true, and_self]; done | exact lf ‹_› (by simp only [*])) | refine finish_two ?_ (by repeat' first | exact lr _ | assumption | refine ls ?_ ?_ | refine lt ?_ ?_ | simp only [*]; done | simp only [fb, *, not_false_eq_true, and_self]; done | exact lf ‹_› (by simp only [*])) | simp -dsimp only [↓bp, bq, br, seval, tbRScF, *] | refine cv_any ?_)
      all_goals rfl
  | some p =>
    rw [ho] at hqp
    obtain ⟨T, n⟩ := p
    unfold rqV at hqp
    simp only at hqp ⊢
    rw [show i0 + 1 + n = i0 + (n + 1) by omega] at hqp
    generalize n + 1 = m at *
    clear hs ho hil
    rcases hk with ⟨k1, k2, k3, k4⟩ | ⟨k1, k2, k3, k4⟩
    · replace k1 := eq_true k1
      rw [k3, k4]
      clear k3 k4
      by_cases hT : 40 < T.length
      · have hT' : ((40 : Int) < T.length) = True := eq_true (by omega)
        rw [if_pos hT]
        clear hT
        intro σ
        refine Tri.of_awp mixed Tryz.func22 rfl (by kernel_rfl) (by kernel_rfl) (by simp [Tryz.ntmps22]) Tryz.results22 ?_
        repeat' (first | refine xs ?_ ?_ <;> intros | ((first | refine xh ?_ | refine xi ?_); intro bx hbx; (try simp only [fb] at hbx)) | refine Pure.use (q1) ?_ | refine Pure.head (q1) ?_ | refine Pure.use (q2) ?_ | refine Pure.head (q2) ?_ | refine Pure.use (q3) ?_ | refine Pure.head (q3) ?_ | refine Pure.use (hqp) ?_ | refine Pure.head (hqp) ?_ | refine xj ?_ | refine cv_plain ?_ | ((with_reducible refine And.intro ?_ ?_); omega) | refine bo_buildSlice (d' := ⟨⟩) ?_ | refine xk (by kernel_rfl) ?_ | refine xf ?_ (by repeat' first | exact lr _ | assumption | refine ls ?_ ?_ | refine lt ?_ ?_ | simp only [*]; done | simp only [fb, *, not_false_eq_true, and_self]; done | exact lf ‹_› (by simp only [*])) | refine finish_two ?_ (by repeat' first | exact lr _ | assumption | refine ls ?_ ?_ | refine lt ?_ ?_ | simp only [*]; done | simp only [fb, *, not_false_eq_true, and_self]; done | exact lf ‹_› (by simp only [*])) | simp -dsimp only [↓bp, bq, br, seval, tbRScF, *] | refine cv_any ?_)
        all_goals rfl
      · have hT' : ((40 : Int) < T.length) = False := eq_false (by omega)
        have hT2 : ((400 : Int) < T.length) = False := eq_false (by omega)
        rw [if_neg hT]
        clear hT
        intro σ
        refine Tri.of_awp mixed Tryz.func22 rfl (by kernel_rfl) (by kernel_rfl) (by simp [Tryz.ntmps22]) Tryz.results22 ?_
        repeat' (first | refine xs ?_ ?_ <;> intros | ((first | refine xh ?_ | refine xi ?_); intro bx hbx; (try simp only [fb] at hbx)) | refine Pure.use (q1) ?_ | refine Pure.head (q1) ?_ | refine Pure.use (q2) ?_ | refine Pure.head (q2) ?_ | refine Pure.use (q3) ?_ | refine Pure.head (q3) ?_ | refine Pure.use (hqp) ?_ | refine Pure.head (hqp) ?_ | refine xj ?_ | refine cv_plain ?_ | ((with_reducible refine And.intro ?_ ?_); omega) | refine bo_buildSlice (d' := ⟨⟩) ?_ | refine xk (by kernel_rfl) ?_ | refine xf ?_ (by repeat' first | exact lr _ | assumption | refine ls ?_ ?_ | refine lt ?_ ?_ | simp only [*]; done | simp only [fb, *, not_false_eq_true, and_self]; done | exact lf ‹_› (by simp only [*])) | refine finish_two ?_ (by repeat' first | exact lr _ | assumption | refine ls ?_ ?_ | refine lt ?_ ?_ | simp only [*]; done | simp only [fb, *, not_false_eq_true, and_self]; done | exact lf ‹_› (by simp only [*])) | simp -dsimp only [↓bp, bq, br, seval, tbRScF, *] | refine cv_any ?_)
        all_goals rfl
    · replace k1 := eq_true k1
      rw [k3, k4]
      clear k3 k4
      by_cases hT : 400 < T.length
      · have hT' : ((400 : Int) < T.length) = True := eq_true (by omega)
        rw [if_pos hT]
        clear hT
        intro σ
        refine Tri.of_awp mixed Tryz.func22 rfl (by kernel_rfl) (by kernel_rfl) (by simp [Tryz.ntmps22]) Tryz.results22 ?_
        repeat' (first | refine xs ?_ ?_ <;> intros | ((first | refine xh ?_ | refine xi ?_); intro bx hbx; (try simp only [fb] at hbx)) | refine Pure.use (q1) ?_ | refine Pure.head (q1) ?_ | refine Pure.use (q2) ?_ | refine Pure.head (q2) ?_ | refine Pure.use (q3) ?_ | refine Pure.head (q3) ?_ | refine Pure.use (hqp) ?_ | refine Pure.head (hqp) ?_ | refine xj ?_ | refine cv_plain ?_ | ((with_reducible refine And.intro ?_ ?_); omega) | refine bo_buildSlice (d' := ⟨⟩) ?_ | refine xk (by kernel_rfl) ?_ | refine xf ?_ (by repeat' first | exact lr _ | assumption | refine ls ?_ ?_ | refine lt ?_ ?_ | simp only [*]; done | simp only [fb, *, not_false_eq_true, and_self]; done | exact lf ‹_› (by simp only [*])) | refine finish_two ?_ (by repeat' first | exact lr _ | assumption | refine ls ?_ ?_ | refine lt ?_ ?_ | simp only [*]; done | simp only [fb, *, not_false_eq_true, and_self]; done | exact lf ‹_› (by simp only [*])) | simp -dsimp only [↓bp, bq, br, seval, tbRScF, *] | refine cv_any ?_)
        all_goals rfl
      · have hT' : ((400 : Int) < T.length) = False := eq_false (by omega)
        rw [if_neg hT]
        clear hT
        intro σ
        refine Tri.of_awp mixed Tryz.func22 rfl (by kernel_rfl) (by kernel_rfl) (by simp [Tryz.ntmps22]) Tryz.results22 ?_
        repeat' (first | refine xs ?_ ?_ <;> intros | ((first | refine xh ?_ | refine xi ?_); intro bx hbx; (try simp only [fb] at hbx)) | refine Pure.use (q1) ?_ | refine Pure.head (q1) ?_ | refine Pure.use (q2) ?_ | refine Pure.head (q2) ?_ | refine Pure.use (q3) ?_ | refine Pure.head (q3) ?_ | refine Pure.use (hqp) ?_ | refine Pure.head (hqp) ?_ | refine xj ?_ | refine cv_plain ?_ | ((with_reducible refine And.intro ?_ ?_); omega) | refine bo_buildSlice (d' := ⟨⟩) ?_ | refine xk (by kernel_rfl) ?_ | refine xf ?_ (by repeat' first | exact lr _ | assumption | refine ls ?_ ?_ | refine lt ?_ ?_ | simp only [*]; done | simp only [fb, *, not_false_eq_true, and_self]; done | exact lf ‹_› (by simp only [*])) | refine finish_two ?_ (by repeat' first | exact lr _ | assumption | refine ls ?_ ?_ | refine lt ?_ ?_ | simp only [*]; done | simp only [fb, *, not_false_eq_true, and_self]; done | exact lf ‹_› (by simp only [*])) | simp -dsimp only [↓bp, bq, br, seval, tbRScF, *] | refine cv_any ?_)
        all_goals rfl
set_option maxHeartbeats 2000000 in
theorem rtoken_dot (s : List UInt8) (i0 : Nat) (c : UInt8) (h0 : s[i0]? = some c) (hs : s.length ≤ 1000000) (hc : (lowB c || highB c) = false) (hdc : digitB c = false) (hq : ¬ (c = 39 ∨ c = 34)) (h46 : c = 46) : Pure Tryz.prog G 22 [.str s, .int .i64 i0] (tkR i0 (tokS (s.drop i0))) := by
  have n39 : ((c.toNat : Int) = 39) = False := u8_no fun h => hq (.inl h)
  have n34 : ((c.toNat : Int) = 34) = False := u8_no fun h => hq (.inr h)
  have q1 := rlow_pure G c
  have q2 := rhigh_pure G c
  have q3 := rdigit_pure G c
  have hil := (List.getElem?_eq_some_iff.1 h0).1
  have hd := drop_get _ _ _ h0
  rw [hd, tokS_cons, if_neg (by rw [hc]; simp), if_neg (by rw [hdc]; simp)]
  simp only [Bool.or_eq_false_iff] at hc
  rw [hc.1] at q1
  rw [hc.2] at q2
  rw [hdc] at q3
  rw [if_neg hq, if_pos h46]
  have n46 : ((c.toNat : Int) = 46) = True := eq_true (by rw [h46]; rfl)
  have hw : IntKind.i64.wrap ((i0 : Int) + 1) = ((i0 + 1 : Nat) : Int) := by rw [wrap_nat (by omega) (by omega)]; rfl
  clear hq hd hc hdc h46
  by_cases hl : i0 + 1 = s.length
  · have hl1 : (((i0 + 1 : Nat) : Int) = s.length) = True := eq_true (by omega)
    rw [List.drop_eq_nil_of_le (by omega)]
    simp only
    clear hl hil hs
    intro σ
    refine Tri.of_awp mixed Tryz.func22 rfl (by kernel_rfl) (by kernel_rfl) (by simp [Tryz.ntmps22]) Tryz.results22 ?_
    repeat' (first | refine xs ?_ ?_ <;> intros | ((first | refine xh ?_ | refine xi ?_); intro bx hbx; (try simp only [fb] at hbx)) | refine Pure.use (q1) ?_ | refine Pure.head (q1) ?_ | refine Pure.use (q2) ?_ | refine Pure.head (q2) ?_ | refine Pure.use (q3) ?_ | refine Pure.head (q3) ?_ | refine xj ?_ | refine cv_plain ?_ | ((with_reducible refine And.intro ?_ ?_); omega) | refine bo_buildSlice (d' := ⟨⟩) ?_ | refine xk (by kernel_rfl) ?_ | refine xf ?_ (by repeat' first | exact lr _ | assumption | refine ls ?_ ?_ | refine lt ?_ ?_ | simp only [*]; done | simp only [fb, *, not_false_eq_true, and_self]; done | exact lf ‹_› (by simp only [*])) | refine finish_two ?_ (by repeat' first | exact lr _ | assumption | refine ls ?_ ?_ | refine lt ?_ ?_ | simp only [*]; done | simp only [fb, *, not_false_eq_true, and_self]; done | exact lf ‹_› (by simp only [*])) | simp -dsimp only [↓bp, bq, br, seval, tbRScF, *] | refine cv_any ?_)
    all_goals rfl
  · have hl1 : (((i0 + 1 : Nat) : Int) = s.length) = False := eq_false (by omega)
    obtain ⟨d, hd⟩ : ∃ d, s[i0 + 1]? = some d := ⟨_, List.getElem?_eq_getElem (by omega)⟩
    rw [drop_get _ _ _ hd]
    simp only
    have hb := rblank_pure G d
    have hbl : blankB d = decide (d = 32 ∨ d = 9 ∨ d = 13 ∨ d = 10) := by unfold blankB; simp [Bool.decide_or, Bool.or_assoc]
    clear hl hil hs
    cases xb : blankB d
    · rw [xb] at hb hbl
      replace hbl := of_decide_eq_false hbl.symm
      by_cases h37 : d = 37
      · have n37 : ((d.toNat : Int) = 37) = True := eq_true (by rw [h37]; rfl)
        rw [if_pos (by simp [h37])]
        clear hbl h37 xb
        intro σ
        refine Tri.of_awp mixed Tryz.func22 rfl (by kernel_rfl) (by kernel_rfl) (by simp [Tryz.ntmps22]) Tryz.results22 ?_
        repeat' (first | refine xs ?_ ?_ <;> intros | ((first | refine xh ?_ | refine xi ?_); intro bx hbx; (try simp only [fb] at hbx)) | refine Pure.use (q1) ?_ | refine Pure.head (q1) ?_ | refine Pure.use (q2) ?_ | refine Pure.head (q2) ?_ | refine Pure.use (q3) ?_ | refine Pure.head (q3) ?_ | refine Pure.use (hb) ?_ | refine Pure.head (hb) ?_ | refine xj ?_ | refine cv_plain ?_ | ((with_reducible refine And.intro ?_ ?_); omega) | refine bo_buildSlice (d' := ⟨⟩) ?_ | refine xk (by kernel_rfl) ?_ | refine xf ?_ (by repeat' first | exact lr _ | assumption | refine ls ?_ ?_ | refine lt ?_ ?_ | simp only [*]; done | simp only [fb, *, not_false_eq_true, and_self]; done | exact lf ‹_› (by simp only [*])) | refine finish_two ?_ (by repeat' first | exact lr _ | assumption | refine ls ?_ ?_ | refine lt ?_ ?_ | simp only [*]; done | simp only [fb, *, not_false_eq_true, and_self]; done | exact lf ‹_› (by simp only [*])) | simp -dsimp only [↓bp, bq, br, seval, tbRScF, *] | refine cv_any ?_)
        all_goals rfl
      · have n37 : ((d.toNat : Int) = 37) = False := u8_no h37
        rw [if_neg (by intro h; rcases h with h | h | h | h | h; exact hbl (.inl h); exact hbl (.inr (.inl h)); exact hbl (.inr (.inr (.inl h))); exact hbl (.inr (.inr (.inr h))); exact h37 h)]
        clear hbl h37 xb
        intro σ
        refine Tri.of_awp mixed Tryz.func22 rfl (by kernel_rfl) (by kernel_rfl) (by simp [Tryz.ntmps22]) Tryz.results22 ?_
        repeat' (first | refine xs ?_ ?_ <;> intros | ((first | refine xh ?_ | refine xi ?_); intro bx hbx; (try simp only [fb] at hbx)) | refine Pure.use (q1) ?_ | refine Pure.head (q1) ?_ | refine Pure.use (q2) ?_ | refine Pure.head (q2) ?_ | refine Pure.use (q3) ?_ | refine Pure.head (q3) ?_ | refine Pure.use (hb) ?_ | refine Pure.head (hb) ?_ | refine xj ?_ | refine cv_plain ?_ | ((with_reducible refine And.intro ?_ ?_); omega) | refine bo_buildSlice (d' := ⟨⟩) ?_ | refine xk (by kernel_rfl) ?_ | refine xf ?_ (by repeat' first | exact lr _ | assumption | refine ls ?_ ?_ | refine lt ?_ ?_ | simp only [*]; done | simp only [fb, *, not_false_eq_true, and_self]; done | exact lf ‹_› (by simp only [*])) | refine finish_two ?_ (by repeat' first | exact lr _ | assumption | refine ls ?_ ?_ | refine lt ?_ ?_ | simp only [*]; done | simp only [fb, *, not_false_eq_true, and_self]; done | exact lf ‹_› (by simp only [*])) | simp -dsimp only [↓bp, bq, br, seval, tbRScF, *] | refine cv_any ?_)
        all_goals rfl
    · rw [xb] at hb hbl
      replace hbl := of_decide_eq_true hbl.symm
      rw [if_pos (by rcases hbl with h | h | h | h; exact .inl h; exact .inr (.inl h); exact .inr (.inr (.inl h)); exact .inr (.inr (.inr (.inl h))))]
      clear hbl xb
      intro σ
      refine Tri.of_awp mixed Tryz.func22 rfl (by kernel_rfl) (by kernel_rfl) (by simp [Tryz.ntmps22]) Tryz.results22 ?_
      repeat' (first | refine xs ?_ ?_ <;> intros | ((first | refine xh ?_ | refine xi ?_); intro bx hbx; (try simp only [fb] at hbx)) | refine Pure.use (q1) ?_ | refine Pure.head (q1) ?_ | refine Pure.use (q2) ?_ | refine Pure.head (q2) ?_ | refine Pure.use (q3) ?_ | refine Pure.head (q3) ?_ | refine Pure.use (hb) ?_ | refine Pure.head (hb) ?_ | refine xj ?_ | refine cv_plain ?_ | ((with_reducible refine And.intro ?_ ?_); omega) | refine bo_buildSlice (d' := ⟨⟩) ?_ | refine xk (by kernel_rfl) ?_ | refine xf ?_ (by repeat' first | exact lr _ | assumption | refine ls ?_ ?_ | refine lt ?_ ?_ | simp only [*]; done | simp only [fb, *, not_false_eq_true, and_self]; done | exact lf ‹_› (by simp only [*])) | refine finish_two ?_ (by repeat' first | exact lr _ | assumption | refine ls ?_ ?_ | refine lt ?_ ?_ | simp only [*]; done | simp only [fb, *, not_false_eq_true, and_self]; done | exact lf ‹_› (by simp only [*])) | simp -dsimp only [↓bp, bq, br, seval, tbRScF, *] | refine cv_any ?_)
      all_goals rfl
theorem prefix_at {g s : List UInt8} {i0 : Nat} (hil : i0 < s.length) : g.isPrefixOf (s.drop i0) = true ↔ i0 + g.length ≤ s.length ∧ (s.take (i0 + g.length)).drop i0 = g := by
  rw [take_drop_sub, Nat.add_sub_cancel_left, List.isPrefixOf_iff_prefix, List.prefix_iff_eq_take]
  constructor
  · intro h
    have := congrArg List.length h
    rw [List.length_take, List.length_drop] at this
    exact ⟨by omega, h.symm⟩
  · rintro ⟨_, h⟩; exact h.symm
set_option maxHeartbeats 2000000 in
theorem rtoken_sign (s : List UInt8) (i0 : Nat) (c : UInt8) (h0 : s[i0]? = some c) (hs : s.length ≤ 1000000) (hc : (lowB c || highB c) = false) (hdc : digitB c = false) (hq : ¬ (c = 39 ∨ c = 34)) (h46 : ¬ c = 46) : Pure Tryz.prog G 22 [.str s, .int .i64 i0] (tkR i0 (tokS (s.drop i0))) := by
  have n39 : ((c.toNat : Int) = 39) = False := u8_no fun h => hq (.inl h)
  have n34 : ((c.toNat : Int) = 34) = False := u8_no fun h => hq (.inr h)
  have q1 := rlow_pure G c
  have q2 := rhigh_pure G c
  have q3 := rdigit_pure G c
  have hil := (List.getElem?_eq_some_iff.1 h0).1
  have hd := drop_get _ _ _ h0
  rw [hd, tokS_cons, if_neg (by rw [hc]; simp), if_neg (by rw [hdc]; simp)]
  simp only [Bool.or_eq_false_iff] at hc
  rw [hc.1] at q1
  rw [hc.2] at q2
  rw [hdc] at q3
  rw [if_neg hq, if_neg h46, ← hd]
  have n46 : ((c.toNat : Int) = 46) = False := u8_no h46
  clear hq hd hc hdc h46
  have hsg := rsigns_pure G
  have hL : scanSigns.length ≤ 29 := by decide
  have hg3 : ∀ g, g ∈ scanSigns → g.length ≤ 3 := fun g hg => (signs_pos g hg).2
  generalize scanSigns = L at *
  have hpf := fun g : List UInt8 => @prefix_at g s i0 hil
  generalize hS : s.drop i0 = S at *
  clear hS
  intro σ
  refine Tri.of_awp mixed Tryz.func22 rfl (by kernel_rfl) (by kernel_rfl) (by simp [Tryz.ntmps22]) Tryz.results22 ?_
  repeat' (first | refine xs ?_ ?_ <;> intros | ((first | refine xh ?_ | refine xi ?_); intro bx hbx; (try simp only [fb] at hbx)) | refine Pure.use (q1) ?_ | refine Pure.head (q1) ?_ | refine Pure.use (q2) ?_ | refine Pure.head (q2) ?_ | refine Pure.use (q3) ?_ | refine Pure.head (q3) ?_ | refine Pure.use (hsg) ?_ | refine Pure.head (hsg) ?_ | refine xj ?_ | refine cv_plain ?_ | ((with_reducible refine And.intro ?_ ?_); omega) | refine bo_buildSlice (d' := ⟨⟩) ?_ | refine xk (by kernel_rfl) ?_ | refine xf ?_ (by repeat' first | exact lr _ | assumption | refine ls ?_ ?_ | refine lt ?_ ?_ | simp only [*]; done | simp only [fb, *, not_false_eq_true, and_self]; done | exact lf ‹_› (by simp only [*])) | refine finish_two ?_ (by repeat' first | exact lr _ | assumption | refine ls ?_ ?_ | refine lt ?_ ?_ | simp only [*]; done | simp only [fb, *, not_false_eq_true, and_self]; done | exact lf ‹_› (by simp only [*])) | simp -dsimp only [↓bp, bq, br, seval, tbRScF, len_texts, ix_texts, *] | refine cv_any ?_)
  refine loop_keep mixed (fun n e => ∃ i : Nat, i ≤ L.length ∧ n = L.length - i ∧ e 16 = .int .i64 i ∧ L.find? (fun g => g.isPrefixOf S) = (L.drop i).find? (fun g => g.isPrefixOf S)) L.length
    ⟨0, by omega, by omega, by first | (simp -dsimp only [↓bp, bq, br, seval, tbRScF]; done) | (simp -dsimp only [↓bp, bq, br, seval, tbRScF]; try rfl), by rw [List.drop_zero]⟩ ?_
  rintro n v ⟨i, hi, rfl, h16, hf⟩
  simp -dsimp only [↓bp, bq, br, seval, tbRScF] at h16
  by_cases hlt : (i : Int) < L.length
  · obtain ⟨g, hgi⟩ : ∃ g, L[i]? = some g := ⟨_, List.getElem?_eq_getElem (by omega)⟩
    have hdr := drop_get _ _ _ hgi
    have hgl := hg3 g (List.mem_of_getElem? hgi)
    rw [hdr, List.find?_cons] at hf
    have hw : IntKind.i64.wrap ((i : Int) + 1) = ((i + 1 : Nat) : Int) := by rw [wrap_nat (by omega) (by omega)]; rfl
    have hw2 : IntKind.i64.wrap ((i0 : Int) + (g.length : Int)) = ((i0 + g.length : Nat) : Int) := by rw [wrap_nat (by omega) (by omega)]; omega
    have hlt' := eq_true hlt
    have hp := hpf g
    have b1 : (i0 ≤ i0 + g.length) = True := eq_true (by omega)
    cases hx : g.isPrefixOf S
    · rw [hx] at hp hf
      simp only at hf
      have hp2 : ¬ (i0 + g.length ≤ s.length ∧ (s.take (i0 + g.length)).drop i0 = g) := fun h => by simpa using hp.2 h
      clear hdr hx hpf hL hp hg3
      by_cases hle : i0 + g.length ≤ s.length
      · have b2 := eq_true hle
        have b3 : (((i0 + g.length : Nat) : Int) ≤ s.length) = True := eq_true (by omega)
        have b4 : ((s.take (i0 + g.length)).drop i0 = g) = False := eq_false fun h => hp2 ⟨hle, h⟩
        clear hp2 hle hgl
        repeat' (first | refine xs ?_ ?_ <;> intros | ((first | refine xh ?_ | refine xi ?_); intro bx hbx; (try simp only [fb] at hbx)) | refine xj ?_ | refine cv_plain ?_ | ((with_reducible refine And.intro ?_ ?_); omega) | refine bo_buildSlice (d' := ⟨⟩) ?_ | refine xk (by kernel_rfl) ?_ | refine xf ?_ (by repeat' first | exact lr _ | assumption | refine ls ?_ ?_ | refine lt ?_ ?_ | simp only [*]; done | simp only [fb, *, not_false_eq_true, and_self]; done | exact lf ‹_› (by simp only [*])) | refine finish_two ?_ (by repeat' first | exact lr _ | assumption | refine ls ?_ ?_ | refine lt ?_ ?_ | simp only [*]; done | simp only [fb, *, not_false_eq_true, and_self]; done | exact lf ‹_› (by simp only [*])) | simp -dsimp only [↓bp, bq, br, seval, tbRScF, len_texts, ix_texts, *] | refine cv_any ?_)
        all_goals (have hlt := of_eq_true hlt')
        all_goals exact ⟨L.length - (i + 1), by omega, i + 1, by omega, rfl, rfl, rfl⟩
      · have b3 : (((i0 + g.length : Nat) : Int) ≤ s.length) = False := eq_false (by omega)
        clear hp2 hle hgl
        repeat' (first | refine xs ?_ ?_ <;> intros | ((first | refine xh ?_ | refine xi ?_); intro bx hbx; (try simp only [fb] at hbx)) | refine xj ?_ | refine cv_plain ?_ | ((with_reducible refine And.intro ?_ ?_); omega) | refine bo_buildSlice (d' := ⟨⟩) ?_ | refine xk (by kernel_rfl) ?_ | refine xf ?_ (by repeat' first | exact lr _ | assumption | refine ls ?_ ?_ | refine lt ?_ ?_ | simp only [*]; done | simp only [fb, *, not_false_eq_true, and_self]; done | exact lf ‹_› (by simp only [*])) | refine finish_two ?_ (by repeat' first | exact lr _ | assumption | refine ls ?_ ?_ | refine lt ?_ ?_ | simp only [*]; done | simp only [fb, *, not_false_eq_true, and_self]; done | exact lf ‹_› (by simp only [*])) | simp -dsimp only [↓bp, bq, br, seval, tbRScF, len_texts, ix_texts, *] | refine cv_any ?_)
        all_goals (have hlt := of_eq_true hlt')
        all_goals exact ⟨L.length - (i + 1), by omega, i + 1, by omega, rfl, rfl, rfl⟩
    · rw [hx] at hp hf
      simp only at hf
      rw [hf]
      obtain ⟨hle, hp2⟩ := hp.1 rfl
      have b2 := eq_true hle
      have b3 : (((i0 + g.length : Nat) : Int) ≤ s.length) = True := eq_true (by omega)
      clear hdr hx hpf hL hp hg3 hf hle hgl
      repeat' (first | refine xs ?_ ?_ <;> intros | ((first | refine xh ?_ | refine xi ?_); intro bx hbx; (try simp only [fb] at hbx)) | refine xj ?_ | refine cv_plain ?_ | ((with_reducible refine And.intro ?_ ?_); omega) | refine bo_buildSlice (d' := ⟨⟩) ?_ | refine xk (by kernel_rfl) ?_ | refine xf ?_ (by repeat' first | exact lr _ | assumption | refine ls ?_ ?_ | refine lt ?_ ?_ | simp only [*]; done | simp only [fb, *, not_false_eq_true, and_self]; done | exact lf ‹_› (by simp only [*])) | refine finish_two ?_ (by repeat' first | exact lr _ | assumption | refine ls ?_ ?_ | refine lt ?_ ?_ | simp only [*]; done | simp only [fb, *, not_false_eq_true, and_self]; done | exact lf ‹_› (by simp only [*])) | simp -dsimp only [↓bp, bq, br, seval, tbRScF, len_texts, ix_texts, *] | refine cv_any ?_)
      all_goals rfl
  · have : i = L.length := by omega
    subst this
    rw [List.drop_eq_nil_of_le (by omega)] at hf
    have hlt' := eq_false hlt
    rw [hf]
    clear hpf hf hlt hL hi hg3
    repeat' (first | refine xs ?_ ?_ <;> intros | ((first | refine xh ?_ | refine xi ?_); intro bx hbx; (try simp only [fb] at hbx)) | refine xj ?_ | refine cv_plain ?_ | ((with_reducible refine And.intro ?_ ?_); omega) | refine bo_buildSlice (d' := ⟨⟩) ?_ | refine xk (by kernel_rfl) ?_ | refine xf ?_ (by repeat' first | exact lr _ | assumption | refine ls ?_ ?_ | refine lt ?_ ?_ | simp only [*]; done | simp only [fb, *, not_false_eq_true, and_self]; done | exact lf ‹_› (by simp only [*])) | refine finish_two ?_ (by repeat' first | exact lr _ | assumption | refine ls ?_ ?_ | refine lt ?_ ?_ | simp only [*]; done | simp only [fb, *, not_false_eq_true, and_self]; done | exact lf ‹_› (by simp only [*])) | simp -dsimp only [↓bp, bq, br, seval, tbRScF, len_texts, ix_texts, *] | refine cv_any ?_)
    all_goals rfl
theorem rtoken_pure (s : List UInt8) (i0 : Nat) (hi : i0 < s.length) (hs : s.length ≤ 1000000) : Pure Tryz.prog G 22 [.str s, .int .i64 i0] (tkR i0 (tokS (s.drop i0))) := by
  obtain ⟨c, h0⟩ : ∃ c, s[i0]? = some c := ⟨_, List.getElem?_eq_getElem hi⟩
  by_cases h1 : (lowB c || highB c) = true
  · exact rtoken_name G s i0 c h0 hs h1
  · have h1 : (lowB c || highB c) = false := by simpa using h1
    by_cases h3 : digitB c = true
    · exact rtoken_digit G s i0 c h0 hs h1 h3
    · have h3 : digitB c = false := by simpa using h3
      by_cases h4 : c = 39 ∨ c = 34
      · exact rtoken_quote G s i0 c h0 hs h1 h3 h4
      · by_cases h5 : c = 46
        · exact rtoken_dot G s i0 c h0 hs h1 h3 h4 h5
        · exact rtoken_sign G s i0 c h0 hs h1 h3 h4 h5
end
set_option maxRecDepth 20000
section
def tbScnE := And.intro (And.intro (And.intro @tf3 (And.intro @tf4 @tf5)) (And.intro (And.intro @tf9 @tf33) (And.intro @tf43 @tf41))) (And.intro (And.intro @tf24 (And.intro @tf76 @tf98)) (And.intro (And.intro @tf26 @tf23) (And.intro @ares_tmpc @ares_cellc)))
variable {G : Nat → AV}
def tkV : Tk → AV
  | .tok k t n => .tup [.agg [.int .u8 (k : Nat), .str t, .int .i64 0], .int .i64 (n : Nat), .int .i64 0]
  | .err e => .tup [.agg [.int .u8 0, .str [], .int .i64 0], .int .i64 0, .int .i64 (e : Nat)]
theorem low_high (c : UInt8) (h : lowB c = true) : highB c = false := by
  have h2 := u8_all (p := fun c => !lowB c || !highB c) (by decide +kernel) c
  simpa [h] using h2
theorem slice_words {g : Gh} : aslice Tryz.prog 76 (.rp (scanWords.map AV.str)) none none = some (texts scanWords) := by
  have h19 : rsk (some (19, 1)) (scanWords.map AV.str) = some (texts scanWords) := by
    show (if 19 = (scanWords.map AV.str).length ∧ 19 ≤ maxLen then some (AV.sl .none (scanWords.map AV.str) []) else none) = _
    exact if_pos ⟨rfl, by unfold maxLen; decide⟩
  have ha : arrT Tryz.prog 76 = some (19, 1) := tf76.2.2.2.2.2.2.1
  rw [aslice_rp, ha, h19]
set_option maxHeartbeats 2000000 in
theorem token_high (c : UInt8) (r : List UInt8) (hs : (c :: r).length ≤ 1000000000) (hc : highB c = true) : Pure Tryz.prog G 20 [.str (c :: r)] (tkV (tokS (c :: r))) := by
  have hwn := fun (σ0 : AS) (b : Nat) hb => while_pure G 39 namedB (snamed_pure G) (c :: r) hs σ0 b hb
  have e1 : lowB c = false := by cases h : lowB c with | false => rfl | true => rw [low_high c h] at hc; cases hc
  have q1 := slow_pure G c
  have q2 := shigh_pure G c
  rw [e1] at q1
  rw [hc] at q2
  have hx0 : (c :: r)[0]? = some c := rfl
  rw [tokS_cons, e1, hc]
  simp only [Bool.false_or, if_true]
  have hlen := takeWhile_len (p := namedB) (c :: r)
  generalize c :: r = S at *
  generalize S.takeWhile namedB = W at *
  by_cases h40 : 40 < W.length
  · have n40 : ((40 : Int) < W.length) = True := eq_true (by omega)
    rw [if_pos h40]
    intro σ
    refine Tri.of_awp mixed Tryz.func20 rfl (by kernel_rfl) (by kernel_rfl) (by simp [Tryz.ntmps20]) Tryz.results20 ?_
    simp -dsimp only [↓bp, bq, br, seval, tbScnE]
    refine newW_intro fun b1 h1 => ?_
    simp -dsimp only [↓bp, bq, br, seval, tbScnE]
    refine newT_plain fun b2 h2 => ?_
    simp only [fb] at h2
    replace hwn := hwn (σ.setBox b1 [.str S]) b1 (by simp [AS.setBox])
    clear h40 hs hlen
    repeat' (first | refine xs ?_ ?_ <;> intros | ((first | refine xh ?_ | refine xi ?_); intro bx hbx; (try simp only [fb] at hbx)) | refine Pure.use (q1) ?_ | refine Pure.head (q1) ?_ | refine Pure.use (q2) ?_ | refine Pure.head (q2) ?_ | refine PureC.use (hwn) (by repeat' first | exact lr _ | assumption | refine ls ?_ ?_ | refine lt ?_ ?_ | simp only [*]; done | simp only [fb, *, not_false_eq_true, and_self]; done | exact lf ‹_› (by simp only [*])) ?_ | refine xj ?_ | refine cv_plain ?_ | ((with_reducible refine And.intro ?_ ?_); omega) | refine bo_buildSlice (d' := ⟨⟩) ?_ | refine xk (by kernel_rfl) ?_ | refine xf ?_ (by repeat' first | exact lr _ | assumption | refine ls ?_ ?_ | refine lt ?_ ?_ | simp only [*]; done | simp only [fb, *, not_false_eq_true, and_self]; done | exact lf ‹_› (by simp only [*])) | refine finish_two ?_ (by repeat' first | exact lr _ | assumption | refine ls ?_ ?_ | refine lt ?_ ?_ | simp only [*]; done | simp only [fb, *, not_false_eq_true, and_self]; done | exact lf ‹_› (by simp only [*])) | simp -dsimp only [↓bp, bq, br, seval, tbScnE, *] | refine cv_any ?_)
    all_goals rfl
  · have n40 : ((40 : Int) < W.length) = False := eq_false (by omega)
    rw [if_neg h40]
    intro σ
    refine Tri.of_awp mixed Tryz.func20 rfl (by kernel_rfl) (by kernel_rfl) (by simp [Tryz.ntmps20]) Tryz.results20 ?_
    simp -dsimp only [↓bp, bq, br, seval, tbScnE]
    refine newW_intro fun b1 h1 => ?_
    simp -dsimp only [↓bp, bq, br, seval, tbScnE]
    refine newT_plain fun b2 h2 => ?_
    simp only [fb] at h2
    replace hwn := hwn (σ.setBox b1 [.str S]) b1 (by simp [AS.setBox])
    clear h40 hs hlen
    repeat' (first | refine xs ?_ ?_ <;> intros | ((first | refine xh ?_ | refine xi ?_); intro bx hbx; (try simp only [fb] at hbx)) | refine Pure.use (q1) ?_ | refine Pure.head (q1) ?_ | refine Pure.use (q2) ?_ | refine Pure.head (q2) ?_ | refine PureC.use (hwn) (by repeat' first | exact lr _ | assumption | refine ls ?_ ?_ | refine lt ?_ ?_ | simp only [*]; done | simp only [fb, *, not_false_eq_true, and_self]; done | exact lf ‹_› (by simp only [*])) ?_ | refine xj ?_ | refine cv_plain ?_ | ((with_reducible refine And.intro ?_ ?_); omega) | refine bo_buildSlice (d' := ⟨⟩) ?_ | refine xk (by kernel_rfl) ?_ | refine xf ?_ (by repeat' first | exact lr _ | assumption | refine ls ?_ ?_ | refine lt ?_ ?_ | simp only [*]; done | simp only [fb, *, not_false_eq_true, and_self]; done | exact lf ‹_› (by simp only [*])) | refine finish_two ?_ (by repeat' first | exact lr _ | assumption | refine ls ?_ ?_ | refine lt ?_ ?_ | simp only [*]; done | simp only [fb, *, not_false_eq_true, and_self]; done | exact lf ‹_› (by simp only [*])) | simp -dsimp only [↓bp, bq, br, seval, tbScnE, *] | refine cv_any ?_)
    all_goals rfl
set_option maxHeartbeats 2000000 in
theorem token_low (hg : GlobS G) (c : UInt8) (r : List UInt8) (hs : (c :: r).length ≤ 1000000000) (hc : lowB c = true) : Pure Tryz.prog G 20 [.str (c :: r)] (tkV (tokS (c :: r))) := by
  have hwn := fun (σ0 : AS) (b : Nat) hb => while_pure G 39 namedB (snamed_pure G) (c :: r) hs σ0 b hb
  have q1 := slow_pure G c
  have q2 := shigh_pure G c
  rw [hc] at q1
  rw [low_high c hc] at q2
  have hx0 : (c :: r)[0]? = some c := rfl
  rw [tokS_cons, low_high c hc, hc]
  simp only [Bool.true_or, if_true, Bool.false_eq_true, if_false]
  have hlen := takeWhile_len (p := namedB) (c :: r)
  generalize c :: r = S at *
  generalize S.takeWhile namedB = W at *
  have hct := contains_pure G scanWords W (by decide)
  have hgw := hg.words
  have hsl := slice_words (g := .none)
  generalize hLL : scanWords.map AV.str = LL at *
  clear hLL
  by_cases h40 : 40 < W.length
  · have n40 : ((40 : Int) < W.length) = True := eq_true (by omega)
    rw [if_pos h40]
    cases e3 : scanWords.contains W <;> rw [e3] at hct
    · intro σ
      refine Tri.of_awp mixed Tryz.func20 rfl (by kernel_rfl) (by kernel_rfl) (by simp [Tryz.ntmps20]) Tryz.results20 ?_
      simp -dsimp only [↓bp, bq, br, seval, tbScnE]
      refine newW_intro fun b1 h1 => ?_
      simp -dsimp only [↓bp, bq, br, seval, tbScnE]
      refine newT_plain fun b2 h2 => ?_
      simp only [fb] at h2
      replace hwn := hwn (σ.setBox b1 [.str S]) b1 (by simp [AS.setBox])
      clear h40 hs hlen e3 hg
      repeat' (first | refine xs ?_ ?_ <;> intros | ((first | refine xh ?_ | refine xi ?_); intro bx hbx; (try simp only [fb] at hbx)) | refine Pure.use (q1) ?_ | refine Pure.head (q1) ?_ | refine Pure.use (q2) ?_ | refine Pure.head (q2) ?_ | refine Pure.use (hct) ?_ | refine Pure.head (hct) ?_ | refine PureC.use (hwn) (by repeat' first | exact lr _ | assumption | refine ls ?_ ?_ | refine lt ?_ ?_ | simp only [*]; done | simp only [fb, *, not_false_eq_true, and_self]; done | exact lf ‹_› (by simp only [*])) ?_ | refine xj ?_ | refine cv_plain ?_ | ((with_reducible refine And.intro ?_ ?_); omega) | refine bo_buildSlice (d' := ⟨⟩) ?_ | refine xk (by kernel_rfl) ?_ | refine xf ?_ (by repeat' first | exact lr _ | assumption | refine ls ?_ ?_ | refine lt ?_ ?_ | simp only [*]; done | simp only [fb, *, not_false_eq_true, and_self]; done | exact lf ‹_› (by simp only [*])) | refine finish_two ?_ (by repeat' first | exact lr _ | assumption | refine ls ?_ ?_ | refine lt ?_ ?_ | simp only [*]; done | simp only [fb, *, not_false_eq_true, and_self]; done | exact lf ‹_› (by simp only [*])) | simp -dsimp only [↓bp, bq, br, seval, tbScnE, *] | refine cv_any ?_)
      all_goals rfl
    · intro σ
      refine Tri.of_awp mixed Tryz.func20 rfl (by kernel_rfl) (by kernel_rfl) (by simp [Tryz.ntmps20]) Tryz.results20 ?_
      simp -dsimp only [↓bp, bq, br, seval, tbScnE]
      refine newW_intro fun b1 h1 => ?_
      simp -dsimp only [↓bp, bq, br, seval, tbScnE]
      refine newT_plain fun b2 h2 => ?_
      simp only [fb] at h2
      replace hwn := hwn (σ.setBox b1 [.str S]) b1 (by simp [AS.setBox])
      clear h40 hs hlen e3 hg
      repeat' (first | refine xs ?_ ?_ <;> intros | ((first | refine xh ?_ | refine xi ?_); intro bx hbx; (try simp only [fb] at hbx)) | refine Pure.use (q1) ?_ | refine Pure.head (q1) ?_ | refine Pure.use (q2) ?_ | refine Pure.head (q2) ?_ | refine Pure.use (hct) ?_ | refine Pure.head (hct) ?_ | refine PureC.use (hwn) (by repeat' first | exact lr _ | assumption | refine ls ?_ ?_ | refine lt ?_ ?_ | simp only [*]; done | simp only [fb, *, not_false_eq_true, and_self]; done | exact lf ‹_› (by simp only [*])) ?_ | refine xj ?_ | refine cv_plain ?_ | ((with_reducible refine And.intro ?_ ?_); omega) | refine bo_buildSlice (d' := ⟨⟩) ?_ | refine xk (by kernel_rfl) ?_ | refine xf ?_ (by repeat' first | exact lr _ | assumption | refine ls ?_ ?_ | refine lt ?_ ?_ | simp only [*]; done | simp only [fb, *, not_false_eq_true, and_self]; done | exact lf ‹_› (by simp only [*])) | refine finish_two ?_ (by repeat' first | exact lr _ | assumption | refine ls ?_ ?_ | refine lt ?_ ?_ | simp only [*]; done | simp only [fb, *, not_false_eq_true, and_self]; done | exact lf ‹_› (by simp only [*])) | simp -dsimp only [↓bp, bq, br, seval, tbScnE, *] | refine cv_any ?_)
      all_goals rfl
  · have n40 : ((40 : Int) < W.length) = False := eq_false (by omega)
    rw [if_neg h40]
    cases e3 : scanWords.contains W <;> rw [e3] at hct
    · simp only [Bool.false_eq_true, if_false]
      intro σ
      refine Tri.of_awp mixed Tryz.func20 rfl (by kernel_rfl) (by kernel_rfl) (by simp [Tryz.ntmps20]) Tryz.results20 ?_
      simp -dsimp only [↓bp, bq, br, seval, tbScnE]
      refine newW_intro fun b1 h1 => ?_
      simp -dsimp only [↓bp, bq, br, seval, tbScnE]
      refine newT_plain fun b2 h2 => ?_
      simp only [fb] at h2
      replace hwn := hwn (σ.setBox b1 [.str S]) b1 (by simp [AS.setBox])
      clear h40 hs hlen e3 hg
      repeat' (first | refine xs ?_ ?_ <;> intros | ((first | refine xh ?_ | refine xi ?_); intro bx hbx; (try simp only [fb] at hbx)) | refine Pure.use (q1) ?_ | refine Pure.head (q1) ?_ | refine Pure.use (q2) ?_ | refine Pure.head (q2) ?_ | refine Pure.use (hct) ?_ | refine Pure.head (hct) ?_ | refine PureC.use (hwn) (by repeat' first | exact lr _ | assumption | refine ls ?_ ?_ | refine lt ?_ ?_ | simp only [*]; done | simp only [fb, *, not_false_eq_true, and_self]; done | exact lf ‹_› (by simp only [*])) ?_ | refine xj ?_ | refine cv_plain ?_ | ((with_reducible refine And.intro ?_ ?_); omega) | refine bo_buildSlice (d' := ⟨⟩) ?_ | refine xk (by kernel_rfl) ?_ | refine xf ?_ (by repeat' first | exact lr _ | assumption | refine ls ?_ ?_ | refine lt ?_ ?_ | simp only [*]; done | simp only [fb, *, not_false_eq_true, and_self]; done | exact lf ‹_› (by simp only [*])) | refine finish_two ?_ (by repeat' first | exact lr _ | assumption | refine ls ?_ ?_ | refine lt ?_ ?_ | simp only [*]; done | simp only [fb, *, not_false_eq_true, and_self]; done | exact lf ‹_› (by simp only [*])) | simp -dsimp only [↓bp, bq, br, seval, tbScnE, *] | refine cv_any ?_)
      all_goals rfl
    · simp only [if_true]
      intro σ
      refine Tri.of_awp mixed Tryz.func20 rfl (by kernel_rfl) (by kernel_rfl) (by simp [Tryz.ntmps20]) Tryz.results20 ?_
      simp -dsimp only [↓bp, bq, br, seval, tbScnE]
      refine newW_intro fun b1 h1 => ?_
      simp -dsimp only [↓bp, bq, br, seval, tbScnE]
      refine newT_plain fun b2 h2 => ?_
      simp only [fb] at h2
      replace hwn := hwn (σ.setBox b1 [.str S]) b1 (by simp [AS.setBox])
      clear h40 hs hlen e3 hg
      repeat' (first | refine xs ?_ ?_ <;> intros | ((first | refine xh ?_ | refine xi ?_); intro bx hbx; (try simp only [fb] at hbx)) | refine Pure.use (q1) ?_ | refine Pure.head (q1) ?_ | refine Pure.use (q2) ?_ | refine Pure.head (q2) ?_ | refine Pure.use (hct) ?_ | refine Pure.head (hct) ?_ | refine PureC.use (hwn) (by repeat' first | exact lr _ | assumption | refine ls ?_ ?_ | refine lt ?_ ?_ | simp only [*]; done | simp only [fb, *, not_false_eq_true, and_self]; done | exact lf ‹_› (by simp only [*])) ?_ | refine xj ?_ | refine cv_plain ?_ | ((with_reducible refine And.intro ?_ ?_); omega) | refine bo_buildSlice (d' := ⟨⟩) ?_ | refine xk (by kernel_rfl) ?_ | refine xf ?_ (by repeat' first | exact lr _ | assumption | refine ls ?_ ?_ | refine lt ?_ ?_ | simp only [*]; done | simp only [fb, *, not_false_eq_true, and_self]; done | exact lf ‹_› (by simp only [*])) | refine finish_two ?_ (by repeat' first | exact lr _ | assumption | refine ls ?_ ?_ | refine lt ?_ ?_ | simp only [*]; done | simp only [fb, *, not_false_eq_true, and_self]; done | exact lf ‹_› (by simp only [*])) | simp -dsimp only [↓bp, bq, br, seval, tbScnE, *] | refine cv_any ?_)
      all_goals rfl
set_option maxHeartbeats 2000000 in
theorem token_digit (c : UInt8) (r : List UInt8) (hs : (c :: r).length ≤ 1000000000) (h0 : (lowB c || highB c) = false) (hc : digitB c = true) : Pure Tryz.prog G 20 [.str (c :: r)] (tkV (tokS (c :: r))) := by
  have hwn := fun (σ0 : AS) (b : Nat) hb => while_pure G 39 namedB (snamed_pure G) (c :: r) hs σ0 b hb
  have hwd := fun (σ0 : AS) (b : Nat) hb => while_pure G 41 digitB (sdigit_pure G) (c :: r) hs σ0 b hb
  have q1 := slow_pure G c
  have q2 := shigh_pure G c
  have q3 := sdigit_pure G c
  simp only [Bool.or_eq_false_iff] at h0
  rw [h0.1] at q1
  rw [h0.2] at q2
  rw [hc] at q3
  have hx0 : (c :: r)[0]? = some c := rfl
  rw [tokS_cons, h0.1, h0.2, hc]
  simp only [Bool.or_self, Bool.false_eq_true, if_false, if_true]
  have hlen := takeWhile_len (p := namedB) (c :: r)
  have hlen2 := takeWhile_len (p := digitB) (c :: r)
  generalize c :: r = S at *
  generalize S.takeWhile namedB = W at *
  generalize S.takeWhile digitB = D at *
  by_cases h4 : 400 < D.length
  · have n4 : ((400 : Int) < D.length) = True := eq_true (by omega)
    rw [if_pos (.inl h4)]
    intro σ
    refine Tri.of_awp mixed Tryz.func20 rfl (by kernel_rfl) (by kernel_rfl) (by simp [Tryz.ntmps20]) Tryz.results20 ?_
    simp -dsimp only [↓bp, bq, br, seval, tbScnE]
    refine newW_intro fun b1 h1 => ?_
    simp -dsimp only [↓bp, bq, br, seval, tbScnE]
    refine newT_plain fun b2 h2 => ?_
    simp only [fb] at h2
    replace hwn := hwn (σ.setBox b1 [.str S]) b1 (by simp [AS.setBox])
    replace hwd := hwd (σ.setBox b1 [.str S]) b1 (by simp [AS.setBox])
    clear h4 hs hlen hlen2 h0
    repeat' (first | refine xs ?_ ?_ <;> intros | ((first | refine xh ?_ | refine xi ?_); intro bx hbx; (try simp only [fb] at hbx)) | refine Pure.use (q1) ?_ | refine Pure.head (q1) ?_ | refine Pure.use (q2) ?_ | refine Pure.head (q2) ?_ | refine Pure.use (q3) ?_ | refine Pure.head (q3) ?_ | refine PureC.use (hwd) (by repeat' first | exact lr _ | assumption | refine ls ?_ ?_ | refine lt ?_ ?_ | simp only [*]; done | simp only [fb, *, not_false_eq_true, and_self]; done | exact lf ‹_› (by simp only [*])) ?_ | refine PureC.use (hwn) (by repeat' first | exact lr _ | assumption | refine ls ?_ ?_ | refine lt ?_ ?_ | simp only [*]; done | simp only [fb, *, not_false_eq_true, and_self]; done | exact lf ‹_› (by simp only [*])) ?_ | refine xj ?_ | refine cv_plain ?_ | ((with_reducible refine And.intro ?_ ?_); omega) | refine bo_buildSlice (d' := ⟨⟩) ?_ | refine xk (by kernel_rfl) ?_ | refine xf ?_ (by repeat' first | exact lr _ | assumption | refine ls ?_ ?_ | refine lt ?_ ?_ | simp only [*]; done | simp only [fb, *, not_false_eq_true, and_self]; done | exact lf ‹_› (by simp only [*])) | refine finish_two ?_ (by repeat' first | exact lr _ | assumption | refine ls ?_ ?_ | refine lt ?_ ?_ | simp only [*]; done | simp only [fb, *, not_false_eq_true, and_self]; done | exact lf ‹_› (by simp only [*])) | simp -dsimp only [↓bp, bq, br, seval, tbScnE, *] | refine cv_any ?_)
    all_goals rfl
  · have n4 : ((400 : Int) < D.length) = False := eq_false (by omega)
    by_cases h5 : D.length < W.length
    · have n5 : ((D.length : Int) < W.length) = True := eq_true (by omega)
      rw [if_pos (.inr h5)]
      intro σ
      refine Tri.of_awp mixed Tryz.func20 rfl (by kernel_rfl) (by kernel_rfl) (by simp [Tryz.ntmps20]) Tryz.results20 ?_
      simp -dsimp only [↓bp, bq, br, seval, tbScnE]
      refine newW_intro fun b1 h1 => ?_
      simp -dsimp only [↓bp, bq, br, seval, tbScnE]
      refine newT_plain fun b2 h2 => ?_
      simp only [fb] at h2
      replace hwn := hwn (σ.setBox b1 [.str S]) b1 (by simp [AS.setBox])
      replace hwd := hwd (σ.setBox b1 [.str S]) b1 (by simp [AS.setBox])
      clear h4 h5 hs hlen hlen2 h0
      repeat' (first | refine xs ?_ ?_ <;> intros | ((first | refine xh ?_ | refine xi ?_); intro bx hbx; (try simp only [fb] at hbx)) | refine Pure.use (q1) ?_ | refine Pure.head (q1) ?_ | refine Pure.use (q2) ?_ | refine Pure.head (q2) ?_ | refine Pure.use (q3) ?_ | refine Pure.head (q3) ?_ | refine PureC.use (hwd) (by repeat' first | exact lr _ | assumption | refine ls ?_ ?_ | refine lt ?_ ?_ | simp only [*]; done | simp only [fb, *, not_false_eq_true, and_self]; done | exact lf ‹_› (by simp only [*])) ?_ | refine PureC.use (hwn) (by repeat' first | exact lr _ | assumption | refine ls ?_ ?_ | refine lt ?_ ?_ | simp only [*]; done | simp only [fb, *, not_false_eq_true, and_self]; done | exact lf ‹_› (by simp only [*])) ?_ | refine xj ?_ | refine cv_plain ?_ | ((with_reducible refine And.intro ?_ ?_); omega) | refine bo_buildSlice (d' := ⟨⟩) ?_ | refine xk (by kernel_rfl) ?_ | refine xf ?_ (by repeat' first | exact lr _ | assumption | refine ls ?_ ?_ | refine lt ?_ ?_ | simp only [*]; done | simp only [fb, *, not_false_eq_true, and_self]; done | exact lf ‹_› (by simp only [*])) | refine finish_two ?_ (by repeat' first | exact lr _ | assumption | refine ls ?_ ?_ | refine lt ?_ ?_ | simp only [*]; done | simp only [fb, *, not_false_eq_true, and_self]; done | exact lf ‹_› (by simp only [*])) | simp -dsimp only [↓bp, bq, br, seval, tbScnE, *] | refine cv_any ?_)
      all_goals rfl
    · have n5 : ((D.length : Int) < W.length) = False := eq_false (by omega)
      rw [if_neg (by omega)]
      intro σ
      refine Tri.of_awp mixed Tryz.func20 rfl (by kernel_rfl) (by kernel_rfl) (by simp [Tryz.ntmps20]) Tryz.results20 ?_
      simp -dsimp only [↓bp, bq, br, seval, tbScnE]
      refine newW_intro fun b1 h1 => ?_
      simp -dsimp only [↓bp, bq, br, seval, tbScnE]
      refine newT_plain fun b2 h2 => ?_
      simp only [fb] at h2
      replace hwn := hwn (σ.setBox b1 [.str S]) b1 (by simp [AS.setBox])
      replace hwd := hwd (σ.setBox b1 [.str S]) b1 (by simp [AS.setBox])
      clear h4 h5 hs hlen hlen2 h0
      repeat' (first | refine xs ?_ ?_ <;> intros | ((first | refine xh ?_ | refine xi ?_); intro bx hbx; (try simp only [fb] at hbx)) | refine Pure.use (q1) ?_ | refine Pure.head (q1) ?_ | refine Pure.use (q2) ?_ | refine Pure.head (q2) ?_ | refine Pure.use (q3) ?_ | refine Pure.head (q3) ?_ | refine PureC.use (hwd) (by repeat' first | exact lr _ | assumption | refine ls ?_ ?_ | refine lt ?_ ?_ | simp only [*]; done | simp only [fb, *, not_false_eq_true, and_self]; done | exact lf ‹_› (by simp only [*])) ?_ | refine PureC.use (hwn) (by repeat' first | exact lr _ | assumption | refine ls ?_ ?_ | refine lt ?_ ?_ | simp only [*]; done | simp only [fb, *, not_false_eq_true, and_self]; done | exact lf ‹_› (by simp only [*])) ?_ | refine xj ?_ | refine cv_plain ?_ | ((with_reducible refine And.intro ?_ ?_); omega) | refine bo_buildSlice (d' := ⟨⟩) ?_ | refine xk (by kernel_rfl) ?_ | refine xf ?_ (by repeat' first | exact lr _ | assumption | refine ls ?_ ?_ | refine lt ?_ ?_ | simp only [*]; done | simp only [fb, *, not_false_eq_true, and_self]; done | exact lf ‹_› (by simp only [*])) | refine finish_two ?_ (by repeat' first | exact lr _ | assumption | refine ls ?_ ?_ | refine lt ?_ ?_ | simp only [*]; done | simp only [fb, *, not_false_eq_true, and_self]; done | exact lf ‹_› (by simp only [*])) | simp -dsimp only [↓bp, bq, br, seval, tbScnE, *] | refine cv_any ?_)
      all_goals rfl
end
end Go.Proofs.YtldmniappliepaaGreatDoor
