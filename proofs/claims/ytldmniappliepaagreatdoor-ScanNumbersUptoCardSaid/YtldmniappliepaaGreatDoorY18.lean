/- The document's words and signs; the token of a name. -/
import Derived.Test.YtldmniappliepaaGreatDoorY15
import Derived.Test.YtldmniappliepaaGreatDoorY17
set_option linter.unusedVariables false
set_option linter.unusedSimpArgs false
set_option maxRecDepth 20000
set_option linter.defProp false
namespace Go.Proofs.YtldmniappliepaaGreatDoor
open Go Go.Av
section
def tbRScD := And.intro (And.intro (And.intro @tf3 @tf4) (And.intro @tf5 @tf9)) (And.intro (And.intro @tf33 @tf43) (And.intro @tf41 (And.intro @ares_tmpc @ares_cellc)))
variable (G : Nat → AV)
theorem rwords_pure : Pure Tryz.prog G 14 [] (texts scanWords) := by
  refine Pure.of_le fun σ => ?_
  refine Tri.of_awp mixed Tryz.func14 rfl (by kernel_rfl) (by kernel_rfl) (by simp [Tryz.ntmps14]) Tryz.results14 ?_
  repeat' (first | refine xs ?_ ?_ <;> intros | ((first | refine xh ?_ | refine xi ?_); intro bx hbx; (try simp only [fb] at hbx)) | refine xj ?_ | refine cv_plain ?_ | ((with_reducible refine And.intro ?_ ?_); omega) | refine bo_buildSlice (d' := ⟨⟩) ?_ | refine xk (by kernel_rfl) ?_ | refine xf ?_ (by repeat' first | exact lr _ | assumption | refine ls ?_ ?_ | refine lt ?_ ?_ | simp only [*]; done | simp only [fb, *, not_false_eq_true, and_self]; done | exact lf ‹_› (by simp only [*])) | refine finish_two ?_ (by repeat' first | exact lr _ | assumption | refine ls ?_ ?_ | refine lt ?_ ?_ | simp only [*]; done | simp only [fb, *, not_false_eq_true, and_self]; done | exact lf ‹_› (by simp only [*])) | simp -dsimp only [↓bp, bq, br, seval, tbRScD, *] | refine cv_any ?_)
  all_goals exact finish_le (Le.gh) (AS.le.refl _)
theorem rsigns_pure : Pure Tryz.prog G 50 [] (texts scanSigns) := by
  refine Pure.of_le fun σ => ?_
  refine Tri.of_awp mixed Tryz.func50 rfl (by kernel_rfl) (by kernel_rfl) (by simp [Tryz.ntmps50]) Tryz.results50 ?_
  repeat' (first | refine xs ?_ ?_ <;> intros | ((first | refine xh ?_ | refine xi ?_); intro bx hbx; (try simp only [fb] at hbx)) | refine xj ?_ | refine cv_plain ?_ | ((with_reducible refine And.intro ?_ ?_); omega) | refine bo_buildSlice (d' := ⟨⟩) ?_ | refine xk (by kernel_rfl) ?_ | refine xf ?_ (by repeat' first | exact lr _ | assumption | refine ls ?_ ?_ | refine lt ?_ ?_ | simp only [*]; done | simp only [fb, *, not_false_eq_true, and_self]; done | exact lf ‹_› (by simp only [*])) | refine finish_two ?_ (by repeat' first | exact lr _ | assumption | refine ls ?_ ?_ | refine lt ?_ ?_ | simp only [*]; done | simp only [fb, *, not_false_eq_true, and_self]; done | exact lf ‹_› (by simp only [*])) | simp -dsimp only [↓bp, bq, br, seval, tbRScD, *] | refine cv_any ?_)
  all_goals exact finish_le (Le.gh) (AS.le.refl _)
theorem rword_pure (W : List UInt8) : Pure Tryz.prog G 82 [.str W] (.bool (scanWords.contains W)) := by
  have hw0 := rwords_pure G
  have hL : scanWords.length ≤ 1000 := by decide
  generalize scanWords = L at *
  intro σ
  refine Tri.of_awp mixed Tryz.func82 rfl (by kernel_rfl) (by kernel_rfl) (by simp [Tryz.ntmps82]) Tryz.results82 ?_
  repeat' (first | refine xs ?_ ?_ <;> intros | ((first | refine xh ?_ | refine xi ?_); intro bx hbx; (try simp only [fb] at hbx)) | refine Pure.use (hw0) ?_ | refine Pure.head (hw0) ?_ | refine xj ?_ | refine cv_plain ?_ | ((with_reducible refine And.intro ?_ ?_); omega) | refine bo_buildSlice (d' := ⟨⟩) ?_ | refine xk (by kernel_rfl) ?_ | refine xf ?_ (by repeat' first | exact lr _ | assumption | refine ls ?_ ?_ | refine lt ?_ ?_ | simp only [*]; done | simp only [fb, *, not_false_eq_true, and_self]; done | exact lf ‹_› (by simp only [*])) | refine finish_two ?_ (by repeat' first | exact lr _ | assumption | refine ls ?_ ?_ | refine lt ?_ ?_ | simp only [*]; done | simp only [fb, *, not_false_eq_true, and_self]; done | exact lf ‹_› (by simp only [*])) | simp -dsimp only [↓bp, bq, br, seval, tbRScD, len_texts, ix_texts, *] | refine cv_any ?_)
  refine loop_keep mixed (fun n e => ∃ i : Nat, i ≤ L.length ∧ n = L.length - i ∧ e 4 = .int .i64 i ∧ (L.take i).contains W = false) L.length
    ⟨0, by omega, by omega, by simp -dsimp only [↓bp, bq, br, seval, tbRScD]; first | done | rfl, by simp⟩ ?_
  rintro n v ⟨i, hi, rfl, h4, hx⟩
  simp -dsimp only [↓bp, bq, br, seval, tbRScD] at h4
  by_cases hlt : (i : Int) < L.length
  · obtain ⟨k, hk⟩ : ∃ k, L[i]? = some k := ⟨_, List.getElem?_eq_getElem (by omega)⟩
    have hlt' := eq_true hlt
    have hw : IntKind.i64.wrap ((i : Int) + 1) = ((i + 1 : Nat) : Int) := by rw [wrap_nat (by omega) (by omega)]; rfl
    by_cases hkW : k = W
    · have hc : L.contains W = true := by
        rw [List.contains_iff_mem, ← hkW]; exact List.mem_of_getElem? hk
      rw [hc]
      have hkW' := eq_true hkW
      clear hx hkW hc
      repeat' (first | refine xs ?_ ?_ <;> intros | ((first | refine xh ?_ | refine xi ?_); intro bx hbx; (try simp only [fb] at hbx)) | refine xj ?_ | refine cv_plain ?_ | ((with_reducible refine And.intro ?_ ?_); omega) | refine bo_buildSlice (d' := ⟨⟩) ?_ | refine xk (by kernel_rfl) ?_ | refine xf ?_ (by repeat' first | exact lr _ | assumption | refine ls ?_ ?_ | refine lt ?_ ?_ | simp only [*]; done | simp only [fb, *, not_false_eq_true, and_self]; done | exact lf ‹_› (by simp only [*])) | refine finish_two ?_ (by repeat' first | exact lr _ | assumption | refine ls ?_ ?_ | refine lt ?_ ?_ | simp only [*]; done | simp only [fb, *, not_false_eq_true, and_self]; done | exact lf ‹_› (by simp only [*])) | simp -dsimp only [↓bp, bq, br, seval, tbRScD, len_texts, ix_texts, *] | refine cv_any ?_)
      all_goals rfl
    · have hn : (L.take (i + 1)).contains W = false := by
        rw [take_succ_get _ _ _ hk]
        rw [Bool.eq_false_iff] at hx ⊢
        intro h
        rw [List.contains_iff_mem, List.mem_append, List.mem_singleton] at h
        rcases h with h | h
        · exact hx (List.contains_iff_mem.2 h)
        · exact hkW h.symm
      have hkW' := eq_false hkW
      clear hx hkW
      repeat' (first | refine xs ?_ ?_ <;> intros | ((first | refine xh ?_ | refine xi ?_); intro bx hbx; (try simp only [fb] at hbx)) | refine xj ?_ | refine cv_plain ?_ | ((with_reducible refine And.intro ?_ ?_); omega) | refine bo_buildSlice (d' := ⟨⟩) ?_ | refine xk (by kernel_rfl) ?_ | refine xf ?_ (by repeat' first | exact lr _ | assumption | refine ls ?_ ?_ | refine lt ?_ ?_ | simp only [*]; done | simp only [fb, *, not_false_eq_true, and_self]; done | exact lf ‹_› (by simp only [*])) | refine finish_two ?_ (by repeat' first | exact lr _ | assumption | refine ls ?_ ?_ | refine lt ?_ ?_ | simp only [*]; done | simp only [fb, *, not_false_eq_true, and_self]; done | exact lf ‹_› (by simp only [*])) | simp -dsimp only [↓bp, bq, br, seval, tbRScD, len_texts, ix_texts, *] | refine cv_any ?_)
      all_goals (have hlt := of_eq_true hlt')
      all_goals exact ⟨L.length - (i + 1), by omega, i + 1, by omega, rfl, rfl, hn⟩
  · have : i = L.length := by omega
    subst this
    rw [List.take_length] at hx
    rw [hx]
    have hlt' := eq_false hlt
    clear hx hlt hi
    repeat' (first | refine xs ?_ ?_ <;> intros | ((first | refine xh ?_ | refine xi ?_); intro bx hbx; (try simp only [fb] at hbx)) | refine xj ?_ | refine cv_plain ?_ | ((with_reducible refine And.intro ?_ ?_); omega) | refine bo_buildSlice (d' := ⟨⟩) ?_ | refine xk (by kernel_rfl) ?_ | refine xf ?_ (by repeat' first | exact lr _ | assumption | refine ls ?_ ?_ | refine lt ?_ ?_ | simp only [*]; done | simp only [fb, *, not_false_eq_true, and_self]; done | exact lf ‹_› (by simp only [*])) | refine finish_two ?_ (by repeat' first | exact lr _ | assumption | refine ls ?_ ?_ | refine lt ?_ ?_ | simp only [*]; done | simp only [fb, *, not_false_eq_true, and_self]; done | exact lf ‹_› (by simp only [*])) | simp -dsimp only [↓bp, bq, br, seval, tbRScD, len_texts, ix_texts, *] | refine cv_any ?_)
    all_goals rfl
def nmV (i0 : Nat) (W : List UInt8) (k : Nat) : AV := if 40 < W.length then .tup [.agg [.int .u8 0, .str [], .int .i64 0], .int .i64 0] else .tup [.agg [.int .u8 k, .str W, .int .i64 i0], .int .i64 (i0 + W.length : Nat)]
theorem take_drop_sub (s : List UInt8) (i0 i : Nat) : (s.take i).drop i0 = (s.drop i0).take (i - i0) := by rw [List.drop_take]
set_option maxHeartbeats 4000000 in
theorem rname_aux (s : List UInt8) (i0 : Nat) (c : UInt8) (h0 : s[i0]? = some c) (hs : s.length ≤ 1000000) (W : List UInt8) (hW0 : W = (s.drop i0).takeWhile namedB) (hb wb : Bool) (q2 : Pure Tryz.prog G 45 [.int .u8 c.toNat] (.bool hb)) (q3 : Pure Tryz.prog G 82 [.str W] (.bool wb)) : Pure Tryz.prog G 46 [.str s, .int .i64 i0] (nmV i0 W (if hb then 3 else if wb then 6 else 2)) := by
  have hil := (List.getElem?_eq_some_iff.1 h0).1
  have hnm := rnamed_pure G
  intro σ
  refine Tri.of_awp mixed Tryz.func46 rfl (by kernel_rfl) (by kernel_rfl) (by simp [Tryz.ntmps46]) Tryz.results46 ?_
  repeat' (first | refine xs ?_ ?_ <;> intros | ((first | refine xh ?_ | refine xi ?_); intro bx hbx; (try simp only [fb] at hbx)) | refine xj ?_ | refine cv_plain ?_ | ((with_reducible refine And.intro ?_ ?_); omega) | refine bo_buildSlice (d' := ⟨⟩) ?_ | refine xk (by kernel_rfl) ?_ | refine xf ?_ (by repeat' first | exact lr _ | assumption | refine ls ?_ ?_ | refine lt ?_ ?_ | simp only [*]; done | simp only [fb, *, not_false_eq_true, and_self]; done | exact lf ‹_› (by simp only [*])) | refine finish_two ?_ (by repeat' first | exact lr _ | assumption | refine ls ?_ ?_ | refine lt ?_ ?_ | simp only [*]; done | simp only [fb, *, not_false_eq_true, and_self]; done | exact lf ‹_› (by simp only [*])) | simp -dsimp only [↓bp, bq, br, seval, tbRScD, *] | refine cv_any ?_)
  refine loop_keep mixed (fun n e => ∃ i : Nat, i0 ≤ i ∧ i ≤ s.length ∧ n = s.length - i ∧ e 6 = .int .i64 i ∧ ∀ x, x ∈ (s.drop i0).take (i - i0) → namedB x = true) (s.length - i0)
    ⟨i0, by omega, by omega, by omega, by simp -dsimp only [↓bp, bq, br, seval, tbRScD]; first | done | rfl, by simp⟩ ?_
  rintro n v ⟨i, hi0, hi, rfl, h6, hx⟩
  simp -dsimp only [↓bp, bq, br, seval, tbRScD] at h6
  by_cases hlt : (i : Int) < s.length
  · obtain ⟨d, hd⟩ : ∃ d, s[i]? = some d := ⟨_, List.getElem?_eq_getElem (by omega)⟩
    have hlt' := eq_true hlt
    have hw : IntKind.i64.wrap ((i : Int) + 1) = ((i + 1 : Nat) : Int) := by rw [wrap_nat (by omega) (by omega)]; rfl
    have hnd := hnm d
    have hdd : (s.drop i0)[i - i0]? = some d := by rw [List.getElem?_drop, show i0 + (i - i0) = i by omega]; exact hd
    cases hp : namedB d
    · rw [hp] at hnd
      have hW : W = (s.drop i0).take (i - i0) := by
        rw [hW0]; exact take_tw _ _ hx (by rw [List.length_drop]; omega) (fun e he => by rw [hdd] at he; cases he; exact hp)
      have hWl : W.length = i - i0 := by rw [hW, List.length_take, List.length_drop]; omega
      have hsl : (s.take i).drop i0 = W := by rw [take_drop_sub, hW]
      have hle1 : (i0 ≤ i) = True := eq_true hi0
      have hle2 : (i ≤ s.length) = True := eq_true hi
      have hw9 : IntKind.i64.wrap ((i : Int) - (i0 : Int)) = (W.length : Int) := by rw [hWl, wrap_nat (by omega) (by omega)]; omega
      have hend : ((i0 + W.length : Nat) : Int) = (i : Int) := by omega
      clear hW0
      by_cases h40 : 40 < W.length
      · have n40 : ((40 : Int) < W.length) = True := eq_true (by omega)
        unfold nmV
        rw [if_pos h40]
        clear h40 hx hdd hW hWl hnm hlt hi hi0 hp hil hend
        cases hb
        · cases wb
          · repeat' (first | refine xs ?_ ?_ <;> intros | ((first | refine xh ?_ | refine xi ?_); intro bx hbx; (try simp only [fb] at hbx)) | refine Pure.use (hnd) ?_ | refine Pure.head (hnd) ?_ | refine Pure.use (q2) ?_ | refine Pure.head (q2) ?_ | refine Pure.use (q3) ?_ | refine Pure.head (q3) ?_ | refine xj ?_ | refine cv_plain ?_ | ((with_reducible refine And.intro ?_ ?_); omega) | refine bo_buildSlice (d' := ⟨⟩) ?_ | refine xk (by kernel_rfl) ?_ | refine xf ?_ (by repeat' first | exact lr _ | assumption | refine ls ?_ ?_ | refine lt ?_ ?_ | simp only [*]; done | simp only [fb, *, not_false_eq_true, and_self]; done | exact lf ‹_› (by simp only [*])) | refine finish_two ?_ (by repeat' first | exact lr _ | assumption | refine ls ?_ ?_ | refine lt ?_ ?_ | simp only [*]; done | simp only [fb, *, not_false_eq_true, and_self]; done | exact lf ‹_› (by simp only [*])) | simp -dsimp only [↓bp, bq, br, seval, tbRScD, *] | refine cv_any ?_)
            all_goals rfl
          · repeat' (first | refine xs ?_ ?_ <;> intros | ((first | refine xh ?_ | refine xi ?_); intro bx hbx; (try simp only [fb] at hbx)) | refine Pure.use (hnd) ?_ | refine Pure.head (hnd) ?_ | refine Pure.use (q2) ?_ | refine Pure.head (q2) ?_ | refine Pure.use (q3) ?_ | refine Pure.head (q3) ?_ | refine xj ?_ | refine cv_plain ?_ | ((with_reducible refine And.intro ?_ ?_); omega) | refine bo_buildSlice (d' := ⟨⟩) ?_ | refine xk (by kernel_rfl) ?_ | refine xf ?_ (by repeat' first | exact lr _ | assumption | refine ls ?_ ?_ | refine lt ?_ ?_ | simp only [*]; done | simp only [fb, *, not_false_eq_true, and_self]; done | exact lf ‹_› (by simp only [*])) | refine finish_two ?_ (by repeat' first | exact lr _ | assumption | refine ls ?_ ?_ | refine lt ?_ ?_ | simp only [*]; done | simp only [fb, *, not_false_eq_true, and_self]; done | exact lf ‹_› (by simp only [*])) | simp -dsimp only [↓bp, bq, br, seval, tbRScD, *] | refine cv_any ?_)
            all_goals rfl
        · repeat' (first | refine xs ?_ ?_ <;> intros | ((first | refine xh ?_ | refine xi ?_); intro bx hbx; (try simp only [fb] at hbx)) | refine Pure.use (hnd) ?_ | refine Pure.head (hnd) ?_ | refine Pure.use (q2) ?_ | refine Pure.head (q2) ?_ | refine Pure.use (q3) ?_ | refine Pure.head (q3) ?_ | refine xj ?_ | refine cv_plain ?_ | ((with_reducible refine And.intro ?_ ?_); omega) | refine bo_buildSlice (d' := ⟨⟩) ?_ | refine xk (by kernel_rfl) ?_ | refine xf ?_ (by repeat' first | exact lr _ | assumption | refine ls ?_ ?_ | refine lt ?_ ?_ | simp only [*]; done | simp only [fb, *, not_false_eq_true, and_self]; done | exact lf ‹_› (by simp only [*])) | refine finish_two ?_ (by repeat' first | exact lr _ | assumption | refine ls ?_ ?_ | refine lt ?_ ?_ | simp only [*]; done | simp only [fb, *, not_false_eq_true, and_self]; done | exact lf ‹_› (by simp only [*])) | simp -dsimp only [↓bp, bq, br, seval, tbRScD, *] | refine cv_any ?_)
          all_goals rfl
      · have n40 : ((40 : Int) < W.length) = False := eq_false (by omega)
        unfold nmV
        rw [if_neg h40, hend]
        clear h40 hx hdd hW hWl hnm hlt hi hi0 hp hil hend
        cases hb
        · cases wb
          · repeat' (first | refine xs ?_ ?_ <;> intros | ((first | refine xh ?_ | refine xi ?_); intro bx hbx; (try simp only [fb] at hbx)) | refine Pure.use (hnd) ?_ | refine Pure.head (hnd) ?_ | refine Pure.use (q2) ?_ | refine Pure.head (q2) ?_ | refine Pure.use (q3) ?_ | refine Pure.head (q3) ?_ | refine xj ?_ | refine cv_plain ?_ | ((with_reducible refine And.intro ?_ ?_); omega) | refine bo_buildSlice (d' := ⟨⟩) ?_ | refine xk (by kernel_rfl) ?_ | refine xf ?_ (by repeat' first | exact lr _ | assumption | refine ls ?_ ?_ | refine lt ?_ ?_ | simp only [*]; done | simp only [fb, *, not_false_eq_true, and_self]; done | exact lf ‹_› (by simp only [*])) | refine finish_two ?_ (by repeat' first | exact lr _ | assumption | refine ls ?_ ?_ | refine lt ?_ ?_ | simp only [*]; done | simp only [fb, *, not_false_eq_true, and_self]; done | exact lf ‹_› (by simp only [*])) | simp -dsimp only [↓bp, bq, br, seval, tbRScD, *] | refine cv_any ?_)
            all_goals rfl
          · repeat' (first | refine xs ?_ ?_ <;> intros | ((first | refine xh ?_ | refine xi ?_); intro bx hbx; (try simp only [fb] at hbx)) | refine Pure.use (hnd) ?_ | refine Pure.head (hnd) ?_ | refine Pure.use (q2) ?_ | refine Pure.head (q2) ?_ | refine Pure.use (q3) ?_ | refine Pure.head (q3) ?_ | refine xj ?_ | refine cv_plain ?_ | ((with_reducible refine And.intro ?_ ?_); omega) | refine bo_buildSlice (d' := ⟨⟩) ?_ | refine xk (by kernel_rfl) ?_ | refine xf ?_ (by repeat' first | exact lr _ | assumption | refine ls ?_ ?_ | refine lt ?_ ?_ | simp only [*]; done | simp only [fb, *, not_false_eq_true, and_self]; done | exact lf ‹_› (by simp only [*])) | refine finish_two ?_ (by repeat' first | exact lr _ | assumption | refine ls ?_ ?_ | refine lt ?_ ?_ | simp only [*]; done | simp only [fb, *, not_false_eq_true, and_self]; done | exact lf ‹_› (by simp only [*])) | simp -dsimp only [↓bp, bq, br, seval, tbRScD, *] | refine cv_any ?_)
            all_goals rfl
        · repeat' (first | refine xs ?_ ?_ <;> intros | ((first | refine xh ?_ | refine xi ?_); intro bx hbx; (try simp only [fb] at hbx)) | refine Pure.use (hnd) ?_ | refine Pure.head (hnd) ?_ | refine Pure.use (q2) ?_ | refine Pure.head (q2) ?_ | refine Pure.use (q3) ?_ | refine Pure.head (q3) ?_ | refine xj ?_ | refine cv_plain ?_ | ((with_reducible refine And.intro ?_ ?_); omega) | refine bo_buildSlice (d' := ⟨⟩) ?_ | refine xk (by kernel_rfl) ?_ | refine xf ?_ (by repeat' first | exact lr _ | assumption | refine ls ?_ ?_ | refine lt ?_ ?_ | simp only [*]; done | simp only [fb, *, not_false_eq_true, and_self]; done | exact lf ‹_› (by simp only [*])) | refine finish_two ?_ (by repeat' first | exact lr _ | assumption | refine ls ?_ ?_ | refine lt ?_ ?_ | simp only [*]; done | simp only [fb, *, not_false_eq_true, and_self]; done | exact lf ‹_› (by simp only [*])) | simp -dsimp only [↓bp, bq, br, seval, tbRScD, *] | refine cv_any ?_)
          all_goals rfl
    · rw [hp] at hnd
      have hx2 : ∀ x, x ∈ (s.drop i0).take (i + 1 - i0) → namedB x = true := fun x hm => by
        rw [show i + 1 - i0 = (i - i0) + 1 by omega, take_succ_get _ _ _ hdd, List.mem_append, List.mem_singleton] at hm
        rcases hm with hm | rfl
        · exact hx x hm
        · exact hp
      clear hx hp hdd hnm hlt hil
      repeat' (first | refine xs ?_ ?_ <;> intros | ((first | refine xh ?_ | refine xi ?_); intro bx hbx; (try simp only [fb] at hbx)) | refine Pure.use (hnd) ?_ | refine Pure.head (hnd) ?_ | refine xj ?_ | refine cv_plain ?_ | ((with_reducible refine And.intro ?_ ?_); omega) | refine bo_buildSlice (d' := ⟨⟩) ?_ | refine xk (by kernel_rfl) ?_ | refine xf ?_ (by repeat' first | exact lr _ | assumption | refine ls ?_ ?_ | refine lt ?_ ?_ | simp only [*]; done | simp only [fb, *, not_false_eq_true, and_self]; done | exact lf ‹_› (by simp only [*])) | refine finish_two ?_ (by repeat' first | exact lr _ | assumption | refine ls ?_ ?_ | refine lt ?_ ?_ | simp only [*]; done | simp only [fb, *, not_false_eq_true, and_self]; done | exact lf ‹_› (by simp only [*])) | simp -dsimp only [↓bp, bq, br, seval, tbRScD, *] | refine cv_any ?_)
      all_goals (have hlt := of_eq_true hlt')
      all_goals exact ⟨s.length - (i + 1), by omega, i + 1, by omega, by omega, rfl, rfl, hx2⟩
  · have : i = s.length := by omega
    have hW : W = (s.drop i0).take (i - i0) := by
      rw [hW0]; exact take_tw _ _ hx (by rw [List.length_drop]; omega) (fun e he => by rw [List.getElem?_drop, List.getElem?_eq_none (by omega)] at he; cases he)
    have hlt' := eq_false hlt
    have hWl : W.length = i - i0 := by rw [hW, List.length_take, List.length_drop]; omega
    have hsl : (s.take i).drop i0 = W := by rw [take_drop_sub, hW]
    have hle1 : (i0 ≤ i) = True := eq_true hi0
    have hle2 : (i ≤ s.length) = True := eq_true hi
    have hw9 : IntKind.i64.wrap ((i : Int) - (i0 : Int)) = (W.length : Int) := by rw [hWl, wrap_nat (by omega) (by omega)]; omega
    have hend : ((i0 + W.length : Nat) : Int) = (i : Int) := by omega
    clear hW0
    by_cases h40 : 40 < W.length
    · have n40 : ((40 : Int) < W.length) = True := eq_true (by omega)
      unfold nmV
      rw [if_pos h40]
      clear h40 hx hW hWl hnm hlt hi hi0 hil hend this
      cases hb
      · cases wb
        · repeat' (first | refine xs ?_ ?_ <;> intros | ((first | refine xh ?_ | refine xi ?_); intro bx hbx; (try simp only [fb] at hbx)) | refine Pure.use (q2) ?_ | refine Pure.head (q2) ?_ | refine Pure.use (q3) ?_ | refine Pure.head (q3) ?_ | refine xj ?_ | refine cv_plain ?_ | ((with_reducible refine And.intro ?_ ?_); omega) | refine bo_buildSlice (d' := ⟨⟩) ?_ | refine xk (by kernel_rfl) ?_ | refine xf ?_ (by repeat' first | exact lr _ | assumption | refine ls ?_ ?_ | refine lt ?_ ?_ | simp only [*]; done | simp only [fb, *, not_false_eq_true, and_self]; done | exact lf ‹_› (by simp only [*])) | refine finish_two ?_ (by repeat' first | exact lr _ | assumption | refine ls ?_ ?_ | refine lt ?_ ?_ | simp only [*]; done | simp only [fb, *, not_false_eq_true, and_self]; done | exact lf ‹_› (by simp only [*])) | simp -dsimp only [↓bp, bq, br, seval, tbRScD, *] | refine cv_any ?_)
          all_goals rfl
        · repeat' (first | refine xs ?_ ?_ <;> intros | ((first | refine xh ?_ | refine xi ?_); intro bx hbx; (try simp only [fb] at hbx)) | refine Pure.use (q2) ?_ | refine Pure.head (q2) ?_ | refine Pure.use (q3) ?_ | refine Pure.head (q3) ?_ | refine xj ?_ | refine cv_plain ?_ | ((with_reducible refine And.intro ?_ ?_); omega) | refine bo_buildSlice (d' := ⟨⟩) ?_ | refine xk (by kernel_rfl) ?_ | refine xf ?_ (by repeat' first | exact lr _ | assumption | refine ls ?_ ?_ | refine lt ?_ ?_ | simp only [*]; done | simp only [fb, *, not_false_eq_true, and_self]; done | exact lf ‹_› (by simp only [*])) | refine finish_two ?_ (by repeat' first | exact lr _ | assumption | refine ls ?_ ?_ | refine lt ?_ ?_ | simp only [*]; done | simp only [fb, *, not_false_eq_true, and_self]; done | exact lf ‹_› (by simp only [*])) | simp -dsimp only [↓bp, bq, br, seval, tbRScD, *] | refine cv_any ?_)
          all_goals rfl
      · repeat' (first | refine xs ?_ ?_ <;> intros | ((first | refine xh ?_ | refine xi ?_); intro bx hbx; (try simp only [fb] at hbx)) | refine Pure.use (q2) ?_ | refine Pure.head (q2) ?_ | refine Pure.use (q3) ?_ | refine Pure.head (q3) ?_ | refine xj ?_ | refine cv_plain ?_ | ((with_reducible refine And.intro ?_ ?_); omega) | refine bo_buildSlice (d' := ⟨⟩) ?_ | refine xk (by kernel_rfl) ?_ | refine xf ?_ (by repeat' first | exact lr _ | assumption | refine ls ?_ ?_ | refine lt ?_ ?_ | simp only [*]; done | simp only [fb, *, not_false_eq_true, and_self]; done | exact lf ‹_› (by simp only [*])) | refine finish_two ?_ (by repeat' first | exact lr _ | assumption | refine ls ?_ ?_ | refine lt ?_ ?_ | simp only [*]; done | simp only [fb, *, not_false_eq_true, and_self]; done | exact lf ‹_› (by simp only [*])) | simp -dsimp only [↓bp, bq, br, seval, tbRScD, *] | refine cv_any ?_)
        all_goals rfl
    · have n40 : ((40 : Int) < W.length) = False := eq_false (by omega)
      unfold nmV
      rw [if_neg h40, hend]
      clear h40 hx hW hWl hnm hlt hi hi0 hil hend this
      cases hb
      · cases wb
        · repeat' (first | refine xs ?_ ?_ <;> intros | ((first | refine xh ?_ | refine xi ?_); intro bx hbx; (try simp only [fb] at hbx)) | refine Pure.use (q2) ?_ | refine Pure.head (q2) ?_ | refine Pure.use (q3) ?_ | refine Pure.head (q3) ?_ | refine xj ?_ | refine cv_plain ?_ | ((with_reducible refine And.intro ?_ ?_); omega) | refine bo_buildSlice (d' := ⟨⟩) ?_ | refine xk (by kernel_rfl) ?_ | refine xf ?_ (by repeat' first | exact lr _ | assumption | refine ls ?_ ?_ | refine lt ?_ ?_ | simp only [*]; done | simp only [fb, *, not_false_eq_true, and_self]; done | exact lf ‹_› (by simp only [*])) | refine finish_two ?_ (by repeat' first | exact lr _ | assumption | refine ls ?_ ?_ | refine lt ?_ ?_ | simp only [*]; done | simp only [fb, *, not_false_eq_true, and_self]; done | exact lf ‹_› (by simp only [*])) | simp -dsimp only [↓bp, bq, br, seval, tbRScD, *] | refine cv_any ?_)
          all_goals rfl
        · repeat' (first | refine xs ?_ ?_ <;> intros | ((first | refine xh ?_ | refine xi ?_); intro bx hbx; (try simp only [fb] at hbx)) | refine Pure.use (q2) ?_ | refine Pure.head (q2) ?_ | refine Pure.use (q3) ?_ | refine Pure.head (q3) ?_ | refine xj ?_ | refine cv_plain ?_ | ((with_reducible refine And.intro ?_ ?_); omega) | refine bo_buildSlice (d' := ⟨⟩) ?_ | refine xk (by kernel_rfl) ?_ | refine xf ?_ (by repeat' first | exact lr _ | assumption | refine ls ?_ ?_ | refine lt ?_ ?_ | simp only [*]; done | simp only [fb, *, not_false_eq_true, and_self]; done | exact lf ‹_› (by simp only [*])) | refine finish_two ?_ (by repeat' first | exact lr _ | assumption | refine ls ?_ ?_ | refine lt ?_ ?_ | simp only [*]; done | simp only [fb, *, not_false_eq_true, and_self]; done | exact lf ‹_› (by simp only [*])) | simp -dsimp only [↓bp, bq, br, seval, tbRScD, *] | refine cv_any ?_)
          all_goals rfl
      · repeat' (first | refine xs ?_ ?_ <;> intros | ((first | refine xh ?_ | refine xi ?_); intro bx hbx; (try simp only [fb] at hbx)) | refine Pure.use (q2) ?_ | refine Pure.head (q2) ?_ | refine Pure.use (q3) ?_ | refine Pure.head (q3) ?_ | refine xj ?_ | refine cv_plain ?_ | ((with_reducible refine And.intro ?_ ?_); omega) | refine bo_buildSlice (d' := ⟨⟩) ?_ | refine xk (by kernel_rfl) ?_ | refine xf ?_ (by repeat' first | exact lr _ | assumption | refine ls ?_ ?_ | refine lt ?_ ?_ | simp only [*]; done | simp only [fb, *, not_false_eq_true, and_self]; done | exact lf ‹_› (by simp only [*])) | refine finish_two ?_ (by repeat' first | exact lr _ | assumption | refine ls ?_ ?_ | refine lt ?_ ?_ | simp only [*]; done | simp only [fb, *, not_false_eq_true, and_self]; done | exact lf ‹_› (by simp only [*])) | simp -dsimp only [↓bp, bq, br, seval, tbRScD, *] | refine cv_any ?_)
        all_goals rfl
theorem rname_pure (s : List UInt8) (i0 : Nat) (c : UInt8) (h0 : s[i0]? = some c) (hs : s.length ≤ 1000000) : Pure Tryz.prog G 46 [.str s, .int .i64 i0] (nmV i0 ((s.drop i0).takeWhile namedB) (if highB c then 3 else if scanWords.contains ((s.drop i0).takeWhile namedB) then 6 else 2)) :=
  rname_aux G s i0 c h0 hs _ rfl _ _ (rhigh_pure G c) (rword_pure G _)
end
set_option maxRecDepth 20000
section
def tbRScE := And.intro (And.intro (And.intro @tf3 @tf4) (And.intro @tf5 (And.intro @tf9 @tf33))) (And.intro (And.intro @tf43 @tf41) (And.intro @tf24 (And.intro @ares_tmpc @ares_cellc)))
variable (G : Nat → AV)
def tkR (i0 : Nat) : Tk → AV
  | .tok k t n => .tup [.agg [.int .u8 (k : Nat), .str t, .int .i64 i0], .int .i64 (i0 + n : Nat), .int .i64 0]
  | .err e => .tup [.agg [.int .u8 0, .str [], .int .i64 0], .int .i64 0, .int .i64 (e : Nat)]
theorem tkR_tok (i0 k n : Nat) (t : List UInt8) : tkR i0 (.tok k t n) = .tup [.agg [.int .u8 (k : Nat), .str t, .int .i64 i0], .int .i64 (i0 + n : Nat), .int .i64 0] := rfl
theorem low_high2 (c : UInt8) (h : lowB c = true) : highB c = false := by
  have h2 := u8_all (p := fun c => !lowB c || !highB c) (by decide +kernel) c
  simpa [h] using h2
theorem digit_named (c : UInt8) (h : digitB c = true) : namedB c = true := by unfold namedB; rw [h]; simp
theorem lh_named {c : UInt8} (h : (lowB c || highB c) = true) : namedB c = true := by unfold namedB; rw [h]; simp
set_option maxHeartbeats 2000000 in
theorem rtoken_name (s : List UInt8) (i0 : Nat) (c : UInt8) (h0 : s[i0]? = some c) (hs : s.length ≤ 1000000) (hc : (lowB c || highB c) = true) : Pure Tryz.prog G 22 [.str s, .int .i64 i0] (tkR i0 (tokS (s.drop i0))) := by
  have hn := rname_pure G s i0 c h0 hs
  have q1 := rlow_pure G c
  have q2 := rhigh_pure G c
  have hd := drop_get _ _ _ h0
  have hW0 : 0 < ((s.drop i0).takeWhile namedB).length := by rw [hd]; exact takeWhile_pos _ (lh_named hc)
  have hk : tokS (s.drop i0) = if 40 < ((s.drop i0).takeWhile namedB).length then .err 201
      else .tok (if highB c then 3 else if scanWords.contains ((s.drop i0).takeWhile namedB) then 6 else 2) ((s.drop i0).takeWhile namedB) ((s.drop i0).takeWhile namedB).length := by
    rw [hd, tokS_cons, if_pos hc]
  rw [hk]
  clear hk hd
  have gc : lowB c = true ∧ highB c = false ∨ lowB c = false ∧ highB c = true := by
    cases e : lowB c
    · rw [e] at hc; exact .inr ⟨rfl, by simpa using hc⟩
    · exact .inl ⟨rfl, low_high2 c e⟩
  generalize (if highB c then 3 else if scanWords.contains ((s.drop i0).takeWhile namedB) then 6 else 2) = kk at *
  generalize (s.drop i0).takeWhile namedB = W at *
  unfold nmV at hn
  by_cases h40 : 40 < W.length
  · rw [if_pos h40] at hn
    rw [if_pos h40]
    rcases gc with ⟨g1, g2⟩ | ⟨g1, g2⟩ <;> rw [g1] at q1 <;> rw [g2] at q2
    · clear h40 hs hW0 hc g1 g2
      intro σ
      refine Tri.of_awp mixed Tryz.func22 rfl (by kernel_rfl) (by kernel_rfl) (by simp [Tryz.ntmps22]) Tryz.results22 ?_
      repeat' (first | refine xs ?_ ?_ <;> intros | ((first | refine xh ?_ | refine xi ?_); intro bx hbx; (try simp only [fb] at hbx)) | refine Pure.use (q1) ?_ | refine Pure.head (q1) ?_ | refine Pure.use (q2) ?_ | refine Pure.head (q2) ?_ | refine Pure.use (hn) ?_ | refine Pure.head (hn) ?_ | refine xj ?_ | refine cv_plain ?_ | ((with_reducible refine And.intro ?_ ?_); omega) | refine bo_buildSlice (d' := ⟨⟩) ?_ | refine xk (by kernel_rfl) ?_ | refine xf ?_ (by repeat' first | exact lr _ | assumption | refine ls ?_ ?_ | refine lt ?_ ?_ | simp only [*]; done | simp only [fb, *, not_false_eq_true, and_self]; done | exact lf ‹_› (by simp only [*])) | refine finish_two ?_ (by repeat' first | exact lr _ | assumption | refine ls ?_ ?_ | refine lt ?_ ?_ | simp only [*]; done | simp only [fb, *, not_false_eq_true, and_self]; done | exact lf ‹_› (by simp only [*])) | simp -dsimp only [↓bp, bq, br, seval, tbRScE, *] | refine cv_any ?_)
      all_goals rfl
    · clear h40 hs hW0 hc g1 g2
      intro σ
      refine Tri.of_awp mixed Tryz.func22 rfl (by kernel_rfl) (by kernel_rfl) (by simp [Tryz.ntmps22]) Tryz.results22 ?_
      repeat' (first | refine xs ?_ ?_ <;> intros | ((first | refine xh ?_ | refine xi ?_); intro bx hbx; (try simp only [fb] at hbx)) | refine Pure.use (q1) ?_ | refine Pure.head (q1) ?_ | refine Pure.use (q2) ?_ | refine Pure.head (q2) ?_ | refine Pure.use (hn) ?_ | refine Pure.head (hn) ?_ | refine xj ?_ | refine cv_plain ?_ | ((with_reducible refine And.intro ?_ ?_); omega) | refine bo_buildSlice (d' := ⟨⟩) ?_ | refine xk (by kernel_rfl) ?_ | refine xf ?_ (by repeat' first | exact lr _ | assumption | refine ls ?_ ?_ | refine lt ?_ ?_ | simp only [*]; done | simp only [fb, *, not_false_eq_true, and_self]; done | exact lf ‹_› (by simp only [*])) | refine finish_two ?_ (by repeat' first | exact lr _ | assumption | refine ls ?_ ?_ | refine lt ?_ ?_ | simp only [*]; done | simp only [fb, *, not_false_eq_true, and_self]; done | exact lf ‹_› (by simp only [*])) | simp -dsimp only [↓bp, bq, br, seval, tbRScE, *] | refine cv_any ?_)
      all_goals rfl
  · rw [if_neg h40] at hn
    rw [if_neg h40]
    have n0 : (((i0 + W.length : Nat) : Int) = 0) = False := eq_false (by omega)
    rcases gc with ⟨g1, g2⟩ | ⟨g1, g2⟩ <;> rw [g1] at q1 <;> rw [g2] at q2
    · clear h40 hs hW0 hc g1 g2
      intro σ
      refine Tri.of_awp mixed Tryz.func22 rfl (by kernel_rfl) (by kernel_rfl) (by simp [Tryz.ntmps22]) Tryz.results22 ?_
      repeat' (first | refine xs ?_ ?_ <;> intros | ((first | refine xh ?_ | refine xi ?_); intro bx hbx; (try simp only [fb] at hbx)) | refine Pure.use (q1) ?_ | refine Pure.head (q1) ?_ | refine Pure.use (q2) ?_ | refine Pure.head (q2) ?_ | refine Pure.use (hn) ?_ | refine Pure.head (hn) ?_ | refine xj ?_ | refine cv_plain ?_ | ((with_reducible refine And.intro ?_ ?_); omega) | refine bo_buildSlice (d' := ⟨⟩) ?_ | refine xk (by kernel_rfl) ?_ | refine xf ?_ (by repeat' first | exact lr _ | assumption | refine ls ?_ ?_ | refine lt ?_ ?_ | simp only [*]; done | simp only [fb, *, not_false_eq_true, and_self]; done | exact lf ‹_› (by simp only [*])) | refine finish_two ?_ (by repeat' first | exact lr _ | assumption | refine ls ?_ ?_ | refine lt ?_ ?_ | simp only [*]; done | simp only [fb, *, not_false_eq_true, and_self]; done | exact lf ‹_› (by simp only [*])) | simp -dsimp only [↓bp, bq, br, seval, tbRScE, *] | refine cv_any ?_)
      all_goals rfl
    · clear h40 hs hW0 hc g1 g2
      intro σ
      refine Tri.of_awp mixed Tryz.func22 rfl (by kernel_rfl) (by kernel_rfl) (by simp [Tryz.ntmps22]) Tryz.results22 ?_
      repeat' (first | refine xs ?_ ?_ <;> intros | ((first | refine xh ?_ | refine xi ?_); intro bx hbx; (try simp only [fb] at hbx)) | refine Pure.use (q1) ?_ | refine Pure.head (q1) ?_ | refine Pure.use (q2) ?_ | refine Pure.head (q2) ?_ | refine Pure.use (hn) ?_ | refine Pure.head (hn) ?_ | refine xj ?_ | refine cv_plain ?_ | ((with_reducible refine And.intro ?_ ?_); omega) | refine bo_buildSlice (d' := ⟨⟩) ?_ | refine xk (by kernel_rfl) ?_ | refine xf ?_ (by repeat' first | exact lr _ | assumption | refine ls ?_ ?_ | refine lt ?_ ?_ | simp only [*]; done | simp only [fb, *, not_false_eq_true, and_self]; done | exact lf ‹_› (by simp only [*])) | refine finish_two ?_ (by repeat' first | exact lr _ | assumption | refine ls ?_ ?_ | refine lt ?_ ?_ | simp only [*]; done | simp only [fb, *, not_false_eq_true, and_self]; done | exact lf ‹_› (by simp only [*])) | simp -dsimp only [↓bp, bq, br, seval, tbRScE, *] | refine cv_any ?_)
      all_goals rfl
theorem digits_named {s D : List UInt8} {i : Nat} (hD : ∀ x, x ∈ s.take i → digitB x = true) (hi : i ≤ s.length) : (∀ c, s[i]? = some c → namedB c = false) → ¬ i < (s.takeWhile namedB).length := fun h => by
  have e := take_tw (p := namedB) s i (fun x hx => digit_named x (hD x hx)) hi h
  rw [e, List.length_take]; omega
theorem digits_more {s : List UInt8} {i : Nat} {c : UInt8} (hD : ∀ x, x ∈ s.take i → digitB x = true) (hc : s[i]? = some c) (hn : namedB c = true) : i < (s.takeWhile namedB).length := by
  have hil := (List.getElem?_eq_some_iff.1 hc).1
  have e : s = s.take i ++ c :: s.drop (i + 1) := by rw [← drop_get _ _ _ hc, List.take_append_drop]
  have h1 : s.takeWhile namedB = s.take i ++ (c :: s.drop (i + 1)).takeWhile namedB := by
    conv => lhs; rw [e]
    rw [List.takeWhile_append_of_pos]
    intro x hx
    exact digit_named x (hD x hx)
  rw [h1, List.length_append, List.length_take, List.takeWhile_cons, if_pos hn, List.length_cons]; omega
set_option maxHeartbeats 4000000 in
theorem rtoken_digit (s : List UInt8) (i0 : Nat) (c : UInt8) (h0 : s[i0]? = some c) (hs : s.length ≤ 1000000) (hc : (lowB c || highB c) = false) (hdc : digitB c = true) : Pure Tryz.prog G 22 [.str s, .int .i64 i0] (tkR i0 (tokS (s.drop i0))) := by
  have q1 := rlow_pure G c
  have q2 := rhigh_pure G c
  have q3 := rdigit_pure G c
  have hil := (List.getElem?_eq_some_iff.1 h0).1
  have hdp := rdigit_pure G
  have hnp := rnamed_pure G
  have hd := drop_get _ _ _ h0
  obtain ⟨D, hD0⟩ : ∃ D, D = (s.drop i0).takeWhile digitB := ⟨_, rfl⟩
  obtain ⟨W, hW0⟩ : ∃ W, W = (s.drop i0).takeWhile namedB := ⟨_, rfl⟩
  have hk : tokS (s.drop i0) = if 400 < D.length ∨ D.length < W.length then .err 201 else .tok 1 D D.length := by
    rw [hD0, hW0, hd, tokS_cons, if_neg (by rw [hc]; simp), if_pos hdc]
  rw [hk]
  simp only [Bool.or_eq_false_iff] at hc
  rw [hc.1] at q1
  rw [hc.2] at q2
  rw [hdc] at q3
  clear hk hd hc hdc
  intro σ
  refine Tri.of_awp mixed Tryz.func22 rfl (by kernel_rfl) (by kernel_rfl) (by simp [Tryz.ntmps22]) Tryz.results22 ?_
  repeat' (first | refine xs ?_ ?_ <;> intros | ((first | refine xh ?_ | refine xi ?_); intro bx hbx; (try simp only [fb] at hbx)) | refine Pure.use (q1) ?_ | refine Pure.head (q1) ?_ | refine Pure.use (q2) ?_ | refine Pure.head (q2) ?_ | refine Pure.use (q3) ?_ | refine Pure.head (q3) ?_ | refine xj ?_ | refine cv_plain ?_ | ((with_reducible refine And.intro ?_ ?_); omega) | refine bo_buildSlice (d' := ⟨⟩) ?_ | refine xk (by kernel_rfl) ?_ | refine xf ?_ (by repeat' first | exact lr _ | assumption | refine ls ?_ ?_ | refine lt ?_ ?_ | simp only [*]; done | simp only [fb, *, not_false_eq_true, and_self]; done | exact lf ‹_› (by simp only [*])) | refine finish_two ?_ (by repeat' first | exact lr _ | assumption | refine ls ?_ ?_ | refine lt ?_ ?_ | simp only [*]; done | simp only [fb, *, not_false_eq_true, and_self]; done | exact lf ‹_› (by simp only [*])) | simp -dsimp only [↓bp, bq, br, seval, tbRScE, *] | refine cv_any ?_)
  clear q1 q2 q3
  refine loop_keep mixed (fun n e => ∃ i : Nat, i0 ≤ i ∧ i ≤ s.length ∧ n = s.length - i ∧ e 10 = .int .i64 i ∧ ∀ x, x ∈ (s.drop i0).take (i - i0) → digitB x = true) (s.length - i0)
    ⟨i0, by omega, by omega, by omega, by simp -dsimp only [↓bp, bq, br, seval, tbRScE]; first | done | rfl, by simp⟩ ?_
  rintro n v ⟨i, hi0, hi, rfl, h10, hx⟩
  simp -dsimp only [↓bp, bq, br, seval, tbRScE] at h10
  by_cases hlt : (i : Int) < s.length
  · obtain ⟨d, hd⟩ : ∃ d, s[i]? = some d := ⟨_, List.getElem?_eq_getElem (by omega)⟩
    have hlt' := eq_true hlt
    have hw : IntKind.i64.wrap ((i : Int) + 1) = ((i + 1 : Nat) : Int) := by rw [wrap_nat (by omega) (by omega)]; rfl
    have hnd := hdp d
    have hnn := hnp d
    have hdd : (s.drop i0)[i - i0]? = some d := by rw [List.getElem?_drop, show i0 + (i - i0) = i by omega]; exact hd
    cases hp : digitB d
    · rw [hp] at hnd
      have hD : D = (s.drop i0).take (i - i0) := by
        rw [hD0]; exact take_tw _ _ hx (by rw [List.length_drop]; omega) (fun e he => by rw [hdd] at he; cases he; exact hp)
      have hWl : D.length = i - i0 := by rw [hD, List.length_take, List.length_drop]; omega
      have hsl : (s.take i).drop i0 = D := by rw [take_drop_sub, hD]
      have hle1 : (i0 ≤ i) = True := eq_true hi0
      have hle2 : (i ≤ s.length) = True := eq_true hi
      have hw9 : IntKind.i64.wrap ((i : Int) - (i0 : Int)) = (D.length : Int) := by rw [hWl, wrap_nat (by omega) (by omega)]; omega
      have hend : ((i0 + D.length : Nat) : Int) = (i : Int) := by omega
      by_cases h4 : 400 < D.length
      · have n4 : ((400 : Int) < D.length) = True := eq_true (by omega)
        rw [if_pos (.inl h4)]
        clear h4 hx hdd hD hD0 hW0 hWl hdp hnp hlt hi hi0 hp hil hend hnn
        repeat' (first | refine xs ?_ ?_ <;> intros | ((first | refine xh ?_ | refine xi ?_); intro bx hbx; (try simp only [fb] at hbx)) | refine Pure.use (hnd) ?_ | refine Pure.head (hnd) ?_ | refine xj ?_ | refine cv_plain ?_ | ((with_reducible refine And.intro ?_ ?_); omega) | refine bo_buildSlice (d' := ⟨⟩) ?_ | refine xk (by kernel_rfl) ?_ | refine xf ?_ (by repeat' first | exact lr _ | assumption | refine ls ?_ ?_ | refine lt ?_ ?_ | simp only [*]; done | simp only [fb, *, not_false_eq_true, and_self]; done | exact lf ‹_› (by simp only [*])) | refine finish_two ?_ (by repeat' first | exact lr _ | assumption | refine ls ?_ ?_ | refine lt ?_ ?_ | simp only [*]; done | simp only [fb, *, not_false_eq_true, and_self]; done | exact lf ‹_› (by simp only [*])) | simp -dsimp only [↓bp, bq, br, seval, tbRScE, *] | refine cv_any ?_)
        all_goals rfl
      · have n4 : ((400 : Int) < D.length) = False := eq_false (by omega)
        cases hq : namedB d
        · rw [hq] at hnn
          have hnW := digits_named (s := s.drop i0) (D := D) (i := i - i0) hx (by rw [List.length_drop]; omega) (fun e he => by rw [hdd] at he; cases he; exact hq)
          rw [← hW0, ← hWl] at hnW
          rw [if_neg (by omega)]
          rw [tkR_tok, hend]
          clear h4 hx hdd hD hD0 hW0 hWl hdp hnp hlt hi hi0 hp hil hend hnW hq
          repeat' (first | refine xs ?_ ?_ <;> intros | ((first | refine xh ?_ | refine xi ?_); intro bx hbx; (try simp only [fb] at hbx)) | refine Pure.use (hnd) ?_ | refine Pure.head (hnd) ?_ | refine Pure.use (hnn) ?_ | refine Pure.head (hnn) ?_ | refine xj ?_ | refine cv_plain ?_ | ((with_reducible refine And.intro ?_ ?_); omega) | refine bo_buildSlice (d' := ⟨⟩) ?_ | refine xk (by kernel_rfl) ?_ | refine xf ?_ (by repeat' first | exact lr _ | assumption | refine ls ?_ ?_ | refine lt ?_ ?_ | simp only [*]; done | simp only [fb, *, not_false_eq_true, and_self]; done | exact lf ‹_› (by simp only [*])) | refine finish_two ?_ (by repeat' first | exact lr _ | assumption | refine ls ?_ ?_ | refine lt ?_ ?_ | simp only [*]; done | simp only [fb, *, not_false_eq_true, and_self]; done | exact lf ‹_› (by simp only [*])) | simp -dsimp only [↓bp, bq, br, seval, tbRScE, *] | refine cv_any ?_)
          all_goals rfl
        · rw [hq] at hnn
          have hnW := digits_more (s := s.drop i0) (i := i - i0) hx hdd hq
          rw [← hW0, ← hWl] at hnW
          rw [if_pos (.inr hnW)]
          clear h4 hx hdd hD hD0 hW0 hWl hdp hnp hlt hi hi0 hp hil hend hnW hq
          repeat' (first | refine xs ?_ ?_ <;> intros | ((first | refine xh ?_ | refine xi ?_); intro bx hbx; (try simp only [fb] at hbx)) | refine Pure.use (hnd) ?_ | refine Pure.head (hnd) ?_ | refine Pure.use (hnn) ?_ | refine Pure.head (hnn) ?_ | refine xj ?_ | refine cv_plain ?_ | ((with_reducible refine And.intro ?_ ?_); omega) | refine bo_buildSlice (d' := ⟨⟩) ?_ | refine xk (by kernel_rfl) ?_ | refine xf ?_ (by repeat' first | exact lr _ | assumption | refine ls ?_ ?_ | refine lt ?_ ?_ | simp only [*]; done | simp only [fb, *, not_false_eq_true, and_self]; done | exact lf ‹_› (by simp only [*])) | refine finish_two ?_ (by repeat' first | exact lr _ | assumption | refine ls ?_ ?_ | refine lt ?_ ?_ | simp only [*]; done | simp only [fb, *, not_false_eq_true, and_self]; done | exact lf ‹_› (by simp only [*])) | simp -dsimp only [↓bp, bq, br, seval, tbRScE, *] | refine cv_any ?_)
          all_goals rfl
    · rw [hp] at hnd
      have hx2 : ∀ x, x ∈ (s.drop i0).take (i + 1 - i0) → digitB x = true := fun x hm => by
        rw [show i + 1 - i0 = (i - i0) + 1 by omega, take_succ_get _ _ _ hdd, List.mem_append, List.mem_singleton] at hm
        rcases hm with hm | rfl
        · exact hx x hm
        · exact hp
      clear hx hp hdd hdp hnp hlt hil hnn hD0 hW0
      repeat' (first | refine xs ?_ ?_ <;> intros | ((first | refine xh ?_ | refine xi ?_); intro bx hbx; (try simp only [fb] at hbx)) | refine Pure.use (hnd) ?_ | refine Pure.head (hnd) ?_ | refine xj ?_ | refine cv_plain ?_ | ((with_reducible refine And.intro ?_ ?_); omega) | refine bo_buildSlice (d' := ⟨⟩) ?_ | refine xk (by kernel_rfl) ?_ | refine xf ?_ (by repeat' first | exact lr _ | assumption | refine ls ?_ ?_ | refine lt ?_ ?_ | simp only [*]; done | simp only [fb, *, not_false_eq_true, and_self]; done | exact lf ‹_› (by simp only [*])) | refine finish_two ?_ (by repeat' first | exact lr _ | assumption | refine ls ?_ ?_ | refine lt ?_ ?_ | simp only [*]; done | simp only [fb, *, not_false_eq_true, and_self]; done | exact lf ‹_› (by simp only [*])) | simp -dsimp only [↓bp, bq, br, seval, tbRScE, *] | refine cv_any ?_)
      all_goals (have hlt := of_eq_true hlt')
      all_goals exact ⟨s.length - (i + 1), by omega, i + 1, by omega, by omega, rfl, rfl, hx2⟩
  · have hil2 : i = s.length := by omega
    have hno : ∀ e, (s.drop i0)[i - i0]? = some e → False := fun e he => by rw [List.getElem?_drop, List.getElem?_eq_none (by omega)] at he; cases he
    have hD : D = (s.drop i0).take (i - i0) := by
      rw [hD0]; exact take_tw _ _ hx (by rw [List.length_drop]; omega) (fun e he => (hno e he).elim)
    have hlt' := eq_false hlt
    have hWl : D.length = i - i0 := by rw [hD, List.length_take, List.length_drop]; omega
    have hsl : (s.take i).drop i0 = D := by rw [take_drop_sub, hD]
    have hle1 : (i0 ≤ i) = True := eq_true hi0
    have hle2 : (i ≤ s.length) = True := eq_true hi
    have hw9 : IntKind.i64.wrap ((i : Int) - (i0 : Int)) = (D.length : Int) := by rw [hWl, wrap_nat (by omega) (by omega)]; omega
    have hend : ((i0 + D.length : Nat) : Int) = (i : Int) := by omega
    by_cases h4 : 400 < D.length
    · have n4 : ((400 : Int) < D.length) = True := eq_true (by omega)
      rw [if_pos (.inl h4)]
      clear h4 hx hD hD0 hW0 hWl hdp hnp hlt hi hi0 hil hend hil2 hno
      repeat' (first | refine xs ?_ ?_ <;> intros | ((first | refine xh ?_ | refine xi ?_); intro bx hbx; (try simp only [fb] at hbx)) | refine xj ?_ | refine cv_plain ?_ | ((with_reducible refine And.intro ?_ ?_); omega) | refine bo_buildSlice (d' := ⟨⟩) ?_ | refine xk (by kernel_rfl) ?_ | refine xf ?_ (by repeat' first | exact lr _ | assumption | refine ls ?_ ?_ | refine lt ?_ ?_ | simp only [*]; done | simp only [fb, *, not_false_eq_true, and_self]; done | exact lf ‹_› (by simp only [*])) | refine finish_two ?_ (by repeat' first | exact lr _ | assumption | refine ls ?_ ?_ | refine lt ?_ ?_ | simp only [*]; done | simp only [fb, *, not_false_eq_true, and_self]; done | exact lf ‹_› (by simp only [*])) | simp -dsimp only [↓bp, bq, br, seval, tbRScE, *] | refine cv_any ?_)
      all_goals rfl
    · have n4 : ((400 : Int) < D.length) = False := eq_false (by omega)
      have hnW := digits_named (s := s.drop i0) (D := D) (i := i - i0) hx (by rw [List.length_drop]; omega) (fun e he => (hno e he).elim)
      rw [← hW0, ← hWl] at hnW
      rw [if_neg (by omega)]
      rw [tkR_tok, hend]
      clear h4 hx hD hD0 hW0 hWl hdp hnp hlt hi hi0 hil hend hnW hil2 hno
      repeat' (first | refine xs ?_ ?_ <;> intros | ((first | refine xh ?_ | refine xi ?_); intro bx hbx; (try simp only [fb] at hbx)) | refine xj ?_ | refine cv_plain ?_ | ((with_reducible refine And.intro ?_ ?_); omega) | refine bo_buildSlice (d' := ⟨⟩) ?_ | refine xk (by kernel_rfl) ?_ | refine xf ?_ (by repeat' first | exact lr _ | assumption | refine ls ?_ ?_ | refine lt ?_ ?_ | simp only [*]; done | simp only [fb, *, not_false_eq_true, and_self]; done | exact lf ‹_› (by simp only [*])) | refine finish_two ?_ (by repeat' first | exact lr _ | assumption | refine ls ?_ ?_ | refine lt ?_ ?_ | simp only [*]; done | simp only [fb, *, not_false_eq_true, and_self]; done | exact lf ‹_› (by simp only [*])) | simp -dsimp only [↓bp, bq, br, seval, tbRScE, *] | refine cv_any ?_)
      all_goals rfl
end
end Go.Proofs.YtldmniappliepaaGreatDoor
