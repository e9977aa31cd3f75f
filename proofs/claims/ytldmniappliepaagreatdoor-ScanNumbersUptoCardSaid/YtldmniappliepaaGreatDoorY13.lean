/- Atoms: whether they need quotes, and what they are between quotes. -/
import Derived.Test.YtldmniappliepaaGreatDoorY11
import Derived.Test.YtldmniappliepaaGreatDoorY12
set_option linter.unusedVariables false
set_option linter.unusedSimpArgs false
set_option maxRecDepth 20000
set_option linter.defProp false
namespace Go.Proofs.YtldmniappliepaaGreatDoor
open Go Go.Av
section
def tbQuo := And.intro (And.intro (And.intro @tf3 @tf4) (And.intro @tf5 (And.intro @tf9 @tf37))) (And.intro (And.intro @tf33 @tf76) (And.intro @tf86 (And.intro @tf84 @tf80)))
variable (G : Nat → AV)
def idx (s : List UInt8) : Nat → List (List UInt8) → Int
  | _, [] => -1
  | k, w :: ws => if s = w then k else idx s (k + 1) ws
theorem idx_mem (s : List UInt8) : ∀ (ws : List (List UInt8)) (k : Nat), (0 ≤ idx s k ws) ↔ s ∈ ws
  | [], k => by simp [idx]
  | w :: ws, k => by
    simp only [idx]
    split
    · rename_i h; subst h; simp
    · rename_i h; rw [idx_mem s ws (k + 1)]; simp [h]
def texts (ws : List (List UInt8)) : AV := .sl .none (ws.map AV.str) []
theorem len_texts {P : Program} {t : TypeId} (l : List (List UInt8)) : ablt P .len #[t] [texts l] = if (el P t).isSome then some (.int .i64 l.length) else none := by
  simp [texts, l_sl]
theorem ix_texts {P : Program} {t : TypeId} {k : IntKind} (l : List (List UInt8)) (i : Nat) : aindexA P t (texts l) (.int k (i : Int)) = ixk ((el P t).bind (tk P)) ((l[i]?).map AV.str) := by
  simp [texts, aindexA_sl]
theorem index_pure (ws : List (List UInt8)) (s : List UInt8) (hl : ws.length ≤ 1000000) : Pure Tryz.prog G 78 [texts ws, .str s] (.int .i64 (idx s 0 ws)) := by
  intro σ
  refine Tri.of_awp mixed Tryz.func78 rfl (by kernel_rfl) (by kernel_rfl) (by simp [Tryz.ntmps78]) Tryz.results78 ?_
  repeat' (first | refine xs ?_ ?_ <;> intros | ((first | refine xh ?_ | refine xi ?_); intro bx hbx; (try simp only [fb] at hbx)) | refine xj ?_ | refine cv_plain ?_ | ((with_reducible refine And.intro ?_ ?_); omega) | refine bo_buildSlice (d' := ⟨⟩) ?_ | refine xk (by kernel_rfl) ?_ | refine xf ?_ (by repeat' first | exact lr _ | assumption | refine ls ?_ ?_ | refine lt ?_ ?_ | simp only [*]; done | simp only [fb, *, not_false_eq_true, and_self]; done | exact lf ‹_› (by simp only [*])) | refine finish_two ?_ (by repeat' first | exact lr _ | assumption | refine ls ?_ ?_ | refine lt ?_ ?_ | simp only [*]; done | simp only [fb, *, not_false_eq_true, and_self]; done | exact lf ‹_› (by simp only [*])) | simp -dsimp only [↓bp, bq, br, seval, tbQuo, len_texts, ix_texts, *] | refine cv_any ?_)
  refine loop_keep mixed (fun n e => ∃ i : Nat, i ≤ (ws).length ∧ n = (ws).length - i ∧ e 8 = .int .i64 i ∧ idx s i (ws.drop i) = idx s 0 ws) (ws).length
      ⟨0, by omega, by omega, by simp -dsimp only [↓bp, bq, br, seval, tbQuo]; first | done | rfl, rfl⟩ ?_
  rintro n v ⟨i, hi, rfl, h8, htk⟩
  simp -dsimp only [↓bp, bq, br, seval, tbQuo] at h8
  simp -dsimp only [↓bp, bq, br, seval, tbQuo, h8]
  refine condW_dec (fun hlt => ?_) (fun hge => ?_)
  · obtain ⟨x, hx⟩ : ∃ x, ws[i]? = some x := ⟨_, List.getElem?_eq_getElem (by omega)⟩
    rw [drop_get _ _ _ hx] at htk
    simp only [idx] at htk
    clear hi hlt
    by_cases h0 : s = x
    · subst h0
      simp only [if_true] at htk
      rw [← htk]
      clear htk
      repeat' (first | refine xs ?_ ?_ <;> intros | ((first | refine xh ?_ | refine xi ?_); intro bx hbx; (try simp only [fb] at hbx)) | refine xj ?_ | refine cv_plain ?_ | ((with_reducible refine And.intro ?_ ?_); omega) | refine bo_buildSlice (d' := ⟨⟩) ?_ | refine xk (by kernel_rfl) ?_ | refine xf ?_ (by repeat' first | exact lr _ | assumption | refine ls ?_ ?_ | refine lt ?_ ?_ | simp only [*]; done | simp only [fb, *, not_false_eq_true, and_self]; done | exact lf ‹_› (by simp only [*])) | refine finish_two ?_ (by repeat' first | exact lr _ | assumption | refine ls ?_ ?_ | refine lt ?_ ?_ | simp only [*]; done | simp only [fb, *, not_false_eq_true, and_self]; done | exact lf ‹_› (by simp only [*])) | simp -dsimp only [↓bp, bq, br, seval, tbQuo, len_texts, ix_texts, *] | refine cv_any ?_)
      all_goals rfl
    · rw [if_neg h0] at htk
      repeat' (first | refine xs ?_ ?_ <;> intros | ((first | refine xh ?_ | refine xi ?_); intro bx hbx; (try simp only [fb] at hbx)) | refine xj ?_ | refine cv_plain ?_ | ((with_reducible refine And.intro ?_ ?_); omega) | refine bo_buildSlice (d' := ⟨⟩) ?_ | refine xk (by kernel_rfl) ?_ | refine xf ?_ (by repeat' first | exact lr _ | assumption | refine ls ?_ ?_ | refine lt ?_ ?_ | simp only [*]; done | simp only [fb, *, not_false_eq_true, and_self]; done | exact lf ‹_› (by simp only [*])) | refine finish_two ?_ (by repeat' first | exact lr _ | assumption | refine ls ?_ ?_ | refine lt ?_ ?_ | simp only [*]; done | simp only [fb, *, not_false_eq_true, and_self]; done | exact lf ‹_› (by simp only [*])) | simp -dsimp only [↓bp, bq, br, seval, tbQuo, len_texts, ix_texts, *] | refine cv_any ?_)
      all_goals (have hlt := (List.getElem?_eq_some_iff.1 hx).1)
      all_goals exact ⟨ws.length - (i + 1), by omega, i + 1, by omega, rfl, by rw [wrap_nat (by omega) (by omega)]; rfl, htk⟩
  · have : i = ws.length := by omega
    subst this
    rw [List.drop_length] at htk
    simp only [idx] at htk
    rw [← htk]
    clear hi hge htk
    repeat' (first | refine xs ?_ ?_ <;> intros | ((first | refine xh ?_ | refine xi ?_); intro bx hbx; (try simp only [fb] at hbx)) | refine xj ?_ | refine cv_plain ?_ | ((with_reducible refine And.intro ?_ ?_); omega) | refine bo_buildSlice (d' := ⟨⟩) ?_ | refine xk (by kernel_rfl) ?_ | refine xf ?_ (by repeat' first | exact lr _ | assumption | refine ls ?_ ?_ | refine lt ?_ ?_ | simp only [*]; done | simp only [fb, *, not_false_eq_true, and_self]; done | exact lf ‹_› (by simp only [*])) | refine finish_two ?_ (by repeat' first | exact lr _ | assumption | refine ls ?_ ?_ | refine lt ?_ ?_ | simp only [*]; done | simp only [fb, *, not_false_eq_true, and_self]; done | exact lf ‹_› (by simp only [*])) | simp -dsimp only [↓bp, bq, br, seval, tbQuo, len_texts, ix_texts, *] | refine cv_any ?_)
    all_goals rfl
theorem contains_pure (ws : List (List UInt8)) (s : List UInt8) (hl : ws.length ≤ 1000000) : Pure Tryz.prog G 40 [texts ws, .str s] (.bool (ws.contains s)) := by
  have h := index_pure G ws s hl
  have hm := idx_mem s ws 0
  have e : ws.contains s = decide (0 ≤ idx s 0 ws) := by rw [Bool.eq_iff_iff, decide_eq_true_eq, hm]; simp
  rw [e]
  intro σ
  refine Tri.of_awp mixed Tryz.func40 rfl (by kernel_rfl) (by kernel_rfl) (by simp [Tryz.ntmps40]) Tryz.results40 ?_
  repeat' (first | refine xs ?_ ?_ <;> intros | ((first | refine xh ?_ | refine xi ?_); intro bx hbx; (try simp only [fb] at hbx)) | refine Pure.use (h) ?_ | refine Pure.head (h) ?_ | refine xj ?_ | refine cv_plain ?_ | ((with_reducible refine And.intro ?_ ?_); omega) | refine bo_buildSlice (d' := ⟨⟩) ?_ | refine xk (by kernel_rfl) ?_ | refine xf ?_ (by repeat' first | exact lr _ | assumption | refine ls ?_ ?_ | refine lt ?_ ?_ | simp only [*]; done | simp only [fb, *, not_false_eq_true, and_self]; done | exact lf ‹_› (by simp only [*])) | refine finish_two ?_ (by repeat' first | exact lr _ | assumption | refine ls ?_ ?_ | refine lt ?_ ?_ | simp only [*]; done | simp only [fb, *, not_false_eq_true, and_self]; done | exact lf ‹_› (by simp only [*])) | simp -dsimp only [↓bp, bq, br, seval, tbQuo, *] | refine cv_any ?_)
  all_goals rfl
end
set_option maxRecDepth 20000
section
def tbScnA := And.intro (And.intro (And.intro @tf3 @tf4) (And.intro @tf5 @tf9)) (And.intro (And.intro @tf37 @tf43) (And.intro @tf23 @tf41))
variable (G : Nat → AV)
theorem slow_pure (c : UInt8) : Pure Tryz.prog G 37 [.int .u8 c.toNat] (.bool (lowB c)) := by
  intro σ
  refine Tri.of_awp mixed Tryz.func37 rfl (by kernel_rfl) (by kernel_rfl) (by simp [Tryz.ntmps37]) Tryz.results37 ?_
  repeat' (first | refine xs ?_ ?_ <;> intros | ((first | refine xh ?_ | refine xi ?_); intro bx hbx; (try simp only [fb] at hbx)) | refine xj ?_ | refine cv_plain ?_ | ((with_reducible refine And.intro ?_ ?_); omega) | refine bo_buildSlice (d' := ⟨⟩) ?_ | refine xk (by kernel_rfl) ?_ | refine xf ?_ (by repeat' first | exact lr _ | assumption | refine ls ?_ ?_ | refine lt ?_ ?_ | simp only [*]; done | simp only [fb, *, not_false_eq_true, and_self]; done | exact lf ‹_› (by simp only [*])) | refine finish_two ?_ (by repeat' first | exact lr _ | assumption | refine ls ?_ ?_ | refine lt ?_ ?_ | simp only [*]; done | simp only [fb, *, not_false_eq_true, and_self]; done | exact lf ‹_› (by simp only [*])) | simp -dsimp only [↓bp, bq, br, seval, tbScnA, *] | refine cv_any ?_)
  all_goals (first | (simp only [lowB, *, Bool.and_true, Bool.true_and, Bool.and_false, Bool.false_and, Bool.or_true, Bool.true_or, Bool.or_false, Bool.false_or, Bool.not_true, Bool.not_false, if_true, if_false, Bool.and_self, Bool.or_self]; done) | (simp [lowB, *]; done) | (simp_all [lowB]; done))
theorem shigh_pure (c : UInt8) : Pure Tryz.prog G 38 [.int .u8 c.toNat] (.bool (highB c)) := by
  intro σ
  refine Tri.of_awp mixed Tryz.func38 rfl (by kernel_rfl) (by kernel_rfl) (by simp [Tryz.ntmps38]) Tryz.results38 ?_
  repeat' (first | refine xs ?_ ?_ <;> intros | ((first | refine xh ?_ | refine xi ?_); intro bx hbx; (try simp only [fb] at hbx)) | refine xj ?_ | refine cv_plain ?_ | ((with_reducible refine And.intro ?_ ?_); omega) | refine bo_buildSlice (d' := ⟨⟩) ?_ | refine xk (by kernel_rfl) ?_ | refine xf ?_ (by repeat' first | exact lr _ | assumption | refine ls ?_ ?_ | refine lt ?_ ?_ | simp only [*]; done | simp only [fb, *, not_false_eq_true, and_self]; done | exact lf ‹_› (by simp only [*])) | refine finish_two ?_ (by repeat' first | exact lr _ | assumption | refine ls ?_ ?_ | refine lt ?_ ?_ | simp only [*]; done | simp only [fb, *, not_false_eq_true, and_self]; done | exact lf ‹_› (by simp only [*])) | simp -dsimp only [↓bp, bq, br, seval, tbScnA, *] | refine cv_any ?_)
  all_goals (first | (simp only [highB, *, Bool.and_true, Bool.true_and, Bool.and_false, Bool.false_and, Bool.or_true, Bool.true_or, Bool.or_false, Bool.false_or, Bool.not_true, Bool.not_false, if_true, if_false, Bool.and_self, Bool.or_self]; done) | (simp [highB, *]; done) | (simp_all [highB]; done))
theorem sdigit_pure (c : UInt8) : Pure Tryz.prog G 41 [.int .u8 c.toNat] (.bool (digitB c)) := by
  intro σ
  refine Tri.of_awp mixed Tryz.func41 rfl (by kernel_rfl) (by kernel_rfl) (by simp [Tryz.ntmps41]) Tryz.results41 ?_
  repeat' (first | refine xs ?_ ?_ <;> intros | ((first | refine xh ?_ | refine xi ?_); intro bx hbx; (try simp only [fb] at hbx)) | refine xj ?_ | refine cv_plain ?_ | ((with_reducible refine And.intro ?_ ?_); omega) | refine bo_buildSlice (d' := ⟨⟩) ?_ | refine xk (by kernel_rfl) ?_ | refine xf ?_ (by repeat' first | exact lr _ | assumption | refine ls ?_ ?_ | refine lt ?_ ?_ | simp only [*]; done | simp only [fb, *, not_false_eq_true, and_self]; done | exact lf ‹_› (by simp only [*])) | refine finish_two ?_ (by repeat' first | exact lr _ | assumption | refine ls ?_ ?_ | refine lt ?_ ?_ | simp only [*]; done | simp only [fb, *, not_false_eq_true, and_self]; done | exact lf ‹_› (by simp only [*])) | simp -dsimp only [↓bp, bq, br, seval, tbScnA, *] | refine cv_any ?_)
  all_goals (first | (simp only [digitB, *, Bool.and_true, Bool.true_and, Bool.and_false, Bool.false_and, Bool.or_true, Bool.true_or, Bool.or_false, Bool.false_or, Bool.not_true, Bool.not_false, if_true, if_false, Bool.and_self, Bool.or_self]; done) | (simp [digitB, *]; done) | (simp_all [digitB]; done))
theorem snamed_pure (c : UInt8) : Pure Tryz.prog G 39 [.int .u8 c.toNat] (.bool (namedB c)) := by
  intro σ
  refine Tri.of_awp mixed Tryz.func39 rfl (by kernel_rfl) (by kernel_rfl) (by simp [Tryz.ntmps39]) Tryz.results39 ?_
  repeat' (first | refine xs ?_ ?_ <;> intros | ((first | refine xh ?_ | refine xi ?_); intro bx hbx; (try simp only [fb] at hbx)) | refine Pure.use (slow_pure G c) ?_ | refine Pure.head (slow_pure G c) ?_ | refine Pure.use (shigh_pure G c) ?_ | refine Pure.head (shigh_pure G c) ?_ | refine Pure.use (sdigit_pure G c) ?_ | refine Pure.head (sdigit_pure G c) ?_ | refine xj ?_ | refine cv_plain ?_ | ((with_reducible refine And.intro ?_ ?_); omega) | refine bo_buildSlice (d' := ⟨⟩) ?_ | refine xk (by kernel_rfl) ?_ | refine xf ?_ (by repeat' first | exact lr _ | assumption | refine ls ?_ ?_ | refine lt ?_ ?_ | simp only [*]; done | simp only [fb, *, not_false_eq_true, and_self]; done | exact lf ‹_› (by simp only [*])) | refine finish_two ?_ (by repeat' first | exact lr _ | assumption | refine ls ?_ ?_ | refine lt ?_ ?_ | simp only [*]; done | simp only [fb, *, not_false_eq_true, and_self]; done | exact lf ‹_› (by simp only [*])) | simp -dsimp only [↓bp, bq, br, seval, tbScnA, *] | refine cv_any ?_)
  all_goals (first | (simp only [namedB, *, Bool.and_true, Bool.true_and, Bool.and_false, Bool.false_and, Bool.or_true, Bool.true_or, Bool.or_false, Bool.false_or, Bool.not_true, Bool.not_false, if_true, if_false, Bool.and_self, Bool.or_self]; done) | (simp [namedB, *]; done) | (simp_all [namedB]; done))
theorem take_tw {p : UInt8 → Bool} : ∀ (s : List UInt8) (i : Nat), (∀ x, x ∈ s.take i → p x = true) → i ≤ s.length → (∀ c, s[i]? = some c → p c = false) → s.takeWhile p = s.take i
  | s, 0, _, _, h => by
    cases s with
    | nil => rfl
    | cons c r => rw [List.takeWhile_cons, if_neg (by rw [h c rfl]; simp)]; rfl
  | [], i + 1, _, hi, _ => by simp at hi
  | c :: r, i + 1, hx, hi, h => by
    rw [List.takeWhile_cons, if_pos (hx c (by simp)), List.take_succ_cons, take_tw r i (fun x hm => hx x (by simp [hm])) (by simpa using hi) (fun d hd => h d (by simpa using hd))]
theorem while_pure (F : FuncId) (p : UInt8 → Bool) (hF : ∀ c : UInt8, Pure Tryz.prog G F [.int .u8 c.toNat] (.bool (p c))) (s : List UInt8) (hs : s.length ≤ 1000000000) (σ0 : AS) (b : Nat) (hb0 : σ0.box b = some [.str s]) : PureC Tryz.prog G 36 [.fn F [], .ptr b 0] σ0 (.str (s.takeWhile p)) := by
  intro σ hσ
  have hb := hσ.box _ _ hb0
  have hml : s.length ≤ maxLen := by unfold maxLen; omega
  clear hσ hb0
  refine Tri.of_awp mixed Tryz.func36 rfl (by kernel_rfl) (by kernel_rfl) (by simp [Tryz.ntmps36]) Tryz.results36 ?_
  repeat' (first | refine xs ?_ ?_ <;> intros | ((first | refine xh ?_ | refine xi ?_); intro bx hbx; (try simp only [fb] at hbx)) | refine xj ?_ | refine cv_plain ?_ | ((with_reducible refine And.intro ?_ ?_); omega) | refine bo_buildSlice (d' := ⟨⟩) ?_ | refine xk (by kernel_rfl) ?_ | refine xf ?_ (by repeat' first | exact lr _ | assumption | refine ls ?_ ?_ | refine lt ?_ ?_ | simp only [*]; done | simp only [fb, *, not_false_eq_true, and_self]; done | exact lf ‹_› (by simp only [*])) | refine finish_two ?_ (by repeat' first | exact lr _ | assumption | refine ls ?_ ?_ | refine lt ?_ ?_ | simp only [*]; done | simp only [fb, *, not_false_eq_true, and_self]; done | exact lf ‹_› (by simp only [*])) | simp -dsimp only [↓bp, bq, br, seval, tbScnA, *] | refine cv_any ?_)
  refine loop_keep mixed (fun n e => ∃ i : Nat, i ≤ s.length ∧ n = s.length - i ∧ e 4 = .int .i64 i ∧ ∀ x, x ∈ s.take i → p x = true) s.length
    ⟨0, by omega, by omega, by simp -dsimp only [↓bp, bq, br, seval, tbScnA]; first | done | rfl, by simp⟩ ?_
  rintro n v ⟨i, hi, rfl, h4, hx⟩
  simp -dsimp only [↓bp, bq, br, seval, tbScnA] at h4
  by_cases hlt : (i : Int) < s.length
  · obtain ⟨k, hk⟩ : ∃ k, s[i]? = some k := ⟨_, List.getElem?_eq_getElem (by omega)⟩
    have hlt' := eq_true hlt
    have hw : IntKind.i64.wrap ((i : Int) + 1) = ((i + 1 : Nat) : Int) := by rw [wrap_nat (by omega) (by omega)]; rfl
    have hFk := hF k
    by_cases hpk : p k = true
    · rw [hpk] at hFk
      have hx2 : ∀ x, x ∈ s.take (i + 1) → p x = true := fun x hm => by
        rw [take_succ_get _ _ _ hk, List.mem_append, List.mem_singleton] at hm
        rcases hm with hm | rfl
        · exact hx x hm
        · exact hpk
      clear hF hx hml hs hi hlt
      repeat' (first | refine xs ?_ ?_ <;> intros | ((first | refine xh ?_ | refine xi ?_); intro bx hbx; (try simp only [fb] at hbx)) | refine Pure.use (hFk) ?_ | refine Pure.head (hFk) ?_ | refine xj ?_ | refine cv_plain ?_ | ((with_reducible refine And.intro ?_ ?_); omega) | refine bo_buildSlice (d' := ⟨⟩) ?_ | refine xk (by kernel_rfl) ?_ | refine xf ?_ (by repeat' first | exact lr _ | assumption | refine ls ?_ ?_ | refine lt ?_ ?_ | simp only [*]; done | simp only [fb, *, not_false_eq_true, and_self]; done | exact lf ‹_› (by simp only [*])) | refine finish_two ?_ (by repeat' first | exact lr _ | assumption | refine ls ?_ ?_ | refine lt ?_ ?_ | simp only [*]; done | simp only [fb, *, not_false_eq_true, and_self]; done | exact lf ‹_› (by simp only [*])) | simp -dsimp only [↓bp, bq, br, seval, tbScnA, *] | refine cv_any ?_)
      all_goals (have hlt := (List.getElem?_eq_some_iff.1 hk).1)
      all_goals exact ⟨s.length - (i + 1), by omega, i + 1, by omega, rfl, rfl, hx2⟩
    · have hpk : p k = false := by simpa using hpk
      rw [hpk] at hFk
      have hr : s.takeWhile p = s.take i := take_tw s i hx hi (fun c hc => by rw [hk] at hc; cases hc; exact hpk)
      rw [hr]
      have h0 : (0 : Int) ≤ i := by omega
      clear hF hx hs hlt hr
      repeat' (first | refine xs ?_ ?_ <;> intros | ((first | refine xh ?_ | refine xi ?_); intro bx hbx; (try simp only [fb] at hbx)) | refine Pure.use (hFk) ?_ | refine Pure.head (hFk) ?_ | refine xj ?_ | refine cv_plain ?_ | ((with_reducible refine And.intro ?_ ?_); omega) | refine bo_buildSlice (d' := ⟨⟩) ?_ | refine xk (by kernel_rfl) ?_ | refine xf ?_ (by repeat' first | exact lr _ | assumption | refine ls ?_ ?_ | refine lt ?_ ?_ | simp only [*]; done | simp only [fb, *, not_false_eq_true, and_self]; done | exact lf ‹_› (by simp only [*])) | refine finish_two ?_ (by repeat' first | exact lr _ | assumption | refine ls ?_ ?_ | refine lt ?_ ?_ | simp only [*]; done | simp only [fb, *, not_false_eq_true, and_self]; done | exact lf ‹_› (by simp only [*])) | simp -dsimp only [↓bp, bq, br, seval, tbScnA, *] | refine cv_any ?_)
      all_goals rfl
  · have : i = s.length := by omega
    subst this
    have hr : s.takeWhile p = s.take s.length := take_tw s s.length hx (Nat.le_refl _) (fun c hc => by rw [List.getElem?_eq_none (Nat.le_refl _)] at hc; cases hc)
    rw [hr]
    have hlt' := eq_false hlt
    clear hF hx hs hlt hr
    repeat' (first | refine xs ?_ ?_ <;> intros | ((first | refine xh ?_ | refine xi ?_); intro bx hbx; (try simp only [fb] at hbx)) | refine xj ?_ | refine cv_plain ?_ | ((with_reducible refine And.intro ?_ ?_); omega) | refine bo_buildSlice (d' := ⟨⟩) ?_ | refine xk (by kernel_rfl) ?_ | refine xf ?_ (by repeat' first | exact lr _ | assumption | refine ls ?_ ?_ | refine lt ?_ ?_ | simp only [*]; done | simp only [fb, *, not_false_eq_true, and_self]; done | exact lf ‹_› (by simp only [*])) | refine finish_two ?_ (by repeat' first | exact lr _ | assumption | refine ls ?_ ?_ | refine lt ?_ ?_ | simp only [*]; done | simp only [fb, *, not_false_eq_true, and_self]; done | exact lf ‹_› (by simp only [*])) | simp -dsimp only [↓bp, bq, br, seval, tbScnA, *] | refine cv_any ?_)
    all_goals rfl
end
end Go.Proofs.YtldmniappliepaaGreatDoor
