/- ScanBack on abstract values. -/
import Derived.Test.YtldmniappliepaaDoorX18
import Derived.Test.YtldmniappliepaaDoorX15
import Derived.Test.YtldmniappliepaaDoorRows
set_option linter.unusedVariables false
set_option linter.unusedSimpArgs false
set_option maxRecDepth 20000
set_option linter.defProp false
namespace Go.Proofs.YtldmniappliepaaDoor
open Go Go.Av
section
def tbLawScanBack := And.intro (And.intro (And.intro (And.intro @tf3 @tf4) (And.intro @tf5 (And.intro @tf9 @tf39))) (And.intro (And.intro @tf44 @tf31) (And.intro @tf29 (And.intro @tf24 @tf46)))) (And.intro (And.intro (And.intro @tf52 @tf26) (And.intro @tf23 (And.intro @isv_rowOf @flat_rowOf))) (And.intro (And.intro @len_rowOf @ix_rowOf) (And.intro @Tok.flat_enc (And.intro @Tok.isv_enc @Tok.fold_enc))))
variable {G : Nat → AV}
theorem bareK_len (l : List Tok) : (bareK l).length = l.length := by simp [bareK]
theorem bareK_next {l r : List Tok} {i : Nat} (h : bareK (l.take i) = bareK (r.take i)) {x y : Tok} (hx : l[i]? = some x) (hy : r[i]? = some y) (hk : x.kind = y.kind) (ht : x.text = y.text) : bareK (l.take (i + 1)) = bareK (r.take (i + 1)) := by
  rw [take_succ_get _ _ _ hx, take_succ_get _ _ _ hy]
  simp only [bareK, List.map_append, List.map_cons, List.map_nil] at h ⊢
  rw [h, hk, ht]
theorem bareK_ne {l r : List Tok} {i : Nat} {x y : Tok} (hx : l[i]? = some x) (hy : r[i]? = some y) (h : ¬ (x.kind = y.kind ∧ x.text = y.text)) : decide (bareK l = bareK r) = false := by
  refine decide_eq_false fun e => h ?_
  have := congrArg (fun l => l[i]?) e
  simp only [bareK, List.getElem?_map, hx, hy, Option.map_some, Option.some.injEq, Prod.mk.injEq] at this
  exact this
set_option maxHeartbeats 2000000 in
theorem alikeB_pure (l r : List Tok) (hl : l.length ≤ 1000000000) (hr : r.length ≤ 1000000000) : Pure Tryd.prog G 8 [rowOf Tok.enc l, rowOf Tok.enc r] (.bool (decide (bareK l = bareK r))) := by
  by_cases hlr : l.length = r.length
  · have hlr' : ((l.length : Int) = r.length) = True := eq_true (by omega)
    intro σ
    refine Tri.of_awp mixed Tryd.func8 rfl (by kernel_rfl) (by kernel_rfl) (by simp [Tryd.ntmps8]) Tryd.results8 ?_
    repeat' (first | refine xs ?_ ?_ <;> intros | ((first | refine xh ?_ | refine xi ?_); intro bx hbx; (try simp only [fb] at hbx)) | refine xj ?_ | refine cv_plain ?_ | ((with_reducible refine And.intro ?_ ?_); omega) | refine bo_buildSlice (d' := ⟨⟩) ?_ | refine xk (by kernel_rfl) ?_ | refine xf ?_ (by repeat' first | exact lr _ | assumption | refine ls ?_ ?_ | refine lt ?_ ?_ | simp only [*]; done | simp only [fb, *, not_false_eq_true, and_self]; done | exact lf ‹_› (by simp only [*])) | refine finish_two ?_ (by repeat' first | exact lr _ | assumption | refine ls ?_ ?_ | refine lt ?_ ?_ | simp only [*]; done | simp only [fb, *, not_false_eq_true, and_self]; done | exact lf ‹_› (by simp only [*])) | simp -dsimp only [↓bp, bq, br, seval, tbLawScanBack, *] | refine cv_any ?_)
    refine loop_keep mixed (fun n e => ∃ i : Nat, i ≤ (l).length ∧ n = (l).length - i ∧ e 5 = .int .i64 i ∧ bareK (l.take i) = bareK (r.take i)) (l).length
        ⟨0, by omega, by omega, by simp -dsimp only [↓bp, bq, br, seval, tbLawScanBack]; first | done | rfl, rfl⟩ ?_
    rintro n v ⟨i, hi, rfl, h5, htk⟩
    simp -dsimp only [↓bp, bq, br, seval, tbLawScanBack] at h5
    simp -dsimp only [↓bp, bq, br, seval, tbLawScanBack, h5]
    refine condW_dec (fun hlt => ?_) (fun hge => ?_)
    · obtain ⟨x, hx⟩ : ∃ x, l[i]? = some x := ⟨_, List.getElem?_eq_getElem (by omega)⟩
      obtain ⟨y, hy⟩ : ∃ y, r[i]? = some y := ⟨_, List.getElem?_eq_getElem (by omega)⟩
      have hw : IntKind.i64.wrap ((i : Int) + 1) = ((i + 1 : Nat) : Int) := by rw [wrap_nat (by omega) (by omega)]; rfl
      by_cases hk : x.kind = y.kind
      · have hk' : ((x.kind : Int) = y.kind) = True := eq_true (by omega)
        by_cases ht : x.text = y.text
        · have ht' : (x.text = y.text) = True := eq_true ht
          have hn := bareK_next htk hx hy hk ht
          clear hi hlt htk hk ht hlr
          repeat' (first | refine xs ?_ ?_ <;> intros | ((first | refine xh ?_ | refine xi ?_); intro bx hbx; (try simp only [fb] at hbx)) | refine xj ?_ | refine cv_plain ?_ | ((with_reducible refine And.intro ?_ ?_); omega) | refine bo_buildSlice (d' := ⟨⟩) ?_ | refine xk (by kernel_rfl) ?_ | refine xf ?_ (by repeat' first | exact lr _ | assumption | refine ls ?_ ?_ | refine lt ?_ ?_ | simp only [*]; done | simp only [fb, *, not_false_eq_true, and_self]; done | exact lf ‹_› (by simp only [*])) | refine finish_two ?_ (by repeat' first | exact lr _ | assumption | refine ls ?_ ?_ | refine lt ?_ ?_ | simp only [*]; done | simp only [fb, *, not_false_eq_true, and_self]; done | exact lf ‹_› (by simp only [*])) | simp -dsimp only [↓bp, bq, br, seval, tbLawScanBack, *] | refine cv_any ?_)
          all_goals (have hlt := (List.getElem?_eq_some_iff.1 hx).1)
          all_goals exact ⟨l.length - (i + 1), by omega, i + 1, by omega, rfl, rfl, hn⟩
        · have ht' : (x.text = y.text) = False := eq_false ht
          rw [bareK_ne hx hy (fun h => ht h.2)]
          clear hi hlt htk hk ht hlr
          repeat' (first | refine xs ?_ ?_ <;> intros | ((first | refine xh ?_ | refine xi ?_); intro bx hbx; (try simp only [fb] at hbx)) | refine xj ?_ | refine cv_plain ?_ | ((with_reducible refine And.intro ?_ ?_); omega) | refine bo_buildSlice (d' := ⟨⟩) ?_ | refine xk (by kernel_rfl) ?_ | refine xf ?_ (by repeat' first | exact lr _ | assumption | refine ls ?_ ?_ | refine lt ?_ ?_ | simp only [*]; done | simp only [fb, *, not_false_eq_true, and_self]; done | exact lf ‹_› (by simp only [*])) | refine finish_two ?_ (by repeat' first | exact lr _ | assumption | refine ls ?_ ?_ | refine lt ?_ ?_ | simp only [*]; done | simp only [fb, *, not_false_eq_true, and_self]; done | exact lf ‹_› (by simp only [*])) | simp -dsimp only [↓bp, bq, br, seval, tbLawScanBack, *] | refine cv_any ?_)
          all_goals rfl
      · have hk' : ((x.kind : Int) = y.kind) = False := eq_false (by omega)
        rw [bareK_ne hx hy (fun h => hk h.1)]
        clear hi hlt htk hk hlr
        repeat' (first | refine xs ?_ ?_ <;> intros | ((first | refine xh ?_ | refine xi ?_); intro bx hbx; (try simp only [fb] at hbx)) | refine xj ?_ | refine cv_plain ?_ | ((with_reducible refine And.intro ?_ ?_); omega) | refine bo_buildSlice (d' := ⟨⟩) ?_ | refine xk (by kernel_rfl) ?_ | refine xf ?_ (by repeat' first | exact lr _ | assumption | refine ls ?_ ?_ | refine lt ?_ ?_ | simp only [*]; done | simp only [fb, *, not_false_eq_true, and_self]; done | exact lf ‹_› (by simp only [*])) | refine finish_two ?_ (by repeat' first | exact lr _ | assumption | refine ls ?_ ?_ | refine lt ?_ ?_ | simp only [*]; done | simp only [fb, *, not_false_eq_true, and_self]; done | exact lf ‹_› (by simp only [*])) | simp -dsimp only [↓bp, bq, br, seval, tbLawScanBack, *] | refine cv_any ?_)
        all_goals rfl
    · have : i = l.length := by omega
      subst this
      have hz : bareK l = bareK r := by
        rw [List.take_length] at htk
        rw [htk, List.take_of_length_le (by omega)]
      rw [decide_eq_true hz]
      clear hi hge hlr htk hz
      repeat' (first | refine xs ?_ ?_ <;> intros | ((first | refine xh ?_ | refine xi ?_); intro bx hbx; (try simp only [fb] at hbx)) | refine xj ?_ | refine cv_plain ?_ | ((with_reducible refine And.intro ?_ ?_); omega) | refine bo_buildSlice (d' := ⟨⟩) ?_ | refine xk (by kernel_rfl) ?_ | refine xf ?_ (by repeat' first | exact lr _ | assumption | refine ls ?_ ?_ | refine lt ?_ ?_ | simp only [*]; done | simp only [fb, *, not_false_eq_true, and_self]; done | exact lf ‹_› (by simp only [*])) | refine finish_two ?_ (by repeat' first | exact lr _ | assumption | refine ls ?_ ?_ | refine lt ?_ ?_ | simp only [*]; done | simp only [fb, *, not_false_eq_true, and_self]; done | exact lf ‹_› (by simp only [*])) | simp -dsimp only [↓bp, bq, br, seval, tbLawScanBack, *] | refine cv_any ?_)
      all_goals rfl
  · have hlr' : ((l.length : Int) = r.length) = False := eq_false (by omega)
    rw [decide_eq_false (fun e => hlr (by have := congrArg List.length e; rwa [bareK_len, bareK_len] at this))]
    clear hlr
    intro σ
    refine Tri.of_awp mixed Tryd.func8 rfl (by kernel_rfl) (by kernel_rfl) (by simp [Tryd.ntmps8]) Tryd.results8 ?_
    repeat' (first | refine xs ?_ ?_ <;> intros | ((first | refine xh ?_ | refine xi ?_); intro bx hbx; (try simp only [fb] at hbx)) | refine xj ?_ | refine cv_plain ?_ | ((with_reducible refine And.intro ?_ ?_); omega) | refine bo_buildSlice (d' := ⟨⟩) ?_ | refine xk (by kernel_rfl) ?_ | refine xf ?_ (by repeat' first | exact lr _ | assumption | refine ls ?_ ?_ | refine lt ?_ ?_ | simp only [*]; done | simp only [fb, *, not_false_eq_true, and_self]; done | exact lf ‹_› (by simp only [*])) | refine finish_two ?_ (by repeat' first | exact lr _ | assumption | refine ls ?_ ?_ | refine lt ?_ ?_ | simp only [*]; done | simp only [fb, *, not_false_eq_true, and_self]; done | exact lf ‹_› (by simp only [*])) | simp -dsimp only [↓bp, bq, br, seval, tbLawScanBack, *] | refine cv_any ?_)
    all_goals rfl
set_option maxHeartbeats 2000000 in
theorem back_long (w : Pure Tryd.prog G 5 [] (.bool true)) (s : List UInt8) (h : 12000 < s.length) : Pure Tryd.prog G 3 [.str s] (.bool true) := by
  have h1 : ((12000 : Int) < (s.length : Int)) = True := eq_true (by omega)
  clear h
  intro σ
  refine Tri.of_awp mixed Tryd.func3 rfl (by kernel_rfl) (by kernel_rfl) (by simp [Tryd.ntmps3]) Tryd.results3 ?_
  repeat' (first | refine xs ?_ ?_ <;> intros | ((first | refine xh ?_ | refine xi ?_); intro bx hbx; (try simp only [fb] at hbx)) | refine Pure.use (w) ?_ | refine Pure.head (w) ?_ | refine xj ?_ | refine cv_plain ?_ | ((with_reducible refine And.intro ?_ ?_); omega) | refine bo_buildSlice (d' := ⟨⟩) ?_ | refine xk (by kernel_rfl) ?_ | refine xf ?_ (by repeat' first | exact lr _ | assumption | refine ls ?_ ?_ | refine lt ?_ ?_ | simp only [*]; done | simp only [fb, *, not_false_eq_true, and_self]; done | exact lf ‹_› (by simp only [*])) | refine finish_two ?_ (by repeat' first | exact lr _ | assumption | refine ls ?_ ?_ | refine lt ?_ ?_ | simp only [*]; done | simp only [fb, *, not_false_eq_true, and_self]; done | exact lf ‹_› (by simp only [*])) | simp -dsimp only [↓bp, bq, br, seval, tbLawScanBack, *] | refine cv_any ?_)
  all_goals rfl
set_option maxHeartbeats 2000000 in
theorem back_bad (hg : GlobS G) (w : Pure Tryd.prog G 5 [] (.bool true)) (s : List UInt8) (h : s.length ≤ 12000) (e p : Nat) (hx : scanT s = .bad e p) : Pure Tryd.prog G 3 [.str s] (.bool true) := by
  have h1 : ((12000 : Int) < (s.length : Int)) = False := eq_false (by omega)
  have he := scanT_bad (by omega) hx
  have t1 := tokens_bad hg (by omega) hx
  have hn : ((e : Int) = 0) = False := eq_false (by omega)
  have hp0 : ((0 : Int) ≤ p) = True := eq_true (by omega)
  have hp1 : ((p : Int) < s.length) = True := eq_true (by omega)
  clear h he hx hg
  intro σ
  refine Tri.of_awp mixed Tryd.func3 rfl (by kernel_rfl) (by kernel_rfl) (by simp [Tryd.ntmps3]) Tryd.results3 ?_
  repeat' (first | refine xs ?_ ?_ <;> intros | ((first | refine xh ?_ | refine xi ?_); intro bx hbx; (try simp only [fb] at hbx)) | refine Pure.use (w) ?_ | refine Pure.head (w) ?_ | refine Pure.use (t1) ?_ | refine Pure.head (t1) ?_ | refine xj ?_ | refine cv_plain ?_ | ((with_reducible refine And.intro ?_ ?_); omega) | refine bo_buildSlice (d' := ⟨⟩) ?_ | refine xk (by kernel_rfl) ?_ | refine xf ?_ (by repeat' first | exact lr _ | assumption | refine ls ?_ ?_ | refine lt ?_ ?_ | simp only [*]; done | simp only [fb, *, not_false_eq_true, and_self]; done | exact lf ‹_› (by simp only [*])) | refine finish_two ?_ (by repeat' first | exact lr _ | assumption | refine ls ?_ ?_ | refine lt ?_ ?_ | simp only [*]; done | simp only [fb, *, not_false_eq_true, and_self]; done | exact lf ‹_› (by simp only [*])) | simp -dsimp only [↓bp, bq, br, seval, tbLawScanBack, *] | refine cv_any ?_)
  all_goals rfl
theorem textOf_take (l : List Tok) (i : Nat) (t : Tok) (h : l[i]? = some t) : textOf (l.take i) ++ spelt t.kind t.text ++ sepL = textOf (l.take (i + 1)) := by
  rw [take_succ_get _ _ _ h]; simp [textOf, List.flatMap_append]
set_option maxHeartbeats 8000000 in
theorem back_ok (hg : GlobS G) (w : Pure Tryd.prog G 5 [] (.bool true)) (s : List UInt8) (h : s.length ≤ 12000) (l : List Tok) (hx : scanT s = .ok l) : Pure Tryd.prog G 3 [.str s] (.bool true) := by
  have h1 : ((12000 : Int) < (s.length : Int)) = False := eq_false (by omega)
  have t1 := tokens_ok hg (by omega) hx
  obtain ⟨hB, hagain⟩ := scan_back hx
  have hll : l.length ≤ 12001 := by
    obtain ⟨_, l0, rfl, hl0⟩ := scanT_ok hx
    have := lexAt_len _ s (Nat.le_refl _) 0 l0 hl0
    rw [List.length_append, List.length_singleton]; omega
  clear hx
  intro σ
  refine Tri.back (Q := fun r => r = .bool true) ?_
  refine Tri.of_awp mixed Tryd.func3 rfl (by kernel_rfl) (by kernel_rfl) (by simp [Tryd.ntmps3]) Tryd.results3 ?_
  repeat' (first | refine xs ?_ ?_ <;> intros | ((first | refine xh ?_ | refine xi ?_); intro bx hbx; (try simp only [fb] at hbx)) | refine Pure.use (w) ?_ | refine Pure.head (w) ?_ | refine Pure.use (t1) ?_ | refine Pure.head (t1) ?_ | refine xj ?_ | refine cv_plain ?_ | ((with_reducible refine And.intro ?_ ?_); omega) | refine bo_buildSlice (d' := ⟨⟩) ?_ | refine xk (by kernel_rfl) ?_ | refine xf ?_ (by repeat' first | exact lr _ | assumption | refine ls ?_ ?_ | refine lt ?_ ?_ | simp only [*]; done | simp only [fb, *, not_false_eq_true, and_self]; done | exact lf ‹_› (by simp only [*])) | refine finish_two ?_ (by repeat' first | exact lr _ | assumption | refine ls ?_ ?_ | refine lt ?_ ?_ | simp only [*]; done | simp only [fb, *, not_false_eq_true, and_self]; done | exact lf ‹_› (by simp only [*])) | simp -dsimp only [↓bp, bq, br, seval, tbLawScanBack, *] | refine cv_any ?_)
  clear t1 w
  have hle0 : σ.le (σ.setBox bx [.int .i64 0, .int .i64 0]) := (AS.le.refl σ).setBox hbx.1 _
  have hbx0 : (σ.setBox bx [.int .i64 0, .int .i64 0]).box bx = some [.int .i64 0, .int .i64 0] := AS.set_get
  generalize σ.setBox bx [.int .i64 0, .int .i64 0] = S at *
  clear hbx
  refine loop_intro (fun n e σ' => ∃ i : Nat, i ≤ l.length ∧ n = l.length - i ∧ e 6 = .int .i64 i ∧ e 5 = .str (textOf (l.take i)) ∧ (textOf (l.take i)).length ≤ 60000 ∧ S.le σ') l.length
    ⟨0, by omega, by omega, by first | (simp -dsimp only [↓bp, bq, br, seval, tbLawScanBack]; done) | (simp -dsimp only [↓bp, bq, br, seval, tbLawScanBack]; try rfl), by first | (simp -dsimp only [↓bp, bq, br, seval, tbLawScanBack]; done) | (simp -dsimp only [↓bp, bq, br, seval, tbLawScanBack]; try rfl), by simp [textOf], AS.le.refl _⟩ ?_
  rintro n v σ2 ⟨i, hi, rfl, h6, h5, h60, hle1⟩
  simp -dsimp only [↓bp, bq, br, seval, tbLawScanBack] at h6 h5
  have hb2 := hle1.box _ _ hbx0
  have hle2 := hle0.trans hle1
  by_cases hlt : (i : Int) < l.length
  · obtain ⟨t, ht⟩ : ∃ t, l[i]? = some t := ⟨_, List.getElem?_eq_getElem (by omega)⟩
    have hlt' := eq_true hlt
    have hm := List.mem_of_getElem? ht
    have hle := hB.le t hm
    have hmost := hB.most t hm
    have hpos : ((s.length : Int) < t.pos) = False := eq_false (by omega)
    have hw : IntKind.i64.wrap ((i : Int) + 1) = ((i + 1 : Nat) : Int) := by rw [wrap_nat (by omega) (by omega)]; rfl
    have hw2 : IntKind.i64.wrap ((l.length : Int) - 1) = ((l.length - 1 : Nat) : Int) := by rw [wrap_nat (by omega) (by omega)]; omega
    have hw3 : IntKind.i64.wrap ((t.pos : Int) + (t.text.length : Int)) = ((t.pos + t.text.length : Nat) : Int) := by rw [wrap_nat (by omega) (by omega)]; omega
    have hsp := spelt_pure (G := G) t (by omega)
    have hsl : (spelt t.kind t.text).length ≤ 4 * t.text.length + 2 := by
      unfold spelt
      split
      · simp only [List.length_cons, List.length_append, escs_len, List.length_nil]; omega
      split
      · simp only [List.length_cons, List.length_append, escs_len, List.length_nil]; omega
      · omega
    have hm1 : ((textOf (l.take i)).length + (spelt t.kind t.text).length ≤ maxLen) = True := eq_true (by unfold maxLen; omega)
    have hm2 : ((textOf (l.take i) ++ spelt t.kind t.text).length + 16 ≤ maxLen) = True := eq_true (by rw [List.length_append]; unfold maxLen; omega)
    have hnx := textOf_take l i t ht
    unfold sepL at hnx
    have h8 : ((t.kind : Int) = 8) = (((i : Nat) : Int) = ((l.length - 1 : Nat) : Int)) := by
      have := hB.last i t ht
      have hp := hB.pos
      apply propext
      constructor
      · intro e; have := this.1 (by omega); omega
      · intro e; have := this.2 (by omega); omega
    have hprev : (((0 : Int) < i) = False) ∨ (((0 : Int) < i) = True ∧ ∃ p : Tok, l[i - 1]? = some p ∧ ((t.pos : Int) ≤ p.pos) = False ∧ IntKind.i64.wrap ((i : Int) - 1) = ((i - 1 : Nat) : Int)) := by
      by_cases h0 : i = 0
      · exact .inl (eq_false (by omega))
      · refine .inr ⟨eq_true (by omega), ?_⟩
        obtain ⟨p, hp⟩ : ∃ p, l[i - 1]? = some p := ⟨_, List.getElem?_eq_getElem (by omega)⟩
        have := hB.up (i - 1) p t hp (by rw [Nat.sub_add_cancel (by omega)]; exact ht)
        exact ⟨p, hp, eq_false (by omega), by rw [wrap_nat (by omega) (by omega)]; omega⟩
    have hkind : ((((i : Nat) : Int) = ((l.length - 1 : Nat) : Int)) = True) ∨ ((((i : Nat) : Int) = ((l.length - 1 : Nat) : Int)) = False ∧ ((t.kind : Int) = 2) = True) ∨ ((((i : Nat) : Int) = ((l.length - 1 : Nat) : Int)) = False ∧ ((t.kind : Int) = 2) = False ∧ ((t.kind : Int) = 4) = True) ∨
        ((((i : Nat) : Int) = ((l.length - 1 : Nat) : Int)) = False ∧ ((t.kind : Int) = 2) = False ∧ ((t.kind : Int) = 4) = False ∧ ((t.text.length : Int) = 0) = False ∧ (if (s.length : Int) < ((t.pos + t.text.length : Nat) : Int) then (s.length : Int) else ((t.pos + t.text.length : Nat) : Int)) = ((t.pos + t.text.length : Nat) : Int) ∧ ((t.pos ≤ t.pos + t.text.length ∧ t.pos + t.text.length ≤ s.length) = True) ∧ ((s.take (t.pos + t.text.length)).drop t.pos = t.text)) := by
      by_cases k8 : t.kind = 8
      · exact .inl (by rw [← h8]; exact eq_true (by omega))
      · have e8 : (((i : Nat) : Int) = ((l.length - 1 : Nat) : Int)) = False := by rw [← h8]; exact eq_false (by omega)
        by_cases k2 : t.kind = 2
        · exact .inr (.inl ⟨e8, eq_true (by omega)⟩)
        by_cases k4 : t.kind = 4
        · exact .inr (.inr (.inl ⟨e8, eq_false (by omega), eq_true (by omega)⟩))
        obtain ⟨g1, g2, g3⟩ := hB.here t hm k8 k2 k4
        have : 0 < t.text.length := List.length_pos_iff.2 g1
        refine .inr (.inr (.inr ⟨e8, eq_false (by omega), eq_false (by omega), eq_false (by omega), if_neg (by omega), eq_true (by omega), ?_⟩))
        rw [List.drop_take, Nat.add_sub_cancel_left]; exact g3
    generalize hT1 : textOf (l.take (i + 1)) = T1 at *
    generalize textOf (l.take i) = T at *
    generalize spelt t.kind t.text = X at *
    clear hi hlt hm hle hmost hsl hB hagain hg hle0 hbx0 h
    rcases hprev with q0 | ⟨q0, p, hp, q1, q2⟩ <;> rcases hkind with k8 | ⟨k8, k2⟩ | ⟨k8, k2, k4⟩ | ⟨k8, k2, k4, g1, g2, g3, g4⟩
    all_goals
      repeat' (first | refine xs ?_ ?_ <;> intros | ((first | refine xh ?_ | refine xi ?_); intro bx hbx; (try simp only [fb] at hbx); try (have nn := fresh_ne (c := bx) hb2 (by simp only [hbx]))) | refine Pure.use (hsp) ?_ | refine Pure.head (hsp) ?_ | refine xj ?_ | refine cv_plain ?_ | ((with_reducible refine And.intro ?_ ?_); omega) | refine bo_buildSlice (d' := ⟨⟩) ?_ | refine xk (by kernel_rfl) ?_ | refine xf ?_ (by repeat' first | exact lr _ | assumption | refine ls ?_ ?_ | refine lt ?_ ?_ | simp only [*]; done | simp only [fb, *, not_false_eq_true, and_self]; done | exact lf ‹_› (by simp only [*])) | refine finish_two ?_ (by repeat' first | exact lr _ | assumption | refine ls ?_ ?_ | refine lt ?_ ?_ | simp only [*]; done | simp only [fb, *, not_false_eq_true, and_self]; done | exact lf ‹_› (by simp only [*])) | simp -dsimp only [↓bp, bq, br, seval, tbLawScanBack, *] | refine cv_any ?_)
      all_goals first
        | exact finishW_some _ (AS.le.refl _) ⟨rfl, by repeat' first | exact lr _ | assumption | refine ls ?_ ?_ | refine lt ?_ ?_ | simp only [*]; done | simp only [fb, *, not_false_eq_true, and_self]; done | exact lf ‹_› (by simp only [*])⟩
        | (have hlt := of_eq_true hlt'
           exact ⟨l.length - (i + 1), by omega, i + 1, by omega, by omega, rfl, by rw [hT1, ← hnx], by rw [hT1]; omega, by repeat' first | exact lr _ | assumption | refine ls ?_ ?_ | refine lt ?_ ?_ | simp only [*]; done | simp only [fb, *, not_false_eq_true, and_self]; done | exact lf ‹_› (by simp only [*])⟩)
  · have : i = l.length := by omega
    subst this
    rw [List.take_length] at h5 h60
    have hlt' := eq_false hlt
    obtain ⟨m, hm, hbm⟩ := hagain h60
    have t2 := tokens_ok hg (by omega) hm
    have hml : m.length ≤ 60001 := by
      obtain ⟨_, l0, rfl, hl0⟩ := scanT_ok hm
      have := lexAt_len _ _ (Nat.le_refl _) 0 l0 hl0
      rw [List.length_append, List.length_singleton]; omega
    have t3 := alikeB_pure (G := G) l m (by omega) (by omega)
    rw [decide_eq_true hbm.symm] at t3
    generalize textOf l = T at *
    clear hB hagain hg hlt hm hbm hml hll h60 hle0 hbx0 h
    repeat' (first | refine xs ?_ ?_ <;> intros | ((first | refine xh ?_ | refine xi ?_); intro bx hbx; (try simp only [fb] at hbx); try (have nn := fresh_ne (c := bx) hb2 (by simp only [hbx]))) | refine Pure.use (t2) ?_ | refine Pure.head (t2) ?_ | refine Pure.use (t3) ?_ | refine Pure.head (t3) ?_ | refine xj ?_ | refine cv_plain ?_ | ((with_reducible refine And.intro ?_ ?_); omega) | refine bo_buildSlice (d' := ⟨⟩) ?_ | refine xk (by kernel_rfl) ?_ | refine xf ?_ (by repeat' first | exact lr _ | assumption | refine ls ?_ ?_ | refine lt ?_ ?_ | simp only [*]; done | simp only [fb, *, not_false_eq_true, and_self]; done | exact lf ‹_› (by simp only [*])) | refine finish_two ?_ (by repeat' first | exact lr _ | assumption | refine ls ?_ ?_ | refine lt ?_ ?_ | simp only [*]; done | simp only [fb, *, not_false_eq_true, and_self]; done | exact lf ‹_› (by simp only [*])) | simp -dsimp only [↓bp, bq, br, seval, tbLawScanBack, *] | refine cv_any ?_)
    all_goals exact finishW_some _ (AS.le.refl _) ⟨rfl, by repeat' first | exact lr _ | assumption | refine ls ?_ ?_ | refine lt ?_ ?_ | simp only [*]; done | simp only [fb, *, not_false_eq_true, and_self]; done | exact lf ‹_› (by simp only [*])⟩
theorem scanBack_pure (hg : GlobS G) (s : List UInt8) (hs : s.length ≤ 1000000000) : Pure Tryd.prog G 3 [.str s] (.bool true) := by
  have w := sawake_pure hg
  by_cases h : 12000 < s.length
  · exact back_long w s h
  · have h : s.length ≤ 12000 := by omega
    cases hx : scanT s with
    | bad e p => exact back_bad hg w s h e p hx
    | ok l => exact back_ok hg w s h l hx
end
set_option maxRecDepth 100000
section
open Go Go.Av Go.RowKit Go.ChangeShapes
variable {H : Type}
theorem read_str (n : Nat) (d : DataW H) (h : tyW Tryd.prog n 9 d) : ∃ s : List UInt8, avW d = .str s ∧ s.length ≤ Rows.uptoBulk d := by
  obtain ⟨s, rfl, _⟩ := tyW_str h Tryd.underlying9
  exact ⟨s, by simp [avW], by simp only [Rows.uptoBulk]; omega⟩
def SS : List TypeId := [9, 46, 52, 3]
theorem closedSS : closedT Tryd.prog SS = true := by kernel_rfl
def GvS (m : Int) : Nat → AV := fun g => if g = 0 then .rp (scanWords.map AV.str) else if g = 1 then .rp (scanSigns.map AV.str) else if g = 2 then .rp [.int .i64 m] else .raw (.pointer (some ⟨g, 0, none⟩))
theorem globGvS (m : Int) : GlobS (GvS m) := ⟨rfl, rfl, m, rfl⟩
theorem words_av : flat (avW (H := Unit) Rows.laid_pigeonhole_scan_words) = scanWords.map AV.str := by kernel_rfl
theorem signs_av : flat (avW (H := Unit) Rows.laid_pigeonhole_scan_signs) = scanSigns.map AV.str := by kernel_rfl
theorem entry_globS {W : World} {laid : List (String × DataW Unit)} (hL : laidMet Tryd.prog laid W) (h1 : ("pigeonhole/scan.words", Rows.laid_pigeonhole_scan_words) ∈ laid) (h2 : ("pigeonhole/scan.signs", Rows.laid_pigeonhole_scan_signs) ∈ laid)
    (hsh : W.ShapedOpen Tryd.prog) : ∃ m, ∀ g, VR (entryK W) (GvS m g) (.pointer (some ⟨g, 0, none⟩)) := by
  have g0 : VR (entryK W) (.rp (scanWords.map AV.str)) (.pointer (some ⟨0, 0, none⟩)) :=
    laid_glob closedSS hL (n := "pigeonhole/scan.words") h1 (g := 0) (t := 46) (by kernel_rfl) (by kernel_rfl) (by decide) words_av
  have g1 : VR (entryK W) (.rp (scanSigns.map AV.str)) (.pointer (some ⟨1, 0, none⟩)) :=
    laid_glob closedSS hL (n := "pigeonhole/scan.signs") h2 (g := 1) (t := 52) (by kernel_rfl) (by kernel_rfl) (by decide) signs_av
  have g2 : ∃ m, W.cell? ⟨2, 0, none⟩ = some (.int .i64 m) :=
    Go.Proofs.cell_of_shapedOpen_int (zero := #[.int .i64 0]) (t := 3) hsh (of_decide_eq_true (by kernel_rfl)) (by kernel_rfl) rfl (by kernel_rfl) (by kernel_rfl) Tryd.underlying3
  obtain ⟨m, g2⟩ := int_glob g2
  refine ⟨m, fun g => ?_⟩
  unfold GvS
  by_cases e0 : g = 0
  · subst e0; exact g0
  · by_cases e1 : g = 1
    · subst e1; exact g1
    · by_cases e2 : g = 2
      · subst e2; exact g2
      · rw [if_neg e0, if_neg e1, if_neg e2]; exact .raw _
end
end Go.Proofs.YtldmniappliepaaDoor
