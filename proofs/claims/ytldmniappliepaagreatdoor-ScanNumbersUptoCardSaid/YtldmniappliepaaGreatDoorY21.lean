/- What the laws of a source's tokens ask. -/
import Derived.Test.YtldmniappliepaaGreatDoorY20
import Derived.Test.YtldmniappliepaaGreatDoorY11
import Derived.Test.YtldmniappliepaaGreatDoorY19
set_option linter.unusedVariables false
set_option linter.unusedSimpArgs false
set_option linter.defProp false
namespace Go.Proofs.YtldmniappliepaaGreatDoor
open Go Go.Av
section
open Go
theorem scanT_ok {s : List UInt8} {l : List Tok} (h : scanT s = .ok l) : s.length ≤ 65536 ∧ ∃ l0, l = l0 ++ [⟨8, [], s.length⟩] ∧ lexAt 0 s = .ok l0 := by
  unfold scanT at h
  split at h
  · cases h
  · cases hx : lexAt 0 s with
    | bad e' p' => rw [hx] at h; cases h
    | ok l0 =>
      rw [hx] at h
      injection h with h1
      exact ⟨by omega, l0, h1.symm, rfl⟩
structure BackOK (s : List UInt8) (l : List Tok) : Prop where
  up : ∀ (i : Nat) a b, l[i]? = some a → l[i + 1]? = some b → a.pos < b.pos
  le : ∀ t, t ∈ l → t.pos ≤ s.length
  last : ∀ (i : Nat) t, l[i]? = some t → (t.kind = 8 ↔ i + 1 = l.length)
  here : ∀ t, t ∈ l → t.kind ≠ 8 → t.kind ≠ 2 → t.kind ≠ 4 → t.text ≠ [] ∧ t.pos + t.text.length ≤ s.length ∧ (s.drop t.pos).take t.text.length = t.text
  most : ∀ t, t ∈ l → t.kind < 9 ∧ t.text.length ≤ s.length
  pos : 0 < l.length
theorem told_kind {k : Nat} {t : List UInt8} (h : Told k t) : k < 8 ∧ (k ≠ 2 → k ≠ 4 → t ≠ []) := by
  rcases h.what with ⟨hk, _, _, c, r, rfl, _⟩ | ⟨rfl, _, h2, _⟩ | ⟨rfl, _⟩ | ⟨rfl, _⟩ | ⟨rfl, rfl⟩ | ⟨rfl, h1⟩
  · exact ⟨by omega, fun _ _ => by simp⟩
  · exact ⟨by omega, fun _ _ => h2⟩
  · exact ⟨by omega, fun h _ => absurd rfl h⟩
  · exact ⟨by omega, fun _ h => absurd rfl h⟩
  · exact ⟨by omega, fun _ _ => by simp⟩
  · exact ⟨by omega, fun _ _ e => by have := (signs_pos t h1).1; rw [e] at this; simp at this⟩
theorem lexAt_text_le : ∀ (m : Nat) (s : List UInt8), s.length ≤ m → ∀ pos l, lexAt pos s = .ok l → ∀ t, t ∈ l → t.text.length ≤ s.length := by
  intro m
  induction m with
  | zero => intro s hs pos l hl; cases s with | nil => cases hl; simp | cons c r => simp at hs
  | succ m ih =>
    intro s hs pos l hl t ht
    match s, hs, hl with
    | [], _, hl => cases hl; simp at ht
    | c :: r, hs, hl =>
      simp only [List.length_cons] at hs
      by_cases h1 : blankB c = true
      · rw [lexAt_blank h1] at hl
        have := ih r (by omega) _ _ hl t ht
        simp only [List.length_cons]; omega
      · have h1 : blankB c = false := by simpa using h1
        by_cases h2 : c = 37
        · subst h2
          have h3 : 0 < (((37 : UInt8) :: r).takeWhile notNL).length := takeWhile_pos r (by decide)
          rw [lexAt_note] at hl
          have := ih _ (by rw [List.length_drop, List.length_cons]; omega) _ _ hl t ht
          rw [List.length_drop] at this; omega
        · cases hk : tokS (c :: r) with
          | err e => rw [lexAt_err h1 h2 hk] at hl; cases hl
          | tok k u n =>
            have h0 := tokS_len hk
            rw [lexAt_tok h1 h2 hk] at hl
            cases hx : lexAt (pos + n) ((c :: r).drop n) with
            | bad e p => rw [hx] at hl; cases hl
            | ok l' =>
              rw [hx] at hl
              cases hl
              simp only [List.cons_append, List.nil_append, List.mem_cons] at ht
              rcases ht with rfl | ht
              · simp only; omega
              · have := ih _ (by rw [List.length_drop, List.length_cons]; omega) _ _ hx t ht
                rw [List.length_drop] at this; omega
theorem lexAt_len : ∀ (m : Nat) (s : List UInt8), s.length ≤ m → ∀ pos l, lexAt pos s = .ok l → l.length ≤ s.length := by
  intro m
  induction m with
  | zero => intro s hs pos l hl; cases s with | nil => cases hl; simp | cons c r => simp at hs
  | succ m ih =>
    intro s hs pos l hl
    match s, hs, hl with
    | [], _, hl => cases hl; simp
    | c :: r, hs, hl =>
      simp only [List.length_cons] at hs
      by_cases h1 : blankB c = true
      · rw [lexAt_blank h1] at hl
        have := ih r (by omega) _ _ hl
        simp only [List.length_cons]; omega
      · have h1 : blankB c = false := by simpa using h1
        by_cases h2 : c = 37
        · subst h2
          have h3 : 0 < (((37 : UInt8) :: r).takeWhile notNL).length := takeWhile_pos r (by decide)
          rw [lexAt_note] at hl
          have := ih _ (by rw [List.length_drop, List.length_cons]; omega) _ _ hl
          rw [List.length_drop] at this; omega
        · cases hk : tokS (c :: r) with
          | err e => rw [lexAt_err h1 h2 hk] at hl; cases hl
          | tok k u n =>
            have h0 := tokS_len hk
            rw [lexAt_tok h1 h2 hk] at hl
            cases hx : lexAt (pos + n) ((c :: r).drop n) with
            | bad e p => rw [hx] at hl; cases hl
            | ok l' =>
              rw [hx] at hl
              cases hl
              have := ih _ (by rw [List.length_drop, List.length_cons]; omega) _ _ hx
              rw [List.length_drop] at this
              simp only [List.length_append, List.length_singleton]; omega
theorem scan_back {s : List UInt8} {l : List Tok} (h : scanT s = .ok l) : BackOK s l ∧ ((textOf l).length ≤ 60000 → ∃ m, scanT (textOf l) = .ok m ∧ bareK m = bareK l) := by
  obtain ⟨hs, l0, rfl, hl⟩ := scanT_ok h
  obtain ⟨h1, h2⟩ := lexAt_places _ s (Nat.le_refl _) 0 l0 hl
  have h3 := lexAt_text_le _ s (Nat.le_refl _) 0 l0 hl
  refine ⟨⟨fun i a b ha hb => ?_, fun t ht => ?_, fun i t hi => ?_, fun t ht k8 k2 k4 => ?_, fun t ht => ?_, by simp⟩, fun hlen => ?_⟩
  · have hp : List.Pairwise (fun (a b : Tok) => a.pos < b.pos) (l0 ++ [⟨8, [], s.length⟩]) := by
      rw [List.pairwise_append]
      refine ⟨h1, by simp, fun a ha b hb => ?_⟩
      simp only [List.mem_singleton] at hb
      subst hb
      have := (h2 a ha).2.1
      simp only; omega
    obtain ⟨q1, q2⟩ := List.getElem?_eq_some_iff.1 ha
    obtain ⟨q3, q4⟩ := List.getElem?_eq_some_iff.1 hb
    have := List.pairwise_iff_getElem.1 hp i (i + 1) q1 q3 (by omega)
    rwa [q2, q4] at this
  · rcases List.mem_append.1 ht with ht | ht
    · have := (h2 t ht).2.1; omega
    · simp only [List.mem_singleton] at ht; subst ht; exact Nat.le_refl _
  · rw [List.length_append, List.length_singleton]
    by_cases hi2 : i < l0.length
    · rw [List.getElem?_append_left hi2] at hi
      have := (told_kind (h2 t (List.mem_of_getElem? hi)).2.2.1).1
      constructor <;> intro h <;> omega
    · rw [List.getElem?_append_right (by omega)] at hi
      have hj : i - l0.length = 0 := by
        have := (List.getElem?_eq_some_iff.1 hi).1
        simp at this; omega
      rw [hj] at hi
      simp only [List.getElem?_cons_zero, Option.some.injEq] at hi
      subst hi
      constructor
      · intro _; omega
      · intro _; rfl
  · rcases List.mem_append.1 ht with ht | ht
    · obtain ⟨q1, q2, q3, q4⟩ := h2 t ht
      have q5 := q4 k2 k4
      simp only [Nat.sub_zero, Nat.zero_add] at q5 q2
      have q6 := q5.length_le
      rw [List.length_drop] at q6
      exact ⟨(told_kind q3).2 k2 k4, by omega, (List.prefix_iff_eq_take.1 q5).symm⟩
    · simp only [List.mem_singleton] at ht; subst ht; exact absurd rfl k8
  · rcases List.mem_append.1 ht with ht | ht
    · exact ⟨by have := (told_kind (h2 t ht).2.2.1).1; omega, h3 t ht⟩
    · simp only [List.mem_singleton] at ht; subst ht; simp
  · have e : textOf (l0 ++ [⟨8, [], s.length⟩]) = textOf l0 ++ (sepL ++ []) := by simp [textOf, spelt]
    obtain ⟨m, hm, hlx⟩ := lexAt_text l0 (fun t ht => (h2 t ht).2.2.1) (sepL ++ []) 0
    rw [lexAt_sep, lexAt_nil] at hlx
    refine ⟨m ++ [⟨8, [], (textOf (l0 ++ [⟨8, [], s.length⟩])).length⟩], ?_, ?_⟩
    · unfold scanT
      rw [if_neg (by omega), e, hlx]
      simp [Tks.pre]
    · unfold bareK at hm ⊢
      rw [List.map_append, List.map_append, hm]
      rfl
end
set_option maxRecDepth 20000
section
def tbScnG := And.intro (And.intro (And.intro @tf3 (And.intro @tf4 @tf5)) (And.intro (And.intro @tf9 @tf33) (And.intro @tf43 @tf41))) (And.intro (And.intro @tf24 (And.intro @tf76 @tf98)) (And.intro (And.intro @tf26 @tf23) (And.intro @ares_tmpc @ares_cellc)))
variable {G : Nat → AV}
theorem tfT : aelt Tryz.prog 23 = some (43, 3, 32) := tf23.2.2.2.2.2.2
theorem tfTE : el Tryz.prog 23 = some 43 := tf23.2.2.2.1
def flt (e p : Nat) : AV := .agg [.int .i64 (e : Nat), .int .i64 (p : Nat)]
def TokRes (σ : AS) (x : Tks) (r : AV) (σ' : AS) : Prop := match x with
  | .ok l => ∃ b, r = .tup [.bs b l.length 3 43, flt 0 0] ∧ σ.le σ' ∧ σ.box b = none ∧ σ.tip b = none ∧ σ'.box b = some ((l.map Tok.enc).flatMap flat)
  | .bad e p => r = .tup [.nil, flt e p] ∧ σ.le σ'
theorem tok_ok {l : List Tok} : ∀ a, a ∈ l.map Tok.enc → (flat a).length = 3 ∧ isv a = true := fun a ha => by
  obtain ⟨x, _, rfl⟩ := List.mem_map.1 ha
  exact ⟨x.len_flat, x.isv_enc⟩
theorem pre_ok {x : Tks} {L l : List Tok} (h : x = (Tks.ok l).pre L) : x = .ok (L ++ l) := h
set_option maxHeartbeats 2000000 in
theorem tokens_long (s : List UInt8) (hs : 65536 < s.length) (hm : s.length ≤ 1000000000) (σ : AS) : Tri Tryz.prog G 6 [.str s] σ (TokRes σ (scanT s)) := by
  have hx : scanT s = .bad 3 0 := if_pos hs
  rw [hx]
  have h1 : ((65536 : Int) < s.length) = True := eq_true (by omega)
  clear hx hs hm
  refine Tri.of_awp mixed Tryz.func6 rfl (by kernel_rfl) (by kernel_rfl) (by simp [Tryz.ntmps6]) Tryz.results6 ?_
  simp -dsimp only [↓bp, bq, br, seval, tbScnG]
  refine newT_plain fun b2 h2 => ?_
  repeat' (first | refine xs ?_ ?_ <;> intros | ((first | refine xh ?_ | refine xi ?_); intro bx hbx; (try simp only [fb] at hbx)) | refine xj ?_ | refine cv_plain ?_ | ((with_reducible refine And.intro ?_ ?_); omega) | refine bo_buildSlice (d' := ⟨⟩) ?_ | refine xk (by kernel_rfl) ?_ | refine xf ?_ (by repeat' first | exact lr _ | assumption | refine ls ?_ ?_ | refine lt ?_ ?_ | simp only [*]; done | simp only [fb, *, not_false_eq_true, and_self]; done | exact lf ‹_› (by simp only [*])) | refine finish_two ?_ (by repeat' first | exact lr _ | assumption | refine ls ?_ ?_ | refine lt ?_ ?_ | simp only [*]; done | simp only [fb, *, not_false_eq_true, and_self]; done | exact lf ‹_› (by simp only [*])) | simp -dsimp only [↓bp, bq, br, seval, tbScnG, *] | refine cv_any ?_)
  exact finishW_some _ (AS.le.refl _) ⟨rfl, by repeat' first | exact lr _ | assumption | refine ls ?_ ?_ | refine lt ?_ ?_ | simp only [*]; done | simp only [fb, *, not_false_eq_true, and_self]; done | exact lf ‹_› (by simp only [*])⟩
theorem wb_notRow {n : Nat} {E : TypeId} {σ0 σ : AS} {v : AV} {xs z : List AV} {c : Nat} (h : WBuf n E σ0 σ v xs) (hc : σ0.box c = some z) : notRow v c := by
  cases h with
  | nil _ => trivial
  | row r xs h h0 h1 hbx hx => intro e; rw [← e, hc] at h0; cases h0
set_option maxHeartbeats 4000000 in
theorem tokens_short (hg : GlobS G) (s : List UInt8) (hs : s.length ≤ 65536) (σ : AS) : Tri Tryz.prog G 6 [.str s] σ (TokRes σ (scanT s)) := by
  have hx : scanT s = match lexAt 0 s with
    | .ok l => .ok (l ++ [⟨8, [], s.length⟩])
    | .bad e p => .bad e p := if_neg (by omega)
  have htk := fun i (h0 : s.drop i ≠ []) => stoken_pure hg (s.drop i) h0 (by rw [List.length_drop]; omega)
  have hib : ∀ i, Pure Tryz.prog G 19 [.str (s.drop i), .int .u8 10] (.int .i64 (if ((s.drop i).takeWhile notNL).length < (s.drop i).length then (((s.drop i).takeWhile notNL).length : Int) else -1)) := fun i => by
    have := indexByte_pure G (s.drop i) 10
    rwa [indexByte_nl] at this
  have h1 : ((65536 : Int) < s.length) = False := eq_false (by omega)
  obtain ⟨X, hX⟩ : ∃ X, X = lexAt 0 s := ⟨_, rfl⟩
  rw [← hX] at hx
  rw [hx]
  clear hx hg
  refine Tri.of_awp mixed Tryz.func6 rfl (by kernel_rfl) (by kernel_rfl) (by simp [Tryz.ntmps6]) Tryz.results6 ?_
  simp -dsimp only [↓bp, bq, br, seval, tbScnG]
  refine newT_plain fun b2 h2 => ?_
  obtain ⟨σa, hσa⟩ : ∃ σa, σa = σ.setBox b2 [.int .i64 0, .int .i64 0] := ⟨_, rfl⟩
  have hla : σ.le σa := by rw [hσa]; exact (AS.le.refl σ).setBox h2.1 _
  have ha : σa.box b2 = some [.int .i64 0, .int .i64 0] := by rw [hσa]; simp [AS.setBox]
  rw [← hσa]
  clear hσa
  repeat' (first | refine xs ?_ ?_ <;> intros | ((first | refine xh ?_ | refine xi ?_); intro bx hbx; (try simp only [fb] at hbx)) | refine xj ?_ | refine cv_plain ?_ | ((with_reducible refine And.intro ?_ ?_); omega) | refine bo_buildSlice (d' := ⟨⟩) ?_ | refine xk (by kernel_rfl) ?_ | refine xf ?_ (by repeat' first | exact lr _ | assumption | refine ls ?_ ?_ | refine lt ?_ ?_ | simp only [*]; done | simp only [fb, *, not_false_eq_true, and_self]; done | exact lf ‹_› (by simp only [*])) | refine finish_two ?_ (by repeat' first | exact lr _ | assumption | refine ls ?_ ?_ | refine lt ?_ ?_ | simp only [*]; done | simp only [fb, *, not_false_eq_true, and_self]; done | exact lf ‹_› (by simp only [*])) | simp -dsimp only [↓bp, bq, br, seval, tbScnG, *] | refine cv_any ?_)
  refine loop_intro (fun n e σ' => ∃ (i : Nat) (v : AV) (L : List Tok), i ≤ s.length ∧ L.length ≤ i ∧ n = s.length - i ∧ e 5 = .int .i64 i ∧ e 4 = v ∧ WBuf 3 43 σa σ' v (L.map Tok.enc) ∧ X = (lexAt i (s.drop i)).pre L) s.length
    ⟨0, .nil, [], by omega, by simp, by omega, by first | (simp -dsimp only [↓bp, bq, br, seval, tbScnG]; done) | (simp -dsimp only [↓bp, bq, br, seval, tbScnG]; try rfl), by first | (simp -dsimp only [↓bp, bq, br, seval, tbScnG]; done) | (simp -dsimp only [↓bp, bq, br, seval, tbScnG]; try rfl), .nil (AS.le.refl _), by rw [List.drop_zero, hX, Tks.pre_nil]⟩ ?_
  clear hX
  rintro n e σ2 ⟨i, v, L, hi, hLi, rfl, h5, h4, hB, hX⟩
  simp -dsimp only [↓bp, bq, br, seval, tbScnG] at h5 h4
  have hb2 := hB.le.box _ _ ha
  have hle2 := hla.trans hB.le
  have hLl : (L.map Tok.enc).length ≤ 65536 := by rw [List.length_map]; omega
  by_cases hlt : (i : Int) < s.length
  · obtain ⟨c, hc⟩ : ∃ c, s[i]? = some c := ⟨_, List.getElem?_eq_getElem (by omega)⟩
    have hdr := drop_get _ _ _ hc
    have hlt' := eq_true hlt
    have h0i : (0 : Int) ≤ i := by omega
    by_cases hbl : blankB c = true
    · rw [hdr, lexAt_blank hbl] at hX
      have hw : IntKind.i64.wrap ((i : Int) + 1) = ((i + 1 : Nat) : Int) := by rw [wrap_nat (by omega) (by omega)]; rfl
      have key : ∀ k : UInt8, (c = k) → (c.toNat : Int) = k.toNat := fun k h => by rw [h]
      have hcases : ((c.toNat : Int) = 32) = True ∨ ((c.toNat : Int) = 32) = False ∧ ((c.toNat : Int) = 9) = True ∨ ((c.toNat : Int) = 32) = False ∧ ((c.toNat : Int) = 9) = False ∧ ((c.toNat : Int) = 13) = True ∨ ((c.toNat : Int) = 32) = False ∧ ((c.toNat : Int) = 9) = False ∧ ((c.toNat : Int) = 13) = False ∧ ((c.toNat : Int) = 10) = True := by
        unfold blankB at hbl
        simp only [Bool.or_eq_true, decide_eq_true_eq] at hbl
        rcases hbl with ((rfl | rfl) | rfl) | rfl
        · exact .inl (by decide)
        · exact .inr (.inl (by decide))
        · exact .inr (.inr (.inl (by decide)))
        · exact .inr (.inr (.inr (by decide)))
      clear hbl key htk hib hlt hdr
      rcases hcases with q1 | ⟨q1, q2⟩ | ⟨q1, q2, q3⟩ | ⟨q1, q2, q3, q4⟩
      all_goals
        repeat' (first | refine xs ?_ ?_ <;> intros | ((first | refine xh ?_ | refine xi ?_); intro bx hbx; (try simp only [fb] at hbx)) | refine xj ?_ | refine cv_plain ?_ | ((with_reducible refine And.intro ?_ ?_); omega) | refine bo_buildSlice (d' := ⟨⟩) ?_ | refine xk (by kernel_rfl) ?_ | refine xf ?_ (by repeat' first | exact lr _ | assumption | refine ls ?_ ?_ | refine lt ?_ ?_ | simp only [*]; done | simp only [fb, *, not_false_eq_true, and_self]; done | exact lf ‹_› (by simp only [*])) | refine finish_two ?_ (by repeat' first | exact lr _ | assumption | refine ls ?_ ?_ | refine lt ?_ ?_ | simp only [*]; done | simp only [fb, *, not_false_eq_true, and_self]; done | exact lf ‹_› (by simp only [*])) | simp -dsimp only [↓bp, bq, br, seval, tbScnG, *] | refine cv_any ?_)
        all_goals (have hlt := of_eq_true hlt')
        all_goals exact ⟨s.length - (i + 1), by omega, i + 1, v, L, by omega, by omega, by omega, rfl, rfl, hB, rfl⟩
    · have hbl : blankB c = false := by simpa using hbl
      have q : ((c.toNat : Int) = 32) = False ∧ ((c.toNat : Int) = 9) = False ∧ ((c.toNat : Int) = 13) = False ∧ ((c.toNat : Int) = 10) = False := by
        have h2 := u8_all (p := fun c => blankB c || (!decide ((c.toNat : Int) = 32) && !decide ((c.toNat : Int) = 9) && !decide ((c.toNat : Int) = 13) && !decide ((c.toNat : Int) = 10))) (by decide +kernel) c
        rw [hbl] at h2
        simp only [Bool.false_or, Bool.and_eq_true, Bool.not_eq_true', decide_eq_false_iff_not] at h2
        obtain ⟨⟨⟨q1, q2⟩, q3⟩, q4⟩ := h2
        exact ⟨eq_false q1, eq_false q2, eq_false q3, eq_false q4⟩
      obtain ⟨q1, q2, q3, q4⟩ := q
      by_cases h37 : c = 37
      · subst h37
        have hn := @lexAt_note i (s.drop (i + 1))
        rw [← hdr] at hn
        rw [hn] at hX
        have hib := hib i
        have hT1 := takeWhile_len (p := notNL) (s.drop i)
        have hT0 : 0 < ((s.drop i).takeWhile notNL).length := by rw [hdr]; exact takeWhile_pos _ (by decide)
        rw [List.length_drop] at hib hT1
        rw [List.drop_drop] at hX
        have n37 : (((37 : UInt8).toNat : Int) = 37) = True := eq_true rfl
        generalize ((s.drop i).takeWhile notNL).length = T at *
        by_cases hT : T < s.length - i
        · rw [if_pos hT] at hib
          have hT' : ((0 : Int) ≤ (T : Int)) = True := eq_true (by omega)
          have hw : IntKind.i64.wrap ((i : Int) + (T : Int)) = ((i + T : Nat) : Int) := by rw [wrap_nat (by omega) (by omega)]; omega
          clear htk hlt hdr hn hbl q1 q2 q3 q4 n37
          repeat' (first | refine xs ?_ ?_ <;> intros | ((first | refine xh ?_ | refine xi ?_); intro bx hbx; (try simp only [fb] at hbx)) | refine Pure.use (hib) ?_ | refine Pure.head (hib) ?_ | refine xj ?_ | refine cv_plain ?_ | ((with_reducible refine And.intro ?_ ?_); omega) | refine bo_buildSlice (d' := ⟨⟩) ?_ | refine xk (by kernel_rfl) ?_ | refine xf ?_ (by repeat' first | exact lr _ | assumption | refine ls ?_ ?_ | refine lt ?_ ?_ | simp only [*]; done | simp only [fb, *, not_false_eq_true, and_self]; done | exact lf ‹_› (by simp only [*])) | refine finish_two ?_ (by repeat' first | exact lr _ | assumption | refine ls ?_ ?_ | refine lt ?_ ?_ | simp only [*]; done | simp only [fb, *, not_false_eq_true, and_self]; done | exact lf ‹_› (by simp only [*])) | simp -dsimp only [↓bp, bq, br, seval, tbScnG, *] | refine cv_any ?_)
          all_goals (have hlt := of_eq_true hlt')
          all_goals exact ⟨s.length - (i + T), by omega, i + T, v, L, by omega, by omega, by omega, rfl, rfl, hB, rfl⟩
        · rw [if_neg hT] at hib
          have hTe : i + T = s.length := by omega
          rw [hTe] at hX
          clear htk hlt hdr hn hbl hT q1 q2 q3 q4 n37
          repeat' (first | refine xs ?_ ?_ <;> intros | ((first | refine xh ?_ | refine xi ?_); intro bx hbx; (try simp only [fb] at hbx)) | refine Pure.use (hib) ?_ | refine Pure.head (hib) ?_ | refine xj ?_ | refine cv_plain ?_ | ((with_reducible refine And.intro ?_ ?_); omega) | refine bo_buildSlice (d' := ⟨⟩) ?_ | refine xk (by kernel_rfl) ?_ | refine xf ?_ (by repeat' first | exact lr _ | assumption | refine ls ?_ ?_ | refine lt ?_ ?_ | simp only [*]; done | simp only [fb, *, not_false_eq_true, and_self]; done | exact lf ‹_› (by simp only [*])) | refine finish_two ?_ (by repeat' first | exact lr _ | assumption | refine ls ?_ ?_ | refine lt ?_ ?_ | simp only [*]; done | simp only [fb, *, not_false_eq_true, and_self]; done | exact lf ‹_› (by simp only [*])) | simp -dsimp only [↓bp, bq, br, seval, tbScnG, *] | refine cv_any ?_)
          all_goals (have hlt := of_eq_true hlt')
          all_goals exact ⟨s.length - s.length, by omega, s.length, v, L, by omega, by omega, by omega, rfl, rfl, hB, rfl⟩
      · have n37 : ((c.toNat : Int) = 37) = False := eq_false fun h => h37 (UInt8.toNat_inj.1 (show c.toNat = (37 : UInt8).toNat by rw [show (37 : UInt8).toNat = 37 from rfl]; omega))
        have htk := htk i (by rw [hdr]; simp)
        cases hk : tokS (s.drop i) with
        | err e =>
          rw [hk] at htk
          have he := tokS_err hk
          have he0 : ((e : Int) = 0) = False := eq_false (by omega)
          rw [hdr] at hk hX
          rw [lexAt_err hbl h37 hk] at hX
          replace hX : X = .bad e i := hX
          subst hX
          simp only
          unfold tkV at htk
          clear hib hlt hdr hbl hk h37 he hB
          repeat' (first | refine xs ?_ ?_ <;> intros | ((first | refine xh ?_ | refine xi ?_); intro bx hbx; (try simp only [fb] at hbx); try (have nn := fresh_ne (c := bx) hb2 (by simp only [hbx]))) | refine Pure.use (htk) ?_ | refine Pure.head (htk) ?_ | refine xj ?_ | refine cv_plain ?_ | ((with_reducible refine And.intro ?_ ?_); omega) | refine bo_buildSlice (d' := ⟨⟩) ?_ | refine xk (by kernel_rfl) ?_ | refine xf ?_ (by repeat' first | exact lr _ | assumption | refine ls ?_ ?_ | refine lt ?_ ?_ | simp only [*]; done | simp only [fb, *, not_false_eq_true, and_self]; done | exact lf ‹_› (by simp only [*])) | refine finish_two ?_ (by repeat' first | exact lr _ | assumption | refine ls ?_ ?_ | refine lt ?_ ?_ | simp only [*]; done | simp only [fb, *, not_false_eq_true, and_self]; done | exact lf ‹_› (by simp only [*])) | simp -dsimp only [↓bp, bq, br, seval, tbScnG, *] | refine cv_any ?_)
          all_goals exact finishW_some _ (AS.le.refl _) ⟨rfl, by repeat' first | exact lr _ | assumption | refine ls ?_ ?_ | refine lt ?_ ?_ | simp only [*]; done | simp only [fb, *, not_false_eq_true, and_self]; done | exact lf ‹_› (by simp only [*])⟩
        | tok k t n =>
          rw [hk] at htk
          have hn0 := tokS_len hk
          rw [List.length_drop] at hn0
          rw [hdr] at hk
          have hX2 := hX
          rw [hdr, lexAt_tok hbl h37 hk, ← hdr, List.drop_drop, Tks.pre_pre] at hX2
          unfold tkV at htk
          have hw : IntKind.i64.wrap ((i : Int) + (n : Int)) = ((i + n : Nat) : Int) := by rw [wrap_nat (by omega) (by omega)]; omega
          clear hX hib hlt hdr hbl hk h37
          have hX := hX2
          clear hX2
          repeat' (first | refine xs ?_ ?_ <;> intros | ((first | refine xh ?_ | refine xi ?_); intro bx hbx; (try simp only [fb] at hbx); try (have nn := fresh_ne (c := bx) hb2 (by simp only [hbx]))) | refine Pure.use (htk) ?_ | refine Pure.head (htk) ?_ | ((refine build_one tfT (a := (⟨k, t, i⟩ : Tok).enc) (Tok.isv_enc _) (Tok.len_flat _) (by omega) ?_)) | ((refine app_wb (ys := [(⟨k, t, i⟩ : Tok).enc]) (hB.newBox (by first | assumption | (simp only [*]; done)) _).1 tfT (asrc_sl tfTE) (fun a ha => by simp at ha; subst ha; exact ⟨Tok.len_flat _, Tok.isv_enc _⟩) (by simp only [List.length_cons, List.length_nil]; omega) (fun v3 σ3 hA => ?_); have hb3 := hA.buf.le.box _ _ ha; have hB3 := hA.buf; clear hA)) | refine xj ?_ | refine cv_plain ?_ | ((with_reducible refine And.intro ?_ ?_); omega) | refine bo_buildSlice (d' := ⟨⟩) ?_ | refine xk (by kernel_rfl) ?_ | refine xf ?_ (by repeat' first | exact lr _ | assumption | refine ls ?_ ?_ | refine lt ?_ ?_ | simp only [*]; done | simp only [fb, *, not_false_eq_true, and_self]; done | exact lf ‹_› (by simp only [*])) | refine finish_two ?_ (by repeat' first | exact lr _ | assumption | refine ls ?_ ?_ | refine lt ?_ ?_ | simp only [*]; done | simp only [fb, *, not_false_eq_true, and_self]; done | exact lf ‹_› (by simp only [*])) | simp -dsimp only [↓bp, bq, br, seval, tbScnG, *] | refine cv_any ?_)
          all_goals (have hlt := of_eq_true hlt')
          all_goals exact ⟨s.length - (i + n), by omega, i + n, v3, L ++ [⟨k, t, i⟩], by omega, by rw [List.length_append, List.length_singleton]; omega, by omega, rfl, rfl, by rw [List.map_append]; exact hB3, rfl⟩
  · have : i = s.length := by omega
    subst this
    rw [List.drop_length, lexAt_nil] at hX
    have hlt' := eq_false hlt
    have hX := pre_ok hX
    rw [List.append_nil] at hX
    subst hX
    simp only
    clear htk hib hlt
    repeat' (first | refine xs ?_ ?_ <;> intros | ((first | refine xh ?_ | refine xi ?_); intro bx hbx; (try simp only [fb] at hbx)) | ((refine build_one tfT (a := (⟨8, [], s.length⟩ : Tok).enc) (Tok.isv_enc _) (Tok.len_flat _) (by omega) ?_)) | ((refine app_wb (ys := [(⟨8, [], s.length⟩ : Tok).enc]) hB tfT (asrc_sl tfTE) (fun a ha => by simp at ha; subst ha; exact ⟨Tok.len_flat _, Tok.isv_enc _⟩) (by simp only [List.length_cons, List.length_nil]; omega) (fun v3 σ3 hA => ?_); have hb3 := hA.buf.le.box _ _ ha; have hB3 := hA.buf; rw [← List.map_singleton, ← List.map_append] at hB3; have hn3 := wb_notRow hB3 ha; obtain ⟨rr, hrr, g1, g2, g3⟩ := hB3.form (by simp); have hle3 := hla.trans hB3.le; clear hA hB3; subst hrr; rw [List.length_map] at hn3 ⊢)) | refine xj ?_ | refine cv_plain ?_ | ((with_reducible refine And.intro ?_ ?_); omega) | refine bo_buildSlice (d' := ⟨⟩) ?_ | refine xk (by kernel_rfl) ?_ | refine xf ?_ (by repeat' first | exact lr _ | assumption | refine ls ?_ ?_ | refine lt ?_ ?_ | simp only [*]; done | simp only [fb, *, not_false_eq_true, and_self]; done | exact lf ‹_› (by simp only [*])) | refine finish_two ?_ (by repeat' first | exact lr _ | assumption | refine ls ?_ ?_ | refine lt ?_ ?_ | simp only [*]; done | simp only [fb, *, not_false_eq_true, and_self]; done | exact lf ‹_› (by simp only [*])) | simp -dsimp only [↓bp, bq, br, seval, tbScnG, *] | refine cv_any ?_)
    exact finishW_some _ (AS.le.refl _) ⟨rr, rfl, by repeat' first | exact lr _ | assumption | refine ls ?_ ?_ | refine lt ?_ ?_ | simp only [*]; done | simp only [fb, *, not_false_eq_true, and_self]; done | exact lf ‹_› (by simp only [*]), hla.noBox g2, hla.noTip g3, by simp only [AS.setBox, if_neg (Ne.symm hn3)]; exact g1⟩
end
set_option maxRecDepth 20000
section
def tbRScG := And.intro (And.intro (And.intro @tf3 @tf4) (And.intro @tf5 (And.intro @tf9 @tf43))) (And.intro (And.intro @tf41 (And.intro @tf24 @tf26)) (And.intro @tf23 (And.intro @ares_tmpc @ares_cellc)))
variable (G : Nat → AV)
set_option maxHeartbeats 2000000 in
theorem rtokens_long (s : List UInt8) (hs : 65536 < s.length) (hm : s.length ≤ 1000000000) (σ : AS) : Tri Tryz.prog G 7 [.str s] σ (TokRes σ (scanT s)) := by
  have hx : scanT s = .bad 3 0 := if_pos hs
  rw [hx]
  have h1 : ((65536 : Int) < s.length) = True := eq_true (by omega)
  clear hx hs hm
  refine Tri.of_awp mixed Tryz.func7 rfl (by kernel_rfl) (by kernel_rfl) (by simp [Tryz.ntmps7]) Tryz.results7 ?_
  simp -dsimp only [↓bp, bq, br, seval, tbRScG]
  refine newT_plain fun b2 h2 => ?_
  repeat' (first | refine xs ?_ ?_ <;> intros | ((first | refine xh ?_ | refine xi ?_); intro bx hbx; (try simp only [fb] at hbx)) | refine xj ?_ | refine cv_plain ?_ | ((with_reducible refine And.intro ?_ ?_); omega) | refine bo_buildSlice (d' := ⟨⟩) ?_ | refine xk (by kernel_rfl) ?_ | refine xf ?_ (by repeat' first | exact lr _ | assumption | refine ls ?_ ?_ | refine lt ?_ ?_ | simp only [*]; done | simp only [fb, *, not_false_eq_true, and_self]; done | exact lf ‹_› (by simp only [*])) | refine finish_two ?_ (by repeat' first | exact lr _ | assumption | refine ls ?_ ?_ | refine lt ?_ ?_ | simp only [*]; done | simp only [fb, *, not_false_eq_true, and_self]; done | exact lf ‹_› (by simp only [*])) | simp -dsimp only [↓bp, bq, br, seval, tbRScG, *] | refine cv_any ?_)
  exact finishW_some _ (AS.le.refl _) ⟨rfl, by repeat' first | exact lr _ | assumption | refine ls ?_ ?_ | refine lt ?_ ?_ | simp only [*]; done | simp only [fb, *, not_false_eq_true, and_self]; done | exact lf ‹_› (by simp only [*])⟩
theorem lexAt_noteAll {i : Nat} {r : List UInt8} {k : Nat} (hk : ((37 :: r).takeWhile notNL).length = k) : lexAt i (37 :: r) = lexAt (i + k) ((37 :: r).drop k) := by
  subst hk; exact lexAt_note
set_option maxHeartbeats 4000000 in
theorem rtokens_short (s : List UInt8) (hs : s.length ≤ 65536) (σ : AS) : Tri Tryz.prog G 7 [.str s] σ (TokRes σ (scanT s)) := by
  have hx : scanT s = match lexAt 0 s with
    | .ok l => .ok (l ++ [⟨8, [], s.length⟩])
    | .bad e p => .bad e p := if_neg (by omega)
  have htk := fun i (h0 : i < s.length) => rtoken_pure G s i h0 (by omega)
  have hbk := rblank_pure G
  have h1 : ((65536 : Int) < s.length) = False := eq_false (by omega)
  obtain ⟨X, hX⟩ : ∃ X, X = lexAt 0 s := ⟨_, rfl⟩
  rw [← hX] at hx
  rw [hx]
  clear hx
  refine Tri.of_awp mixed Tryz.func7 rfl (by kernel_rfl) (by kernel_rfl) (by simp [Tryz.ntmps7]) Tryz.results7 ?_
  simp -dsimp only [↓bp, bq, br, seval, tbRScG]
  refine newT_plain fun b2 h2 => ?_
  obtain ⟨σa, hσa⟩ : ∃ σa, σa = σ.setBox b2 [.int .i64 0, .int .i64 0] := ⟨_, rfl⟩
  have hla : σ.le σa := by rw [hσa]; exact (AS.le.refl σ).setBox h2.1 _
  have ha : σa.box b2 = some [.int .i64 0, .int .i64 0] := by rw [hσa]; simp [AS.setBox]
  rw [← hσa]
  clear hσa
  repeat' (first | refine xs ?_ ?_ <;> intros | ((first | refine xh ?_ | refine xi ?_); intro bx hbx; (try simp only [fb] at hbx)) | refine xj ?_ | refine cv_plain ?_ | ((with_reducible refine And.intro ?_ ?_); omega) | refine bo_buildSlice (d' := ⟨⟩) ?_ | refine xk (by kernel_rfl) ?_ | refine xf ?_ (by repeat' first | exact lr _ | assumption | refine ls ?_ ?_ | refine lt ?_ ?_ | simp only [*]; done | simp only [fb, *, not_false_eq_true, and_self]; done | exact lf ‹_› (by simp only [*])) | refine finish_two ?_ (by repeat' first | exact lr _ | assumption | refine ls ?_ ?_ | refine lt ?_ ?_ | simp only [*]; done | simp only [fb, *, not_false_eq_true, and_self]; done | exact lf ‹_› (by simp only [*])) | simp -dsimp only [↓bp, bq, br, seval, tbRScG, *] | refine cv_any ?_)
  refine loop_intro (fun n e σ' => ∃ (i : Nat) (v : AV) (L : List Tok), i ≤ s.length ∧ L.length ≤ i ∧ n = s.length - i ∧ e 5 = .int .i64 i ∧ e 4 = v ∧ WBuf 3 43 σa σ' v (L.map Tok.enc) ∧ X = (lexAt i (s.drop i)).pre L) s.length
    ⟨0, .nil, [], by omega, by simp, by omega, by first | (simp -dsimp only [↓bp, bq, br, seval, tbRScG]; done) | (simp -dsimp only [↓bp, bq, br, seval, tbRScG]; try rfl), by first | (simp -dsimp only [↓bp, bq, br, seval, tbRScG]; done) | (simp -dsimp only [↓bp, bq, br, seval, tbRScG]; try rfl), .nil (AS.le.refl _), by rw [List.drop_zero, hX, Tks.pre_nil]⟩ ?_
  clear hX
  rintro n e σ2 ⟨i, v, L, hi, hLi, rfl, h5, h4, hB, hX⟩
  simp -dsimp only [↓bp, bq, br, seval, tbRScG] at h5 h4
  have hb2 := hB.le.box _ _ ha
  have hle2 := hla.trans hB.le
  have hLl : (L.map Tok.enc).length ≤ 65536 := by rw [List.length_map]; omega
  by_cases hlt : (i : Int) < s.length
  · obtain ⟨c, hc⟩ : ∃ c, s[i]? = some c := ⟨_, List.getElem?_eq_getElem (by omega)⟩
    have hdr := drop_get _ _ _ hc
    have hlt' := eq_true hlt
    have h0i : (0 : Int) ≤ i := by omega
    have hbc := hbk c
    by_cases hbl : blankB c = true
    · rw [hdr, lexAt_blank hbl] at hX
      rw [hbl] at hbc
      have hw : IntKind.i64.wrap ((i : Int) + 1) = ((i + 1 : Nat) : Int) := by rw [wrap_nat (by omega) (by omega)]; rfl
      clear hbl htk hbk hlt hdr
      repeat' (first | refine xs ?_ ?_ <;> intros | ((first | refine xh ?_ | refine xi ?_); intro bx hbx; (try simp only [fb] at hbx)) | refine Pure.use (hbc) ?_ | refine Pure.head (hbc) ?_ | refine xj ?_ | refine cv_plain ?_ | ((with_reducible refine And.intro ?_ ?_); omega) | refine bo_buildSlice (d' := ⟨⟩) ?_ | refine xk (by kernel_rfl) ?_ | refine xf ?_ (by repeat' first | exact lr _ | assumption | refine ls ?_ ?_ | refine lt ?_ ?_ | simp only [*]; done | simp only [fb, *, not_false_eq_true, and_self]; done | exact lf ‹_› (by simp only [*])) | refine finish_two ?_ (by repeat' first | exact lr _ | assumption | refine ls ?_ ?_ | refine lt ?_ ?_ | simp only [*]; done | simp only [fb, *, not_false_eq_true, and_self]; done | exact lf ‹_› (by simp only [*])) | simp -dsimp only [↓bp, bq, br, seval, tbRScG, *] | refine cv_any ?_)
      all_goals (have hlt := of_eq_true hlt')
      all_goals exact ⟨s.length - (i + 1), by omega, i + 1, v, L, by omega, by omega, by omega, rfl, rfl, hB, rfl⟩
    · have hbl : blankB c = false := by simpa using hbl
      rw [hbl] at hbc
      by_cases h37 : c = 37
      · subst h37
        have n37 : (((37 : UInt8).toNat : Int) = 37) = True := eq_true rfl
        have hn := fun k hk => @lexAt_noteAll i (s.drop (i + 1)) k hk
        rw [← hdr] at hn
        clear htk hbk hdr hbl
        repeat' (first | refine xs ?_ ?_ <;> intros | ((first | refine xh ?_ | refine xi ?_); intro bx hbx; (try simp only [fb] at hbx)) | refine Pure.use (hbc) ?_ | refine Pure.head (hbc) ?_ | refine xj ?_ | refine cv_plain ?_ | ((with_reducible refine And.intro ?_ ?_); omega) | refine bo_buildSlice (d' := ⟨⟩) ?_ | refine xk (by kernel_rfl) ?_ | refine xf ?_ (by repeat' first | exact lr _ | assumption | refine ls ?_ ?_ | refine lt ?_ ?_ | simp only [*]; done | simp only [fb, *, not_false_eq_true, and_self]; done | exact lf ‹_› (by simp only [*])) | refine finish_two ?_ (by repeat' first | exact lr _ | assumption | refine ls ?_ ?_ | refine lt ?_ ?_ | simp only [*]; done | simp only [fb, *, not_false_eq_true, and_self]; done | exact lf ‹_› (by simp only [*])) | simp -dsimp only [↓bp, bq, br, seval, tbRScG, *] | refine cv_any ?_)
        clear hbc
        refine loop_keep mixed (fun n e => ∃ k : Nat, i ≤ k ∧ k ≤ s.length ∧ n = s.length - k ∧ e 5 = .int .i64 k ∧ ∀ x, x ∈ (s.drop i).take (k - i) → notNL x = true) (s.length - i)
          ⟨i, by omega, by omega, by omega, by first | (simp -dsimp only [↓bp, bq, br, seval, tbRScG]; done) | (simp -dsimp only [↓bp, bq, br, seval, tbRScG]; exact h5), by simp⟩ ?_
        rintro n v2 ⟨k, hki, hk, rfl, h5k, hx⟩
        simp -dsimp only [↓bp, bq, br, seval, tbRScG] at h5k
        have fin : (s.drop i).takeWhile notNL = (s.drop i).take (k - i) → X = (lexAt k (s.drop k)).pre L ∧ 0 < k - i := fun hT => by
          have hTl : ((s.drop i).takeWhile notNL).length = k - i := by rw [hT, List.length_take, List.length_drop]; omega
          have hn := hn _ hTl
          rw [hn, List.drop_drop, show i + (k - i) = k by omega] at hX
          refine ⟨hX, ?_⟩
          rw [← hTl, drop_get _ _ _ hc]
          exact takeWhile_pos _ (by decide)
        by_cases hkl : (k : Int) < s.length
        · obtain ⟨d, hd⟩ : ∃ d, s[k]? = some d := ⟨_, List.getElem?_eq_getElem (by omega)⟩
          have hdd : (s.drop i)[k - i]? = some d := by rw [List.getElem?_drop, show i + (k - i) = k by omega]; exact hd
          have hkl' := eq_true hkl
          have h0k : (0 : Int) ≤ k := by omega
          have hw : IntKind.i64.wrap ((k : Int) + 1) = ((k + 1 : Nat) : Int) := by rw [wrap_nat (by omega) (by omega)]; rfl
          by_cases h10 : d = 10
          · have n10 : ((d.toNat : Int) = 10) = True := eq_true (by rw [h10]; rfl)
            obtain ⟨hX2, hpos⟩ := fin (take_tw _ _ hx (by rw [List.length_drop]; omega) (fun e he => by rw [hdd] at he; cases he; rw [h10]; rfl))
            clear hx hn hX fin hdd hkl hlt h10
            repeat' (first | refine xs ?_ ?_ <;> intros | ((first | refine xh ?_ | refine xi ?_); intro bx hbx; (try simp only [fb] at hbx)) | refine xj ?_ | refine cv_plain ?_ | ((with_reducible refine And.intro ?_ ?_); omega) | refine bo_buildSlice (d' := ⟨⟩) ?_ | refine xk (by kernel_rfl) ?_ | refine xf ?_ (by repeat' first | exact lr _ | assumption | refine ls ?_ ?_ | refine lt ?_ ?_ | simp only [*]; done | simp only [fb, *, not_false_eq_true, and_self]; done | exact lf ‹_› (by simp only [*])) | refine finish_two ?_ (by repeat' first | exact lr _ | assumption | refine ls ?_ ?_ | refine lt ?_ ?_ | simp only [*]; done | simp only [fb, *, not_false_eq_true, and_self]; done | exact lf ‹_› (by simp only [*])) | simp -dsimp only [↓bp, bq, br, seval, tbRScG, *] | refine cv_any ?_)
            all_goals (have hlt := of_eq_true hlt')
            all_goals exact ⟨s.length - k, by omega, k, v, L, by omega, by omega, by omega, rfl, rfl, hB, by first | rfl | exact hX2⟩
          · have n10 : ((d.toNat : Int) = 10) = False := u8_no h10
            have hx2 : ∀ x, x ∈ (s.drop i).take (k + 1 - i) → notNL x = true := fun x hm => by
              rw [show k + 1 - i = (k - i) + 1 by omega, take_succ_get _ _ _ hdd, List.mem_append, List.mem_singleton] at hm
              rcases hm with hm | rfl
              · exact hx x hm
              · unfold notNL; simpa using h10
            clear hx hn hX fin hdd hkl hlt h10 hB hb2 hle2
            repeat' (first | refine xs ?_ ?_ <;> intros | ((first | refine xh ?_ | refine xi ?_); intro bx hbx; (try simp only [fb] at hbx)) | refine xj ?_ | refine cv_plain ?_ | ((with_reducible refine And.intro ?_ ?_); omega) | refine bo_buildSlice (d' := ⟨⟩) ?_ | refine xk (by kernel_rfl) ?_ | refine xf ?_ (by repeat' first | exact lr _ | assumption | refine ls ?_ ?_ | refine lt ?_ ?_ | simp only [*]; done | simp only [fb, *, not_false_eq_true, and_self]; done | exact lf ‹_› (by simp only [*])) | refine finish_two ?_ (by repeat' first | exact lr _ | assumption | refine ls ?_ ?_ | refine lt ?_ ?_ | simp only [*]; done | simp only [fb, *, not_false_eq_true, and_self]; done | exact lf ‹_› (by simp only [*])) | simp -dsimp only [↓bp, bq, br, seval, tbRScG, *] | refine cv_any ?_)
            all_goals (have hkl := of_eq_true hkl')
            all_goals exact ⟨s.length - (k + 1), by omega, k + 1, by omega, by omega, rfl, rfl, hx2⟩
        · have hkl' := eq_false hkl
          obtain ⟨hX2, hpos⟩ := fin (take_tw _ _ hx (by rw [List.length_drop]; omega) (fun e he => by rw [List.getElem?_drop, List.getElem?_eq_none (by omega)] at he; cases he))
          clear hx hn hX fin hlt
          repeat' (first | refine xs ?_ ?_ <;> intros | ((first | refine xh ?_ | refine xi ?_); intro bx hbx; (try simp only [fb] at hbx)) | refine xj ?_ | refine cv_plain ?_ | ((with_reducible refine And.intro ?_ ?_); omega) | refine bo_buildSlice (d' := ⟨⟩) ?_ | refine xk (by kernel_rfl) ?_ | refine xf ?_ (by repeat' first | exact lr _ | assumption | refine ls ?_ ?_ | refine lt ?_ ?_ | simp only [*]; done | simp only [fb, *, not_false_eq_true, and_self]; done | exact lf ‹_› (by simp only [*])) | refine finish_two ?_ (by repeat' first | exact lr _ | assumption | refine ls ?_ ?_ | refine lt ?_ ?_ | simp only [*]; done | simp only [fb, *, not_false_eq_true, and_self]; done | exact lf ‹_› (by simp only [*])) | simp -dsimp only [↓bp, bq, br, seval, tbRScG, *] | refine cv_any ?_)
          all_goals (have hlt := of_eq_true hlt')
          all_goals exact ⟨s.length - k, by omega, k, v, L, by omega, by omega, by omega, rfl, rfl, hB, by first | rfl | exact hX2⟩
      · have n37 : ((c.toNat : Int) = 37) = False := u8_no h37
        have htk := htk i (by omega)
        cases hk : tokS (s.drop i) with
        | err e =>
          rw [hk] at htk
          have he := tokS_err hk
          have he0 : ((e : Int) = 0) = False := eq_false (by omega)
          rw [hdr] at hk hX
          rw [lexAt_err hbl h37 hk] at hX
          replace hX : X = .bad e i := hX
          subst hX
          simp only
          unfold tkR at htk
          clear hbk hlt hdr hbl hk h37 he hB
          repeat' (first | refine xs ?_ ?_ <;> intros | ((first | refine xh ?_ | refine xi ?_); intro bx hbx; (try simp only [fb] at hbx); try (have nn := fresh_ne (c := bx) hb2 (by simp only [hbx]))) | refine Pure.use (hbc) ?_ | refine Pure.head (hbc) ?_ | refine Pure.use (htk) ?_ | refine Pure.head (htk) ?_ | refine xj ?_ | refine cv_plain ?_ | ((with_reducible refine And.intro ?_ ?_); omega) | refine bo_buildSlice (d' := ⟨⟩) ?_ | refine xk (by kernel_rfl) ?_ | refine xf ?_ (by repeat' first | exact lr _ | assumption | refine ls ?_ ?_ | refine lt ?_ ?_ | simp only [*]; done | simp only [fb, *, not_false_eq_true, and_self]; done | exact lf ‹_› (by simp only [*])) | refine finish_two ?_ (by repeat' first | exact lr _ | assumption | refine ls ?_ ?_ | refine lt ?_ ?_ | simp only [*]; done | simp only [fb, *, not_false_eq_true, and_self]; done | exact lf ‹_› (by simp only [*])) | simp -dsimp only [↓bp, bq, br, seval, tbRScG, *] | refine cv_any ?_)
          all_goals exact finishW_some _ (AS.le.refl _) ⟨rfl, by repeat' first | exact lr _ | assumption | refine ls ?_ ?_ | refine lt ?_ ?_ | simp only [*]; done | simp only [fb, *, not_false_eq_true, and_self]; done | exact lf ‹_› (by simp only [*])⟩
        | tok k t n =>
          rw [hk] at htk
          have hn0 := tokS_len hk
          rw [List.length_drop] at hn0
          rw [hdr] at hk
          have hX2 := hX
          rw [hdr, lexAt_tok hbl h37 hk, ← hdr, List.drop_drop, Tks.pre_pre] at hX2
          rw [tkR_tok] at htk
          clear hX hbk hlt hdr hbl hk h37
          have hX := hX2
          clear hX2
          repeat' (first | refine xs ?_ ?_ <;> intros | ((first | refine xh ?_ | refine xi ?_); intro bx hbx; (try simp only [fb] at hbx); try (have nn := fresh_ne (c := bx) hb2 (by simp only [hbx]))) | refine Pure.use (hbc) ?_ | refine Pure.head (hbc) ?_ | refine Pure.use (htk) ?_ | refine Pure.head (htk) ?_ | ((refine build_one tfT (a := (⟨k, t, i⟩ : Tok).enc) (Tok.isv_enc _) (Tok.len_flat _) (by omega) ?_)) | ((refine app_wb (ys := [(⟨k, t, i⟩ : Tok).enc]) (hB.newBox (by first | assumption | (simp only [*]; done)) _).1 tfT (asrc_sl tfTE) (fun a ha => by simp at ha; subst ha; exact ⟨Tok.len_flat _, Tok.isv_enc _⟩) (by simp only [List.length_cons, List.length_nil]; omega) (fun v3 σ3 hA => ?_); have hb3 := hA.buf.le.box _ _ ha; have hB3 := hA.buf; clear hA)) | refine xj ?_ | refine cv_plain ?_ | ((with_reducible refine And.intro ?_ ?_); omega) | refine bo_buildSlice (d' := ⟨⟩) ?_ | refine xk (by kernel_rfl) ?_ | refine xf ?_ (by repeat' first | exact lr _ | assumption | refine ls ?_ ?_ | refine lt ?_ ?_ | simp only [*]; done | simp only [fb, *, not_false_eq_true, and_self]; done | exact lf ‹_› (by simp only [*])) | refine finish_two ?_ (by repeat' first | exact lr _ | assumption | refine ls ?_ ?_ | refine lt ?_ ?_ | simp only [*]; done | simp only [fb, *, not_false_eq_true, and_self]; done | exact lf ‹_› (by simp only [*])) | simp -dsimp only [↓bp, bq, br, seval, tbRScG, *] | refine cv_any ?_)
          all_goals (have hlt := of_eq_true hlt')
          all_goals exact ⟨s.length - (i + n), by omega, i + n, v3, L ++ [⟨k, t, i⟩], by omega, by rw [List.length_append, List.length_singleton]; omega, by omega, rfl, rfl, by rw [List.map_append]; exact hB3, rfl⟩
  · have : i = s.length := by omega
    subst this
    rw [List.drop_length, lexAt_nil] at hX
    have hlt' := eq_false hlt
    have hX := pre_ok hX
    rw [List.append_nil] at hX
    subst hX
    simp only
    clear htk hbk hlt
    repeat' (first | refine xs ?_ ?_ <;> intros | ((first | refine xh ?_ | refine xi ?_); intro bx hbx; (try simp only [fb] at hbx)) | ((refine build_one tfT (a := (⟨8, [], s.length⟩ : Tok).enc) (Tok.isv_enc _) (Tok.len_flat _) (by omega) ?_)) | ((refine app_wb (ys := [(⟨8, [], s.length⟩ : Tok).enc]) hB tfT (asrc_sl tfTE) (fun a ha => by simp at ha; subst ha; exact ⟨Tok.len_flat _, Tok.isv_enc _⟩) (by simp only [List.length_cons, List.length_nil]; omega) (fun v3 σ3 hA => ?_); have hb3 := hA.buf.le.box _ _ ha; have hB3 := hA.buf; rw [← List.map_singleton, ← List.map_append] at hB3; have hn3 := wb_notRow hB3 ha; obtain ⟨rr, hrr, g1, g2, g3⟩ := hB3.form (by simp); have hle3 := hla.trans hB3.le; clear hA hB3; subst hrr; rw [List.length_map] at hn3 ⊢)) | refine xj ?_ | refine cv_plain ?_ | ((with_reducible refine And.intro ?_ ?_); omega) | refine bo_buildSlice (d' := ⟨⟩) ?_ | refine xk (by kernel_rfl) ?_ | refine xf ?_ (by repeat' first | exact lr _ | assumption | refine ls ?_ ?_ | refine lt ?_ ?_ | simp only [*]; done | simp only [fb, *, not_false_eq_true, and_self]; done | exact lf ‹_› (by simp only [*])) | refine finish_two ?_ (by repeat' first | exact lr _ | assumption | refine ls ?_ ?_ | refine lt ?_ ?_ | simp only [*]; done | simp only [fb, *, not_false_eq_true, and_self]; done | exact lf ‹_› (by simp only [*])) | simp -dsimp only [↓bp, bq, br, seval, tbRScG, *] | refine cv_any ?_)
    exact finishW_some _ (AS.le.refl _) ⟨rr, rfl, by repeat' first | exact lr _ | assumption | refine ls ?_ ?_ | refine lt ?_ ?_ | simp only [*]; done | simp only [fb, *, not_false_eq_true, and_self]; done | exact lf ‹_› (by simp only [*]), hla.noBox g2, hla.noTip g3, by simp only [AS.setBox, if_neg (Ne.symm hn3)]; exact g1⟩
theorem rtokens_tri (s : List UInt8) (hs : s.length ≤ 1000000000) (σ : AS) : Tri Tryz.prog G 7 [.str s] σ (TokRes σ (scanT s)) := by
  by_cases h : s.length ≤ 65536
  · exact rtokens_short G s h σ
  · exact rtokens_long G s (by omega) hs σ
end
set_option maxRecDepth 20000
section
def tbScnH := And.intro (And.intro (And.intro (And.intro @tf3 @tf4) (And.intro @tf5 @tf9)) (And.intro (And.intro @tf33 @tf43) (And.intro @tf41 @tf24))) (And.intro (And.intro (And.intro @tf76 @tf98) (And.intro @tf26 @tf23)) (And.intro (And.intro @ares_tmpc @ares_cellc) (And.intro @isv_rowOf (And.intro @flat_rowOf @len_rowOf))))
variable {G : Nat → AV}
theorem tokens_tri (hg : GlobS G) (s : List UInt8) (hs : s.length ≤ 1000000000) (σ : AS) : Tri Tryz.prog G 6 [.str s] σ (TokRes σ (scanT s)) := by
  by_cases h : s.length ≤ 65536
  · exact tokens_short hg s h σ
  · exact tokens_long s (by omega) hs σ
theorem tokens_ok (hg : GlobS G) {s : List UInt8} (hs : s.length ≤ 1000000000) {l : List Tok} (h : scanT s = .ok l) : Pure Tryz.prog G 6 [.str s] (.tup [rowOf Tok.enc l, .agg [.int .i64 0, .int .i64 0]]) := by
  refine Pure.of_le fun σ => ?_
  have h1 := tokens_tri hg s hs σ
  rw [h] at h1
  refine Tri.tupBs (n := l.length) (s := 3) (E := 43) (xs := l.map Tok.enc) tok_ok (by rw [List.length_map]) (h1.mono ?_)
  rintro r σ' ⟨b, g1, g2, g3, g4, g5⟩
  exact ⟨b, g1, g2, g3, g4, g5⟩
theorem tokens_bad (hg : GlobS G) {s : List UInt8} (hs : s.length ≤ 1000000000) {e p : Nat} (h : scanT s = .bad e p) : Pure Tryz.prog G 6 [.str s] (.tup [.nil, .agg [.int .i64 e, .int .i64 p]]) := by
  intro σ
  have h1 := tokens_tri hg s hs σ
  rw [h] at h1
  exact Tri.back (h1.mono fun r σ' ⟨g1, g2⟩ => ⟨g1, g2⟩)
theorem eqK_flt : eqK Tryz.prog 26 = some [.int .i64, .int .i64] := by kernel_rfl
theorem eqFlt (a b c d : Int) (op : BinOp) : abin Tryz.prog op 26 (.agg [.int .i64 a, .int .i64 b]) (.agg [.int .i64 c, .int .i64 d]) = aeq op (decide (a = c) && (decide (b = d) && true)) := by
  have e : fldEq [.int .i64, .int .i64] [.int .i64 a, .int .i64 b] [.int .i64 c, .int .i64 d] = some (decide (a = c) && (decide (b = d) && true)) := by
    rw [fe_int, fe_int, fe_nil]; rfl
  rw [abin_agg, eqK_flt]
  simp only [Option.bind_some, e]
theorem is_ok (hg : GlobS G) {s : List UInt8} (hs : s.length ≤ 65536) {l : List Tok} (h : scanT s = .ok l) (want : List Tok) (hw : want.length ≤ 1000000) (g : Gh) : Pure Tryz.prog G 15 [.str s, .sl g (want.map Tok.enc) []] (.bool (decide (l = want))) := by
  have h1 := tokens_ok hg (by omega) h
  have hl : l.length ≤ 1000000 := by
    have := (scan_back h).1
    have h2 := (scanT_ok h).2
    obtain ⟨l0, rfl, hl0⟩ := h2
    have := (lexAt_len _ s (Nat.le_refl _) 0 l0 hl0)
    rw [List.length_append, List.length_singleton]; omega
  have h2 := sameToks_pure G l want (by omega) (by omega)
  refine Pure.lessArgs (args' := [.str s, rowOf Tok.enc want]) ?_ (.cons (Le.refl _) (.cons Le.gh .nil))
  generalize decide (l = want) = B at *
  clear hs h hw hl hg
  intro σ
  have he := eqFlt 0 0 0 0 .eql
  simp only [decide_true, Bool.and_true, aeq] at he
  refine Tri.of_awp mixed Tryz.func15 rfl (by kernel_rfl) (by kernel_rfl) (by simp [Tryz.ntmps15]) Tryz.results15 ?_
  repeat' (first | refine xs ?_ ?_ <;> intros | ((first | refine xh ?_ | refine xi ?_); intro bx hbx; (try simp only [fb] at hbx)) | refine Pure.use (h1) ?_ | refine Pure.head (h1) ?_ | refine Pure.use (h2) ?_ | refine Pure.head (h2) ?_ | refine xj ?_ | refine cv_plain ?_ | ((with_reducible refine And.intro ?_ ?_); omega) | refine bo_buildSlice (d' := ⟨⟩) ?_ | refine xk (by kernel_rfl) ?_ | refine xf ?_ (by repeat' first | exact lr _ | assumption | refine ls ?_ ?_ | refine lt ?_ ?_ | simp only [*]; done | simp only [fb, *, not_false_eq_true, and_self]; done | exact lf ‹_› (by simp only [*])) | refine finish_two ?_ (by repeat' first | exact lr _ | assumption | refine ls ?_ ?_ | refine lt ?_ ?_ | simp only [*]; done | simp only [fb, *, not_false_eq_true, and_self]; done | exact lf ‹_› (by simp only [*])) | simp -dsimp only [↓bp, bq, br, seval, tbScnH, *] | refine cv_any ?_)
  all_goals rfl
theorem fault_bad (hg : GlobS G) {s : List UInt8} (hs : s.length ≤ 1000000000) {e p : Nat} (h : scanT s = .bad e p) : Pure Tryz.prog G 18 [.str s, .int .i64 e, .int .i64 p] (.bool true) := by
  have h1 := tokens_bad hg hs h
  clear hs h hg
  intro σ
  have he := eqFlt e p e p .eql
  simp only [decide_true, Bool.and_true, aeq] at he
  refine Tri.of_awp mixed Tryz.func18 rfl (by kernel_rfl) (by kernel_rfl) (by simp [Tryz.ntmps18]) Tryz.results18 ?_
  repeat' (first | refine xs ?_ ?_ <;> intros | ((first | refine xh ?_ | refine xi ?_); intro bx hbx; (try simp only [fb] at hbx)) | refine Pure.use (h1) ?_ | refine Pure.head (h1) ?_ | refine xj ?_ | refine cv_plain ?_ | ((with_reducible refine And.intro ?_ ?_); omega) | refine bo_buildSlice (d' := ⟨⟩) ?_ | refine xk (by kernel_rfl) ?_ | refine xf ?_ (by repeat' first | exact lr _ | assumption | refine ls ?_ ?_ | refine lt ?_ ?_ | simp only [*]; done | simp only [fb, *, not_false_eq_true, and_self]; done | exact lf ‹_› (by simp only [*])) | refine finish_two ?_ (by repeat' first | exact lr _ | assumption | refine ls ?_ ?_ | refine lt ?_ ?_ | simp only [*]; done | simp only [fb, *, not_false_eq_true, and_self]; done | exact lf ‹_› (by simp only [*])) | simp -dsimp only [↓bp, bq, br, seval, tbScnH, *] | refine cv_any ?_)
  all_goals rfl
theorem ltoken_pure (k p : Int) (t : List UInt8) : Pure Tryz.prog G 16 [.int .u8 k, .str t, .int .i64 p] (.agg [.int .u8 k, .str t, .int .i64 p]) := by
  intro σ
  refine Tri.of_awp mixed Tryz.func16 rfl (by kernel_rfl) (by kernel_rfl) (by simp [Tryz.ntmps16]) Tryz.results16 ?_
  repeat' (first | refine xs ?_ ?_ <;> intros | ((first | refine xh ?_ | refine xi ?_); intro bx hbx; (try simp only [fb] at hbx)) | refine xj ?_ | refine cv_plain ?_ | ((with_reducible refine And.intro ?_ ?_); omega) | refine bo_buildSlice (d' := ⟨⟩) ?_ | refine xk (by kernel_rfl) ?_ | refine xf ?_ (by repeat' first | exact lr _ | assumption | refine ls ?_ ?_ | refine lt ?_ ?_ | simp only [*]; done | simp only [fb, *, not_false_eq_true, and_self]; done | exact lf ‹_› (by simp only [*])) | refine finish_two ?_ (by repeat' first | exact lr _ | assumption | refine ls ?_ ?_ | refine lt ?_ ?_ | simp only [*]; done | simp only [fb, *, not_false_eq_true, and_self]; done | exact lf ‹_› (by simp only [*])) | simp -dsimp only [↓bp, bq, br, seval, tbScnH, *] | refine cv_any ?_)
  all_goals rfl
end
end Go.Proofs.YtldmniappliepaaGreatDoor
