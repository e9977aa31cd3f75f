/- The tokens of a source: the document's way. -/
import Derived.Test.YtldmniappliepaaGreatDoorZ09
import Derived.Test.YtldmniappliepaaGreatDoorZ10
import Derived.Test.YtldmniappliepaaGreatDoorZ08
import Derived.Test.YtldmniappliepaaGreatDoorZ04
import Derived.Test.YtldmniappliepaaGreatDoorChecked
import Derived.KernelRfl
set_option linter.unusedVariables false
set_option linter.unusedSimpArgs false
set_option maxRecDepth 20000
set_option linter.defProp false
namespace Go.Proofs.YtldmniappliepaaGreatDoor
open Go Go.Av
section
def tbRScG := And.intro (And.intro (And.intro @tf3 @tf4) (And.intro @tf5 (And.intro @tf9 @tf43))) (And.intro (And.intro @tf41 (And.intro @tf24 @tf26)) (And.intro @tf23 (And.intro @ares_tmpc @ares_cellc)))
variable (G : Nat → AV)
set_option maxHeartbeats 2000000 in
theorem rtokens_long (s : List UInt8) (hs : 65536 < s.length) (hm : s.length ≤ 1000000000) (σ : AS) : Tri Tryz.prog G 7 [.str s] σ (TokRes σ (scanT s)) := by
  have hx : scanT s = .bad 3 0 := if_pos hs
  rw [hx]
  have h1 : ((65536 : Int) < s.length) = True := eq_true (by omega)
  clear hx hs hm
  refine Tri.of_awp mixed Tryz.func7 rfl (by kernel_rfl) (by kernel_rfl) (by simp [Tryz.ntmps7]) Tryz.results7 ?_
  simp -dsimp only [↓bp, bq, br, seval, tbRScG]
  refine newT_plain fun b2 h2 => ?_
  repeat' (first | refine xs ?_ ?_ <;> intros | ((first | refine xh ?_ | refine xi ?_); intro bx hbx; (try simp only [fb] at hbx)) | refine xj ?_ | ((with_reducible refine And.intro ?_ ?_); omega) | refine bo_buildSlice (d' := ⟨⟩) ?_ | refine xk (by kernel_rfl) ?_ | refine xf ?_ (by repeat' first | exact lr _ | assumption | refine ls ?_ ?_ | refine lt ?_ ?_ | simp only [*]; done | simp only [fb, *, not_false_eq_true, and_self]; done | exact lf ‹_› (by simp only [*])) | refine finish_two ?_ (by repeat' first | exact lr _ | assumption | refine ls ?_ ?_ | refine lt ?_ ?_ | simp only [*]; done | simp only [fb, *, not_false_eq_true, and_self]; done | exact lf ‹_› (by simp only [*])) | simp -dsimp only [↓bp, bq, br, seval, tbRScG, *])
  exact finishW_some _ (AS.le.refl _) ⟨rfl, by repeat' first | exact lr _ | assumption | refine ls ?_ ?_ | refine lt ?_ ?_ | simp only [*]; done | simp only [fb, *, not_false_eq_true, and_self]; done | exact lf ‹_› (by simp only [*])⟩
theorem lexAt_noteAll {i : Nat} {r : List UInt8} {k : Nat} (hk : ((37 :: r).takeWhile notNL).length = k) : lexAt i (37 :: r) = lexAt (i + k) ((37 :: r).drop k) := by
  subst hk; exact lexAt_note
set_option maxHeartbeats 4000000 in
theorem rtokens_short (s : List UInt8) (hs : s.length ≤ 65536) (σ : AS) : Tri Tryz.prog G 7 [.str s] σ (TokRes σ (scanT s)) := by
  have hx : scanT s = match lexAt 0 s with
    | .ok l => .ok (l ++ [⟨8, [], s.length⟩])
    | .bad e p => .bad e p := if_neg (by omega)
  have htk := fun i (h0 : i < s.length) => rtoken_pure G s i h0 (by omega)
  have hbk := rblank_pure G
  have h1 : ((65536 : Int) < s.length) = False := eq_false (by omega)
  obtain ⟨X, hX⟩ : ∃ X, X = lexAt 0 s := ⟨_, rfl⟩
  rw [← hX] at hx
  rw [hx]
  clear hx
  refine Tri.of_awp mixed Tryz.func7 rfl (by kernel_rfl) (by kernel_rfl) (by simp [Tryz.ntmps7]) Tryz.results7 ?_
  simp -dsimp only [↓bp, bq, br, seval, tbRScG]
  refine newT_plain fun b2 h2 => ?_
  obtain ⟨σa, hσa⟩ : ∃ σa, σa = σ.setBox b2 [.int .i64 0, .int .i64 0] := ⟨_, rfl⟩
  have hla : σ.le σa := by rw [hσa]; exact (AS.le.refl σ).setBox h2.1 _
  have ha : σa.box b2 = some [.int .i64 0, .int .i64 0] := by rw [hσa]; simp [AS.setBox]
  rw [← hσa]
  clear hσa
  repeat' (first | refine xs ?_ ?_ <;> intros | ((first | refine xh ?_ | refine xi ?_); intro bx hbx; (try simp only [fb] at hbx)) | refine xj ?_ | ((with_reducible refine And.intro ?_ ?_); omega) | refine bo_buildSlice (d' := ⟨⟩) ?_ | refine xk (by kernel_rfl) ?_ | refine xf ?_ (by repeat' first | exact lr _ | assumption | refine ls ?_ ?_ | refine lt ?_ ?_ | simp only [*]; done | simp only [fb, *, not_false_eq_true, and_self]; done | exact lf ‹_› (by simp only [*])) | refine finish_two ?_ (by repeat' first | exact lr _ | assumption | refine ls ?_ ?_ | refine lt ?_ ?_ | simp only [*]; done | simp only [fb, *, not_false_eq_true, and_self]; done | exact lf ‹_› (by simp only [*])) | simp -dsimp only [↓bp, bq, br, seval, tbRScG, *])
  refine loop_intro (fun n e σ' => ∃ (i : Nat) (v : AV) (L : List Tok), i ≤ s.length ∧ L.length ≤ i ∧ n = s.length - i ∧ e 5 = .int .i64 i ∧ e 4 = v ∧ WBuf 3 43 σa σ' v (L.map Tok.enc) ∧ X = (lexAt i (s.drop i)).pre L) s.length
    ⟨0, .nil, [], by omega, by simp, by omega, by first | (simp -dsimp only [↓bp, bq, br, seval, tbRScG]; done) | (simp -dsimp only [↓bp, bq, br, seval, tbRScG]; try rfl), by first | (simp -dsimp only [↓bp, bq, br, seval, tbRScG]; done) | (simp -dsimp only [↓bp, bq, br, seval, tbRScG]; try rfl), .nil (AS.le.refl _), by rw [List.drop_zero, hX, Tks.pre_nil]⟩ ?_
  clear hX
  rintro n e σ2 ⟨i, v, L, hi, hLi, rfl, h5, h4, hB, hX⟩
  simp -dsimp only [↓bp, bq, br, seval, tbRScG] at h5 h4
  have hb2 := hB.le.box _ _ ha
  have hle2 := hla.trans hB.le
  have hLl : (L.map Tok.enc).length ≤ 65536 := by rw [List.length_map]; omega
  by_cases hlt : (i : Int) < s.length
  · obtain ⟨c, hc⟩ : ∃ c, s[i]? = some c := ⟨_, List.getElem?_eq_getElem (by omega)⟩
    have hdr := drop_get _ _ _ hc
    have hlt' := eq_true hlt
    have h0i : (0 : Int) ≤ i := by omega
    have hbc := hbk c
    by_cases hbl : blankB c = true
    · rw [hdr, lexAt_blank hbl] at hX
      rw [hbl] at hbc
      have hw : IntKind.i64.wrap ((i : Int) + 1) = ((i + 1 : Nat) : Int) := by rw [wrap_nat (by omega) (by omega)]; rfl
      clear hbl htk hbk hlt hdr
      repeat' (first | refine xs ?_ ?_ <;> intros | ((first | refine xh ?_ | refine xi ?_); intro bx hbx; (try simp only [fb] at hbx)) | refine Pure.use (hbc) ?_ | refine Pure.head (hbc) ?_ | refine xj ?_ | ((with_reducible refine And.intro ?_ ?_); omega) | refine bo_buildSlice (d' := ⟨⟩) ?_ | refine xk (by kernel_rfl) ?_ | refine xf ?_ (by repeat' first | exact lr _ | assumption | refine ls ?_ ?_ | refine lt ?_ ?_ | simp only [*]; done | simp only [fb, *, not_false_eq_true, and_self]; done | exact lf ‹_› (by simp only [*])) | refine finish_two ?_ (by repeat' first | exact lr _ | assumption | refine ls ?_ ?_ | refine lt ?_ ?_ | simp only [*]; done | simp only [fb, *, not_false_eq_true, and_self]; done | exact lf ‹_› (by simp only [*])) | simp -dsimp only [↓bp, bq, br, seval, tbRScG, *])
      all_goals (have hlt := of_eq_true hlt')
      all_goals exact ⟨s.length - (i + 1), by omega, i + 1, v, L, by omega, by omega, by omega, rfl, rfl, hB, rfl⟩
    · have hbl : blankB c = false := by simpa using hbl
      rw [hbl] at hbc
      by_cases h37 : c = 37
      · subst h37
        have n37 : (((37 : UInt8).toNat : Int) = 37) = True := eq_true rfl
        have hn := fun k hk => @lexAt_noteAll i (s.drop (i + 1)) k hk
        rw [← hdr] at hn
        clear htk hbk hdr hbl
        repeat' (first | refine xs ?_ ?_ <;> intros | ((first | refine xh ?_ | refine xi ?_); intro bx hbx; (try simp only [fb] at hbx)) | refine Pure.use (hbc) ?_ | refine Pure.head (hbc) ?_ | refine xj ?_ | ((with_reducible refine And.intro ?_ ?_); omega) | refine bo_buildSlice (d' := ⟨⟩) ?_ | refine xk (by kernel_rfl) ?_ | refine xf ?_ (by repeat' first | exact lr _ | assumption | refine ls ?_ ?_ | refine lt ?_ ?_ | simp only [*]; done | simp only [fb, *, not_false_eq_true, and_self]; done | exact lf ‹_› (by simp only [*])) | refine finish_two ?_ (by repeat' first | exact lr _ | assumption | refine ls ?_ ?_ | refine lt ?_ ?_ | simp only [*]; done | simp only [fb, *, not_false_eq_true, and_self]; done | exact lf ‹_› (by simp only [*])) | simp -dsimp only [↓bp, bq, br, seval, tbRScG, *])
        clear hbc
        refine loop_keep mixed (fun n e => ∃ k : Nat, i ≤ k ∧ k ≤ s.length ∧ n = s.length - k ∧ e 5 = .int .i64 k ∧ ∀ x, x ∈ (s.drop i).take (k - i) → notNL x = true) (s.length - i)
          ⟨i, by omega, by omega, by omega, by first | (simp -dsimp only [↓bp, bq, br, seval, tbRScG]; done) | (simp -dsimp only [↓bp, bq, br, seval, tbRScG]; exact h5), by simp⟩ ?_
        rintro n v2 ⟨k, hki, hk, rfl, h5k, hx⟩
        simp -dsimp only [↓bp, bq, br, seval, tbRScG] at h5k
        have fin : (s.drop i).takeWhile notNL = (s.drop i).take (k - i) → X = (lexAt k (s.drop k)).pre L ∧ 0 < k - i := fun hT => by
          have hTl : ((s.drop i).takeWhile notNL).length = k - i := by rw [hT, List.length_take, List.length_drop]; omega
          have hn := hn _ hTl
          rw [hn, List.drop_drop, show i + (k - i) = k by omega] at hX
          refine ⟨hX, ?_⟩
          rw [← hTl, drop_get _ _ _ hc]
          exact takeWhile_pos _ (by decide)
        by_cases hkl : (k : Int) < s.length
        · obtain ⟨d, hd⟩ : ∃ d, s[k]? = some d := ⟨_, List.getElem?_eq_getElem (by omega)⟩
          have hdd : (s.drop i)[k - i]? = some d := by rw [List.getElem?_drop, show i + (k - i) = k by omega]; exact hd
          have hkl' := eq_true hkl
          have h0k : (0 : Int) ≤ k := by omega
          have hw : IntKind.i64.wrap ((k : Int) + 1) = ((k + 1 : Nat) : Int) := by rw [wrap_nat (by omega) (by omega)]; rfl
          by_cases h10 : d = 10
          · have n10 : ((d.toNat : Int) = 10) = True := eq_true (by rw [h10]; rfl)
            obtain ⟨hX2, hpos⟩ := fin (take_tw _ _ hx (by rw [List.length_drop]; omega) (fun e he => by rw [hdd] at he; cases he; rw [h10]; rfl))
            clear hx hn hX fin hdd hkl hlt h10
            repeat' (first | refine xs ?_ ?_ <;> intros | ((first | refine xh ?_ | refine xi ?_); intro bx hbx; (try simp only [fb] at hbx)) | refine xj ?_ | ((with_reducible refine And.intro ?_ ?_); omega) | refine bo_buildSlice (d' := ⟨⟩) ?_ | refine xk (by kernel_rfl) ?_ | refine xf ?_ (by repeat' first | exact lr _ | assumption | refine ls ?_ ?_ | refine lt ?_ ?_ | simp only [*]; done | simp only [fb, *, not_false_eq_true, and_self]; done | exact lf ‹_› (by simp only [*])) | refine finish_two ?_ (by repeat' first | exact lr _ | assumption | refine ls ?_ ?_ | refine lt ?_ ?_ | simp only [*]; done | simp only [fb, *, not_false_eq_true, and_self]; done | exact lf ‹_› (by simp only [*])) | simp -dsimp only [↓bp, bq, br, seval, tbRScG, *])
            all_goals (have hlt := of_eq_true hlt')
            all_goals exact ⟨s.length - k, by omega, k, v, L, by omega, by omega, by omega, rfl, rfl, hB, by first | rfl | exact hX2⟩
          · have n10 : ((d.toNat : Int) = 10) = False := u8_no h10
            have hx2 : ∀ x, x ∈ (s.drop i).take (k + 1 - i) → notNL x = true := fun x hm => by
              rw [show k + 1 - i = (k - i) + 1 by omega, take_succ_get _ _ _ hdd, List.mem_append, List.mem_singleton] at hm
              rcases hm with hm | rfl
              · exact hx x hm
              · unfold notNL; simpa using h10
            clear hx hn hX fin hdd hkl hlt h10 hB hb2 hle2
            repeat' (first | refine xs ?_ ?_ <;> intros | ((first | refine xh ?_ | refine xi ?_); intro bx hbx; (try simp only [fb] at hbx)) | refine xj ?_ | ((with_reducible refine And.intro ?_ ?_); omega) | refine bo_buildSlice (d' := ⟨⟩) ?_ | refine xk (by kernel_rfl) ?_ | refine xf ?_ (by repeat' first | exact lr _ | assumption | refine ls ?_ ?_ | refine lt ?_ ?_ | simp only [*]; done | simp only [fb, *, not_false_eq_true, and_self]; done | exact lf ‹_› (by simp only [*])) | refine finish_two ?_ (by repeat' first | exact lr _ | assumption | refine ls ?_ ?_ | refine lt ?_ ?_ | simp only [*]; done | simp only [fb, *, not_false_eq_true, and_self]; done | exact lf ‹_› (by simp only [*])) | simp -dsimp only [↓bp, bq, br, seval, tbRScG, *])
            all_goals (have hkl := of_eq_true hkl')
            all_goals exact ⟨s.length - (k + 1), by omega, k + 1, by omega, by omega, rfl, rfl, hx2⟩
        · have hkl' := eq_false hkl
          obtain ⟨hX2, hpos⟩ := fin (take_tw _ _ hx (by rw [List.length_drop]; omega) (fun e he => by rw [List.getElem?_drop, List.getElem?_eq_none (by omega)] at he; cases he))
          clear hx hn hX fin hlt
          repeat' (first | refine xs ?_ ?_ <;> intros | ((first | refine xh ?_ | refine xi ?_); intro bx hbx; (try simp only [fb] at hbx)) | refine xj ?_ | ((with_reducible refine And.intro ?_ ?_); omega) | refine bo_buildSlice (d' := ⟨⟩) ?_ | refine xk (by kernel_rfl) ?_ | refine xf ?_ (by repeat' first | exact lr _ | assumption | refine ls ?_ ?_ | refine lt ?_ ?_ | simp only [*]; done | simp only [fb, *, not_false_eq_true, and_self]; done | exact lf ‹_› (by simp only [*])) | refine finish_two ?_ (by repeat' first | exact lr _ | assumption | refine ls ?_ ?_ | refine lt ?_ ?_ | simp only [*]; done | simp only [fb, *, not_false_eq_true, and_self]; done | exact lf ‹_› (by simp only [*])) | simp -dsimp only [↓bp, bq, br, seval, tbRScG, *])
          all_goals (have hlt := of_eq_true hlt')
          all_goals exact ⟨s.length - k, by omega, k, v, L, by omega, by omega, by omega, rfl, rfl, hB, by first | rfl | exact hX2⟩
      · have n37 : ((c.toNat : Int) = 37) = False := u8_no h37
        have htk := htk i (by omega)
        cases hk : tokS (s.drop i) with
        | err e =>
          rw [hk] at htk
          have he := tokS_err hk
          have he0 : ((e : Int) = 0) = False := eq_false (by omega)
          rw [hdr] at hk hX
          rw [lexAt_err hbl h37 hk] at hX
          replace hX : X = .bad e i := hX
          subst hX
          simp only
          unfold tkR at htk
          clear hbk hlt hdr hbl hk h37 he hB
          repeat' (first | refine xs ?_ ?_ <;> intros | ((first | refine xh ?_ | refine xi ?_); intro bx hbx; (try simp only [fb] at hbx); try (have nn := fresh_ne (c := bx) hb2 (by simp only [hbx]))) | refine Pure.use (hbc) ?_ | refine Pure.head (hbc) ?_ | refine Pure.use (htk) ?_ | refine Pure.head (htk) ?_ | refine xj ?_ | ((with_reducible refine And.intro ?_ ?_); omega) | refine bo_buildSlice (d' := ⟨⟩) ?_ | refine xk (by kernel_rfl) ?_ | refine xf ?_ (by repeat' first | exact lr _ | assumption | refine ls ?_ ?_ | refine lt ?_ ?_ | simp only [*]; done | simp only [fb, *, not_false_eq_true, and_self]; done | exact lf ‹_› (by simp only [*])) | refine finish_two ?_ (by repeat' first | exact lr _ | assumption | refine ls ?_ ?_ | refine lt ?_ ?_ | simp only [*]; done | simp only [fb, *, not_false_eq_true, and_self]; done | exact lf ‹_› (by simp only [*])) | simp -dsimp only [↓bp, bq, br, seval, tbRScG, *])
          all_goals exact finishW_some _ (AS.le.refl _) ⟨rfl, by repeat' first | exact lr _ | assumption | refine ls ?_ ?_ | refine lt ?_ ?_ | simp only [*]; done | simp only [fb, *, not_false_eq_true, and_self]; done | exact lf ‹_› (by simp only [*])⟩
        | tok k t n =>
          rw [hk] at htk
          have hn0 := tokS_len hk
          rw [List.length_drop] at hn0
          rw [hdr] at hk
          have hX2 := hX
          rw [hdr, lexAt_tok hbl h37 hk, ← hdr, List.drop_drop, Tks.pre_pre] at hX2
          rw [tkR_tok] at htk
          clear hX hbk hlt hdr hbl hk h37
          have hX := hX2
          clear hX2
          repeat' (first | refine xs ?_ ?_ <;> intros | ((first | refine xh ?_ | refine xi ?_); intro bx hbx; (try simp only [fb] at hbx); try (have nn := fresh_ne (c := bx) hb2 (by simp only [hbx]))) | refine Pure.use (hbc) ?_ | refine Pure.head (hbc) ?_ | refine Pure.use (htk) ?_ | refine Pure.head (htk) ?_ | ((refine build_one tfT (a := (⟨k, t, i⟩ : Tok).enc) (Tok.isv_enc _) (Tok.len_flat _) (by omega) ?_)) | ((refine app_wb (ys := [(⟨k, t, i⟩ : Tok).enc]) (hB.newBox (by first | assumption | (simp only [*]; done)) _).1 tfT (asrc_sl tfTE) (fun a ha => by simp at ha; subst ha; exact ⟨Tok.len_flat _, Tok.isv_enc _⟩) (by simp only [List.length_cons, List.length_nil]; omega) (fun v3 σ3 hA => ?_); have hb3 := hA.buf.le.box _ _ ha; have hB3 := hA.buf; clear hA)) | refine xj ?_ | ((with_reducible refine And.intro ?_ ?_); omega) | refine bo_buildSlice (d' := ⟨⟩) ?_ | refine xk (by kernel_rfl) ?_ | refine xf ?_ (by repeat' first | exact lr _ | assumption | refine ls ?_ ?_ | refine lt ?_ ?_ | simp only [*]; done | simp only [fb, *, not_false_eq_true, and_self]; done | exact lf ‹_› (by simp only [*])) | refine finish_two ?_ (by repeat' first | exact lr _ | assumption | refine ls ?_ ?_ | refine lt ?_ ?_ | simp only [*]; done | simp only [fb, *, not_false_eq_true, and_self]; done | exact lf ‹_› (by simp only [*])) | simp -dsimp only [↓bp, bq, br, seval, tbRScG, *])
          all_goals (have hlt := of_eq_true hlt')
          all_goals exact ⟨s.length - (i + n), by omega, i + n, v3, L ++ [⟨k, t, i⟩], by omega, by rw [List.length_append, List.length_singleton]; omega, by omega, rfl, rfl, by rw [List.map_append]; exact hB3, rfl⟩
  · have : i = s.length := by omega
    subst this
    rw [List.drop_length, lexAt_nil] at hX
    have hlt' := eq_false hlt
    have hX := pre_ok hX
    rw [List.append_nil] at hX
    subst hX
    simp only
    clear htk hbk hlt
    repeat' (first | refine xs ?_ ?_ <;> intros | ((first | refine xh ?_ | refine xi ?_); intro bx hbx; (try simp only [fb] at hbx)) | ((refine build_one tfT (a := (⟨8, [], s.length⟩ : Tok).enc) (Tok.isv_enc _) (Tok.len_flat _) (by omega) ?_)) | ((refine app_wb (ys := [(⟨8, [], s.length⟩ : Tok).enc]) hB tfT (asrc_sl tfTE) (fun a ha => by simp at ha; subst ha; exact ⟨Tok.len_flat _, Tok.isv_enc _⟩) (by simp only [List.length_cons, List.length_nil]; omega) (fun v3 σ3 hA => ?_); have hb3 := hA.buf.le.box _ _ ha; have hB3 := hA.buf; rw [← List.map_singleton, ← List.map_append] at hB3; have hn3 := wb_notRow hB3 ha; obtain ⟨rr, hrr, g1, g2, g3⟩ := hB3.form (by simp); have hle3 := hla.trans hB3.le; clear hA hB3; subst hrr; rw [List.length_map] at hn3 ⊢)) | refine xj ?_ | ((with_reducible refine And.intro ?_ ?_); omega) | refine bo_buildSlice (d' := ⟨⟩) ?_ | refine xk (by kernel_rfl) ?_ | refine xf ?_ (by repeat' first | exact lr _ | assumption | refine ls ?_ ?_ | refine lt ?_ ?_ | simp only [*]; done | simp only [fb, *, not_false_eq_true, and_self]; done | exact lf ‹_› (by simp only [*])) | refine finish_two ?_ (by repeat' first | exact lr _ | assumption | refine ls ?_ ?_ | refine lt ?_ ?_ | simp only [*]; done | simp only [fb, *, not_false_eq_true, and_self]; done | exact lf ‹_› (by simp only [*])) | simp -dsimp only [↓bp, bq, br, seval, tbRScG, *])
    exact finishW_some _ (AS.le.refl _) ⟨rr, rfl, by repeat' first | exact lr _ | assumption | refine ls ?_ ?_ | refine lt ?_ ?_ | simp only [*]; done | simp only [fb, *, not_false_eq_true, and_self]; done | exact lf ‹_› (by simp only [*]), hla.noBox g2, hla.noTip g3, by simp only [AS.setBox, if_neg (Ne.symm hn3)]; exact g1⟩
theorem rtokens_tri (s : List UInt8) (hs : s.length ≤ 1000000000) (σ : AS) : Tri Tryz.prog G 7 [.str s] σ (TokRes σ (scanT s)) := by
  by_cases h : s.length ≤ 65536
  · exact rtokens_short G s h σ
  · exact rtokens_long G s (by omega) hs σ
end
set_option maxRecDepth 20000
section
def tbScnH := And.intro (And.intro (And.intro (And.intro @tf3 @tf4) (And.intro @tf5 @tf9)) (And.intro (And.intro @tf33 @tf43) (And.intro @tf41 @tf24))) (And.intro (And.intro (And.intro @tf76 @tf98) (And.intro @tf26 @tf23)) (And.intro (And.intro @ares_tmpc @ares_cellc) (And.intro @isv_rowOf (And.intro @flat_rowOf @len_rowOf))))
variable {G : Nat → AV}
theorem tokens_tri (hg : GlobS G) (s : List UInt8) (hs : s.length ≤ 1000000000) (σ : AS) : Tri Tryz.prog G 6 [.str s] σ (TokRes σ (scanT s)) := by
  by_cases h : s.length ≤ 65536
  · exact tokens_short hg s h σ
  · exact tokens_long s (by omega) hs σ
theorem tokens_ok (hg : GlobS G) {s : List UInt8} (hs : s.length ≤ 1000000000) {l : List Tok} (h : scanT s = .ok l) : Pure Tryz.prog G 6 [.str s] (.tup [rowOf Tok.enc l, .agg [.int .i64 0, .int .i64 0]]) := by
  refine Pure.of_le fun σ => ?_
  have h1 := tokens_tri hg s hs σ
  rw [h] at h1
  refine Tri.tupBs (n := l.length) (s := 3) (E := 43) (xs := l.map Tok.enc) tok_ok (by rw [List.length_map]) (h1.mono ?_)
  rintro r σ' ⟨b, g1, g2, g3, g4, g5⟩
  exact ⟨b, g1, g2, g3, g4, g5⟩
theorem tokens_bad (hg : GlobS G) {s : List UInt8} (hs : s.length ≤ 1000000000) {e p : Nat} (h : scanT s = .bad e p) : Pure Tryz.prog G 6 [.str s] (.tup [.nil, .agg [.int .i64 e, .int .i64 p]]) := by
  intro σ
  have h1 := tokens_tri hg s hs σ
  rw [h] at h1
  exact Tri.back (h1.mono fun r σ' ⟨g1, g2⟩ => ⟨g1, g2⟩)
theorem eqK_flt : eqK Tryz.prog 26 = some [.int .i64, .int .i64] := by kernel_rfl
theorem eqFlt (a b c d : Int) (op : BinOp) : abin Tryz.prog op 26 (.agg [.int .i64 a, .int .i64 b]) (.agg [.int .i64 c, .int .i64 d]) = aeq op (decide (a = c) && (decide (b = d) && true)) := by
  have e : fldEq [.int .i64, .int .i64] [.int .i64 a, .int .i64 b] [.int .i64 c, .int .i64 d] = some (decide (a = c) && (decide (b = d) && true)) := by
    rw [fe_int, fe_int, fe_nil]; rfl
  rw [abin_agg, eqK_flt]
  simp only [Option.bind_some, e]
theorem is_ok (hg : GlobS G) {s : List UInt8} (hs : s.length ≤ 65536) {l : List Tok} (h : scanT s = .ok l) (want : List Tok) (hw : want.length ≤ 1000000) (g : Gh) : Pure Tryz.prog G 15 [.str s, .sl g (want.map Tok.enc) []] (.bool (decide (l = want))) := by
  have h1 := tokens_ok hg (by omega) h
  have hl : l.length ≤ 1000000 := by
    have := (scan_back h).1
    have h2 := (scanT_ok h).2
    obtain ⟨l0, rfl, hl0⟩ := h2
    have := (lexAt_len _ s (Nat.le_refl _) 0 l0 hl0)
    rw [List.length_append, List.length_singleton]; omega
  have h2 := sameToks_pure G l want (by omega) (by omega)
  refine Pure.lessArgs (args' := [.str s, rowOf Tok.enc want]) ?_ (.cons (Le.refl _) (.cons Le.gh .nil))
  generalize decide (l = want) = B at *
  clear hs h hw hl hg
  intro σ
  have he := eqFlt 0 0 0 0 .eql
  simp only [decide_true, Bool.and_true, aeq] at he
  refine Tri.of_awp mixed Tryz.func15 rfl (by kernel_rfl) (by kernel_rfl) (by simp [Tryz.ntmps15]) Tryz.results15 ?_
  repeat' (first | refine xs ?_ ?_ <;> intros | ((first | refine xh ?_ | refine xi ?_); intro bx hbx; (try simp only [fb] at hbx)) | refine Pure.use (h1) ?_ | refine Pure.head (h1) ?_ | refine Pure.use (h2) ?_ | refine Pure.head (h2) ?_ | refine xj ?_ | ((with_reducible refine And.intro ?_ ?_); omega) | refine bo_buildSlice (d' := ⟨⟩) ?_ | refine xk (by kernel_rfl) ?_ | refine xf ?_ (by repeat' first | exact lr _ | assumption | refine ls ?_ ?_ | refine lt ?_ ?_ | simp only [*]; done | simp only [fb, *, not_false_eq_true, and_self]; done | exact lf ‹_› (by simp only [*])) | refine finish_two ?_ (by repeat' first | exact lr _ | assumption | refine ls ?_ ?_ | refine lt ?_ ?_ | simp only [*]; done | simp only [fb, *, not_false_eq_true, and_self]; done | exact lf ‹_› (by simp only [*])) | simp -dsimp only [↓bp, bq, br, seval, tbScnH, *])
  all_goals rfl
theorem fault_bad (hg : GlobS G) {s : List UInt8} (hs : s.length ≤ 1000000000) {e p : Nat} (h : scanT s = .bad e p) : Pure Tryz.prog G 18 [.str s, .int .i64 e, .int .i64 p] (.bool true) := by
  have h1 := tokens_bad hg hs h
  clear hs h hg
  intro σ
  have he := eqFlt e p e p .eql
  simp only [decide_true, Bool.and_true, aeq] at he
  refine Tri.of_awp mixed Tryz.func18 rfl (by kernel_rfl) (by kernel_rfl) (by simp [Tryz.ntmps18]) Tryz.results18 ?_
  repeat' (first | refine xs ?_ ?_ <;> intros | ((first | refine xh ?_ | refine xi ?_); intro bx hbx; (try simp only [fb] at hbx)) | refine Pure.use (h1) ?_ | refine Pure.head (h1) ?_ | refine xj ?_ | ((with_reducible refine And.intro ?_ ?_); omega) | refine bo_buildSlice (d' := ⟨⟩) ?_ | refine xk (by kernel_rfl) ?_ | refine xf ?_ (by repeat' first | exact lr _ | assumption | refine ls ?_ ?_ | refine lt ?_ ?_ | simp only [*]; done | simp only [fb, *, not_false_eq_true, and_self]; done | exact lf ‹_› (by simp only [*])) | refine finish_two ?_ (by repeat' first | exact lr _ | assumption | refine ls ?_ ?_ | refine lt ?_ ?_ | simp only [*]; done | simp only [fb, *, not_false_eq_true, and_self]; done | exact lf ‹_› (by simp only [*])) | simp -dsimp only [↓bp, bq, br, seval, tbScnH, *])
  all_goals rfl
theorem ltoken_pure (k p : Int) (t : List UInt8) : Pure Tryz.prog G 16 [.int .u8 k, .str t, .int .i64 p] (.agg [.int .u8 k, .str t, .int .i64 p]) := by
  intro σ
  refine Tri.of_awp mixed Tryz.func16 rfl (by kernel_rfl) (by kernel_rfl) (by simp [Tryz.ntmps16]) Tryz.results16 ?_
  repeat' (first | refine xs ?_ ?_ <;> intros | ((first | refine xh ?_ | refine xi ?_); intro bx hbx; (try simp only [fb] at hbx)) | refine xj ?_ | ((with_reducible refine And.intro ?_ ?_); omega) | refine bo_buildSlice (d' := ⟨⟩) ?_ | refine xk (by kernel_rfl) ?_ | refine xf ?_ (by repeat' first | exact lr _ | assumption | refine ls ?_ ?_ | refine lt ?_ ?_ | simp only [*]; done | simp only [fb, *, not_false_eq_true, and_self]; done | exact lf ‹_› (by simp only [*])) | refine finish_two ?_ (by repeat' first | exact lr _ | assumption | refine ls ?_ ?_ | refine lt ?_ ?_ | simp only [*]; done | simp only [fb, *, not_false_eq_true, and_self]; done | exact lf ‹_› (by simp only [*])) | simp -dsimp only [↓bp, bq, br, seval, tbScnH, *])
  all_goals rfl
end
set_option maxRecDepth 20000
section
def tbScnI := And.intro (And.intro (And.intro (And.intro @tf3 @tf4) (And.intro @tf5 (And.intro @tf9 @tf33))) (And.intro (And.intro @tf37 (And.intro @tf43 @tf41)) (And.intro @tf24 (And.intro @tf76 @tf98)))) (And.intro (And.intro (And.intro @tf26 @tf23) (And.intro @ares_tmpc (And.intro @ares_cellc @isv_rowOf))) (And.intro (And.intro @flat_rowOf (And.intro @len_rowOf @ix_rowOf)) (And.intro @Tok.flat_enc (And.intro @Tok.isv_enc @Tok.fold_enc))))
variable {G : Nat → AV}
theorem tsN2 : aelt Tryz.prog 33 = some (9, 1, 16) := tf33.2.2.2.2.2.2
theorem tsE2 : el Tryz.prog 33 = some 9 := tf33.2.2.2.1
theorem flat_str1 (l : List (List UInt8)) : ∀ a, a ∈ l.map AV.str → (flat a).length = 1 := fun a ha => by
  obtain ⟨x, _, rfl⟩ := List.mem_map.1 ha; rfl
variable (G) in
theorem cloneX_tri (x : List UInt8) (l : List (List UInt8)) (hl : (x :: l).length ≤ 1000000) (σ : AS) : Tri Tryz.prog G 26 [texts (x :: l)] σ fun r σ' => Le r (texts (x :: l)) ∧ σ' = σ := by
  have h1 : ∀ op t, (el Tryz.prog t).isSome = true → abin Tryz.prog op t (texts (x :: l)) .nil = aeq op false := fun op t h => by simp [texts, abin, isNil, h]
  have h2 : asrc Tryz.prog 33 (texts (x :: l)) = some ((x :: l).map AV.str) := asrc_sl tsE2
  have h3 := h1 .eql 33 (by rw [tsE2]; rfl)
  refine Tri.of_awp mixed Tryz.func26 rfl (by kernel_rfl) (by kernel_rfl) (by simp [Tryz.ntmps26]) Tryz.results26 ?_
  simp -dsimp only [↓bp, bq, br, seval, tbScnI, h3]
  refine build_none tsN2 ?_
  simp -dsimp only [↓bp, bq, br, seval, tbScnI]
  refine app_full (σ0 := σ) (AS.le.refl σ) (fun a ha => by cases ha) tsN2 h2 (flat_str1 _) (by simp at hl ⊢; omega) (fun he => ?_) (fun v σ1 hB hx => ?_)
  · cases he
  · simp -dsimp only [↓bp, bq, br, seval, tbScnI]
    exact finish_le hB.told hB.le
theorem words_pure (hg : GlobS G) : Pure Tryz.prog G 11 [] (texts scanWords) := by
  have hc : Pure Tryz.prog G 26 [texts scanWords] (texts scanWords) := Pure.of_le fun σ => cloneX_tri G _ _ (by decide) σ
  have hgw := hg.words
  have hsl := slice_words (g := .none)
  generalize scanWords.map AV.str = LL at *
  generalize texts scanWords = W at *
  intro σ
  refine Tri.of_awp mixed Tryz.func11 rfl (by kernel_rfl) (by kernel_rfl) (by simp [Tryz.ntmps11]) Tryz.results11 ?_
  repeat' (first | refine xs ?_ ?_ <;> intros | ((first | refine xh ?_ | refine xi ?_); intro bx hbx; (try simp only [fb] at hbx)) | refine Pure.use (hc) ?_ | refine Pure.head (hc) ?_ | refine xj ?_ | ((with_reducible refine And.intro ?_ ?_); omega) | refine bo_buildSlice (d' := ⟨⟩) ?_ | refine xk (by kernel_rfl) ?_ | refine xf ?_ (by repeat' first | exact lr _ | assumption | refine ls ?_ ?_ | refine lt ?_ ?_ | simp only [*]; done | simp only [fb, *, not_false_eq_true, and_self]; done | exact lf ‹_› (by simp only [*])) | refine finish_two ?_ (by repeat' first | exact lr _ | assumption | refine ls ?_ ?_ | refine lt ?_ ?_ | simp only [*]; done | simp only [fb, *, not_false_eq_true, and_self]; done | exact lf ‹_› (by simp only [*])) | simp -dsimp only [↓bp, bq, br, seval, tbScnI, *])
  all_goals rfl
set_option maxHeartbeats 2000000 in
theorem sawake_pure (hg : GlobS G) : Pure Tryz.prog G 5 [] (.bool true) := by
  have h1 := is_ok hg (s := [102, 40, 88, 41, 32, 45, 62, 32, 39, 97, 32, 98, 39, 46, 32, 37, 32, 101, 110, 100]) (by decide) (l := [⟨2, [102], 0⟩, ⟨5, [40], 1⟩, ⟨3, [88], 2⟩, ⟨5, [41], 3⟩, ⟨5, [45, 62], 5⟩, ⟨2, [97, 32, 98], 8⟩, ⟨7, [46], 13⟩, ⟨8, [], 20⟩]) (by decide +kernel) [⟨2, [102], 0⟩, ⟨5, [40], 1⟩, ⟨3, [88], 2⟩, ⟨5, [41], 3⟩, ⟨5, [45, 62], 5⟩, ⟨2, [97, 32, 98], 8⟩, ⟨7, [46], 13⟩, ⟨8, [], 20⟩] (by decide) .full
  rw [decide_eq_true rfl] at h1
  simp [Tok.enc] at h1
  have h2 := fault_bad hg (s := [49, 46, 53]) (by decide) (e := 200) (p := 1) (by decide +kernel)
  have h3 := fault_bad hg (s := [49, 97]) (by decide) (e := 201) (p := 0) (by decide +kernel)
  have h4 := fault_bad hg (s := [39, 97]) (by decide) (e := 201) (p := 0) (by decide +kernel)
  have h5 := fault_bad hg (s := [97, 63]) (by decide) (e := 200) (p := 1) (by decide +kernel)
  have h6 := words_pure hg
  have h7 : ablt Tryz.prog .len #[33] [texts scanWords] = some (.int .i64 19) := by rw [len_texts, tsE2]; rfl
  generalize texts scanWords = W at *
  have ht := fun k t p => ltoken_pure (G := G) k p t
  clear hg
  intro σ
  refine Tri.of_awp mixed Tryz.func5 rfl (by kernel_rfl) (by kernel_rfl) (by simp [Tryz.ntmps5]) Tryz.results5 ?_
  repeat' (first | refine xs ?_ ?_ <;> intros | ((first | refine xh ?_ | refine xi ?_); intro bx hbx; (try simp only [fb] at hbx)) | refine Pure.use (ht _ _ _) ?_ | refine Pure.head (ht _ _ _) ?_ | refine Pure.use (h1) ?_ | refine Pure.head (h1) ?_ | refine Pure.use (h2) ?_ | refine Pure.head (h2) ?_ | refine Pure.use (h3) ?_ | refine Pure.head (h3) ?_ | refine Pure.use (h4) ?_ | refine Pure.head (h4) ?_ | refine Pure.use (h5) ?_ | refine Pure.head (h5) ?_ | refine Pure.use (h6) ?_ | refine Pure.head (h6) ?_ | refine xj ?_ | ((with_reducible refine And.intro ?_ ?_); omega) | refine bo_buildSlice (d' := ⟨⟩) ?_ | refine xk (by kernel_rfl) ?_ | refine xf ?_ (by repeat' first | exact lr _ | assumption | refine ls ?_ ?_ | refine lt ?_ ?_ | simp only [*]; done | simp only [fb, *, not_false_eq_true, and_self]; done | exact lf ‹_› (by simp only [*])) | refine finish_two ?_ (by repeat' first | exact lr _ | assumption | refine ls ?_ ?_ | refine lt ?_ ?_ | simp only [*]; done | simp only [fb, *, not_false_eq_true, and_self]; done | exact lf ‹_› (by simp only [*])) | simp -dsimp only [↓bp, bq, br, seval, tbScnI, *])
  all_goals rfl
end
set_option maxRecDepth 20000
section
variable {G : Nat → AV}
def cellsT (l : List Tok) : List AV := (l.map Tok.enc).flatMap flat
theorem cellsT_cons (t : Tok) (l : List Tok) : cellsT (t :: l) = [.int .u8 t.kind, .str t.text, .int .i64 t.pos] ++ cellsT l := by
  simp [cellsT, Tok.flat_enc]
theorem cellsT_len : ∀ l : List Tok, (cellsT l).length = l.length * 3
  | [] => rfl
  | t :: l => by rw [cellsT_cons, List.length_append, cellsT_len l]; simp; omega
theorem rowT_lend {σ : AS} {r : Nat} {L : List Tok} (hb : σ.box r = some (cellsT L)) : Lend G σ (.bs r L.length 3 43) (rowOf Tok.enc L) := by
  have h := Lend.row (G := G) (σ := σ) (b := r) (s := 3) (E := 43) (cs := cellsT L) (ds := cellsT L) hb (by rw [List.take_length]; exact Lends.ids _) (Nat.le_refl _) (xs := L.map Tok.enc) (sp := []) (by
    rw [List.append_nil]; rfl) (by omega) (fun e he => by
    rw [List.append_nil] at he
    obtain ⟨x, _, rfl⟩ := List.mem_map.1 he
    exact ⟨x.len_flat, x.isv_enc, x.ones⟩)
  rw [List.length_map] at h
  exact h
end
set_option maxRecDepth 20000
section
variable {G : Nat → AV}
theorem tokens_made (hg : GlobS G) {s : List UInt8} (hs : s.length ≤ 1000000000) {l : List Tok} (h : scanT s = .ok l) (σ : AS) : Tri Tryz.prog G 6 [.str s] σ fun r σ' => ∃ b, r = .tup [.bs b l.length 3 43, .agg [.int .i64 0, .int .i64 0]] ∧ σ.le σ' ∧ σ.box b = none ∧ σ.tip b = none ∧ σ'.box b = some (cellsT l) := by
  have h1 := tokens_tri hg s hs σ
  rw [h] at h1
  exact h1
end
set_option maxRecDepth 20000
section
open Go Go.Av Go.RowKit
def tbCloneM := And.intro (And.intro @tf3 @tf9) (And.intro @tf33 @tf76)
variable {G : Nat → AV}
theorem putRow {K : Ctx} {σ : AS} {w w' : World} (h : Rel G K σ w) (hb : Below w.heap.size w w') {g cap s : Nat} {E : TypeId} {cur : Array Value} (hg : w.heap.size ≤ g) (hc : w'.heap[g]? = some (.cells cur E (0, 0))) (hsz : cur.size = cap * s) (hml : cap ≤ maxLen) (cs : List AV) (hl : cs.length ≤ cur.size) (h1 : ∀ a, a ∈ cs → one a = true) (hv : ∀ j (hj : j < cs.length), VR K cs[j] (cur.getD j Go.undef)) :
    ∃ K', K.le K' ∧ Rel G K' (σ.setBox g cs) w' ∧ K'.row g = some (cap, s, E) := by
  have h' := h.grown hb
  have hne : ∀ i x, K.row i = some x → i ≠ g := fun i x hi e => by
    obtain ⟨c1, c2, c3⟩ := x
    have := h.row_lt hi; omega
  have hle : K.le { K with row := fun i => if i = g then some (cap, s, E) else K.row i } := ⟨fun _ _ _ x => x, fun i x hi => by show (if i = g then _ else _) = _; rw [if_neg (hne i x hi)]; exact hi, rfl, rfl⟩
  refine ⟨_, hle, ⟨h'.imm, fun i cap' s' E' hi => ?_, fun i ds hi => ?_, fun i n s' hi => ?_, fun i E' n hi => ?_, fun q => (h'.glob q).mono hle, h'.below, h'.bs⟩, if_pos rfl⟩
  · by_cases e : i = g
    · subst e
      have hi' : (if i = i then some (cap, s, E) else K.row i) = some (cap', s', E') := hi
      rw [if_pos rfl] at hi'
      simp only [Option.some.injEq, Prod.mk.injEq] at hi'
      obtain ⟨rfl, rfl, rfl⟩ := hi'
      exact ⟨cur, (0, 0), hc, hsz, hml, fun _ => rfl⟩
    · have hi' : (if i = g then some (cap, s, E) else K.row i) = some (cap', s', E') := hi
      rw [if_neg e] at hi'
      exact h'.row i cap' s' E' hi'
  · by_cases e : i = g
    · subst e
      have hi' : (if i = i then some cs else σ.box i) = some ds := hi
      rw [if_pos rfl] at hi'
      simp only [Option.some.injEq] at hi'
      subst hi'
      exact ⟨Nat.le_trans h.bs hg, (h.fresh hg).2.1, trivial, fun o => h.imm_none hg o, h1, cur, E, hc, hl, fun j hj => (hv j hj).mono hle⟩
    · have hi' : (if i = g then some cs else σ.box i) = some ds := hi
      rw [if_neg e] at hi'
      obtain ⟨g1, g2, g3, g4, g5, c, F, q1, q2, q3⟩ := h'.box i ds hi'
      exact ⟨g1, g2, g3, g4, g5, c, F, q1, q2, fun j hj => (q3 j hj).mono hle⟩
  · obtain ⟨g1, cap', E', g2, g3, g4⟩ := h'.tip i n s' hi
    exact ⟨g1, cap', E', hle.row _ _ g2, g3, g4⟩
  · exact tyOK.mono hle (h'.ty i E' n hi)
theorem texts_cells {K : Ctx} {L : List (List UInt8)} {v : Value} (h : VR K (texts L) v) (hL : L ≠ []) : ∃ b off cap, v = .slice (some ⟨b, off, none⟩) L.length cap ∧ ∀ j, j < L.length → K.imm b (off + j) = some (.string ⟨⟨L.getD j []⟩⟩) := by
  unfold texts at h
  generalize hx : L.map AV.str = xs at h
  have hlen : xs.length = L.length := by rw [← hx, List.length_map]
  cases h with
  | sl g _ _ sz b off cap f hsz hcap hml himm hv hg =>
    refine ⟨b, off, cap, by rw [hlen], fun j hj => ?_⟩
    have e : (xs ++ ([] : List AV)).flatMap flat = xs := by
      rw [List.append_nil, ← hx]
      clear himm hv hsz hcap hg hx hlen hj hL
      induction L with
      | nil => rfl
      | cons x l ih => rw [List.map_cons, List.flatMap_cons, ih]; rfl
    have h1 := himm j (by rw [e, hlen]; exact hj)
    have h2 := hv j (by rw [e, hlen]; exact hj)
    simp only [e] at h2
    subst hx
    rw [List.getElem_map, VR.str_iff] at h2
    rw [h1, h2, List.getD_eq_getElem?_getD, List.getElem?_eq_getElem hj]
    rfl
  | sl0 a => exact absurd (by simpa using hx) hL
theorem cloneM_tri (L : List (List UInt8)) (h0 : L ≠ []) (hl : L.length ≤ 1000000) (σ : AS) : Tri Tryz.prog G 26 [texts L] σ (MadeRow L.length 1 9 (L.map AV.str) σ) := by
  refine ⟨by kernel_rfl, fun K w vals hr hv => ?_⟩
  match vals, hv with
  | [v], ⟨hv, _⟩ =>
    obtain ⟨b, off, cap, rfl, hi⟩ := texts_cells hv h0
    have hz : (L.map fun s => (⟨⟨s⟩⟩ : ByteArray)).length = L.length := by simp
    refine (Tryz.slices_Clone_string b off L.length cap (L.map fun s => (⟨⟨s⟩⟩ : ByteArray)) w (by simp) (by omega) (fun j hj => ?_)).mono fun e w' ⟨v', he, hown, hnn, hbel⟩ => ?_
    · rw [List.length_map] at hj
      have := hr.imm _ _ _ (hi j hj)
      rw [this]
      simp [List.getD_eq_getElem?_getD, List.getElem?_eq_getElem hj]
    · obtain ⟨hxl, ⟨hz0, _⟩ | ⟨g, cap', cur, rfl, hg, hcur, hnc, hcm, hcs, htk⟩⟩ := hown
      · exact absurd hz0 hnn
      · obtain ⟨K', hle, hrel, hrow⟩ := putRow hr hbel hg hcur hcs hcm (L.map AV.str) (by rw [List.length_map]; omega) (fun a ha => by
          obtain ⟨x, _, rfl⟩ := List.mem_map.1 ha; rfl) (fun j hj => by
          rw [List.length_map] at hj
          rw [List.getElem_map]
          have h2 : (cur.toList.take (L.length * 1))[j]? = some (.string ⟨⟨L[j]⟩⟩) := by
            rw [htk, List.getElem?_map, List.getElem?_take_of_lt (by omega), List.getElem?_map, List.getElem?_eq_getElem hj]; rfl
          rw [List.getElem?_take_of_lt (by omega)] at h2
          have h3 : cur.getD j Go.undef = .string ⟨⟨L[j]⟩⟩ := by
            rw [Array.getD_eq_getD_getElem?, ← Array.getElem?_toList, h2]; rfl
          rw [h3]
          exact .str _)
        have hfr := hr.fresh hg
        exact ⟨_, _, _, K', he, ⟨g, rfl, by simp [AS.setBox], (AS.le.refl σ).setBox hfr.1 _, hfr.1, hfr.2.1⟩, .bs _ _ 1 cap' _ hrow hnc hcm, hrel, hle⟩
theorem wordsM_tri (hg : GlobS G) (σ : AS) : Tri Tryz.prog G 11 [] σ (MadeRow 19 1 9 (scanWords.map AV.str) σ) := by
  have hc := fun σ => cloneM_tri (G := G) scanWords (by decide) (by decide) σ
  have hgw := hg.words
  have hsl := slice_words (g := .none)
  have h19 : scanWords.length = 19 := rfl
  rw [h19] at hc
  generalize scanWords.map AV.str = LL at *
  generalize texts scanWords = W at *
  refine Tri.of_awp mixed Tryz.func11 rfl (by kernel_rfl) (by kernel_rfl) (by simp [Tryz.ntmps11]) Tryz.results11 ?_
  repeat' (first | refine xs ?_ ?_ <;> intros | ((first | refine xh ?_ | refine xi ?_); intro bx hbx; (try simp only [fb] at hbx)) | ((refine Tri.mono (hc _) ?_; rintro r s1 ⟨b, rfl, x1, le1, n1, nt1⟩)) | refine xj ?_ | ((with_reducible refine And.intro ?_ ?_); omega) | refine bo_buildSlice (d' := ⟨⟩) ?_ | refine xk (by kernel_rfl) ?_ | refine xf ?_ (by repeat' first | exact lr _ | assumption | refine ls ?_ ?_ | refine lt ?_ ?_ | simp only [*]; done | simp only [fb, *, not_false_eq_true, and_self]; done | exact lf ‹_› (by simp only [*])) | refine finish_two ?_ (by repeat' first | exact lr _ | assumption | refine ls ?_ ?_ | refine lt ?_ ?_ | simp only [*]; done | simp only [fb, *, not_false_eq_true, and_self]; done | exact lf ‹_› (by simp only [*])) | simp -dsimp only [↓bp, bq, br, seval, tbCloneM, *])
  all_goals exact finishW_some _ (AS.le.refl _) ⟨_, rfl, x1, le1, n1, nt1⟩
end
set_option maxRecDepth 100000
section
theorem tf31 : tk Tryz.prog 31 = some (false, 1) ∧ sk Tryz.prog 31 = .sl 23 ∧ (Tryz.prog.underlying 31).isSome = true ∧ el Tryz.prog 31 = some 23 ∧ zc Tryz.prog 31 = some [.nil] ∧ by_ Tryz.prog 31 = some 24 ∧ aelt Tryz.prog 31 = some (23, 1, 24) := ⟨by kernel_rfl, by kernel_rfl, by kernel_rfl, by kernel_rfl, by kernel_rfl, by kernel_rfl, by kernel_rfl⟩
theorem tf35 : tk Tryz.prog 35 = some (false, 1) ∧ sk Tryz.prog 35 = .sl 33 ∧ (Tryz.prog.underlying 35).isSome = true ∧ el Tryz.prog 35 = some 33 ∧ zc Tryz.prog 35 = some [.nil] ∧ by_ Tryz.prog 35 = some 24 ∧ aelt Tryz.prog 35 = some (33, 1, 24) := ⟨by kernel_rfl, by kernel_rfl, by kernel_rfl, by kernel_rfl, by kernel_rfl, by kernel_rfl, by kernel_rfl⟩
theorem tf52 : tk Tryz.prog 52 = some (false, 1) ∧ sk Tryz.prog 52 = .ptr 72 ∧ (Tryz.prog.underlying 52).isSome = true ∧ el Tryz.prog 52 = none ∧ zc Tryz.prog 52 = some [.nilptr] ∧ by_ Tryz.prog 52 = some 8 := ⟨by kernel_rfl, by kernel_rfl, by kernel_rfl, by kernel_rfl, by kernel_rfl, by kernel_rfl⟩
theorem tf53 : tk Tryz.prog 53 = some (false, 1) ∧ sk Tryz.prog 53 = .sl 140 ∧ (Tryz.prog.underlying 53).isSome = true ∧ el Tryz.prog 53 = some 140 ∧ zc Tryz.prog 53 = some [.nil] ∧ by_ Tryz.prog 53 = some 24 ∧ aelt Tryz.prog 53 = some (140, 1, 24) := ⟨by kernel_rfl, by kernel_rfl, by kernel_rfl, by kernel_rfl, by kernel_rfl, by kernel_rfl, by kernel_rfl⟩
theorem tf54 : tk Tryz.prog 54 = some (false, 1) ∧ sk Tryz.prog 54 = .sl 142 ∧ (Tryz.prog.underlying 54).isSome = true ∧ el Tryz.prog 54 = some 142 ∧ zc Tryz.prog 54 = some [.nil] ∧ by_ Tryz.prog 54 = some 24 ∧ aelt Tryz.prog 54 = some (142, 1, 24) := ⟨by kernel_rfl, by kernel_rfl, by kernel_rfl, by kernel_rfl, by kernel_rfl, by kernel_rfl, by kernel_rfl⟩
theorem tf55 : tk Tryz.prog 55 = some (false, 1) ∧ sk Tryz.prog 55 = .sl 143 ∧ (Tryz.prog.underlying 55).isSome = true ∧ el Tryz.prog 55 = some 143 ∧ zc Tryz.prog 55 = some [.nil] ∧ by_ Tryz.prog 55 = some 24 ∧ aelt Tryz.prog 55 = some (143, 1, 24) := ⟨by kernel_rfl, by kernel_rfl, by kernel_rfl, by kernel_rfl, by kernel_rfl, by kernel_rfl, by kernel_rfl⟩
theorem tf56 : tk Tryz.prog 56 = some (false, 1) ∧ sk Tryz.prog 56 = .sl 144 ∧ (Tryz.prog.underlying 56).isSome = true ∧ el Tryz.prog 56 = some 144 ∧ zc Tryz.prog 56 = some [.nil] ∧ by_ Tryz.prog 56 = some 24 ∧ aelt Tryz.prog 56 = some (144, 1, 24) := ⟨by kernel_rfl, by kernel_rfl, by kernel_rfl, by kernel_rfl, by kernel_rfl, by kernel_rfl, by kernel_rfl⟩
theorem tf57 : tk Tryz.prog 57 = some (false, 1) ∧ sk Tryz.prog 57 = .sl 37 ∧ (Tryz.prog.underlying 57).isSome = true ∧ el Tryz.prog 57 = some 37 ∧ zc Tryz.prog 57 = some [.nil] ∧ by_ Tryz.prog 57 = some 24 ∧ aelt Tryz.prog 57 = some (37, 1, 24) := ⟨by kernel_rfl, by kernel_rfl, by kernel_rfl, by kernel_rfl, by kernel_rfl, by kernel_rfl, by kernel_rfl⟩
theorem tf58 : tk Tryz.prog 58 = some (false, 1) ∧ sk Tryz.prog 58 = .sl 147 ∧ (Tryz.prog.underlying 58).isSome = true ∧ el Tryz.prog 58 = some 147 ∧ zc Tryz.prog 58 = some [.nil] ∧ by_ Tryz.prog 58 = some 24 ∧ aelt Tryz.prog 58 = some (147, 1, 24) := ⟨by kernel_rfl, by kernel_rfl, by kernel_rfl, by kernel_rfl, by kernel_rfl, by kernel_rfl, by kernel_rfl⟩
theorem tf60 : tk Tryz.prog 60 = some (false, 1) ∧ sk Tryz.prog 60 = .sl 156 ∧ (Tryz.prog.underlying 60).isSome = true ∧ el Tryz.prog 60 = some 156 ∧ zc Tryz.prog 60 = some [.nil] ∧ by_ Tryz.prog 60 = some 24 ∧ aelt Tryz.prog 60 = some (156, 1, 24) := ⟨by kernel_rfl, by kernel_rfl, by kernel_rfl, by kernel_rfl, by kernel_rfl, by kernel_rfl, by kernel_rfl⟩
theorem tf61 : tk Tryz.prog 61 = some (false, 1) ∧ sk Tryz.prog 61 = .sl 162 ∧ (Tryz.prog.underlying 61).isSome = true ∧ el Tryz.prog 61 = some 162 ∧ zc Tryz.prog 61 = some [.nil] ∧ by_ Tryz.prog 61 = some 24 ∧ aelt Tryz.prog 61 = some (162, 1, 24) := ⟨by kernel_rfl, by kernel_rfl, by kernel_rfl, by kernel_rfl, by kernel_rfl, by kernel_rfl, by kernel_rfl⟩
theorem tf62 : tk Tryz.prog 62 = some (false, 1) ∧ sk Tryz.prog 62 = .sl 168 ∧ (Tryz.prog.underlying 62).isSome = true ∧ el Tryz.prog 62 = some 168 ∧ zc Tryz.prog 62 = some [.nil] ∧ by_ Tryz.prog 62 = some 24 ∧ aelt Tryz.prog 62 = some (168, 1, 24) := ⟨by kernel_rfl, by kernel_rfl, by kernel_rfl, by kernel_rfl, by kernel_rfl, by kernel_rfl, by kernel_rfl⟩
theorem tf63 : tk Tryz.prog 63 = some (false, 1) ∧ sk Tryz.prog 63 = .sl 173 ∧ (Tryz.prog.underlying 63).isSome = true ∧ el Tryz.prog 63 = some 173 ∧ zc Tryz.prog 63 = some [.nil] ∧ by_ Tryz.prog 63 = some 24 ∧ aelt Tryz.prog 63 = some (173, 1, 24) := ⟨by kernel_rfl, by kernel_rfl, by kernel_rfl, by kernel_rfl, by kernel_rfl, by kernel_rfl, by kernel_rfl⟩
theorem tf64 : tk Tryz.prog 64 = some (false, 1) ∧ sk Tryz.prog 64 = .sl 178 ∧ (Tryz.prog.underlying 64).isSome = true ∧ el Tryz.prog 64 = some 178 ∧ zc Tryz.prog 64 = some [.nil] ∧ by_ Tryz.prog 64 = some 24 ∧ aelt Tryz.prog 64 = some (178, 1, 24) := ⟨by kernel_rfl, by kernel_rfl, by kernel_rfl, by kernel_rfl, by kernel_rfl, by kernel_rfl, by kernel_rfl⟩
theorem tf65 : tk Tryz.prog 65 = some (false, 1) ∧ sk Tryz.prog 65 = .sl 184 ∧ (Tryz.prog.underlying 65).isSome = true ∧ el Tryz.prog 65 = some 184 ∧ zc Tryz.prog 65 = some [.nil] ∧ by_ Tryz.prog 65 = some 24 ∧ aelt Tryz.prog 65 = some (184, 1, 24) := ⟨by kernel_rfl, by kernel_rfl, by kernel_rfl, by kernel_rfl, by kernel_rfl, by kernel_rfl, by kernel_rfl⟩
theorem tf66 : tk Tryz.prog 66 = some (false, 1) ∧ sk Tryz.prog 66 = .sl 188 ∧ (Tryz.prog.underlying 66).isSome = true ∧ el Tryz.prog 66 = some 188 ∧ zc Tryz.prog 66 = some [.nil] ∧ by_ Tryz.prog 66 = some 24 ∧ aelt Tryz.prog 66 = some (188, 1, 24) := ⟨by kernel_rfl, by kernel_rfl, by kernel_rfl, by kernel_rfl, by kernel_rfl, by kernel_rfl, by kernel_rfl⟩
theorem tf67 : tk Tryz.prog 67 = some (false, 1) ∧ sk Tryz.prog 67 = .sl 193 ∧ (Tryz.prog.underlying 67).isSome = true ∧ el Tryz.prog 67 = some 193 ∧ zc Tryz.prog 67 = some [.nil] ∧ by_ Tryz.prog 67 = some 24 ∧ aelt Tryz.prog 67 = some (193, 1, 24) := ⟨by kernel_rfl, by kernel_rfl, by kernel_rfl, by kernel_rfl, by kernel_rfl, by kernel_rfl, by kernel_rfl⟩
theorem tf68 : tk Tryz.prog 68 = some (false, 1) ∧ sk Tryz.prog 68 = .sl 198 ∧ (Tryz.prog.underlying 68).isSome = true ∧ el Tryz.prog 68 = some 198 ∧ zc Tryz.prog 68 = some [.nil] ∧ by_ Tryz.prog 68 = some 24 ∧ aelt Tryz.prog 68 = some (198, 1, 24) := ⟨by kernel_rfl, by kernel_rfl, by kernel_rfl, by kernel_rfl, by kernel_rfl, by kernel_rfl, by kernel_rfl⟩
theorem tf69 : tk Tryz.prog 69 = some (false, 1) ∧ sk Tryz.prog 69 = .sl 203 ∧ (Tryz.prog.underlying 69).isSome = true ∧ el Tryz.prog 69 = some 203 ∧ zc Tryz.prog 69 = some [.nil] ∧ by_ Tryz.prog 69 = some 24 ∧ aelt Tryz.prog 69 = some (203, 1, 24) := ⟨by kernel_rfl, by kernel_rfl, by kernel_rfl, by kernel_rfl, by kernel_rfl, by kernel_rfl, by kernel_rfl⟩
theorem tf70 : tk Tryz.prog 70 = some (false, 1) ∧ sk Tryz.prog 70 = .sl 207 ∧ (Tryz.prog.underlying 70).isSome = true ∧ el Tryz.prog 70 = some 207 ∧ zc Tryz.prog 70 = some [.nil] ∧ by_ Tryz.prog 70 = some 24 ∧ aelt Tryz.prog 70 = some (207, 1, 24) := ⟨by kernel_rfl, by kernel_rfl, by kernel_rfl, by kernel_rfl, by kernel_rfl, by kernel_rfl, by kernel_rfl⟩
theorem tf72 : tk Tryz.prog 72 = some (true, 20) ∧ sk Tryz.prog 72 = .st ∧ (Tryz.prog.underlying 72).isSome = true ∧ el Tryz.prog 72 = none ∧ zc Tryz.prog 72 = some [.nil, .nil, .nil, .nil, .nil, .nil, .nil, .nil, .nil, .nil, .nil, .nil, .nil, .nil, .nil, .nil, .nil, .nil, .nil, .nil] ∧ by_ Tryz.prog 72 = some 480 ∧ places Tryz.prog 72 = some [(0, 1), (1, 1), (2, 1), (3, 1), (4, 1), (5, 1), (6, 1), (7, 1), (8, 1), (9, 1), (10, 1), (11, 1), (12, 1), (13, 1), (14, 1), (15, 1), (16, 1), (17, 1), (18, 1), (19, 1)] ∧ fld Tryz.prog 72 0 = some (0, false, 1) ∧ fld Tryz.prog 72 1 = some (1, false, 1) ∧ fld Tryz.prog 72 2 = some (2, false, 1) ∧ fld Tryz.prog 72 3 = some (3, false, 1) ∧ fld Tryz.prog 72 4 = some (4, false, 1) ∧ fld Tryz.prog 72 5 = some (5, false, 1) ∧ fld Tryz.prog 72 6 = some (6, false, 1) ∧ fld Tryz.prog 72 7 = some (7, false, 1) ∧ fld Tryz.prog 72 8 = some (8, false, 1) ∧ fld Tryz.prog 72 9 = some (9, false, 1) ∧ fld Tryz.prog 72 10 = some (10, false, 1) ∧ fld Tryz.prog 72 11 = some (11, false, 1) ∧ fld Tryz.prog 72 12 = some (12, false, 1) ∧ fld Tryz.prog 72 13 = some (13, false, 1) ∧ fld Tryz.prog 72 14 = some (14, false, 1) ∧ fld Tryz.prog 72 15 = some (15, false, 1) ∧ fld Tryz.prog 72 16 = some (16, false, 1) ∧ fld Tryz.prog 72 17 = some (17, false, 1) ∧ fld Tryz.prog 72 18 = some (18, false, 1) ∧ fld Tryz.prog 72 19 = some (19, false, 1) := ⟨by kernel_rfl, by kernel_rfl, by kernel_rfl, by kernel_rfl, by kernel_rfl, by kernel_rfl, by kernel_rfl, by kernel_rfl, by kernel_rfl, by kernel_rfl, by kernel_rfl, by kernel_rfl, by kernel_rfl, by kernel_rfl, by kernel_rfl, by kernel_rfl, by kernel_rfl, by kernel_rfl, by kernel_rfl, by kernel_rfl, by kernel_rfl, by kernel_rfl, by kernel_rfl, by kernel_rfl, by kernel_rfl, by kernel_rfl, by kernel_rfl⟩
end
set_option maxRecDepth 20000
section
def tbFlatN := And.intro (And.intro (And.intro (And.intro @tf3 @tf4) (And.intro @tf53 (And.intro @tf54 @tf55))) (And.intro (And.intro @tf56 (And.intro @tf35 @tf57)) (And.intro @tf58 (And.intro @tf59 @tf31)))) (And.intro (And.intro (And.intro @tf60 @tf61) (And.intro @tf62 (And.intro @tf63 @tf64))) (And.intro (And.intro @tf65 (And.intro @tf66 @tf67)) (And.intro @tf68 (And.intro @tf69 @tf70))))
variable (G : Nat → AV)
theorem flatLimbs_nil : Pure Tryz.prog G 51 [.nil] (.bool true) := by
  intro σ
  refine Tri.of_awp mixed Tryz.func51 rfl (by kernel_rfl) (by kernel_rfl) (by simp [Tryz.ntmps51]) Tryz.results51 ?_
  repeat' (first | refine xs ?_ ?_ <;> intros | ((first | refine xh ?_ | refine xi ?_); intro bx hbx; (try simp only [fb] at hbx)) | ((refine make_buf (σ0 := σ) tf53.2.2.2.2.2.2 (by omega) (by simp) (AS.le.refl σ) (fun v2 σ2 hB2 hx2 => ?_); have hle2 := hB2.le; clear hB2 hx2)) | (((first | refine loop_keep mixed (fun n e => e 14 = .int .i64 0) 0 (by simp -dsimp only [↓bp, bq, br, seval, tbFlatN]; first | done | rfl) ?_ | refine loop_keep mixed (fun n e => e 11 = .int .i64 0) 0 (by simp -dsimp only [↓bp, bq, br, seval, tbFlatN]; first | done | rfl) ?_ | refine loop_keep mixed (fun n e => e 9 = .int .i64 0) 0 (by simp -dsimp only [↓bp, bq, br, seval, tbFlatN]; first | done | rfl) ?_ | refine loop_keep mixed (fun n e => e 6 = .int .i64 0) 0 (by simp -dsimp only [↓bp, bq, br, seval, tbFlatN]; first | done | rfl) ?_ | refine loop_keep mixed (fun n e => e 3 = .int .i64 0) 0 (by simp -dsimp only [↓bp, bq, br, seval, tbFlatN]; first | done | rfl) ?_); rintro n v h; simp -dsimp only [↓bp, bq, br, seval, tbFlatN] at h)) | refine xj ?_ | ((with_reducible refine And.intro ?_ ?_); omega) | refine bo_buildSlice (d' := ⟨⟩) ?_ | refine xk (by kernel_rfl) ?_ | refine xf ?_ (by repeat' first | exact lr _ | assumption | refine ls ?_ ?_ | refine lt ?_ ?_ | simp only [*]; done | simp only [fb, *, not_false_eq_true, and_self]; done | exact lf ‹_› (by simp only [*])) | refine finish_two ?_ (by repeat' first | exact lr _ | assumption | refine ls ?_ ?_ | refine lt ?_ ?_ | simp only [*]; done | simp only [fb, *, not_false_eq_true, and_self]; done | exact lf ‹_› (by simp only [*])) | simp -dsimp only [↓bp, bq, br, seval, tbFlatN, *])
theorem flatWords_nil : Pure Tryz.prog G 52 [.nil] (.bool true) := by
  intro σ
  refine Tri.of_awp mixed Tryz.func52 rfl (by kernel_rfl) (by kernel_rfl) (by simp [Tryz.ntmps52]) Tryz.results52 ?_
  repeat' (first | refine xs ?_ ?_ <;> intros | ((first | refine xh ?_ | refine xi ?_); intro bx hbx; (try simp only [fb] at hbx)) | ((refine make_buf (σ0 := σ) tf54.2.2.2.2.2.2 (by omega) (by simp) (AS.le.refl σ) (fun v2 σ2 hB2 hx2 => ?_); have hle2 := hB2.le; clear hB2 hx2)) | (((first | refine loop_keep mixed (fun n e => e 14 = .int .i64 0) 0 (by simp -dsimp only [↓bp, bq, br, seval, tbFlatN]; first | done | rfl) ?_ | refine loop_keep mixed (fun n e => e 11 = .int .i64 0) 0 (by simp -dsimp only [↓bp, bq, br, seval, tbFlatN]; first | done | rfl) ?_ | refine loop_keep mixed (fun n e => e 9 = .int .i64 0) 0 (by simp -dsimp only [↓bp, bq, br, seval, tbFlatN]; first | done | rfl) ?_ | refine loop_keep mixed (fun n e => e 6 = .int .i64 0) 0 (by simp -dsimp only [↓bp, bq, br, seval, tbFlatN]; first | done | rfl) ?_ | refine loop_keep mixed (fun n e => e 3 = .int .i64 0) 0 (by simp -dsimp only [↓bp, bq, br, seval, tbFlatN]; first | done | rfl) ?_); rintro n v h; simp -dsimp only [↓bp, bq, br, seval, tbFlatN] at h)) | refine xj ?_ | ((with_reducible refine And.intro ?_ ?_); omega) | refine bo_buildSlice (d' := ⟨⟩) ?_ | refine xk (by kernel_rfl) ?_ | refine xf ?_ (by repeat' first | exact lr _ | assumption | refine ls ?_ ?_ | refine lt ?_ ?_ | simp only [*]; done | simp only [fb, *, not_false_eq_true, and_self]; done | exact lf ‹_› (by simp only [*])) | refine finish_two ?_ (by repeat' first | exact lr _ | assumption | refine ls ?_ ?_ | refine lt ?_ ?_ | simp only [*]; done | simp only [fb, *, not_false_eq_true, and_self]; done | exact lf ‹_› (by simp only [*])) | simp -dsimp only [↓bp, bq, br, seval, tbFlatN, *])
theorem flatInts_nil : Pure Tryz.prog G 53 [.nil] (.bool true) := by
  intro σ
  refine Tri.of_awp mixed Tryz.func53 rfl (by kernel_rfl) (by kernel_rfl) (by simp [Tryz.ntmps53]) Tryz.results53 ?_
  repeat' (first | refine xs ?_ ?_ <;> intros | ((first | refine xh ?_ | refine xi ?_); intro bx hbx; (try simp only [fb] at hbx)) | ((refine make_buf (σ0 := σ) tf55.2.2.2.2.2.2 (by omega) (by simp) (AS.le.refl σ) (fun v2 σ2 hB2 hx2 => ?_); have hle2 := hB2.le; clear hB2 hx2)) | (((first | refine loop_keep mixed (fun n e => e 14 = .int .i64 0) 0 (by simp -dsimp only [↓bp, bq, br, seval, tbFlatN]; first | done | rfl) ?_ | refine loop_keep mixed (fun n e => e 11 = .int .i64 0) 0 (by simp -dsimp only [↓bp, bq, br, seval, tbFlatN]; first | done | rfl) ?_ | refine loop_keep mixed (fun n e => e 9 = .int .i64 0) 0 (by simp -dsimp only [↓bp, bq, br, seval, tbFlatN]; first | done | rfl) ?_ | refine loop_keep mixed (fun n e => e 6 = .int .i64 0) 0 (by simp -dsimp only [↓bp, bq, br, seval, tbFlatN]; first | done | rfl) ?_ | refine loop_keep mixed (fun n e => e 3 = .int .i64 0) 0 (by simp -dsimp only [↓bp, bq, br, seval, tbFlatN]; first | done | rfl) ?_); rintro n v h; simp -dsimp only [↓bp, bq, br, seval, tbFlatN] at h)) | refine xj ?_ | ((with_reducible refine And.intro ?_ ?_); omega) | refine bo_buildSlice (d' := ⟨⟩) ?_ | refine xk (by kernel_rfl) ?_ | refine xf ?_ (by repeat' first | exact lr _ | assumption | refine ls ?_ ?_ | refine lt ?_ ?_ | simp only [*]; done | simp only [fb, *, not_false_eq_true, and_self]; done | exact lf ‹_› (by simp only [*])) | refine finish_two ?_ (by repeat' first | exact lr _ | assumption | refine ls ?_ ?_ | refine lt ?_ ?_ | simp only [*]; done | simp only [fb, *, not_false_eq_true, and_self]; done | exact lf ‹_› (by simp only [*])) | simp -dsimp only [↓bp, bq, br, seval, tbFlatN, *])
theorem flatLongs_nil : Pure Tryz.prog G 54 [.nil] (.bool true) := by
  intro σ
  refine Tri.of_awp mixed Tryz.func54 rfl (by kernel_rfl) (by kernel_rfl) (by simp [Tryz.ntmps54]) Tryz.results54 ?_
  repeat' (first | refine xs ?_ ?_ <;> intros | ((first | refine xh ?_ | refine xi ?_); intro bx hbx; (try simp only [fb] at hbx)) | ((refine make_buf (σ0 := σ) tf56.2.2.2.2.2.2 (by omega) (by simp) (AS.le.refl σ) (fun v2 σ2 hB2 hx2 => ?_); have hle2 := hB2.le; clear hB2 hx2)) | (((first | refine loop_keep mixed (fun n e => e 14 = .int .i64 0) 0 (by simp -dsimp only [↓bp, bq, br, seval, tbFlatN]; first | done | rfl) ?_ | refine loop_keep mixed (fun n e => e 11 = .int .i64 0) 0 (by simp -dsimp only [↓bp, bq, br, seval, tbFlatN]; first | done | rfl) ?_ | refine loop_keep mixed (fun n e => e 9 = .int .i64 0) 0 (by simp -dsimp only [↓bp, bq, br, seval, tbFlatN]; first | done | rfl) ?_ | refine loop_keep mixed (fun n e => e 6 = .int .i64 0) 0 (by simp -dsimp only [↓bp, bq, br, seval, tbFlatN]; first | done | rfl) ?_ | refine loop_keep mixed (fun n e => e 3 = .int .i64 0) 0 (by simp -dsimp only [↓bp, bq, br, seval, tbFlatN]; first | done | rfl) ?_); rintro n v h; simp -dsimp only [↓bp, bq, br, seval, tbFlatN] at h)) | refine xj ?_ | ((with_reducible refine And.intro ?_ ?_); omega) | refine bo_buildSlice (d' := ⟨⟩) ?_ | refine xk (by kernel_rfl) ?_ | refine xf ?_ (by repeat' first | exact lr _ | assumption | refine ls ?_ ?_ | refine lt ?_ ?_ | simp only [*]; done | simp only [fb, *, not_false_eq_true, and_self]; done | exact lf ‹_› (by simp only [*])) | refine finish_two ?_ (by repeat' first | exact lr _ | assumption | refine ls ?_ ?_ | refine lt ?_ ?_ | simp only [*]; done | simp only [fb, *, not_false_eq_true, and_self]; done | exact lf ‹_› (by simp only [*])) | simp -dsimp only [↓bp, bq, br, seval, tbFlatN, *])
theorem flatTexts_nil : Pure Tryz.prog G 55 [.nil] (.bool true) := by
  intro σ
  refine Tri.of_awp mixed Tryz.func55 rfl (by kernel_rfl) (by kernel_rfl) (by simp [Tryz.ntmps55]) Tryz.results55 ?_
  repeat' (first | refine xs ?_ ?_ <;> intros | ((first | refine xh ?_ | refine xi ?_); intro bx hbx; (try simp only [fb] at hbx)) | ((refine make_buf (σ0 := σ) tf35.2.2.2.2.2.2 (by omega) (by simp) (AS.le.refl σ) (fun v2 σ2 hB2 hx2 => ?_); have hle2 := hB2.le; clear hB2 hx2)) | (((first | refine loop_keep mixed (fun n e => e 14 = .int .i64 0) 0 (by simp -dsimp only [↓bp, bq, br, seval, tbFlatN]; first | done | rfl) ?_ | refine loop_keep mixed (fun n e => e 11 = .int .i64 0) 0 (by simp -dsimp only [↓bp, bq, br, seval, tbFlatN]; first | done | rfl) ?_ | refine loop_keep mixed (fun n e => e 9 = .int .i64 0) 0 (by simp -dsimp only [↓bp, bq, br, seval, tbFlatN]; first | done | rfl) ?_ | refine loop_keep mixed (fun n e => e 6 = .int .i64 0) 0 (by simp -dsimp only [↓bp, bq, br, seval, tbFlatN]; first | done | rfl) ?_ | refine loop_keep mixed (fun n e => e 3 = .int .i64 0) 0 (by simp -dsimp only [↓bp, bq, br, seval, tbFlatN]; first | done | rfl) ?_); rintro n v h; simp -dsimp only [↓bp, bq, br, seval, tbFlatN] at h)) | refine xj ?_ | ((with_reducible refine And.intro ?_ ?_); omega) | refine bo_buildSlice (d' := ⟨⟩) ?_ | refine xk (by kernel_rfl) ?_ | refine xf ?_ (by repeat' first | exact lr _ | assumption | refine ls ?_ ?_ | refine lt ?_ ?_ | simp only [*]; done | simp only [fb, *, not_false_eq_true, and_self]; done | exact lf ‹_› (by simp only [*])) | refine finish_two ?_ (by repeat' first | exact lr _ | assumption | refine ls ?_ ?_ | refine lt ?_ ?_ | simp only [*]; done | simp only [fb, *, not_false_eq_true, and_self]; done | exact lf ‹_› (by simp only [*])) | simp -dsimp only [↓bp, bq, br, seval, tbFlatN, *])
theorem flatBytes_nil : Pure Tryz.prog G 56 [.nil] (.bool true) := by
  intro σ
  refine Tri.of_awp mixed Tryz.func56 rfl (by kernel_rfl) (by kernel_rfl) (by simp [Tryz.ntmps56]) Tryz.results56 ?_
  repeat' (first | refine xs ?_ ?_ <;> intros | ((first | refine xh ?_ | refine xi ?_); intro bx hbx; (try simp only [fb] at hbx)) | ((refine make_buf (σ0 := σ) tf57.2.2.2.2.2.2 (by omega) (by simp) (AS.le.refl σ) (fun v2 σ2 hB2 hx2 => ?_); have hle2 := hB2.le; clear hB2 hx2)) | (((first | refine loop_keep mixed (fun n e => e 14 = .int .i64 0) 0 (by simp -dsimp only [↓bp, bq, br, seval, tbFlatN]; first | done | rfl) ?_ | refine loop_keep mixed (fun n e => e 11 = .int .i64 0) 0 (by simp -dsimp only [↓bp, bq, br, seval, tbFlatN]; first | done | rfl) ?_ | refine loop_keep mixed (fun n e => e 9 = .int .i64 0) 0 (by simp -dsimp only [↓bp, bq, br, seval, tbFlatN]; first | done | rfl) ?_ | refine loop_keep mixed (fun n e => e 6 = .int .i64 0) 0 (by simp -dsimp only [↓bp, bq, br, seval, tbFlatN]; first | done | rfl) ?_ | refine loop_keep mixed (fun n e => e 3 = .int .i64 0) 0 (by simp -dsimp only [↓bp, bq, br, seval, tbFlatN]; first | done | rfl) ?_); rintro n v h; simp -dsimp only [↓bp, bq, br, seval, tbFlatN] at h)) | refine xj ?_ | ((with_reducible refine And.intro ?_ ?_); omega) | refine bo_buildSlice (d' := ⟨⟩) ?_ | refine xk (by kernel_rfl) ?_ | refine xf ?_ (by repeat' first | exact lr _ | assumption | refine ls ?_ ?_ | refine lt ?_ ?_ | simp only [*]; done | simp only [fb, *, not_false_eq_true, and_self]; done | exact lf ‹_› (by simp only [*])) | refine finish_two ?_ (by repeat' first | exact lr _ | assumption | refine ls ?_ ?_ | refine lt ?_ ?_ | simp only [*]; done | simp only [fb, *, not_false_eq_true, and_self]; done | exact lf ‹_› (by simp only [*])) | simp -dsimp only [↓bp, bq, br, seval, tbFlatN, *])
theorem flatFaults_nil : Pure Tryz.prog G 57 [.nil] (.bool true) := by
  intro σ
  refine Tri.of_awp mixed Tryz.func57 rfl (by kernel_rfl) (by kernel_rfl) (by simp [Tryz.ntmps57]) Tryz.results57 ?_
  repeat' (first | refine xs ?_ ?_ <;> intros | ((first | refine xh ?_ | refine xi ?_); intro bx hbx; (try simp only [fb] at hbx)) | ((refine make_buf (σ0 := σ) tf58.2.2.2.2.2.2 (by omega) (by simp) (AS.le.refl σ) (fun v2 σ2 hB2 hx2 => ?_); have hle2 := hB2.le; clear hB2 hx2)) | (((first | refine loop_keep mixed (fun n e => e 14 = .int .i64 0) 0 (by simp -dsimp only [↓bp, bq, br, seval, tbFlatN]; first | done | rfl) ?_ | refine loop_keep mixed (fun n e => e 11 = .int .i64 0) 0 (by simp -dsimp only [↓bp, bq, br, seval, tbFlatN]; first | done | rfl) ?_ | refine loop_keep mixed (fun n e => e 9 = .int .i64 0) 0 (by simp -dsimp only [↓bp, bq, br, seval, tbFlatN]; first | done | rfl) ?_ | refine loop_keep mixed (fun n e => e 6 = .int .i64 0) 0 (by simp -dsimp only [↓bp, bq, br, seval, tbFlatN]; first | done | rfl) ?_ | refine loop_keep mixed (fun n e => e 3 = .int .i64 0) 0 (by simp -dsimp only [↓bp, bq, br, seval, tbFlatN]; first | done | rfl) ?_); rintro n v h; simp -dsimp only [↓bp, bq, br, seval, tbFlatN] at h)) | refine xj ?_ | ((with_reducible refine And.intro ?_ ?_); omega) | refine bo_buildSlice (d' := ⟨⟩) ?_ | refine xk (by kernel_rfl) ?_ | refine xf ?_ (by repeat' first | exact lr _ | assumption | refine ls ?_ ?_ | refine lt ?_ ?_ | simp only [*]; done | simp only [fb, *, not_false_eq_true, and_self]; done | exact lf ‹_› (by simp only [*])) | refine finish_two ?_ (by repeat' first | exact lr _ | assumption | refine ls ?_ ?_ | refine lt ?_ ?_ | simp only [*]; done | simp only [fb, *, not_false_eq_true, and_self]; done | exact lf ‹_› (by simp only [*])) | simp -dsimp only [↓bp, bq, br, seval, tbFlatN, *])
theorem flatTerms_nil : Pure Tryz.prog G 58 [.nil] (.bool true) := by
  intro σ
  refine Tri.of_awp mixed Tryz.func58 rfl (by kernel_rfl) (by kernel_rfl) (by simp [Tryz.ntmps58]) Tryz.results58 ?_
  repeat' (first | refine xs ?_ ?_ <;> intros | ((first | refine xh ?_ | refine xi ?_); intro bx hbx; (try simp only [fb] at hbx)) | ((refine make_buf (σ0 := σ) tf59.2.2.2.2.2.2 (by omega) (by simp) (AS.le.refl σ) (fun v2 σ2 hB2 hx2 => ?_); have hle2 := hB2.le; clear hB2 hx2)) | (((first | refine loop_keep mixed (fun n e => e 14 = .int .i64 0) 0 (by simp -dsimp only [↓bp, bq, br, seval, tbFlatN]; first | done | rfl) ?_ | refine loop_keep mixed (fun n e => e 11 = .int .i64 0) 0 (by simp -dsimp only [↓bp, bq, br, seval, tbFlatN]; first | done | rfl) ?_ | refine loop_keep mixed (fun n e => e 9 = .int .i64 0) 0 (by simp -dsimp only [↓bp, bq, br, seval, tbFlatN]; first | done | rfl) ?_ | refine loop_keep mixed (fun n e => e 6 = .int .i64 0) 0 (by simp -dsimp only [↓bp, bq, br, seval, tbFlatN]; first | done | rfl) ?_ | refine loop_keep mixed (fun n e => e 3 = .int .i64 0) 0 (by simp -dsimp only [↓bp, bq, br, seval, tbFlatN]; first | done | rfl) ?_); rintro n v h; simp -dsimp only [↓bp, bq, br, seval, tbFlatN] at h)) | refine xj ?_ | ((with_reducible refine And.intro ?_ ?_); omega) | refine bo_buildSlice (d' := ⟨⟩) ?_ | refine xk (by kernel_rfl) ?_ | refine xf ?_ (by repeat' first | exact lr _ | assumption | refine ls ?_ ?_ | refine lt ?_ ?_ | simp only [*]; done | simp only [fb, *, not_false_eq_true, and_self]; done | exact lf ‹_› (by simp only [*])) | refine finish_two ?_ (by repeat' first | exact lr _ | assumption | refine ls ?_ ?_ | refine lt ?_ ?_ | simp only [*]; done | simp only [fb, *, not_false_eq_true, and_self]; done | exact lf ‹_› (by simp only [*])) | simp -dsimp only [↓bp, bq, br, seval, tbFlatN, *])
theorem flatTokens_nil : Pure Tryz.prog G 59 [.nil] (.bool true) := by
  intro σ
  refine Tri.of_awp mixed Tryz.func59 rfl (by kernel_rfl) (by kernel_rfl) (by simp [Tryz.ntmps59]) Tryz.results59 ?_
  repeat' (first | refine xs ?_ ?_ <;> intros | ((first | refine xh ?_ | refine xi ?_); intro bx hbx; (try simp only [fb] at hbx)) | ((refine make_buf (σ0 := σ) tf31.2.2.2.2.2.2 (by omega) (by simp) (AS.le.refl σ) (fun v2 σ2 hB2 hx2 => ?_); have hle2 := hB2.le; clear hB2 hx2)) | (((first | refine loop_keep mixed (fun n e => e 14 = .int .i64 0) 0 (by simp -dsimp only [↓bp, bq, br, seval, tbFlatN]; first | done | rfl) ?_ | refine loop_keep mixed (fun n e => e 11 = .int .i64 0) 0 (by simp -dsimp only [↓bp, bq, br, seval, tbFlatN]; first | done | rfl) ?_ | refine loop_keep mixed (fun n e => e 9 = .int .i64 0) 0 (by simp -dsimp only [↓bp, bq, br, seval, tbFlatN]; first | done | rfl) ?_ | refine loop_keep mixed (fun n e => e 6 = .int .i64 0) 0 (by simp -dsimp only [↓bp, bq, br, seval, tbFlatN]; first | done | rfl) ?_ | refine loop_keep mixed (fun n e => e 3 = .int .i64 0) 0 (by simp -dsimp only [↓bp, bq, br, seval, tbFlatN]; first | done | rfl) ?_); rintro n v h; simp -dsimp only [↓bp, bq, br, seval, tbFlatN] at h)) | refine xj ?_ | ((with_reducible refine And.intro ?_ ?_); omega) | refine bo_buildSlice (d' := ⟨⟩) ?_ | refine xk (by kernel_rfl) ?_ | refine xf ?_ (by repeat' first | exact lr _ | assumption | refine ls ?_ ?_ | refine lt ?_ ?_ | simp only [*]; done | simp only [fb, *, not_false_eq_true, and_self]; done | exact lf ‹_› (by simp only [*])) | refine finish_two ?_ (by repeat' first | exact lr _ | assumption | refine ls ?_ ?_ | refine lt ?_ ?_ | simp only [*]; done | simp only [fb, *, not_false_eq_true, and_self]; done | exact lf ‹_› (by simp only [*])) | simp -dsimp only [↓bp, bq, br, seval, tbFlatN, *])
theorem flatNodes_nil : Pure Tryz.prog G 60 [.nil] (.bool true) := by
  intro σ
  refine Tri.of_awp mixed Tryz.func60 rfl (by kernel_rfl) (by kernel_rfl) (by simp [Tryz.ntmps60]) Tryz.results60 ?_
  repeat' (first | refine xs ?_ ?_ <;> intros | ((first | refine xh ?_ | refine xi ?_); intro bx hbx; (try simp only [fb] at hbx)) | ((refine make_buf (σ0 := σ) tf60.2.2.2.2.2.2 (by omega) (by simp) (AS.le.refl σ) (fun v2 σ2 hB2 hx2 => ?_); have hle2 := hB2.le; clear hB2 hx2)) | (((first | refine loop_keep mixed (fun n e => e 14 = .int .i64 0) 0 (by simp -dsimp only [↓bp, bq, br, seval, tbFlatN]; first | done | rfl) ?_ | refine loop_keep mixed (fun n e => e 11 = .int .i64 0) 0 (by simp -dsimp only [↓bp, bq, br, seval, tbFlatN]; first | done | rfl) ?_ | refine loop_keep mixed (fun n e => e 9 = .int .i64 0) 0 (by simp -dsimp only [↓bp, bq, br, seval, tbFlatN]; first | done | rfl) ?_ | refine loop_keep mixed (fun n e => e 6 = .int .i64 0) 0 (by simp -dsimp only [↓bp, bq, br, seval, tbFlatN]; first | done | rfl) ?_ | refine loop_keep mixed (fun n e => e 3 = .int .i64 0) 0 (by simp -dsimp only [↓bp, bq, br, seval, tbFlatN]; first | done | rfl) ?_); rintro n v h; simp -dsimp only [↓bp, bq, br, seval, tbFlatN] at h)) | refine xj ?_ | ((with_reducible refine And.intro ?_ ?_); omega) | refine bo_buildSlice (d' := ⟨⟩) ?_ | refine xk (by kernel_rfl) ?_ | refine xf ?_ (by repeat' first | exact lr _ | assumption | refine ls ?_ ?_ | refine lt ?_ ?_ | simp only [*]; done | simp only [fb, *, not_false_eq_true, and_self]; done | exact lf ‹_› (by simp only [*])) | refine finish_two ?_ (by repeat' first | exact lr _ | assumption | refine ls ?_ ?_ | refine lt ?_ ?_ | simp only [*]; done | simp only [fb, *, not_false_eq_true, and_self]; done | exact lf ‹_› (by simp only [*])) | simp -dsimp only [↓bp, bq, br, seval, tbFlatN, *])
theorem flatCores_nil : Pure Tryz.prog G 61 [.nil] (.bool true) := by
  intro σ
  refine Tri.of_awp mixed Tryz.func61 rfl (by kernel_rfl) (by kernel_rfl) (by simp [Tryz.ntmps61]) Tryz.results61 ?_
  repeat' (first | refine xs ?_ ?_ <;> intros | ((first | refine xh ?_ | refine xi ?_); intro bx hbx; (try simp only [fb] at hbx)) | ((refine make_buf (σ0 := σ) tf61.2.2.2.2.2.2 (by omega) (by simp) (AS.le.refl σ) (fun v2 σ2 hB2 hx2 => ?_); have hle2 := hB2.le; clear hB2 hx2)) | (((first | refine loop_keep mixed (fun n e => e 14 = .int .i64 0) 0 (by simp -dsimp only [↓bp, bq, br, seval, tbFlatN]; first | done | rfl) ?_ | refine loop_keep mixed (fun n e => e 11 = .int .i64 0) 0 (by simp -dsimp only [↓bp, bq, br, seval, tbFlatN]; first | done | rfl) ?_ | refine loop_keep mixed (fun n e => e 9 = .int .i64 0) 0 (by simp -dsimp only [↓bp, bq, br, seval, tbFlatN]; first | done | rfl) ?_ | refine loop_keep mixed (fun n e => e 6 = .int .i64 0) 0 (by simp -dsimp only [↓bp, bq, br, seval, tbFlatN]; first | done | rfl) ?_ | refine loop_keep mixed (fun n e => e 3 = .int .i64 0) 0 (by simp -dsimp only [↓bp, bq, br, seval, tbFlatN]; first | done | rfl) ?_); rintro n v h; simp -dsimp only [↓bp, bq, br, seval, tbFlatN] at h)) | refine xj ?_ | ((with_reducible refine And.intro ?_ ?_); omega) | refine bo_buildSlice (d' := ⟨⟩) ?_ | refine xk (by kernel_rfl) ?_ | refine xf ?_ (by repeat' first | exact lr _ | assumption | refine ls ?_ ?_ | refine lt ?_ ?_ | simp only [*]; done | simp only [fb, *, not_false_eq_true, and_self]; done | exact lf ‹_› (by simp only [*])) | refine finish_two ?_ (by repeat' first | exact lr _ | assumption | refine ls ?_ ?_ | refine lt ?_ ?_ | simp only [*]; done | simp only [fb, *, not_false_eq_true, and_self]; done | exact lf ‹_› (by simp only [*])) | simp -dsimp only [↓bp, bq, br, seval, tbFlatN, *])
theorem flatFuncs_nil : Pure Tryz.prog G 62 [.nil] (.bool true) := by
  intro σ
  refine Tri.of_awp mixed Tryz.func62 rfl (by kernel_rfl) (by kernel_rfl) (by simp [Tryz.ntmps62]) Tryz.results62 ?_
  repeat' (first | refine xs ?_ ?_ <;> intros | ((first | refine xh ?_ | refine xi ?_); intro bx hbx; (try simp only [fb] at hbx)) | ((refine make_buf (σ0 := σ) tf62.2.2.2.2.2.2 (by omega) (by simp) (AS.le.refl σ) (fun v2 σ2 hB2 hx2 => ?_); have hle2 := hB2.le; clear hB2 hx2)) | (((first | refine loop_keep mixed (fun n e => e 14 = .int .i64 0) 0 (by simp -dsimp only [↓bp, bq, br, seval, tbFlatN]; first | done | rfl) ?_ | refine loop_keep mixed (fun n e => e 11 = .int .i64 0) 0 (by simp -dsimp only [↓bp, bq, br, seval, tbFlatN]; first | done | rfl) ?_ | refine loop_keep mixed (fun n e => e 9 = .int .i64 0) 0 (by simp -dsimp only [↓bp, bq, br, seval, tbFlatN]; first | done | rfl) ?_ | refine loop_keep mixed (fun n e => e 6 = .int .i64 0) 0 (by simp -dsimp only [↓bp, bq, br, seval, tbFlatN]; first | done | rfl) ?_ | refine loop_keep mixed (fun n e => e 3 = .int .i64 0) 0 (by simp -dsimp only [↓bp, bq, br, seval, tbFlatN]; first | done | rfl) ?_); rintro n v h; simp -dsimp only [↓bp, bq, br, seval, tbFlatN] at h)) | refine xj ?_ | ((with_reducible refine And.intro ?_ ?_); omega) | refine bo_buildSlice (d' := ⟨⟩) ?_ | refine xk (by kernel_rfl) ?_ | refine xf ?_ (by repeat' first | exact lr _ | assumption | refine ls ?_ ?_ | refine lt ?_ ?_ | simp only [*]; done | simp only [fb, *, not_false_eq_true, and_self]; done | exact lf ‹_› (by simp only [*])) | refine finish_two ?_ (by repeat' first | exact lr _ | assumption | refine ls ?_ ?_ | refine lt ?_ ?_ | simp only [*]; done | simp only [fb, *, not_false_eq_true, and_self]; done | exact lf ‹_› (by simp only [*])) | simp -dsimp only [↓bp, bq, br, seval, tbFlatN, *])
theorem flatPrograms_nil : Pure Tryz.prog G 63 [.nil] (.bool true) := by
  intro σ
  refine Tri.of_awp mixed Tryz.func63 rfl (by kernel_rfl) (by kernel_rfl) (by simp [Tryz.ntmps63]) Tryz.results63 ?_
  repeat' (first | refine xs ?_ ?_ <;> intros | ((first | refine xh ?_ | refine xi ?_); intro bx hbx; (try simp only [fb] at hbx)) | ((refine make_buf (σ0 := σ) tf63.2.2.2.2.2.2 (by omega) (by simp) (AS.le.refl σ) (fun v2 σ2 hB2 hx2 => ?_); have hle2 := hB2.le; clear hB2 hx2)) | (((first | refine loop_keep mixed (fun n e => e 14 = .int .i64 0) 0 (by simp -dsimp only [↓bp, bq, br, seval, tbFlatN]; first | done | rfl) ?_ | refine loop_keep mixed (fun n e => e 11 = .int .i64 0) 0 (by simp -dsimp only [↓bp, bq, br, seval, tbFlatN]; first | done | rfl) ?_ | refine loop_keep mixed (fun n e => e 9 = .int .i64 0) 0 (by simp -dsimp only [↓bp, bq, br, seval, tbFlatN]; first | done | rfl) ?_ | refine loop_keep mixed (fun n e => e 6 = .int .i64 0) 0 (by simp -dsimp only [↓bp, bq, br, seval, tbFlatN]; first | done | rfl) ?_ | refine loop_keep mixed (fun n e => e 3 = .int .i64 0) 0 (by simp -dsimp only [↓bp, bq, br, seval, tbFlatN]; first | done | rfl) ?_); rintro n v h; simp -dsimp only [↓bp, bq, br, seval, tbFlatN] at h)) | refine xj ?_ | ((with_reducible refine And.intro ?_ ?_); omega) | refine bo_buildSlice (d' := ⟨⟩) ?_ | refine xk (by kernel_rfl) ?_ | refine xf ?_ (by repeat' first | exact lr _ | assumption | refine ls ?_ ?_ | refine lt ?_ ?_ | simp only [*]; done | simp only [fb, *, not_false_eq_true, and_self]; done | exact lf ‹_› (by simp only [*])) | refine finish_two ?_ (by repeat' first | exact lr _ | assumption | refine ls ?_ ?_ | refine lt ?_ ?_ | simp only [*]; done | simp only [fb, *, not_false_eq_true, and_self]; done | exact lf ‹_› (by simp only [*])) | simp -dsimp only [↓bp, bq, br, seval, tbFlatN, *])
theorem flatInstrs_nil : Pure Tryz.prog G 64 [.nil] (.bool true) := by
  intro σ
  refine Tri.of_awp mixed Tryz.func64 rfl (by kernel_rfl) (by kernel_rfl) (by simp [Tryz.ntmps64]) Tryz.results64 ?_
  repeat' (first | refine xs ?_ ?_ <;> intros | ((first | refine xh ?_ | refine xi ?_); intro bx hbx; (try simp only [fb] at hbx)) | ((refine make_buf (σ0 := σ) tf64.2.2.2.2.2.2 (by omega) (by simp) (AS.le.refl σ) (fun v2 σ2 hB2 hx2 => ?_); have hle2 := hB2.le; clear hB2 hx2)) | (((first | refine loop_keep mixed (fun n e => e 14 = .int .i64 0) 0 (by simp -dsimp only [↓bp, bq, br, seval, tbFlatN]; first | done | rfl) ?_ | refine loop_keep mixed (fun n e => e 11 = .int .i64 0) 0 (by simp -dsimp only [↓bp, bq, br, seval, tbFlatN]; first | done | rfl) ?_ | refine loop_keep mixed (fun n e => e 9 = .int .i64 0) 0 (by simp -dsimp only [↓bp, bq, br, seval, tbFlatN]; first | done | rfl) ?_ | refine loop_keep mixed (fun n e => e 6 = .int .i64 0) 0 (by simp -dsimp only [↓bp, bq, br, seval, tbFlatN]; first | done | rfl) ?_ | refine loop_keep mixed (fun n e => e 3 = .int .i64 0) 0 (by simp -dsimp only [↓bp, bq, br, seval, tbFlatN]; first | done | rfl) ?_); rintro n v h; simp -dsimp only [↓bp, bq, br, seval, tbFlatN] at h)) | refine xj ?_ | ((with_reducible refine And.intro ?_ ?_); omega) | refine bo_buildSlice (d' := ⟨⟩) ?_ | refine xk (by kernel_rfl) ?_ | refine xf ?_ (by repeat' first | exact lr _ | assumption | refine ls ?_ ?_ | refine lt ?_ ?_ | simp only [*]; done | simp only [fb, *, not_false_eq_true, and_self]; done | exact lf ‹_› (by simp only [*])) | refine finish_two ?_ (by repeat' first | exact lr _ | assumption | refine ls ?_ ?_ | refine lt ?_ ?_ | simp only [*]; done | simp only [fb, *, not_false_eq_true, and_self]; done | exact lf ‹_› (by simp only [*])) | simp -dsimp only [↓bp, bq, br, seval, tbFlatN, *])
theorem flatEntries_nil : Pure Tryz.prog G 65 [.nil] (.bool true) := by
  intro σ
  refine Tri.of_awp mixed Tryz.func65 rfl (by kernel_rfl) (by kernel_rfl) (by simp [Tryz.ntmps65]) Tryz.results65 ?_
  repeat' (first | refine xs ?_ ?_ <;> intros | ((first | refine xh ?_ | refine xi ?_); intro bx hbx; (try simp only [fb] at hbx)) | ((refine make_buf (σ0 := σ) tf65.2.2.2.2.2.2 (by omega) (by simp) (AS.le.refl σ) (fun v2 σ2 hB2 hx2 => ?_); have hle2 := hB2.le; clear hB2 hx2)) | (((first | refine loop_keep mixed (fun n e => e 14 = .int .i64 0) 0 (by simp -dsimp only [↓bp, bq, br, seval, tbFlatN]; first | done | rfl) ?_ | refine loop_keep mixed (fun n e => e 11 = .int .i64 0) 0 (by simp -dsimp only [↓bp, bq, br, seval, tbFlatN]; first | done | rfl) ?_ | refine loop_keep mixed (fun n e => e 9 = .int .i64 0) 0 (by simp -dsimp only [↓bp, bq, br, seval, tbFlatN]; first | done | rfl) ?_ | refine loop_keep mixed (fun n e => e 6 = .int .i64 0) 0 (by simp -dsimp only [↓bp, bq, br, seval, tbFlatN]; first | done | rfl) ?_ | refine loop_keep mixed (fun n e => e 3 = .int .i64 0) 0 (by simp -dsimp only [↓bp, bq, br, seval, tbFlatN]; first | done | rfl) ?_); rintro n v h; simp -dsimp only [↓bp, bq, br, seval, tbFlatN] at h)) | refine xj ?_ | ((with_reducible refine And.intro ?_ ?_); omega) | refine bo_buildSlice (d' := ⟨⟩) ?_ | refine xk (by kernel_rfl) ?_ | refine xf ?_ (by repeat' first | exact lr _ | assumption | refine ls ?_ ?_ | refine lt ?_ ?_ | simp only [*]; done | simp only [fb, *, not_false_eq_true, and_self]; done | exact lf ‹_› (by simp only [*])) | refine finish_two ?_ (by repeat' first | exact lr _ | assumption | refine ls ?_ ?_ | refine lt ?_ ?_ | simp only [*]; done | simp only [fb, *, not_false_eq_true, and_self]; done | exact lf ‹_› (by simp only [*])) | simp -dsimp only [↓bp, bq, br, seval, tbFlatN, *])
theorem flatCodes_nil : Pure Tryz.prog G 66 [.nil] (.bool true) := by
  intro σ
  refine Tri.of_awp mixed Tryz.func66 rfl (by kernel_rfl) (by kernel_rfl) (by simp [Tryz.ntmps66]) Tryz.results66 ?_
  repeat' (first | refine xs ?_ ?_ <;> intros | ((first | refine xh ?_ | refine xi ?_); intro bx hbx; (try simp only [fb] at hbx)) | ((refine make_buf (σ0 := σ) tf66.2.2.2.2.2.2 (by omega) (by simp) (AS.le.refl σ) (fun v2 σ2 hB2 hx2 => ?_); have hle2 := hB2.le; clear hB2 hx2)) | (((first | refine loop_keep mixed (fun n e => e 14 = .int .i64 0) 0 (by simp -dsimp only [↓bp, bq, br, seval, tbFlatN]; first | done | rfl) ?_ | refine loop_keep mixed (fun n e => e 11 = .int .i64 0) 0 (by simp -dsimp only [↓bp, bq, br, seval, tbFlatN]; first | done | rfl) ?_ | refine loop_keep mixed (fun n e => e 9 = .int .i64 0) 0 (by simp -dsimp only [↓bp, bq, br, seval, tbFlatN]; first | done | rfl) ?_ | refine loop_keep mixed (fun n e => e 6 = .int .i64 0) 0 (by simp -dsimp only [↓bp, bq, br, seval, tbFlatN]; first | done | rfl) ?_ | refine loop_keep mixed (fun n e => e 3 = .int .i64 0) 0 (by simp -dsimp only [↓bp, bq, br, seval, tbFlatN]; first | done | rfl) ?_); rintro n v h; simp -dsimp only [↓bp, bq, br, seval, tbFlatN] at h)) | refine xj ?_ | ((with_reducible refine And.intro ?_ ?_); omega) | refine bo_buildSlice (d' := ⟨⟩) ?_ | refine xk (by kernel_rfl) ?_ | refine xf ?_ (by repeat' first | exact lr _ | assumption | refine ls ?_ ?_ | refine lt ?_ ?_ | simp only [*]; done | simp only [fb, *, not_false_eq_true, and_self]; done | exact lf ‹_› (by simp only [*])) | refine finish_two ?_ (by repeat' first | exact lr _ | assumption | refine ls ?_ ?_ | refine lt ?_ ?_ | simp only [*]; done | simp only [fb, *, not_false_eq_true, and_self]; done | exact lf ‹_› (by simp only [*])) | simp -dsimp only [↓bp, bq, br, seval, tbFlatN, *])
theorem flatSteps_nil : Pure Tryz.prog G 67 [.nil] (.bool true) := by
  intro σ
  refine Tri.of_awp mixed Tryz.func67 rfl (by kernel_rfl) (by kernel_rfl) (by simp [Tryz.ntmps67]) Tryz.results67 ?_
  repeat' (first | refine xs ?_ ?_ <;> intros | ((first | refine xh ?_ | refine xi ?_); intro bx hbx; (try simp only [fb] at hbx)) | ((refine make_buf (σ0 := σ) tf67.2.2.2.2.2.2 (by omega) (by simp) (AS.le.refl σ) (fun v2 σ2 hB2 hx2 => ?_); have hle2 := hB2.le; clear hB2 hx2)) | (((first | refine loop_keep mixed (fun n e => e 14 = .int .i64 0) 0 (by simp -dsimp only [↓bp, bq, br, seval, tbFlatN]; first | done | rfl) ?_ | refine loop_keep mixed (fun n e => e 11 = .int .i64 0) 0 (by simp -dsimp only [↓bp, bq, br, seval, tbFlatN]; first | done | rfl) ?_ | refine loop_keep mixed (fun n e => e 9 = .int .i64 0) 0 (by simp -dsimp only [↓bp, bq, br, seval, tbFlatN]; first | done | rfl) ?_ | refine loop_keep mixed (fun n e => e 6 = .int .i64 0) 0 (by simp -dsimp only [↓bp, bq, br, seval, tbFlatN]; first | done | rfl) ?_ | refine loop_keep mixed (fun n e => e 3 = .int .i64 0) 0 (by simp -dsimp only [↓bp, bq, br, seval, tbFlatN]; first | done | rfl) ?_); rintro n v h; simp -dsimp only [↓bp, bq, br, seval, tbFlatN] at h)) | refine xj ?_ | ((with_reducible refine And.intro ?_ ?_); omega) | refine bo_buildSlice (d' := ⟨⟩) ?_ | refine xk (by kernel_rfl) ?_ | refine xf ?_ (by repeat' first | exact lr _ | assumption | refine ls ?_ ?_ | refine lt ?_ ?_ | simp only [*]; done | simp only [fb, *, not_false_eq_true, and_self]; done | exact lf ‹_› (by simp only [*])) | refine finish_two ?_ (by repeat' first | exact lr _ | assumption | refine ls ?_ ?_ | refine lt ?_ ?_ | simp only [*]; done | simp only [fb, *, not_false_eq_true, and_self]; done | exact lf ‹_› (by simp only [*])) | simp -dsimp only [↓bp, bq, br, seval, tbFlatN, *])
theorem flatEndeds_nil : Pure Tryz.prog G 68 [.nil] (.bool true) := by
  intro σ
  refine Tri.of_awp mixed Tryz.func68 rfl (by kernel_rfl) (by kernel_rfl) (by simp [Tryz.ntmps68]) Tryz.results68 ?_
  repeat' (first | refine xs ?_ ?_ <;> intros | ((first | refine xh ?_ | refine xi ?_); intro bx hbx; (try simp only [fb] at hbx)) | ((refine make_buf (σ0 := σ) tf68.2.2.2.2.2.2 (by omega) (by simp) (AS.le.refl σ) (fun v2 σ2 hB2 hx2 => ?_); have hle2 := hB2.le; clear hB2 hx2)) | (((first | refine loop_keep mixed (fun n e => e 14 = .int .i64 0) 0 (by simp -dsimp only [↓bp, bq, br, seval, tbFlatN]; first | done | rfl) ?_ | refine loop_keep mixed (fun n e => e 11 = .int .i64 0) 0 (by simp -dsimp only [↓bp, bq, br, seval, tbFlatN]; first | done | rfl) ?_ | refine loop_keep mixed (fun n e => e 9 = .int .i64 0) 0 (by simp -dsimp only [↓bp, bq, br, seval, tbFlatN]; first | done | rfl) ?_ | refine loop_keep mixed (fun n e => e 6 = .int .i64 0) 0 (by simp -dsimp only [↓bp, bq, br, seval, tbFlatN]; first | done | rfl) ?_ | refine loop_keep mixed (fun n e => e 3 = .int .i64 0) 0 (by simp -dsimp only [↓bp, bq, br, seval, tbFlatN]; first | done | rfl) ?_); rintro n v h; simp -dsimp only [↓bp, bq, br, seval, tbFlatN] at h)) | refine xj ?_ | ((with_reducible refine And.intro ?_ ?_); omega) | refine bo_buildSlice (d' := ⟨⟩) ?_ | refine xk (by kernel_rfl) ?_ | refine xf ?_ (by repeat' first | exact lr _ | assumption | refine ls ?_ ?_ | refine lt ?_ ?_ | simp only [*]; done | simp only [fb, *, not_false_eq_true, and_self]; done | exact lf ‹_› (by simp only [*])) | refine finish_two ?_ (by repeat' first | exact lr _ | assumption | refine ls ?_ ?_ | refine lt ?_ ?_ | simp only [*]; done | simp only [fb, *, not_false_eq_true, and_self]; done | exact lf ‹_› (by simp only [*])) | simp -dsimp only [↓bp, bq, br, seval, tbFlatN, *])
theorem flatNameds_nil : Pure Tryz.prog G 69 [.nil] (.bool true) := by
  intro σ
  refine Tri.of_awp mixed Tryz.func69 rfl (by kernel_rfl) (by kernel_rfl) (by simp [Tryz.ntmps69]) Tryz.results69 ?_
  repeat' (first | refine xs ?_ ?_ <;> intros | ((first | refine xh ?_ | refine xi ?_); intro bx hbx; (try simp only [fb] at hbx)) | ((refine make_buf (σ0 := σ) tf69.2.2.2.2.2.2 (by omega) (by simp) (AS.le.refl σ) (fun v2 σ2 hB2 hx2 => ?_); have hle2 := hB2.le; clear hB2 hx2)) | (((first | refine loop_keep mixed (fun n e => e 14 = .int .i64 0) 0 (by simp -dsimp only [↓bp, bq, br, seval, tbFlatN]; first | done | rfl) ?_ | refine loop_keep mixed (fun n e => e 11 = .int .i64 0) 0 (by simp -dsimp only [↓bp, bq, br, seval, tbFlatN]; first | done | rfl) ?_ | refine loop_keep mixed (fun n e => e 9 = .int .i64 0) 0 (by simp -dsimp only [↓bp, bq, br, seval, tbFlatN]; first | done | rfl) ?_ | refine loop_keep mixed (fun n e => e 6 = .int .i64 0) 0 (by simp -dsimp only [↓bp, bq, br, seval, tbFlatN]; first | done | rfl) ?_ | refine loop_keep mixed (fun n e => e 3 = .int .i64 0) 0 (by simp -dsimp only [↓bp, bq, br, seval, tbFlatN]; first | done | rfl) ?_); rintro n v h; simp -dsimp only [↓bp, bq, br, seval, tbFlatN] at h)) | refine xj ?_ | ((with_reducible refine And.intro ?_ ?_); omega) | refine bo_buildSlice (d' := ⟨⟩) ?_ | refine xk (by kernel_rfl) ?_ | refine xf ?_ (by repeat' first | exact lr _ | assumption | refine ls ?_ ?_ | refine lt ?_ ?_ | simp only [*]; done | simp only [fb, *, not_false_eq_true, and_self]; done | exact lf ‹_› (by simp only [*])) | refine finish_two ?_ (by repeat' first | exact lr _ | assumption | refine ls ?_ ?_ | refine lt ?_ ?_ | simp only [*]; done | simp only [fb, *, not_false_eq_true, and_self]; done | exact lf ‹_› (by simp only [*])) | simp -dsimp only [↓bp, bq, br, seval, tbFlatN, *])
theorem flatSeens_nil : Pure Tryz.prog G 70 [.nil] (.bool true) := by
  intro σ
  refine Tri.of_awp mixed Tryz.func70 rfl (by kernel_rfl) (by kernel_rfl) (by simp [Tryz.ntmps70]) Tryz.results70 ?_
  repeat' (first | refine xs ?_ ?_ <;> intros | ((first | refine xh ?_ | refine xi ?_); intro bx hbx; (try simp only [fb] at hbx)) | ((refine make_buf (σ0 := σ) tf70.2.2.2.2.2.2 (by omega) (by simp) (AS.le.refl σ) (fun v2 σ2 hB2 hx2 => ?_); have hle2 := hB2.le; clear hB2 hx2)) | (((first | refine loop_keep mixed (fun n e => e 14 = .int .i64 0) 0 (by simp -dsimp only [↓bp, bq, br, seval, tbFlatN]; first | done | rfl) ?_ | refine loop_keep mixed (fun n e => e 11 = .int .i64 0) 0 (by simp -dsimp only [↓bp, bq, br, seval, tbFlatN]; first | done | rfl) ?_ | refine loop_keep mixed (fun n e => e 9 = .int .i64 0) 0 (by simp -dsimp only [↓bp, bq, br, seval, tbFlatN]; first | done | rfl) ?_ | refine loop_keep mixed (fun n e => e 6 = .int .i64 0) 0 (by simp -dsimp only [↓bp, bq, br, seval, tbFlatN]; first | done | rfl) ?_ | refine loop_keep mixed (fun n e => e 3 = .int .i64 0) 0 (by simp -dsimp only [↓bp, bq, br, seval, tbFlatN]; first | done | rfl) ?_); rintro n v h; simp -dsimp only [↓bp, bq, br, seval, tbFlatN] at h)) | refine xj ?_ | ((with_reducible refine And.intro ?_ ?_); omega) | refine bo_buildSlice (d' := ⟨⟩) ?_ | refine xk (by kernel_rfl) ?_ | refine xf ?_ (by repeat' first | exact lr _ | assumption | refine ls ?_ ?_ | refine lt ?_ ?_ | simp only [*]; done | simp only [fb, *, not_false_eq_true, and_self]; done | exact lf ‹_› (by simp only [*])) | refine finish_two ?_ (by repeat' first | exact lr _ | assumption | refine ls ?_ ?_ | refine lt ?_ ?_ | simp only [*]; done | simp only [fb, *, not_false_eq_true, and_self]; done | exact lf ‹_› (by simp only [*])) | simp -dsimp only [↓bp, bq, br, seval, tbFlatN, *])
end
section
structure LeX (S : Nat → Prop) (σ σ' : AS) : Prop where
  box : ∀ b cs, ¬ S b → σ.box b = some cs → σ'.box b = some cs
  tip : ∀ b x, σ.tip b = some x → σ'.tip b = some x
  ty : ∀ b x, σ.ty b = some x → σ'.ty b = some x
theorem LeX.refl (S : Nat → Prop) (σ : AS) : LeX S σ σ := ⟨fun _ _ _ h => h, fun _ _ h => h, fun _ _ h => h⟩
theorem LeX.set_in {S : Nat → Prop} {σ σ' : AS} (h : LeX S σ σ') {b : Nat} (hb : S b) (cs : List AV) : LeX S σ (σ'.setBox b cs) :=
  ⟨fun i ds hi hd => by
    have hne : i ≠ b := fun e => hi (e ▸ hb)
    simp only [AS.setBox, if_neg hne]; exact h.box i ds hi hd, h.tip, h.ty⟩
theorem LeX.set_new {S : Nat → Prop} {σ σ' : AS} (h : LeX S σ σ') {b : Nat} (hb : σ.box b = none) (cs : List AV) : LeX S σ (σ'.setBox b cs) :=
  ⟨fun i ds hi hd => by
    have hne : i ≠ b := fun e => by subst e; rw [hb] at hd; cases hd
    simp only [AS.setBox, if_neg hne]; exact h.box i ds hi hd, h.tip, h.ty⟩
theorem LeX.set_fresh {S : Nat → Prop} {σ σ' : AS} (h : LeX S σ σ') {b : Nat} (hb : σ'.fresh b) (cs : List AV) : LeX S σ (σ'.setBox b cs) :=
  ⟨fun i ds hi hd => by
    have h1 := h.box i ds hi hd
    have hne : i ≠ b := fun e => by subst e; rw [hb.1] at h1; cases h1
    simp only [AS.setBox, if_neg hne]; exact h1, h.tip, h.ty⟩
theorem LeX.trans {S : Nat → Prop} {a b c : AS} (h : LeX S a b) (k : LeX S b c) : LeX S a c :=
  ⟨fun i cs hi hd => k.box i cs hi (h.box i cs hi hd), fun i x hx => k.tip i x (h.tip i x hx), fun i x hx => k.ty i x (h.ty i x hx)⟩
abbrev Row := Option (Nat × Nat)
def rlen : Row → Nat
  | none => 0
  | some (_, n) => n
def rowA (s : Nat) (E : TypeId) : Row → AV
  | none => .nil
  | some (b, n) => .bs b n s E
theorem isv_rowA (s : Nat) (E : TypeId) (r : Row) : isv (rowA s E r) = true := by cases r <;> rfl
theorem flat_rowA (s : Nat) (E : TypeId) (r : Row) : flat (rowA s E r) = [rowA s E r] := by cases r <;> rfl
def InS (rs : List Row) (b : Nat) : Prop := ∃ n, some (b, n) ∈ rs
def Distinct (rs : List Row) : Prop := ∀ (i j : Nat) (b n m : Nat), rs[i]? = some (some (b, n)) → rs[j]? = some (some (b, m)) → i = j
def cells (mk : Int → Int → AV) (k n : Nat) : List AV := (List.range n).flatMap fun (i : Nat) => flat (mk k i)
theorem cells_succ (mk : Int → Int → AV) (k n : Nat) : cells mk k (n + 1) = cells mk k n ++ flat (mk k n) := by simp [cells, List.range_succ]
theorem cells_len {mk : Int → Int → AV} {s : Nat} (h : ∀ k i, (flat (mk k i)).length = s) (k n : Nat) : (cells mk k n).length = n * s := by
  induction n with
  | zero => simp [cells]
  | succ n ih => rw [cells_succ, List.length_append, ih, h, Nat.add_mul, Nat.one_mul]
def Pre (σ : AS) (b : Nat) (l : List AV) (n : Nat) : Prop := ∃ cs, σ.box b = some cs ∧ l <+: cs ∧ n ≤ cs.length
theorem Pre.other {σ : AS} {b c : Nat} {l ds : List AV} {n : Nat} (h : Pre σ b l n) (hne : b ≠ c) : Pre (σ.setBox c ds) b l n := by
  obtain ⟨cs, h1, h2, h3⟩ := h
  exact ⟨cs, by simp only [AS.setBox, if_neg hne]; exact h1, h2, h3⟩
theorem Pre.new {σ : AS} {b c : Nat} {l ds : List AV} {n : Nat} (h : Pre σ b l n) (hc : σ.box c = none) : Pre (σ.setBox c ds) b l n := by
  refine h.other fun e => ?_
  subst e
  obtain ⟨cs, h1, _⟩ := h
  rw [hc] at h1; cases h1
theorem Pre.le {σ σ' : AS} {b : Nat} {l : List AV} {n : Nat} (h : Pre σ b l n) (hle : σ.le σ') : Pre σ' b l n := by
  obtain ⟨cs, h1, h2⟩ := h
  exact ⟨cs, hle.box _ _ h1, h2⟩
theorem pre_take {l cs : List AV} (h : l <+: cs) : cs.take l.length = l := (List.prefix_iff_eq_take.1 h).symm
theorem pre_step {mk : Int → Int → AV} {s : Nat} (hs : ∀ k i, (flat (mk k i)).length = s) {k i : Nat} {cs : List AV} (h : cells mk k i <+: cs) (hl : (i + 1) * s ≤ cs.length) :
    cells mk k (i + 1) <+: cs.take (i * s) ++ flat (mk k i) ++ cs.drop (i * s + s) ∧ (cs.take (i * s) ++ flat (mk k i) ++ cs.drop (i * s + s)).length = cs.length := by
  have e : cs.take (i * s) = cells mk k i := by
    have := pre_take h
    rwa [cells_len hs] at this
  have hm : (i + 1) * s = i * s + s := by rw [Nat.add_mul, Nat.one_mul]
  constructor
  · rw [e, cells_succ]
    exact List.prefix_append _ _
  · simp only [List.length_append, List.length_take, List.length_drop, hs]
    omega
def Marked (mk : Int → Int → AV) (s : Nat) (rs : List Row) (σ : AS) (k : Nat) : Prop :=
  ∀ (j b n : Nat), rs[j]? = some (some (b, n)) → Pre σ b (if j < k then cells mk j n else []) (n * s)
theorem Marked.other {mk : Int → Int → AV} {s : Nat} {rs : List Row} {σ : AS} {k : Nat} (h : Marked mk s rs σ k) {c : Nat} (hc : ¬ InS rs c) (ds : List AV) : Marked mk s rs (σ.setBox c ds) k := fun j b n hj =>
  (h j b n hj).other fun e => hc (by subst e; exact ⟨n, List.mem_of_getElem? hj⟩)
theorem Marked.fresh {mk : Int → Int → AV} {s : Nat} {rs : List Row} {σ : AS} {k : Nat} (h : Marked mk s rs σ k) {c : Nat} (hc : σ.box c = none) (ds : List AV) : Marked mk s rs (σ.setBox c ds) k := fun j b n hj => (h j b n hj).new hc
theorem Marked.notIn {mk : Int → Int → AV} {s : Nat} {rs : List Row} {σ : AS} {k : Nat} (h : Marked mk s rs σ k) {c : Nat} (hc : σ.box c = none) : ¬ InS rs c := by
  rintro ⟨n, hn⟩
  obtain ⟨j, hj⟩ := List.getElem?_of_mem hn
  obtain ⟨cs, h1, _⟩ := h j c n hj
  rw [hc] at h1; cases h1
theorem Marked.set {mk : Int → Int → AV} {s : Nat} {rs : List Row} (hd : Distinct rs) {σ : AS} {k k' b n : Nat} (h : Marked mk s rs σ k) (hk : rs[k']? = some (some (b, n))) {ds : List AV} (h1 : (if k' < k then cells mk k' n else []) <+: ds) (h2 : n * s ≤ ds.length) : Marked mk s rs (σ.setBox b ds) k := by
  intro j c m hj
  by_cases e : c = b
  · subst e
    obtain rfl := hd j k' c m n hj hk
    rw [hk] at hj
    cases hj
    exact ⟨ds, by simp [AS.setBox], h1, h2⟩
  · exact (h j c m hj).other e
theorem Marked.next {mk : Int → Int → AV} {s : Nat} {rs : List Row} {σ : AS} {k : Nat} (h : Marked mk s rs σ k) (hk : ∀ b n, rs[k]? = some (some (b, n)) → Pre σ b (cells mk k n) (n * s)) : Marked mk s rs σ (k + 1) := by
  intro j b n hj
  by_cases e : j = k
  · subst e
    rw [if_pos (by omega)]
    exact hk b n hj
  · have := h j b n hj
    by_cases e2 : j < k
    · rw [if_pos e2] at this; rw [if_pos (by omega)]; exact this
    · rw [if_neg e2] at this; rw [if_neg (by omega)]; exact this
end
end Go.Proofs.YtldmniappliepaaGreatDoor
