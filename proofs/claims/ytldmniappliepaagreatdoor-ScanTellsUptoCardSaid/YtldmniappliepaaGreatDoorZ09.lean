/- What stands between quotes: the program's way. -/
import Derived.Test.YtldmniappliepaaGreatDoorZ08
set_option linter.unusedVariables false
set_option linter.unusedSimpArgs false
set_option maxRecDepth 20000
set_option linter.defProp false
namespace Go.Proofs.YtldmniappliepaaGreatDoor
open Go Go.Av
section
def tbScnC := And.intro (And.intro @tf3 (And.intro @tf4 @tf5)) (And.intro (And.intro @tf9 @tf37) (And.intro @tf129 @tf89))
variable (G : Nat → AV)
theorem bytesA_snoc (t : List UInt8) (c : UInt8) : bytesA (t ++ [c]) = bytesA t ++ [byteA c] := by simp [bytesA]
theorem bytesOf_map : ∀ t : List UInt8, bytesOf (bytesA t) = some t
  | [] => rfl
  | c :: t => by
    have ih := bytesOf_map t
    have h := c.toNat_lt
    unfold bytesA at ih ⊢
    rw [List.map_cons]
    unfold bytesOf
    rw [ih]
    have e : Av.byteOf (byteA c) = some c := by
      show some (UInt8.ofNat (c.toNat : Int).toNat) = some c
      rw [Int.toNat_natCast, UInt8.ofNat_toNat]
    rw [e]
theorem finish_le2 {a b v : AV} {l : List AV} {σ σ' : AS} {d : Dum σ} {d' : Dum fun x s => Le x v ∧ s = σ'} (h2 : Le (AV.tup (a :: b :: l)) v) (h1 : σ'.le σ) : finishW (some (a :: b :: l)) σ (fun x s => Le x v ∧ s = σ') d d' := ⟨_, σ', rfl, h1, h2, rfl⟩
theorem buf_text {n : Nat} {σ0 σ : AS} {v : AV} {t : List UInt8} (h : Buf n σ0 σ v (bytesA t)) {K : AV → Prop} {d : Dum K} (hK : K (.str t)) : bo (aconvZ Tryz.prog σ 37 9 v) K d := by
  have hx := bytesOf_map t
  rcases h.isNil with ⟨h0, rfl⟩ | ⟨b, rfl⟩
  · have : t = [] := by simpa [bytesA] using h0
    subst this
    rw [aconvZ_nil]
    refine ⟨.str [], ?_, hK⟩
    simp [tf37, tf5, tf9, cvb_some, bytesOf]
  · rw [aconvZ_sl]
    refine ⟨.str t, ?_, hK⟩
    simp [tf37, tf5, tf9, cvb_some, hx]
def qText (o : Option (List UInt8 × Nat)) : List UInt8 := match o with | some p => p.1 | none => []
def qNum (o : Option (List UInt8 × Nat)) : Nat := match o with | some p => p.2 + 1 | none => 0
def qPre (t : List UInt8) (k : Nat) (o : Option (List UInt8 × Nat)) : Option (List UInt8 × Nat) := o.map fun p => (t ++ p.1, p.2 + k)
theorem qPre_map (t : List UInt8) (k : Nat) (c : UInt8) (m : Nat) (o : Option (List UInt8 × Nat)) : qPre t k (o.map fun p => (c :: p.1, p.2 + m)) = qPre (t ++ [c]) (k + m) o := by
  cases o with
  | none => rfl
  | some p => simp [qPre]; omega
theorem escB_iff (e : UInt8) : escB e = if (e.toNat : Int) = 110 then some 10 else if (e.toNat : Int) = 116 then some 9 else if (e.toNat : Int) = 92 ∨ (e.toNat : Int) = 39 ∨ (e.toNat : Int) = 34 then some e else none := by
  have key : ∀ k : UInt8, (e = k) ↔ (e.toNat : Int) = k.toNat := fun k => ⟨fun h => by rw [h], fun h => UInt8.toNat_inj.1 (by omega)⟩
  unfold escB
  simp only [key]
  rfl
set_option maxHeartbeats 4000000 in
theorem quoted_pure (q : UInt8) (r : List UInt8) (hq : q = 39 ∨ q = 34) (hr : r.length ≤ 1000000) : Pure Tryz.prog G 42 [.str (q :: r)] (.tup [.str (qText (qscan q r)), .int .i64 (qNum (qscan q r))]) := by
  refine Pure.of_le fun σ => ?_
  have h0 : (q :: r)[0]? = some q := rfl
  have hd1 : (q :: r).drop 1 = r := rfl
  have hsl : (q :: r).length = r.length + 1 := rfl
  generalize hs : q :: r = s at *
  have hl : s.length ≤ 1000001 := by omega
  have hl1 : 1 ≤ s.length := by omega
  clear hs hsl hr
  refine Tri.of_awp mixed Tryz.func42 rfl (by kernel_rfl) (by kernel_rfl) (by simp [Tryz.ntmps42]) Tryz.results42 ?_
  simp -dsimp only [↓bp, bq, br, seval, tbScnC]
  refine loop_intro (fun n e σ' => ∃ (i : Nat) (v : AV) (t : List UInt8), 1 ≤ i ∧ i ≤ s.length ∧ t.length < i ∧ n = s.length - i ∧ e 5 = .int .i64 i ∧ e 4 = v ∧ Buf 1 σ σ' v (bytesA t) ∧ qscan q r = qPre t (i - 1) (qscan q (s.drop i))) (s.length - 1)
    ⟨1, .nil, [], by omega, by omega, by simp, by omega, by simp -dsimp only [↓bp, bq, br, seval, tbScnC]; first | done | rfl, by simp -dsimp only [↓bp, bq, br, seval, tbScnC]; first | done | rfl, .nil (AS.le.refl σ), by rw [hd1]; cases qscan q r <;> simp [qPre]⟩ ?_
  rintro n e σ2 ⟨i, v, t, hi1, hi, hti, rfl, h5, h4, hB, hQ⟩
  simp -dsimp only [↓bp, bq, br, seval, tbScnC] at h5 h4
  have fin : ∀ n : Int, σ.le σ2 := fun _ => hB.le
  by_cases hlt : (i : Int) < s.length
  · obtain ⟨c, hc⟩ : ∃ c, s[i]? = some c := ⟨_, List.getElem?_eq_getElem (by omega)⟩
    have hw : IntKind.i64.wrap ((i : Int) + 1) = ((i + 1 : Nat) : Int) := by rw [wrap_nat (by omega) (by omega)]; rfl
    have hlt' := eq_true hlt
    rw [drop_get _ _ _ hc, qscan_cons] at hQ
    by_cases c1 : c = q
    · subst c1
      rw [if_pos rfl] at hQ
      rw [hQ]
      have hle := hB.le
      simp only [qPre, Option.map_some, qText, qNum, List.append_nil]
      have e1 : ((1 + (i - 1) + 1 : Nat) : Int) = ((i + 1 : Nat) : Int) := by omega
      rw [e1]
      have hc2 := hc
      clear hQ hlt
      repeat' (first | refine xs ?_ ?_ <;> intros | ((first | refine xh ?_ | refine xi ?_); intro bx hbx; (try simp only [fb] at hbx)) | (refine buf_text hB ?_) | refine xj ?_ | ((with_reducible refine And.intro ?_ ?_); omega) | refine bo_buildSlice (d' := ⟨⟩) ?_ | refine xk (by kernel_rfl) ?_ | refine xf ?_ (by repeat' first | exact lr _ | assumption | refine ls ?_ ?_ | refine lt ?_ ?_ | simp only [*]; done | simp only [fb, *, not_false_eq_true, and_self]; done | exact lf ‹_› (by simp only [*])) | refine finish_two ?_ (by repeat' first | exact lr _ | assumption | refine ls ?_ ?_ | refine lt ?_ ?_ | simp only [*]; done | simp only [fb, *, not_false_eq_true, and_self]; done | exact lf ‹_› (by simp only [*])) | simp -dsimp only [↓bp, bq, br, seval, tbScnC, *])
      all_goals exact finish_le2 (Le.refl _) hle
    rw [if_neg c1] at hQ
    have n1 : ((c.toNat : Int) = q.toNat) = False := eq_false fun h => c1 (UInt8.toNat_inj.1 (by omega))
    by_cases c2 : c.toNat < 32
    · rw [if_pos c2] at hQ
      have n2 : ((c.toNat : Int) < 32) = True := eq_true (by omega)
      rw [hQ]
      have hle := hB.le
      clear hQ hlt c1 hB
      repeat' (first | refine xs ?_ ?_ <;> intros | ((first | refine xh ?_ | refine xi ?_); intro bx hbx; (try simp only [fb] at hbx)) | refine xj ?_ | ((with_reducible refine And.intro ?_ ?_); omega) | refine bo_buildSlice (d' := ⟨⟩) ?_ | refine xk (by kernel_rfl) ?_ | refine xf ?_ (by repeat' first | exact lr _ | assumption | refine ls ?_ ?_ | refine lt ?_ ?_ | simp only [*]; done | simp only [fb, *, not_false_eq_true, and_self]; done | exact lf ‹_› (by simp only [*])) | refine finish_two ?_ (by repeat' first | exact lr _ | assumption | refine ls ?_ ?_ | refine lt ?_ ?_ | simp only [*]; done | simp only [fb, *, not_false_eq_true, and_self]; done | exact lf ‹_› (by simp only [*])) | simp -dsimp only [↓bp, bq, br, seval, tbScnC, *])
      all_goals exact finish_le2 (Le.refl _) hle
    rw [if_neg c2] at hQ
    have n2 : ((c.toNat : Int) < 32) = False := eq_false (by omega)
    by_cases c3 : c = 92
    · rw [if_pos c3] at hQ
      have n3 : ((c.toNat : Int) = 92) = True := eq_true (by rw [c3]; rfl)
      by_cases hlt2 : i + 1 < s.length
      · obtain ⟨e1, he1⟩ : ∃ e1, s[i + 1]? = some e1 := ⟨_, List.getElem?_eq_getElem hlt2⟩
        rw [drop_get _ _ _ he1] at hQ
        simp only [escB_iff] at hQ
        have m1 : (((i + 1 : Nat) : Int) = s.length) = False := eq_false (by omega)
        have hw2 : IntKind.i64.wrap (((i + 1 : Nat) : Int) + 1) = ((i + 2 : Nat) : Int) := by rw [wrap_nat (by omega) (by omega)]; rfl
        clear hlt c1 c2 c3
        by_cases k1 : (e1.toNat : Int) = 110
        · rw [if_pos k1] at hQ
          simp only [qPre_map] at hQ
          rw [show i - 1 + 2 = i + 2 - 1 by omega] at hQ
          have k1' := eq_true k1
          clear k1
          repeat' (first | refine xs ?_ ?_ <;> intros | ((first | refine xh ?_ | refine xi ?_); intro bx hbx; (try simp only [fb] at hbx)) | (refine build_one tfB (a := .int .u8 10) rfl rfl (by omega) ?_) | (refine app_buf (ys := [.int .u8 10]) hB tfB (asrc_sl tfBE) (fun a ha => by simp at ha; subst ha; rfl) (by rw [bytesA_len]; simp only [List.length_cons, List.length_nil]; omega) (fun v3 σ3 hB4 hx4 => ?_)) | refine xj ?_ | ((with_reducible refine And.intro ?_ ?_); omega) | refine bo_buildSlice (d' := ⟨⟩) ?_ | refine xk (by kernel_rfl) ?_ | refine xf ?_ (by repeat' first | exact lr _ | assumption | refine ls ?_ ?_ | refine lt ?_ ?_ | simp only [*]; done | simp only [fb, *, not_false_eq_true, and_self]; done | exact lf ‹_› (by simp only [*])) | refine finish_two ?_ (by repeat' first | exact lr _ | assumption | refine ls ?_ ?_ | refine lt ?_ ?_ | simp only [*]; done | simp only [fb, *, not_false_eq_true, and_self]; done | exact lf ‹_› (by simp only [*])) | simp -dsimp only [↓bp, bq, br, seval, tbScnC, *])
          all_goals exact ⟨s.length - (i + 2), by omega, i + 2, v3, t ++ [10], by omega, by omega, by rw [List.length_append, List.length_singleton]; omega, by omega, rfl, rfl, by rw [bytesA_snoc]; exact hB4, rfl⟩
        rw [if_neg k1] at hQ
        have k1' := eq_false k1
        clear k1
        by_cases k2 : (e1.toNat : Int) = 116
        · rw [if_pos k2] at hQ
          simp only [qPre_map] at hQ
          rw [show i - 1 + 2 = i + 2 - 1 by omega] at hQ
          have k2' := eq_true k2
          clear k2
          repeat' (first | refine xs ?_ ?_ <;> intros | ((first | refine xh ?_ | refine xi ?_); intro bx hbx; (try simp only [fb] at hbx)) | (refine build_one tfB (a := .int .u8 9) rfl rfl (by omega) ?_) | (refine app_buf (ys := [.int .u8 9]) hB tfB (asrc_sl tfBE) (fun a ha => by simp at ha; subst ha; rfl) (by rw [bytesA_len]; simp only [List.length_cons, List.length_nil]; omega) (fun v3 σ3 hB4 hx4 => ?_)) | refine xj ?_ | ((with_reducible refine And.intro ?_ ?_); omega) | refine bo_buildSlice (d' := ⟨⟩) ?_ | refine xk (by kernel_rfl) ?_ | refine xf ?_ (by repeat' first | exact lr _ | assumption | refine ls ?_ ?_ | refine lt ?_ ?_ | simp only [*]; done | simp only [fb, *, not_false_eq_true, and_self]; done | exact lf ‹_› (by simp only [*])) | refine finish_two ?_ (by repeat' first | exact lr _ | assumption | refine ls ?_ ?_ | refine lt ?_ ?_ | simp only [*]; done | simp only [fb, *, not_false_eq_true, and_self]; done | exact lf ‹_› (by simp only [*])) | simp -dsimp only [↓bp, bq, br, seval, tbScnC, *])
          all_goals exact ⟨s.length - (i + 2), by omega, i + 2, v3, t ++ [9], by omega, by omega, by rw [List.length_append, List.length_singleton]; omega, by omega, rfl, rfl, by rw [bytesA_snoc]; exact hB4, rfl⟩
        rw [if_neg k2] at hQ
        have k2' := eq_false k2
        clear k2
        by_cases k3 : (e1.toNat : Int) = 92 ∨ (e1.toNat : Int) = 39 ∨ (e1.toNat : Int) = 34
        · rw [if_pos k3] at hQ
          simp only [qPre_map] at hQ
          rw [show i - 1 + 2 = i + 2 - 1 by omega] at hQ
          rcases k3 with k3 | k3 | k3
          · have k3' := eq_true k3
            clear k3
            repeat' (first | refine xs ?_ ?_ <;> intros | ((first | refine xh ?_ | refine xi ?_); intro bx hbx; (try simp only [fb] at hbx)) | (refine build_one tfB (a := byteA e1) rfl rfl (by omega) ?_) | (refine app_buf (ys := [byteA e1]) hB tfB (asrc_sl tfBE) (fun a ha => by simp at ha; subst ha; rfl) (by rw [bytesA_len]; simp only [List.length_cons, List.length_nil]; omega) (fun v3 σ3 hB4 hx4 => ?_)) | refine xj ?_ | ((with_reducible refine And.intro ?_ ?_); omega) | refine bo_buildSlice (d' := ⟨⟩) ?_ | refine xk (by kernel_rfl) ?_ | refine xf ?_ (by repeat' first | exact lr _ | assumption | refine ls ?_ ?_ | refine lt ?_ ?_ | simp only [*]; done | simp only [fb, *, not_false_eq_true, and_self]; done | exact lf ‹_› (by simp only [*])) | refine finish_two ?_ (by repeat' first | exact lr _ | assumption | refine ls ?_ ?_ | refine lt ?_ ?_ | simp only [*]; done | simp only [fb, *, not_false_eq_true, and_self]; done | exact lf ‹_› (by simp only [*])) | simp -dsimp only [↓bp, bq, br, seval, tbScnC, *])
            all_goals exact ⟨s.length - (i + 2), by omega, i + 2, v3, t ++ [e1], by omega, by omega, by rw [List.length_append, List.length_singleton]; omega, by omega, rfl, rfl, by rw [bytesA_snoc]; exact hB4, rfl⟩
          · have k3' := eq_false (show ¬ (e1.toNat : Int) = 92 by omega)
            have k4' := eq_true k3
            clear k3
            repeat' (first | refine xs ?_ ?_ <;> intros | ((first | refine xh ?_ | refine xi ?_); intro bx hbx; (try simp only [fb] at hbx)) | (refine build_one tfB (a := byteA e1) rfl rfl (by omega) ?_) | (refine app_buf (ys := [byteA e1]) hB tfB (asrc_sl tfBE) (fun a ha => by simp at ha; subst ha; rfl) (by rw [bytesA_len]; simp only [List.length_cons, List.length_nil]; omega) (fun v3 σ3 hB4 hx4 => ?_)) | refine xj ?_ | ((with_reducible refine And.intro ?_ ?_); omega) | refine bo_buildSlice (d' := ⟨⟩) ?_ | refine xk (by kernel_rfl) ?_ | refine xf ?_ (by repeat' first | exact lr _ | assumption | refine ls ?_ ?_ | refine lt ?_ ?_ | simp only [*]; done | simp only [fb, *, not_false_eq_true, and_self]; done | exact lf ‹_› (by simp only [*])) | refine finish_two ?_ (by repeat' first | exact lr _ | assumption | refine ls ?_ ?_ | refine lt ?_ ?_ | simp only [*]; done | simp only [fb, *, not_false_eq_true, and_self]; done | exact lf ‹_› (by simp only [*])) | simp -dsimp only [↓bp, bq, br, seval, tbScnC, *])
            all_goals exact ⟨s.length - (i + 2), by omega, i + 2, v3, t ++ [e1], by omega, by omega, by rw [List.length_append, List.length_singleton]; omega, by omega, rfl, rfl, by rw [bytesA_snoc]; exact hB4, rfl⟩
          · have k3' := eq_false (show ¬ (e1.toNat : Int) = 92 by omega)
            have k4' := eq_false (show ¬ (e1.toNat : Int) = 39 by omega)
            have k5' := eq_true k3
            clear k3
            repeat' (first | refine xs ?_ ?_ <;> intros | ((first | refine xh ?_ | refine xi ?_); intro bx hbx; (try simp only [fb] at hbx)) | (refine build_one tfB (a := byteA e1) rfl rfl (by omega) ?_) | (refine app_buf (ys := [byteA e1]) hB tfB (asrc_sl tfBE) (fun a ha => by simp at ha; subst ha; rfl) (by rw [bytesA_len]; simp only [List.length_cons, List.length_nil]; omega) (fun v3 σ3 hB4 hx4 => ?_)) | refine xj ?_ | ((with_reducible refine And.intro ?_ ?_); omega) | refine bo_buildSlice (d' := ⟨⟩) ?_ | refine xk (by kernel_rfl) ?_ | refine xf ?_ (by repeat' first | exact lr _ | assumption | refine ls ?_ ?_ | refine lt ?_ ?_ | simp only [*]; done | simp only [fb, *, not_false_eq_true, and_self]; done | exact lf ‹_› (by simp only [*])) | refine finish_two ?_ (by repeat' first | exact lr _ | assumption | refine ls ?_ ?_ | refine lt ?_ ?_ | simp only [*]; done | simp only [fb, *, not_false_eq_true, and_self]; done | exact lf ‹_› (by simp only [*])) | simp -dsimp only [↓bp, bq, br, seval, tbScnC, *])
            all_goals exact ⟨s.length - (i + 2), by omega, i + 2, v3, t ++ [e1], by omega, by omega, by rw [List.length_append, List.length_singleton]; omega, by omega, rfl, rfl, by rw [bytesA_snoc]; exact hB4, rfl⟩
        rw [if_neg k3] at hQ
        have k3' := eq_false (show ¬ (e1.toNat : Int) = 92 by omega)
        have k4' := eq_false (show ¬ (e1.toNat : Int) = 39 by omega)
        have k5' := eq_false (show ¬ (e1.toNat : Int) = 34 by omega)
        clear k3
        by_cases k6 : e1 = 120
        · rw [if_pos k6] at hQ
          have k6' : ((e1.toNat : Int) = 120) = True := eq_true (by rw [k6]; rfl)
          have hw3 : IntKind.i64.wrap (((i + 1 : Nat) : Int) + 2) = ((i + 3 : Nat) : Int) := by rw [wrap_nat (by omega) (by omega)]; omega
          have hw4 : IntKind.i64.wrap (((i + 1 : Nat) : Int) + 3) = ((i + 4 : Nat) : Int) := by rw [wrap_nat (by omega) (by omega)]; omega
          have hw5 : IntKind.i64.wrap (((i + 3 : Nat) : Int) + 1) = ((i + 4 : Nat) : Int) := by rw [wrap_nat (by omega) (by omega)]; omega
          by_cases hl3 : i + 3 < s.length
          · have m3 : ((s.length : Int) ≤ ((i + 3 : Nat) : Int)) = False := eq_false (by omega)
            obtain ⟨h, hh⟩ : ∃ h, s[i + 2]? = some h := ⟨_, List.getElem?_eq_getElem (by omega)⟩
            obtain ⟨l, hhl⟩ : ∃ l, s[i + 3]? = some l := ⟨_, List.getElem?_eq_getElem (by omega)⟩
            have hsl : (s.take (i + 4)).drop (i + 2) = [h, l] := by
              rw [take_succ_get s (i + 3) l hhl, take_succ_get s (i + 2) h hh, List.append_assoc, List.drop_append_of_le_length (by rw [List.length_take]; omega), List.drop_eq_nil_of_le (by rw [List.length_take]; omega)]
              rfl
            have ht := strim_pure G [h, l] hexS (by simp) (by decide) (by decide)
            have hT := trim_hex h l
            rw [drop_get _ _ _ hh, drop_get _ _ _ hhl] at hQ
            simp only at hQ
            generalize Lib.trimS [h, l] hexS = T at *
            unfold hexS at ht
            have s1 : (i + 2 ≤ i + 4) = True := eq_true (by omega)
            have s2 : (i + 4 ≤ s.length) = True := eq_true (by omega)
            by_cases hx : (hexB h && hexB l) = true
            · rw [hx] at hT
              have hT' : (T = []) = True := by simpa using hT
              have hx2 := hx
              simp only [Bool.and_eq_true] at hx2
              rw [if_pos hx] at hQ
              simp only [qPre_map] at hQ
              rw [show i - 1 + 4 = i + 4 - 1 by omega] at hQ
              have hp := parse_pure G h l hx2.1 hx2.2
              have hb1 := hex_lt h hx2.1
              have hb2 := hex_lt l hx2.2
              have hv : IntKind.u8.wrap ((16 * hexV h + hexV l : Nat) : Int) = ((UInt8.ofNat (16 * hexV h + hexV l)).toNat : Int) := by
                rw [UInt8.toNat_ofNat_of_lt' (by show _ < 256; omega)]
                unfold IntKind.wrap; simp [IntKind.signed, IntKind.bits]; omega
              generalize UInt8.ofNat (16 * hexV h + hexV l) = x at *
              clear hT hx hx2 hb1 hb2 hlt2 hh hhl k6
              repeat' (first | refine xs ?_ ?_ <;> intros | ((first | refine xh ?_ | refine xi ?_); intro bx hbx; (try simp only [fb] at hbx)) | refine Pure.use (ht) ?_ | refine Pure.head (ht) ?_ | refine Pure.use (hp) ?_ | refine Pure.head (hp) ?_ | (refine build_one tfB (a := byteA x) rfl rfl (by omega) ?_) | (refine app_buf (ys := [byteA x]) hB tfB (asrc_sl tfBE) (fun a ha => by simp at ha; subst ha; rfl) (by rw [bytesA_len]; simp only [List.length_cons, List.length_nil]; omega) (fun v3 σ3 hB4 hx4 => ?_)) | refine xj ?_ | ((with_reducible refine And.intro ?_ ?_); omega) | refine bo_buildSlice (d' := ⟨⟩) ?_ | refine xk (by kernel_rfl) ?_ | refine xf ?_ (by repeat' first | exact lr _ | assumption | refine ls ?_ ?_ | refine lt ?_ ?_ | simp only [*]; done | simp only [fb, *, not_false_eq_true, and_self]; done | exact lf ‹_› (by simp only [*])) | refine finish_two ?_ (by repeat' first | exact lr _ | assumption | refine ls ?_ ?_ | refine lt ?_ ?_ | simp only [*]; done | simp only [fb, *, not_false_eq_true, and_self]; done | exact lf ‹_› (by simp only [*])) | simp -dsimp only [↓bp, bq, br, seval, tbScnC, *])
              all_goals exact ⟨s.length - (i + 4), by omega, i + 4, v3, t ++ [x], by omega, by omega, by rw [List.length_append, List.length_singleton]; omega, by omega, rfl, rfl, by rw [bytesA_snoc]; exact hB4, rfl⟩
            · have hx : (hexB h && hexB l) = false := by simpa using hx
              rw [hx] at hT hQ
              have hT' : (T = []) = False := by simpa using hT
              simp only [Bool.false_eq_true, if_false] at hQ
              rw [hQ]
              have hle := hB.le
              clear hQ hT hx hlt2 hh hhl hB
              repeat' (first | refine xs ?_ ?_ <;> intros | ((first | refine xh ?_ | refine xi ?_); intro bx hbx; (try simp only [fb] at hbx)) | refine Pure.use (ht) ?_ | refine Pure.head (ht) ?_ | refine xj ?_ | ((with_reducible refine And.intro ?_ ?_); omega) | refine bo_buildSlice (d' := ⟨⟩) ?_ | refine xk (by kernel_rfl) ?_ | refine xf ?_ (by repeat' first | exact lr _ | assumption | refine ls ?_ ?_ | refine lt ?_ ?_ | simp only [*]; done | simp only [fb, *, not_false_eq_true, and_self]; done | exact lf ‹_› (by simp only [*])) | refine finish_two ?_ (by repeat' first | exact lr _ | assumption | refine ls ?_ ?_ | refine lt ?_ ?_ | simp only [*]; done | simp only [fb, *, not_false_eq_true, and_self]; done | exact lf ‹_› (by simp only [*])) | simp -dsimp only [↓bp, bq, br, seval, tbScnC, *])
              all_goals exact finish_le2 (Le.refl _) hle
          · have m3 : ((s.length : Int) ≤ ((i + 3 : Nat) : Int)) = True := eq_true (by omega)
            have hQ2 : qscan q r = none := by
              rw [hQ]
              have : (s.drop (i + 2)).length ≤ 1 := by rw [List.length_drop]; omega
              match s.drop (i + 2), this with
              | [], _ => rfl
              | [_], _ => rfl
            rw [hQ2]
            have hle := hB.le
            clear hQ hQ2 hlt2 hB
            repeat' (first | refine xs ?_ ?_ <;> intros | ((first | refine xh ?_ | refine xi ?_); intro bx hbx; (try simp only [fb] at hbx)) | refine xj ?_ | ((with_reducible refine And.intro ?_ ?_); omega) | refine bo_buildSlice (d' := ⟨⟩) ?_ | refine xk (by kernel_rfl) ?_ | refine xf ?_ (by repeat' first | exact lr _ | assumption | refine ls ?_ ?_ | refine lt ?_ ?_ | simp only [*]; done | simp only [fb, *, not_false_eq_true, and_self]; done | exact lf ‹_› (by simp only [*])) | refine finish_two ?_ (by repeat' first | exact lr _ | assumption | refine ls ?_ ?_ | refine lt ?_ ?_ | simp only [*]; done | simp only [fb, *, not_false_eq_true, and_self]; done | exact lf ‹_› (by simp only [*])) | simp -dsimp only [↓bp, bq, br, seval, tbScnC, *])
            all_goals exact finish_le2 (Le.refl _) hle
        · rw [if_neg k6] at hQ
          have k6' : ((e1.toNat : Int) = 120) = False := eq_false fun h => k6 (UInt8.toNat_inj.1 (show e1.toNat = (120 : UInt8).toNat by rw [show (120 : UInt8).toNat = 120 from rfl]; omega))
          rw [hQ]
          have hle := hB.le
          clear hQ hlt2 hB k6
          repeat' (first | refine xs ?_ ?_ <;> intros | ((first | refine xh ?_ | refine xi ?_); intro bx hbx; (try simp only [fb] at hbx)) | refine xj ?_ | ((with_reducible refine And.intro ?_ ?_); omega) | refine bo_buildSlice (d' := ⟨⟩) ?_ | refine xk (by kernel_rfl) ?_ | refine xf ?_ (by repeat' first | exact lr _ | assumption | refine ls ?_ ?_ | refine lt ?_ ?_ | simp only [*]; done | simp only [fb, *, not_false_eq_true, and_self]; done | exact lf ‹_› (by simp only [*])) | refine finish_two ?_ (by repeat' first | exact lr _ | assumption | refine ls ?_ ?_ | refine lt ?_ ?_ | simp only [*]; done | simp only [fb, *, not_false_eq_true, and_self]; done | exact lf ‹_› (by simp only [*])) | simp -dsimp only [↓bp, bq, br, seval, tbScnC, *])
          all_goals exact finish_le2 (Le.refl _) hle
      · have m1 : (((i + 1 : Nat) : Int) = s.length) = True := eq_true (by omega)
        rw [List.drop_eq_nil_of_le (by omega)] at hQ
        simp only at hQ
        rw [hQ]
        have hle := hB.le
        clear hQ hlt hlt2 hB c1 c2 c3
        repeat' (first | refine xs ?_ ?_ <;> intros | ((first | refine xh ?_ | refine xi ?_); intro bx hbx; (try simp only [fb] at hbx)) | refine xj ?_ | ((with_reducible refine And.intro ?_ ?_); omega) | refine bo_buildSlice (d' := ⟨⟩) ?_ | refine xk (by kernel_rfl) ?_ | refine xf ?_ (by repeat' first | exact lr _ | assumption | refine ls ?_ ?_ | refine lt ?_ ?_ | simp only [*]; done | simp only [fb, *, not_false_eq_true, and_self]; done | exact lf ‹_› (by simp only [*])) | refine finish_two ?_ (by repeat' first | exact lr _ | assumption | refine ls ?_ ?_ | refine lt ?_ ?_ | simp only [*]; done | simp only [fb, *, not_false_eq_true, and_self]; done | exact lf ‹_› (by simp only [*])) | simp -dsimp only [↓bp, bq, br, seval, tbScnC, *])
        all_goals exact finish_le2 (Le.refl _) hle
    · rw [if_neg c3] at hQ
      have n3 : ((c.toNat : Int) = 92) = False := eq_false fun h => c3 (UInt8.toNat_inj.1 (show c.toNat = (92 : UInt8).toNat by rw [show (92 : UInt8).toNat = 92 from rfl]; omega))
      simp only [qPre_map] at hQ
      rw [show i - 1 + 1 = i + 1 - 1 by omega] at hQ
      clear c1 c2 c3
      repeat' (first | refine xs ?_ ?_ <;> intros | ((first | refine xh ?_ | refine xi ?_); intro bx hbx; (try simp only [fb] at hbx)) | (refine build_one tfB (a := byteA c) rfl rfl (by omega) ?_) | (refine app_buf (ys := [byteA c]) hB tfB (asrc_sl tfBE) (fun a ha => by simp at ha; subst ha; rfl) (by rw [bytesA_len]; simp only [List.length_cons, List.length_nil]; omega) (fun v3 σ3 hB4 hx4 => ?_)) | refine xj ?_ | ((with_reducible refine And.intro ?_ ?_); omega) | refine bo_buildSlice (d' := ⟨⟩) ?_ | refine xk (by kernel_rfl) ?_ | refine xf ?_ (by repeat' first | exact lr _ | assumption | refine ls ?_ ?_ | refine lt ?_ ?_ | simp only [*]; done | simp only [fb, *, not_false_eq_true, and_self]; done | exact lf ‹_› (by simp only [*])) | refine finish_two ?_ (by repeat' first | exact lr _ | assumption | refine ls ?_ ?_ | refine lt ?_ ?_ | simp only [*]; done | simp only [fb, *, not_false_eq_true, and_self]; done | exact lf ‹_› (by simp only [*])) | simp -dsimp only [↓bp, bq, br, seval, tbScnC, *])
      all_goals exact ⟨s.length - (i + 1), by omega, i + 1, v3, t ++ [c], by omega, by omega, by rw [List.length_append, List.length_singleton]; omega, by omega, rfl, rfl, by rw [bytesA_snoc]; exact hB4, rfl⟩
  · have : i = s.length := by omega
    subst this
    rw [List.drop_length] at hQ
    have hlt' := eq_false hlt
    rw [hQ]
    have hle := hB.le
    clear hQ hlt hB
    repeat' (first | refine xs ?_ ?_ <;> intros | ((first | refine xh ?_ | refine xi ?_); intro bx hbx; (try simp only [fb] at hbx)) | refine xj ?_ | ((with_reducible refine And.intro ?_ ?_); omega) | refine bo_buildSlice (d' := ⟨⟩) ?_ | refine xk (by kernel_rfl) ?_ | refine xf ?_ (by repeat' first | exact lr _ | assumption | refine ls ?_ ?_ | refine lt ?_ ?_ | simp only [*]; done | simp only [fb, *, not_false_eq_true, and_self]; done | exact lf ‹_› (by simp only [*])) | refine finish_two ?_ (by repeat' first | exact lr _ | assumption | refine ls ?_ ?_ | refine lt ?_ ?_ | simp only [*]; done | simp only [fb, *, not_false_eq_true, and_self]; done | exact lf ‹_› (by simp only [*])) | simp -dsimp only [↓bp, bq, br, seval, tbScnC, *])
    all_goals exact finish_le2 (Le.refl _) hle
end
set_option maxRecDepth 20000
section
def tbRScC := And.intro (And.intro @tf3 (And.intro @tf4 @tf5)) (And.intro (And.intro @tf9 @tf37) (And.intro @ares_tmpc @ares_cellc))
variable (G : Nat → AV)
def rqV (i0 : Nat) : Option (List UInt8 × Nat) → AV
  | some p => .tup [.str p.1, .int .i64 (i0 + 1 + p.2 : Nat), .bool true]
  | none => .tup [.str [], .int .i64 0, .bool false]
set_option maxHeartbeats 4000000 in
theorem rquoted_pure (s : List UInt8) (i0 : Nat) (q : UInt8) (h0 : s[i0]? = some q) (hq : q = 39 ∨ q = 34) (hs : s.length ≤ 1000000) : Pure Tryz.prog G 49 [.str s, .int .i64 i0] (rqV i0 (qscan q (s.drop (i0 + 1)))) := by
  refine Pure.of_le fun σ => ?_
  have hi0 := (List.getElem?_eq_some_iff.1 h0).1
  have hq92 : q ≠ 92 := by rcases hq with rfl | rfl <;> decide
  have hw0 : IntKind.i64.wrap ((i0 : Int) + 1) = ((i0 + 1 : Nat) : Int) := by rw [wrap_nat (by omega) (by omega)]; rfl
  have g0 : (0 : Int) ≤ i0 := by omega
  have hesc := fun i => rescape_pure G (s.drop i) (by rw [List.length_drop]; omega)
  clear hq
  refine Tri.of_awp mixed Tryz.func49 rfl (by kernel_rfl) (by kernel_rfl) (by simp [Tryz.ntmps49]) Tryz.results49 ?_
  simp -dsimp only [↓bp, bq, br, seval, tbRScC]
  refine loop_intro (fun n e σ' => ∃ (i : Nat) (v : AV) (t : List UInt8), i0 + 1 ≤ i ∧ i ≤ s.length ∧ t.length < i ∧ n = s.length - i ∧ e 8 = .int .i64 i ∧ e 7 = v ∧ Buf 1 σ σ' v (bytesA t) ∧ qscan q (s.drop (i0 + 1)) = qPre t (i - (i0 + 1)) (qscan q (s.drop i))) (s.length - (i0 + 1))
    ⟨i0 + 1, .nil, [], by omega, by omega, by simp, by omega, by simp -dsimp only [↓bp, bq, br, seval, tbRScC, hw0]; first | done | rfl, by simp -dsimp only [↓bp, bq, br, seval, tbRScC]; first | done | rfl, .nil (AS.le.refl σ), by cases qscan q (s.drop (i0 + 1)) <;> simp [qPre]⟩ ?_
  rintro n e σ2 ⟨i, v, t, hi1, hi, hti, rfl, h8, h7, hB, hQ⟩
  simp -dsimp only [↓bp, bq, br, seval, tbRScC] at h8 h7
  by_cases hlt : (i : Int) < s.length
  · obtain ⟨c, hc⟩ : ∃ c, s[i]? = some c := ⟨_, List.getElem?_eq_getElem (by omega)⟩
    have hw : IntKind.i64.wrap ((i : Int) + 1) = ((i + 1 : Nat) : Int) := by rw [wrap_nat (by omega) (by omega)]; rfl
    have hlt' := eq_true hlt
    rw [drop_get _ _ _ hc] at hQ
    by_cases c1 : c = q
    · subst c1
      rw [qscan_cons, if_pos rfl] at hQ
      rw [hQ]
      have hle := hB.le
      simp only [qPre, Option.map_some, rqV, List.append_nil]
      have e1 : ((i0 + 1 + (1 + (i - (i0 + 1))) : Nat) : Int) = ((i + 1 : Nat) : Int) := by omega
      rw [e1]
      clear hQ hlt hesc
      repeat' (first | refine xs ?_ ?_ <;> intros | ((first | refine xh ?_ | refine xi ?_); intro bx hbx; (try simp only [fb] at hbx)) | (refine buf_text hB ?_) | refine xj ?_ | ((with_reducible refine And.intro ?_ ?_); omega) | refine bo_buildSlice (d' := ⟨⟩) ?_ | refine xk (by kernel_rfl) ?_ | refine xf ?_ (by repeat' first | exact lr _ | assumption | refine ls ?_ ?_ | refine lt ?_ ?_ | simp only [*]; done | simp only [fb, *, not_false_eq_true, and_self]; done | exact lf ‹_› (by simp only [*])) | refine finish_two ?_ (by repeat' first | exact lr _ | assumption | refine ls ?_ ?_ | refine lt ?_ ?_ | simp only [*]; done | simp only [fb, *, not_false_eq_true, and_self]; done | exact lf ‹_› (by simp only [*])) | simp -dsimp only [↓bp, bq, br, seval, tbRScC, *])
      all_goals exact finish_le2 (Le.refl _) hle
    have n1 : ((c.toNat : Int) = q.toNat) = False := u8_no c1
    by_cases c2 : c.toNat < 32
    · rw [qscan_cons, if_neg c1, if_pos c2] at hQ
      have n2 : ((c.toNat : Int) < 32) = True := eq_true (by omega)
      rw [hQ]
      have hle := hB.le
      clear hQ hlt c1 hB hesc
      repeat' (first | refine xs ?_ ?_ <;> intros | ((first | refine xh ?_ | refine xi ?_); intro bx hbx; (try simp only [fb] at hbx)) | refine xj ?_ | ((with_reducible refine And.intro ?_ ?_); omega) | refine bo_buildSlice (d' := ⟨⟩) ?_ | refine xk (by kernel_rfl) ?_ | refine xf ?_ (by repeat' first | exact lr _ | assumption | refine ls ?_ ?_ | refine lt ?_ ?_ | simp only [*]; done | simp only [fb, *, not_false_eq_true, and_self]; done | exact lf ‹_› (by simp only [*])) | refine finish_two ?_ (by repeat' first | exact lr _ | assumption | refine ls ?_ ?_ | refine lt ?_ ?_ | simp only [*]; done | simp only [fb, *, not_false_eq_true, and_self]; done | exact lf ‹_› (by simp only [*])) | simp -dsimp only [↓bp, bq, br, seval, tbRScC, *])
      all_goals exact finish_le2 (Le.refl _) hle
    have n2 : ((c.toNat : Int) < 32) = False := eq_false (by omega)
    by_cases c3 : c = 92
    · have n3 : ((c.toNat : Int) = 92) = True := eq_true (by rw [c3]; rfl)
      have s1 : (i + 1 ≤ s.length) = True := eq_true (by omega)
      rw [c3, qscan_esc hq92] at hQ
      have hE := hesc (i + 1)
      have hEl := (escS_le (s.drop (i + 1)))
      rw [List.length_drop] at hEl
      rw [List.drop_drop] at hQ
      unfold escV at hE
      generalize escS (s.drop (i + 1)) = E at *
      obtain ⟨x, k⟩ := E
      simp only at hQ hE hEl
      by_cases hk : k = 0
      · rw [if_pos hk] at hQ
        have n4 : (((k : Nat) : Int) = 0) = True := eq_true (by omega)
        rw [hQ]
        have hle := hB.le
        clear hQ hlt c1 hB hesc c2 c3 hk hEl
        repeat' (first | refine xs ?_ ?_ <;> intros | ((first | refine xh ?_ | refine xi ?_); intro bx hbx; (try simp only [fb] at hbx)) | refine Pure.use (hE) ?_ | refine Pure.head (hE) ?_ | refine xj ?_ | ((with_reducible refine And.intro ?_ ?_); omega) | refine bo_buildSlice (d' := ⟨⟩) ?_ | refine xk (by kernel_rfl) ?_ | refine xf ?_ (by repeat' first | exact lr _ | assumption | refine ls ?_ ?_ | refine lt ?_ ?_ | simp only [*]; done | simp only [fb, *, not_false_eq_true, and_self]; done | exact lf ‹_› (by simp only [*])) | refine finish_two ?_ (by repeat' first | exact lr _ | assumption | refine ls ?_ ?_ | refine lt ?_ ?_ | simp only [*]; done | simp only [fb, *, not_false_eq_true, and_self]; done | exact lf ‹_› (by simp only [*])) | simp -dsimp only [↓bp, bq, br, seval, tbRScC, *])
        all_goals exact finish_le2 (Le.refl _) hle
      · rw [if_neg hk] at hQ
        have n4 : (((k : Nat) : Int) = 0) = False := eq_false (by omega)
        rw [qPre_map] at hQ
        rw [show i - (i0 + 1) + (k + 1) = i + 1 + k - (i0 + 1) by omega] at hQ
        have hw2 : IntKind.i64.wrap (((i + 1 : Nat) : Int) + (k : Int)) = ((i + 1 + k : Nat) : Int) := by rw [wrap_nat (by omega) (by omega)]; omega
        clear hlt c1 hesc c2 c3 hk
        repeat' (first | refine xs ?_ ?_ <;> intros | ((first | refine xh ?_ | refine xi ?_); intro bx hbx; (try simp only [fb] at hbx)) | refine Pure.use (hE) ?_ | refine Pure.head (hE) ?_ | (refine build_one tfB (a := byteA x) rfl rfl (by omega) ?_) | (refine app_buf (ys := [byteA x]) hB tfB (asrc_sl tfBE) (fun a ha => by simp at ha; subst ha; rfl) (by rw [bytesA_len]; simp only [List.length_cons, List.length_nil]; omega) (fun v3 σ3 hB4 hx4 => ?_)) | refine xj ?_ | ((with_reducible refine And.intro ?_ ?_); omega) | refine bo_buildSlice (d' := ⟨⟩) ?_ | refine xk (by kernel_rfl) ?_ | refine xf ?_ (by repeat' first | exact lr _ | assumption | refine ls ?_ ?_ | refine lt ?_ ?_ | simp only [*]; done | simp only [fb, *, not_false_eq_true, and_self]; done | exact lf ‹_› (by simp only [*])) | refine finish_two ?_ (by repeat' first | exact lr _ | assumption | refine ls ?_ ?_ | refine lt ?_ ?_ | simp only [*]; done | simp only [fb, *, not_false_eq_true, and_self]; done | exact lf ‹_› (by simp only [*])) | simp -dsimp only [↓bp, bq, br, seval, tbRScC, *])
        all_goals (have hlt := of_eq_true hlt')
        all_goals exact ⟨s.length - (i + 1 + k), by omega, i + 1 + k, v3, t ++ [x], by omega, by omega, by rw [List.length_append, List.length_singleton]; omega, by omega, rfl, rfl, by rw [bytesA_snoc]; exact hB4, rfl⟩
    · rw [qscan_cons, if_neg c1, if_neg c2, if_neg c3] at hQ
      have n3 : ((c.toNat : Int) = 92) = False := u8_no c3
      rw [qPre_map] at hQ
      rw [show i - (i0 + 1) + 1 = i + 1 - (i0 + 1) by omega] at hQ
      clear c1 c2 c3 hesc
      repeat' (first | refine xs ?_ ?_ <;> intros | ((first | refine xh ?_ | refine xi ?_); intro bx hbx; (try simp only [fb] at hbx)) | (refine build_one tfB (a := byteA c) rfl rfl (by omega) ?_) | (refine app_buf (ys := [byteA c]) hB tfB (asrc_sl tfBE) (fun a ha => by simp at ha; subst ha; rfl) (by rw [bytesA_len]; simp only [List.length_cons, List.length_nil]; omega) (fun v3 σ3 hB4 hx4 => ?_)) | refine xj ?_ | ((with_reducible refine And.intro ?_ ?_); omega) | refine bo_buildSlice (d' := ⟨⟩) ?_ | refine xk (by kernel_rfl) ?_ | refine xf ?_ (by repeat' first | exact lr _ | assumption | refine ls ?_ ?_ | refine lt ?_ ?_ | simp only [*]; done | simp only [fb, *, not_false_eq_true, and_self]; done | exact lf ‹_› (by simp only [*])) | refine finish_two ?_ (by repeat' first | exact lr _ | assumption | refine ls ?_ ?_ | refine lt ?_ ?_ | simp only [*]; done | simp only [fb, *, not_false_eq_true, and_self]; done | exact lf ‹_› (by simp only [*])) | simp -dsimp only [↓bp, bq, br, seval, tbRScC, *])
      all_goals (have hlt := of_eq_true hlt')
      all_goals exact ⟨s.length - (i + 1), by omega, i + 1, v3, t ++ [c], by omega, by omega, by rw [List.length_append, List.length_singleton]; omega, by omega, rfl, rfl, by rw [bytesA_snoc]; exact hB4, by first | rfl | rw [Nat.add_sub_add_right]⟩
  · have : i = s.length := by omega
    subst this
    rw [List.drop_length] at hQ
    have hlt' := eq_false hlt
    rw [hQ]
    have hle := hB.le
    clear hQ hlt hB hesc
    repeat' (first | refine xs ?_ ?_ <;> intros | ((first | refine xh ?_ | refine xi ?_); intro bx hbx; (try simp only [fb] at hbx)) | refine xj ?_ | ((with_reducible refine And.intro ?_ ?_); omega) | refine bo_buildSlice (d' := ⟨⟩) ?_ | refine xk (by kernel_rfl) ?_ | refine xf ?_ (by repeat' first | exact lr _ | assumption | refine ls ?_ ?_ | refine lt ?_ ?_ | simp only [*]; done | simp only [fb, *, not_false_eq_true, and_self]; done | exact lf ‹_› (by simp only [*])) | refine finish_two ?_ (by repeat' first | exact lr _ | assumption | refine ls ?_ ?_ | refine lt ?_ ?_ | simp only [*]; done | simp only [fb, *, not_false_eq_true, and_self]; done | exact lf ‹_› (by simp only [*])) | simp -dsimp only [↓bp, bq, br, seval, tbRScC, *])
    all_goals exact finish_le2 (Le.refl _) hle
end
set_option maxRecDepth 20000
section
def tbRScD := And.intro (And.intro (And.intro @tf3 @tf4) (And.intro @tf5 @tf9)) (And.intro (And.intro @tf33 @tf43) (And.intro @tf41 (And.intro @ares_tmpc @ares_cellc)))
variable (G : Nat → AV)
theorem rwords_pure : Pure Tryz.prog G 14 [] (texts scanWords) := by
  refine Pure.of_le fun σ => ?_
  refine Tri.of_awp mixed Tryz.func14 rfl (by kernel_rfl) (by kernel_rfl) (by simp [Tryz.ntmps14]) Tryz.results14 ?_
  repeat' (first | refine xs ?_ ?_ <;> intros | ((first | refine xh ?_ | refine xi ?_); intro bx hbx; (try simp only [fb] at hbx)) | refine xj ?_ | ((with_reducible refine And.intro ?_ ?_); omega) | refine bo_buildSlice (d' := ⟨⟩) ?_ | refine xk (by kernel_rfl) ?_ | refine xf ?_ (by repeat' first | exact lr _ | assumption | refine ls ?_ ?_ | refine lt ?_ ?_ | simp only [*]; done | simp only [fb, *, not_false_eq_true, and_self]; done | exact lf ‹_› (by simp only [*])) | refine finish_two ?_ (by repeat' first | exact lr _ | assumption | refine ls ?_ ?_ | refine lt ?_ ?_ | simp only [*]; done | simp only [fb, *, not_false_eq_true, and_self]; done | exact lf ‹_› (by simp only [*])) | simp -dsimp only [↓bp, bq, br, seval, tbRScD, *])
  all_goals exact finish_le (Le.gh) (AS.le.refl _)
theorem rsigns_pure : Pure Tryz.prog G 50 [] (texts scanSigns) := by
  refine Pure.of_le fun σ => ?_
  refine Tri.of_awp mixed Tryz.func50 rfl (by kernel_rfl) (by kernel_rfl) (by simp [Tryz.ntmps50]) Tryz.results50 ?_
  repeat' (first | refine xs ?_ ?_ <;> intros | ((first | refine xh ?_ | refine xi ?_); intro bx hbx; (try simp only [fb] at hbx)) | refine xj ?_ | ((with_reducible refine And.intro ?_ ?_); omega) | refine bo_buildSlice (d' := ⟨⟩) ?_ | refine xk (by kernel_rfl) ?_ | refine xf ?_ (by repeat' first | exact lr _ | assumption | refine ls ?_ ?_ | refine lt ?_ ?_ | simp only [*]; done | simp only [fb, *, not_false_eq_true, and_self]; done | exact lf ‹_› (by simp only [*])) | refine finish_two ?_ (by repeat' first | exact lr _ | assumption | refine ls ?_ ?_ | refine lt ?_ ?_ | simp only [*]; done | simp only [fb, *, not_false_eq_true, and_self]; done | exact lf ‹_› (by simp only [*])) | simp -dsimp only [↓bp, bq, br, seval, tbRScD, *])
  all_goals exact finish_le (Le.gh) (AS.le.refl _)
theorem rword_pure (W : List UInt8) : Pure Tryz.prog G 82 [.str W] (.bool (scanWords.contains W)) := by
  have hw0 := rwords_pure G
  have hL : scanWords.length ≤ 1000 := by decide
  generalize scanWords = L at *
  intro σ
  refine Tri.of_awp mixed Tryz.func82 rfl (by kernel_rfl) (by kernel_rfl) (by simp [Tryz.ntmps82]) Tryz.results82 ?_
  repeat' (first | refine xs ?_ ?_ <;> intros | ((first | refine xh ?_ | refine xi ?_); intro bx hbx; (try simp only [fb] at hbx)) | refine Pure.use (hw0) ?_ | refine Pure.head (hw0) ?_ | refine xj ?_ | ((with_reducible refine And.intro ?_ ?_); omega) | refine bo_buildSlice (d' := ⟨⟩) ?_ | refine xk (by kernel_rfl) ?_ | refine xf ?_ (by repeat' first | exact lr _ | assumption | refine ls ?_ ?_ | refine lt ?_ ?_ | simp only [*]; done | simp only [fb, *, not_false_eq_true, and_self]; done | exact lf ‹_› (by simp only [*])) | refine finish_two ?_ (by repeat' first | exact lr _ | assumption | refine ls ?_ ?_ | refine lt ?_ ?_ | simp only [*]; done | simp only [fb, *, not_false_eq_true, and_self]; done | exact lf ‹_› (by simp only [*])) | simp -dsimp only [↓bp, bq, br, seval, tbRScD, len_texts, ix_texts, *])
  refine loop_keep mixed (fun n e => ∃ i : Nat, i ≤ L.length ∧ n = L.length - i ∧ e 4 = .int .i64 i ∧ (L.take i).contains W = false) L.length
    ⟨0, by omega, by omega, by simp -dsimp only [↓bp, bq, br, seval, tbRScD]; first | done | rfl, by simp⟩ ?_
  rintro n v ⟨i, hi, rfl, h4, hx⟩
  simp -dsimp only [↓bp, bq, br, seval, tbRScD] at h4
  by_cases hlt : (i : Int) < L.length
  · obtain ⟨k, hk⟩ : ∃ k, L[i]? = some k := ⟨_, List.getElem?_eq_getElem (by omega)⟩
    have hlt' := eq_true hlt
    have hw : IntKind.i64.wrap ((i : Int) + 1) = ((i + 1 : Nat) : Int) := by rw [wrap_nat (by omega) (by omega)]; rfl
    by_cases hkW : k = W
    · have hc : L.contains W = true := by
        rw [List.contains_iff_mem, ← hkW]; exact List.mem_of_getElem? hk
      rw [hc]
      have hkW' := eq_true hkW
      clear hx hkW hc
      repeat' (first | refine xs ?_ ?_ <;> intros | ((first | refine xh ?_ | refine xi ?_); intro bx hbx; (try simp only [fb] at hbx)) | refine xj ?_ | ((with_reducible refine And.intro ?_ ?_); omega) | refine bo_buildSlice (d' := ⟨⟩) ?_ | refine xk (by kernel_rfl) ?_ | refine xf ?_ (by repeat' first | exact lr _ | assumption | refine ls ?_ ?_ | refine lt ?_ ?_ | simp only [*]; done | simp only [fb, *, not_false_eq_true, and_self]; done | exact lf ‹_› (by simp only [*])) | refine finish_two ?_ (by repeat' first | exact lr _ | assumption | refine ls ?_ ?_ | refine lt ?_ ?_ | simp only [*]; done | simp only [fb, *, not_false_eq_true, and_self]; done | exact lf ‹_› (by simp only [*])) | simp -dsimp only [↓bp, bq, br, seval, tbRScD, len_texts, ix_texts, *])
      all_goals rfl
    · have hn : (L.take (i + 1)).contains W = false := by
        rw [take_succ_get _ _ _ hk]
        rw [Bool.eq_false_iff] at hx ⊢
        intro h
        rw [List.contains_iff_mem, List.mem_append, List.mem_singleton] at h
        rcases h with h | h
        · exact hx (List.contains_iff_mem.2 h)
        · exact hkW h.symm
      have hkW' := eq_false hkW
      clear hx hkW
      repeat' (first | refine xs ?_ ?_ <;> intros | ((first | refine xh ?_ | refine xi ?_); intro bx hbx; (try simp only [fb] at hbx)) | refine xj ?_ | ((with_reducible refine And.intro ?_ ?_); omega) | refine bo_buildSlice (d' := ⟨⟩) ?_ | refine xk (by kernel_rfl) ?_ | refine xf ?_ (by repeat' first | exact lr _ | assumption | refine ls ?_ ?_ | refine lt ?_ ?_ | simp only [*]; done | simp only [fb, *, not_false_eq_true, and_self]; done | exact lf ‹_› (by simp only [*])) | refine finish_two ?_ (by repeat' first | exact lr _ | assumption | refine ls ?_ ?_ | refine lt ?_ ?_ | simp only [*]; done | simp only [fb, *, not_false_eq_true, and_self]; done | exact lf ‹_› (by simp only [*])) | simp -dsimp only [↓bp, bq, br, seval, tbRScD, len_texts, ix_texts, *])
      all_goals (have hlt := of_eq_true hlt')
      all_goals exact ⟨L.length - (i + 1), by omega, i + 1, by omega, rfl, rfl, hn⟩
  · have : i = L.length := by omega
    subst this
    rw [List.take_length] at hx
    rw [hx]
    have hlt' := eq_false hlt
    clear hx hlt hi
    repeat' (first | refine xs ?_ ?_ <;> intros | ((first | refine xh ?_ | refine xi ?_); intro bx hbx; (try simp only [fb] at hbx)) | refine xj ?_ | ((with_reducible refine And.intro ?_ ?_); omega) | refine bo_buildSlice (d' := ⟨⟩) ?_ | refine xk (by kernel_rfl) ?_ | refine xf ?_ (by repeat' first | exact lr _ | assumption | refine ls ?_ ?_ | refine lt ?_ ?_ | simp only [*]; done | simp only [fb, *, not_false_eq_true, and_self]; done | exact lf ‹_› (by simp only [*])) | refine finish_two ?_ (by repeat' first | exact lr _ | assumption | refine ls ?_ ?_ | refine lt ?_ ?_ | simp only [*]; done | simp only [fb, *, not_false_eq_true, and_self]; done | exact lf ‹_› (by simp only [*])) | simp -dsimp only [↓bp, bq, br, seval, tbRScD, len_texts, ix_texts, *])
    all_goals rfl
def nmV (i0 : Nat) (W : List UInt8) (k : Nat) : AV := if 40 < W.length then .tup [.agg [.int .u8 0, .str [], .int .i64 0], .int .i64 0] else .tup [.agg [.int .u8 k, .str W, .int .i64 i0], .int .i64 (i0 + W.length : Nat)]
theorem take_drop_sub (s : List UInt8) (i0 i : Nat) : (s.take i).drop i0 = (s.drop i0).take (i - i0) := by rw [List.drop_take]
set_option maxHeartbeats 4000000 in
theorem rname_aux (s : List UInt8) (i0 : Nat) (c : UInt8) (h0 : s[i0]? = some c) (hs : s.length ≤ 1000000) (W : List UInt8) (hW0 : W = (s.drop i0).takeWhile namedB) (hb wb : Bool) (q2 : Pure Tryz.prog G 45 [.int .u8 c.toNat] (.bool hb)) (q3 : Pure Tryz.prog G 82 [.str W] (.bool wb)) : Pure Tryz.prog G 46 [.str s, .int .i64 i0] (nmV i0 W (if hb then 3 else if wb then 6 else 2)) := by
  have hil := (List.getElem?_eq_some_iff.1 h0).1
  have hnm := rnamed_pure G
  intro σ
  refine Tri.of_awp mixed Tryz.func46 rfl (by kernel_rfl) (by kernel_rfl) (by simp [Tryz.ntmps46]) Tryz.results46 ?_
  repeat' (first | refine xs ?_ ?_ <;> intros | ((first | refine xh ?_ | refine xi ?_); intro bx hbx; (try simp only [fb] at hbx)) | refine xj ?_ | ((with_reducible refine And.intro ?_ ?_); omega) | refine bo_buildSlice (d' := ⟨⟩) ?_ | refine xk (by kernel_rfl) ?_ | refine xf ?_ (by repeat' first | exact lr _ | assumption | refine ls ?_ ?_ | refine lt ?_ ?_ | simp only [*]; done | simp only [fb, *, not_false_eq_true, and_self]; done | exact lf ‹_› (by simp only [*])) | refine finish_two ?_ (by repeat' first | exact lr _ | assumption | refine ls ?_ ?_ | refine lt ?_ ?_ | simp only [*]; done | simp only [fb, *, not_false_eq_true, and_self]; done | exact lf ‹_› (by simp only [*])) | simp -dsimp only [↓bp, bq, br, seval, tbRScD, *])
  refine loop_keep mixed (fun n e => ∃ i : Nat, i0 ≤ i ∧ i ≤ s.length ∧ n = s.length - i ∧ e 6 = .int .i64 i ∧ ∀ x, x ∈ (s.drop i0).take (i - i0) → namedB x = true) (s.length - i0)
    ⟨i0, by omega, by omega, by omega, by simp -dsimp only [↓bp, bq, br, seval, tbRScD]; first | done | rfl, by simp⟩ ?_
  rintro n v ⟨i, hi0, hi, rfl, h6, hx⟩
  simp -dsimp only [↓bp, bq, br, seval, tbRScD] at h6
  by_cases hlt : (i : Int) < s.length
  · obtain ⟨d, hd⟩ : ∃ d, s[i]? = some d := ⟨_, List.getElem?_eq_getElem (by omega)⟩
    have hlt' := eq_true hlt
    have hw : IntKind.i64.wrap ((i : Int) + 1) = ((i + 1 : Nat) : Int) := by rw [wrap_nat (by omega) (by omega)]; rfl
    have hnd := hnm d
    have hdd : (s.drop i0)[i - i0]? = some d := by rw [List.getElem?_drop, show i0 + (i - i0) = i by omega]; exact hd
    cases hp : namedB d
    · rw [hp] at hnd
      have hW : W = (s.drop i0).take (i - i0) := by
        rw [hW0]; exact take_tw _ _ hx (by rw [List.length_drop]; omega) (fun e he => by rw [hdd] at he; cases he; exact hp)
      have hWl : W.length = i - i0 := by rw [hW, List.length_take, List.length_drop]; omega
      have hsl : (s.take i).drop i0 = W := by rw [take_drop_sub, hW]
      have hle1 : (i0 ≤ i) = True := eq_true hi0
      have hle2 : (i ≤ s.length) = True := eq_true hi
      have hw9 : IntKind.i64.wrap ((i : Int) - (i0 : Int)) = (W.length : Int) := by rw [hWl, wrap_nat (by omega) (by omega)]; omega
      have hend : ((i0 + W.length : Nat) : Int) = (i : Int) := by omega
      clear hW0
      by_cases h40 : 40 < W.length
      · have n40 : ((40 : Int) < W.length) = True := eq_true (by omega)
        unfold nmV
        rw [if_pos h40]
        clear h40 hx hdd hW hWl hnm hlt hi hi0 hp hil hend
        cases hb
        · cases wb
          · repeat' (first | refine xs ?_ ?_ <;> intros | ((first | refine xh ?_ | refine xi ?_); intro bx hbx; (try simp only [fb] at hbx)) | refine Pure.use (hnd) ?_ | refine Pure.head (hnd) ?_ | refine Pure.use (q2) ?_ | refine Pure.head (q2) ?_ | refine Pure.use (q3) ?_ | refine Pure.head (q3) ?_ | refine xj ?_ | ((with_reducible refine And.intro ?_ ?_); omega) | refine bo_buildSlice (d' := ⟨⟩) ?_ | refine xk (by kernel_rfl) ?_ | refine xf ?_ (by repeat' first | exact lr _ | assumption | refine ls ?_ ?_ | refine lt ?_ ?_ | simp only [*]; done | simp only [fb, *, not_false_eq_true, and_self]; done | exact lf ‹_› (by simp only [*])) | refine finish_two ?_ (by repeat' first | exact lr _ | assumption | refine ls ?_ ?_ | refine lt ?_ ?_ | simp only [*]; done | simp only [fb, *, not_false_eq_true, and_self]; done | exact lf ‹_› (by simp only [*])) | simp -dsimp only [↓bp, bq, br, seval, tbRScD, *])
            all_goals rfl
          · repeat' (first | refine xs ?_ ?_ <;> intros | ((first | refine xh ?_ | refine xi ?_); intro bx hbx; (try simp only [fb] at hbx)) | refine Pure.use (hnd) ?_ | refine Pure.head (hnd) ?_ | refine Pure.use (q2) ?_ | refine Pure.head (q2) ?_ | refine Pure.use (q3) ?_ | refine Pure.head (q3) ?_ | refine xj ?_ | ((with_reducible refine And.intro ?_ ?_); omega) | refine bo_buildSlice (d' := ⟨⟩) ?_ | refine xk (by kernel_rfl) ?_ | refine xf ?_ (by repeat' first | exact lr _ | assumption | refine ls ?_ ?_ | refine lt ?_ ?_ | simp only [*]; done | simp only [fb, *, not_false_eq_true, and_self]; done | exact lf ‹_› (by simp only [*])) | refine finish_two ?_ (by repeat' first | exact lr _ | assumption | refine ls ?_ ?_ | refine lt ?_ ?_ | simp only [*]; done | simp only [fb, *, not_false_eq_true, and_self]; done | exact lf ‹_› (by simp only [*])) | simp -dsimp only [↓bp, bq, br, seval, tbRScD, *])
            all_goals rfl
        · repeat' (first | refine xs ?_ ?_ <;> intros | ((first | refine xh ?_ | refine xi ?_); intro bx hbx; (try simp only [fb] at hbx)) | refine Pure.use (hnd) ?_ | refine Pure.head (hnd) ?_ | refine Pure.use (q2) ?_ | refine Pure.head (q2) ?_ | refine Pure.use (q3) ?_ | refine Pure.head (q3) ?_ | refine xj ?_ | ((with_reducible refine And.intro ?_ ?_); omega) | refine bo_buildSlice (d' := ⟨⟩) ?_ | refine xk (by kernel_rfl) ?_ | refine xf ?_ (by repeat' first | exact lr _ | assumption | refine ls ?_ ?_ | refine lt ?_ ?_ | simp only [*]; done | simp only [fb, *, not_false_eq_true, and_self]; done | exact lf ‹_› (by simp only [*])) | refine finish_two ?_ (by repeat' first | exact lr _ | assumption | refine ls ?_ ?_ | refine lt ?_ ?_ | simp only [*]; done | simp only [fb, *, not_false_eq_true, and_self]; done | exact lf ‹_› (by simp only [*])) | simp -dsimp only [↓bp, bq, br, seval, tbRScD, *])
          all_goals rfl
      · have n40 : ((40 : Int) < W.length) = False := eq_false (by omega)
        unfold nmV
        rw [if_neg h40, hend]
        clear h40 hx hdd hW hWl hnm hlt hi hi0 hp hil hend
        cases hb
        · cases wb
          · repeat' (first | refine xs ?_ ?_ <;> intros | ((first | refine xh ?_ | refine xi ?_); intro bx hbx; (try simp only [fb] at hbx)) | refine Pure.use (hnd) ?_ | refine Pure.head (hnd) ?_ | refine Pure.use (q2) ?_ | refine Pure.head (q2) ?_ | refine Pure.use (q3) ?_ | refine Pure.head (q3) ?_ | refine xj ?_ | ((with_reducible refine And.intro ?_ ?_); omega) | refine bo_buildSlice (d' := ⟨⟩) ?_ | refine xk (by kernel_rfl) ?_ | refine xf ?_ (by repeat' first | exact lr _ | assumption | refine ls ?_ ?_ | refine lt ?_ ?_ | simp only [*]; done | simp only [fb, *, not_false_eq_true, and_self]; done | exact lf ‹_› (by simp only [*])) | refine finish_two ?_ (by repeat' first | exact lr _ | assumption | refine ls ?_ ?_ | refine lt ?_ ?_ | simp only [*]; done | simp only [fb, *, not_false_eq_true, and_self]; done | exact lf ‹_› (by simp only [*])) | simp -dsimp only [↓bp, bq, br, seval, tbRScD, *])
            all_goals rfl
          · repeat' (first | refine xs ?_ ?_ <;> intros | ((first | refine xh ?_ | refine xi ?_); intro bx hbx; (try simp only [fb] at hbx)) | refine Pure.use (hnd) ?_ | refine Pure.head (hnd) ?_ | refine Pure.use (q2) ?_ | refine Pure.head (q2) ?_ | refine Pure.use (q3) ?_ | refine Pure.head (q3) ?_ | refine xj ?_ | ((with_reducible refine And.intro ?_ ?_); omega) | refine bo_buildSlice (d' := ⟨⟩) ?_ | refine xk (by kernel_rfl) ?_ | refine xf ?_ (by repeat' first | exact lr _ | assumption | refine ls ?_ ?_ | refine lt ?_ ?_ | simp only [*]; done | simp only [fb, *, not_false_eq_true, and_self]; done | exact lf ‹_› (by simp only [*])) | refine finish_two ?_ (by repeat' first | exact lr _ | assumption | refine ls ?_ ?_ | refine lt ?_ ?_ | simp only [*]; done | simp only [fb, *, not_false_eq_true, and_self]; done | exact lf ‹_› (by simp only [*])) | simp -dsimp only [↓bp, bq, br, seval, tbRScD, *])
            all_goals rfl
        · repeat' (first | refine xs ?_ ?_ <;> intros | ((first | refine xh ?_ | refine xi ?_); intro bx hbx; (try simp only [fb] at hbx)) | refine Pure.use (hnd) ?_ | refine Pure.head (hnd) ?_ | refine Pure.use (q2) ?_ | refine Pure.head (q2) ?_ | refine Pure.use (q3) ?_ | refine Pure.head (q3) ?_ | refine xj ?_ | ((with_reducible refine And.intro ?_ ?_); omega) | refine bo_buildSlice (d' := ⟨⟩) ?_ | refine xk (by kernel_rfl) ?_ | refine xf ?_ (by repeat' first | exact lr _ | assumption | refine ls ?_ ?_ | refine lt ?_ ?_ | simp only [*]; done | simp only [fb, *, not_false_eq_true, and_self]; done | exact lf ‹_› (by simp only [*])) | refine finish_two ?_ (by repeat' first | exact lr _ | assumption | refine ls ?_ ?_ | refine lt ?_ ?_ | simp only [*]; done | simp only [fb, *, not_false_eq_true, and_self]; done | exact lf ‹_› (by simp only [*])) | simp -dsimp only [↓bp, bq, br, seval, tbRScD, *])
          all_goals rfl
    · rw [hp] at hnd
      have hx2 : ∀ x, x ∈ (s.drop i0).take (i + 1 - i0) → namedB x = true := fun x hm => by
        rw [show i + 1 - i0 = (i - i0) + 1 by omega, take_succ_get _ _ _ hdd, List.mem_append, List.mem_singleton] at hm
        rcases hm with hm | rfl
        · exact hx x hm
        · exact hp
      clear hx hp hdd hnm hlt hil
      repeat' (first | refine xs ?_ ?_ <;> intros | ((first | refine xh ?_ | refine xi ?_); intro bx hbx; (try simp only [fb] at hbx)) | refine Pure.use (hnd) ?_ | refine Pure.head (hnd) ?_ | refine xj ?_ | ((with_reducible refine And.intro ?_ ?_); omega) | refine bo_buildSlice (d' := ⟨⟩) ?_ | refine xk (by kernel_rfl) ?_ | refine xf ?_ (by repeat' first | exact lr _ | assumption | refine ls ?_ ?_ | refine lt ?_ ?_ | simp only [*]; done | simp only [fb, *, not_false_eq_true, and_self]; done | exact lf ‹_› (by simp only [*])) | refine finish_two ?_ (by repeat' first | exact lr _ | assumption | refine ls ?_ ?_ | refine lt ?_ ?_ | simp only [*]; done | simp only [fb, *, not_false_eq_true, and_self]; done | exact lf ‹_› (by simp only [*])) | simp -dsimp only [↓bp, bq, br, seval, tbRScD, *])
      all_goals (have hlt := of_eq_true hlt')
      all_goals exact ⟨s.length - (i + 1), by omega, i + 1, by omega, by omega, rfl, rfl, hx2⟩
  · have : i = s.length := by omega
    have hW : W = (s.drop i0).take (i - i0) := by
      rw [hW0]; exact take_tw _ _ hx (by rw [List.length_drop]; omega) (fun e he => by rw [List.getElem?_drop, List.getElem?_eq_none (by omega)] at he; cases he)
    have hlt' := eq_false hlt
    have hWl : W.length = i - i0 := by rw [hW, List.length_take, List.length_drop]; omega
    have hsl : (s.take i).drop i0 = W := by rw [take_drop_sub, hW]
    have hle1 : (i0 ≤ i) = True := eq_true hi0
    have hle2 : (i ≤ s.length) = True := eq_true hi
    have hw9 : IntKind.i64.wrap ((i : Int) - (i0 : Int)) = (W.length : Int) := by rw [hWl, wrap_nat (by omega) (by omega)]; omega
    have hend : ((i0 + W.length : Nat) : Int) = (i : Int) := by omega
    clear hW0
    by_cases h40 : 40 < W.length
    · have n40 : ((40 : Int) < W.length) = True := eq_true (by omega)
      unfold nmV
      rw [if_pos h40]
      clear h40 hx hW hWl hnm hlt hi hi0 hil hend this
      cases hb
      · cases wb
        · repeat' (first | refine xs ?_ ?_ <;> intros | ((first | refine xh ?_ | refine xi ?_); intro bx hbx; (try simp only [fb] at hbx)) | refine Pure.use (q2) ?_ | refine Pure.head (q2) ?_ | refine Pure.use (q3) ?_ | refine Pure.head (q3) ?_ | refine xj ?_ | ((with_reducible refine And.intro ?_ ?_); omega) | refine bo_buildSlice (d' := ⟨⟩) ?_ | refine xk (by kernel_rfl) ?_ | refine xf ?_ (by repeat' first | exact lr _ | assumption | refine ls ?_ ?_ | refine lt ?_ ?_ | simp only [*]; done | simp only [fb, *, not_false_eq_true, and_self]; done | exact lf ‹_› (by simp only [*])) | refine finish_two ?_ (by repeat' first | exact lr _ | assumption | refine ls ?_ ?_ | refine lt ?_ ?_ | simp only [*]; done | simp only [fb, *, not_false_eq_true, and_self]; done | exact lf ‹_› (by simp only [*])) | simp -dsimp only [↓bp, bq, br, seval, tbRScD, *])
          all_goals rfl
        · repeat' (first | refine xs ?_ ?_ <;> intros | ((first | refine xh ?_ | refine xi ?_); intro bx hbx; (try simp only [fb] at hbx)) | refine Pure.use (q2) ?_ | refine Pure.head (q2) ?_ | refine Pure.use (q3) ?_ | refine Pure.head (q3) ?_ | refine xj ?_ | ((with_reducible refine And.intro ?_ ?_); omega) | refine bo_buildSlice (d' := ⟨⟩) ?_ | refine xk (by kernel_rfl) ?_ | refine xf ?_ (by repeat' first | exact lr _ | assumption | refine ls ?_ ?_ | refine lt ?_ ?_ | simp only [*]; done | simp only [fb, *, not_false_eq_true, and_self]; done | exact lf ‹_› (by simp only [*])) | refine finish_two ?_ (by repeat' first | exact lr _ | assumption | refine ls ?_ ?_ | refine lt ?_ ?_ | simp only [*]; done | simp only [fb, *, not_false_eq_true, and_self]; done | exact lf ‹_› (by simp only [*])) | simp -dsimp only [↓bp, bq, br, seval, tbRScD, *])
          all_goals rfl
      · repeat' (first | refine xs ?_ ?_ <;> intros | ((first | refine xh ?_ | refine xi ?_); intro bx hbx; (try simp only [fb] at hbx)) | refine Pure.use (q2) ?_ | refine Pure.head (q2) ?_ | refine Pure.use (q3) ?_ | refine Pure.head (q3) ?_ | refine xj ?_ | ((with_reducible refine And.intro ?_ ?_); omega) | refine bo_buildSlice (d' := ⟨⟩) ?_ | refine xk (by kernel_rfl) ?_ | refine xf ?_ (by repeat' first | exact lr _ | assumption | refine ls ?_ ?_ | refine lt ?_ ?_ | simp only [*]; done | simp only [fb, *, not_false_eq_true, and_self]; done | exact lf ‹_› (by simp only [*])) | refine finish_two ?_ (by repeat' first | exact lr _ | assumption | refine ls ?_ ?_ | refine lt ?_ ?_ | simp only [*]; done | simp only [fb, *, not_false_eq_true, and_self]; done | exact lf ‹_› (by simp only [*])) | simp -dsimp only [↓bp, bq, br, seval, tbRScD, *])
        all_goals rfl
    · have n40 : ((40 : Int) < W.length) = False := eq_false (by omega)
      unfold nmV
      rw [if_neg h40, hend]
      clear h40 hx hW hWl hnm hlt hi hi0 hil hend this
      cases hb
      · cases wb
        · repeat' (first | refine xs ?_ ?_ <;> intros | ((first | refine xh ?_ | refine xi ?_); intro bx hbx; (try simp only [fb] at hbx)) | refine Pure.use (q2) ?_ | refine Pure.head (q2) ?_ | refine Pure.use (q3) ?_ | refine Pure.head (q3) ?_ | refine xj ?_ | ((with_reducible refine And.intro ?_ ?_); omega) | refine bo_buildSlice (d' := ⟨⟩) ?_ | refine xk (by kernel_rfl) ?_ | refine xf ?_ (by repeat' first | exact lr _ | assumption | refine ls ?_ ?_ | refine lt ?_ ?_ | simp only [*]; done | simp only [fb, *, not_false_eq_true, and_self]; done | exact lf ‹_› (by simp only [*])) | refine finish_two ?_ (by repeat' first | exact lr _ | assumption | refine ls ?_ ?_ | refine lt ?_ ?_ | simp only [*]; done | simp only [fb, *, not_false_eq_true, and_self]; done | exact lf ‹_› (by simp only [*])) | simp -dsimp only [↓bp, bq, br, seval, tbRScD, *])
          all_goals rfl
        · repeat' (first | refine xs ?_ ?_ <;> intros | ((first | refine xh ?_ | refine xi ?_); intro bx hbx; (try simp only [fb] at hbx)) | refine Pure.use (q2) ?_ | refine Pure.head (q2) ?_ | refine Pure.use (q3) ?_ | refine Pure.head (q3) ?_ | refine xj ?_ | ((with_reducible refine And.intro ?_ ?_); omega) | refine bo_buildSlice (d' := ⟨⟩) ?_ | refine xk (by kernel_rfl) ?_ | refine xf ?_ (by repeat' first | exact lr _ | assumption | refine ls ?_ ?_ | refine lt ?_ ?_ | simp only [*]; done | simp only [fb, *, not_false_eq_true, and_self]; done | exact lf ‹_› (by simp only [*])) | refine finish_two ?_ (by repeat' first | exact lr _ | assumption | refine ls ?_ ?_ | refine lt ?_ ?_ | simp only [*]; done | simp only [fb, *, not_false_eq_true, and_self]; done | exact lf ‹_› (by simp only [*])) | simp -dsimp only [↓bp, bq, br, seval, tbRScD, *])
          all_goals rfl
      · repeat' (first | refine xs ?_ ?_ <;> intros | ((first | refine xh ?_ | refine xi ?_); intro bx hbx; (try simp only [fb] at hbx)) | refine Pure.use (q2) ?_ | refine Pure.head (q2) ?_ | refine Pure.use (q3) ?_ | refine Pure.head (q3) ?_ | refine xj ?_ | ((with_reducible refine And.intro ?_ ?_); omega) | refine bo_buildSlice (d' := ⟨⟩) ?_ | refine xk (by kernel_rfl) ?_ | refine xf ?_ (by repeat' first | exact lr _ | assumption | refine ls ?_ ?_ | refine lt ?_ ?_ | simp only [*]; done | simp only [fb, *, not_false_eq_true, and_self]; done | exact lf ‹_› (by simp only [*])) | refine finish_two ?_ (by repeat' first | exact lr _ | assumption | refine ls ?_ ?_ | refine lt ?_ ?_ | simp only [*]; done | simp only [fb, *, not_false_eq_true, and_self]; done | exact lf ‹_› (by simp only [*])) | simp -dsimp only [↓bp, bq, br, seval, tbRScD, *])
        all_goals rfl
theorem rname_pure (s : List UInt8) (i0 : Nat) (c : UInt8) (h0 : s[i0]? = some c) (hs : s.length ≤ 1000000) : Pure Tryz.prog G 46 [.str s, .int .i64 i0] (nmV i0 ((s.drop i0).takeWhile namedB) (if highB c then 3 else if scanWords.contains ((s.drop i0).takeWhile namedB) then 6 else 2)) :=
  rname_aux G s i0 c h0 hs _ rfl _ _ (rhigh_pure G c) (rword_pure G _)
end
set_option maxRecDepth 20000
section
def tbRScE := And.intro (And.intro (And.intro @tf3 @tf4) (And.intro @tf5 (And.intro @tf9 @tf33))) (And.intro (And.intro @tf43 @tf41) (And.intro @tf24 (And.intro @ares_tmpc @ares_cellc)))
variable (G : Nat → AV)
def tkR (i0 : Nat) : Tk → AV
  | .tok k t n => .tup [.agg [.int .u8 (k : Nat), .str t, .int .i64 i0], .int .i64 (i0 + n : Nat), .int .i64 0]
  | .err e => .tup [.agg [.int .u8 0, .str [], .int .i64 0], .int .i64 0, .int .i64 (e : Nat)]
theorem tkR_tok (i0 k n : Nat) (t : List UInt8) : tkR i0 (.tok k t n) = .tup [.agg [.int .u8 (k : Nat), .str t, .int .i64 i0], .int .i64 (i0 + n : Nat), .int .i64 0] := rfl
theorem low_high2 (c : UInt8) (h : lowB c = true) : highB c = false := by
  have h2 := u8_all (p := fun c => !lowB c || !highB c) (by decide +kernel) c
  simpa [h] using h2
theorem digit_named (c : UInt8) (h : digitB c = true) : namedB c = true := by unfold namedB; rw [h]; simp
theorem lh_named {c : UInt8} (h : (lowB c || highB c) = true) : namedB c = true := by unfold namedB; rw [h]; simp
set_option maxHeartbeats 2000000 in
theorem rtoken_name (s : List UInt8) (i0 : Nat) (c : UInt8) (h0 : s[i0]? = some c) (hs : s.length ≤ 1000000) (hc : (lowB c || highB c) = true) : Pure Tryz.prog G 22 [.str s, .int .i64 i0] (tkR i0 (tokS (s.drop i0))) := by
  have hn := rname_pure G s i0 c h0 hs
  have q1 := rlow_pure G c
  have q2 := rhigh_pure G c
  have hd := drop_get _ _ _ h0
  have hW0 : 0 < ((s.drop i0).takeWhile namedB).length := by rw [hd]; exact takeWhile_pos _ (lh_named hc)
  have hk : tokS (s.drop i0) = if 40 < ((s.drop i0).takeWhile namedB).length then .err 201
      else .tok (if highB c then 3 else if scanWords.contains ((s.drop i0).takeWhile namedB) then 6 else 2) ((s.drop i0).takeWhile namedB) ((s.drop i0).takeWhile namedB).length := by
    rw [hd, tokS_cons, if_pos hc]
  rw [hk]
  clear hk hd
  have gc : lowB c = true ∧ highB c = false ∨ lowB c = false ∧ highB c = true := by
    cases e : lowB c
    · rw [e] at hc; exact .inr ⟨rfl, by simpa using hc⟩
    · exact .inl ⟨rfl, low_high2 c e⟩
  generalize (if highB c then 3 else if scanWords.contains ((s.drop i0).takeWhile namedB) then 6 else 2) = kk at *
  generalize (s.drop i0).takeWhile namedB = W at *
  unfold nmV at hn
  by_cases h40 : 40 < W.length
  · rw [if_pos h40] at hn
    rw [if_pos h40]
    rcases gc with ⟨g1, g2⟩ | ⟨g1, g2⟩ <;> rw [g1] at q1 <;> rw [g2] at q2
    · clear h40 hs hW0 hc g1 g2
      intro σ
      refine Tri.of_awp mixed Tryz.func22 rfl (by kernel_rfl) (by kernel_rfl) (by simp [Tryz.ntmps22]) Tryz.results22 ?_
      repeat' (first | refine xs ?_ ?_ <;> intros | ((first | refine xh ?_ | refine xi ?_); intro bx hbx; (try simp only [fb] at hbx)) | refine Pure.use (q1) ?_ | refine Pure.head (q1) ?_ | refine Pure.use (q2) ?_ | refine Pure.head (q2) ?_ | refine Pure.use (hn) ?_ | refine Pure.head (hn) ?_ | refine xj ?_ | ((with_reducible refine And.intro ?_ ?_); omega) | refine bo_buildSlice (d' := ⟨⟩) ?_ | refine xk (by kernel_rfl) ?_ | refine xf ?_ (by repeat' first | exact lr _ | assumption | refine ls ?_ ?_ | refine lt ?_ ?_ | simp only [*]; done | simp only [fb, *, not_false_eq_true, and_self]; done | exact lf ‹_› (by simp only [*])) | refine finish_two ?_ (by repeat' first | exact lr _ | assumption | refine ls ?_ ?_ | refine lt ?_ ?_ | simp only [*]; done | simp only [fb, *, not_false_eq_true, and_self]; done | exact lf ‹_› (by simp only [*])) | simp -dsimp only [↓bp, bq, br, seval, tbRScE, *])
      all_goals rfl
    · clear h40 hs hW0 hc g1 g2
      intro σ
      refine Tri.of_awp mixed Tryz.func22 rfl (by kernel_rfl) (by kernel_rfl) (by simp [Tryz.ntmps22]) Tryz.results22 ?_
      repeat' (first | refine xs ?_ ?_ <;> intros | ((first | refine xh ?_ | refine xi ?_); intro bx hbx; (try simp only [fb] at hbx)) | refine Pure.use (q1) ?_ | refine Pure.head (q1) ?_ | refine Pure.use (q2) ?_ | refine Pure.head (q2) ?_ | refine Pure.use (hn) ?_ | refine Pure.head (hn) ?_ | refine xj ?_ | ((with_reducible refine And.intro ?_ ?_); omega) | refine bo_buildSlice (d' := ⟨⟩) ?_ | refine xk (by kernel_rfl) ?_ | refine xf ?_ (by repeat' first | exact lr _ | assumption | refine ls ?_ ?_ | refine lt ?_ ?_ | simp only [*]; done | simp only [fb, *, not_false_eq_true, and_self]; done | exact lf ‹_› (by simp only [*])) | refine finish_two ?_ (by repeat' first | exact lr _ | assumption | refine ls ?_ ?_ | refine lt ?_ ?_ | simp only [*]; done | simp only [fb, *, not_false_eq_true, and_self]; done | exact lf ‹_› (by simp only [*])) | simp -dsimp only [↓bp, bq, br, seval, tbRScE, *])
      all_goals rfl
  · rw [if_neg h40] at hn
    rw [if_neg h40]
    have n0 : (((i0 + W.length : Nat) : Int) = 0) = False := eq_false (by omega)
    rcases gc with ⟨g1, g2⟩ | ⟨g1, g2⟩ <;> rw [g1] at q1 <;> rw [g2] at q2
    · clear h40 hs hW0 hc g1 g2
      intro σ
      refine Tri.of_awp mixed Tryz.func22 rfl (by kernel_rfl) (by kernel_rfl) (by simp [Tryz.ntmps22]) Tryz.results22 ?_
      repeat' (first | refine xs ?_ ?_ <;> intros | ((first | refine xh ?_ | refine xi ?_); intro bx hbx; (try simp only [fb] at hbx)) | refine Pure.use (q1) ?_ | refine Pure.head (q1) ?_ | refine Pure.use (q2) ?_ | refine Pure.head (q2) ?_ | refine Pure.use (hn) ?_ | refine Pure.head (hn) ?_ | refine xj ?_ | ((with_reducible refine And.intro ?_ ?_); omega) | refine bo_buildSlice (d' := ⟨⟩) ?_ | refine xk (by kernel_rfl) ?_ | refine xf ?_ (by repeat' first | exact lr _ | assumption | refine ls ?_ ?_ | refine lt ?_ ?_ | simp only [*]; done | simp only [fb, *, not_false_eq_true, and_self]; done | exact lf ‹_› (by simp only [*])) | refine finish_two ?_ (by repeat' first | exact lr _ | assumption | refine ls ?_ ?_ | refine lt ?_ ?_ | simp only [*]; done | simp only [fb, *, not_false_eq_true, and_self]; done | exact lf ‹_› (by simp only [*])) | simp -dsimp only [↓bp, bq, br, seval, tbRScE, *])
      all_goals rfl
    · clear h40 hs hW0 hc g1 g2
      intro σ
      refine Tri.of_awp mixed Tryz.func22 rfl (by kernel_rfl) (by kernel_rfl) (by simp [Tryz.ntmps22]) Tryz.results22 ?_
      repeat' (first | refine xs ?_ ?_ <;> intros | ((first | refine xh ?_ | refine xi ?_); intro bx hbx; (try simp only [fb] at hbx)) | refine Pure.use (q1) ?_ | refine Pure.head (q1) ?_ | refine Pure.use (q2) ?_ | refine Pure.head (q2) ?_ | refine Pure.use (hn) ?_ | refine Pure.head (hn) ?_ | refine xj ?_ | ((with_reducible refine And.intro ?_ ?_); omega) | refine bo_buildSlice (d' := ⟨⟩) ?_ | refine xk (by kernel_rfl) ?_ | refine xf ?_ (by repeat' first | exact lr _ | assumption | refine ls ?_ ?_ | refine lt ?_ ?_ | simp only [*]; done | simp only [fb, *, not_false_eq_true, and_self]; done | exact lf ‹_› (by simp only [*])) | refine finish_two ?_ (by repeat' first | exact lr _ | assumption | refine ls ?_ ?_ | refine lt ?_ ?_ | simp only [*]; done | simp only [fb, *, not_false_eq_true, and_self]; done | exact lf ‹_› (by simp only [*])) | simp -dsimp only [↓bp, bq, br, seval, tbRScE, *])
      all_goals rfl
theorem digits_named {s D : List UInt8} {i : Nat} (hD : ∀ x, x ∈ s.take i → digitB x = true) (hi : i ≤ s.length) : (∀ c, s[i]? = some c → namedB c = false) → ¬ i < (s.takeWhile namedB).length := fun h => by
  have e := take_tw (p := namedB) s i (fun x hx => digit_named x (hD x hx)) hi h
  rw [e, List.length_take]; omega
theorem digits_more {s : List UInt8} {i : Nat} {c : UInt8} (hD : ∀ x, x ∈ s.take i → digitB x = true) (hc : s[i]? = some c) (hn : namedB c = true) : i < (s.takeWhile namedB).length := by
  have hil := (List.getElem?_eq_some_iff.1 hc).1
  have e : s = s.take i ++ c :: s.drop (i + 1) := by rw [← drop_get _ _ _ hc, List.take_append_drop]
  have h1 : s.takeWhile namedB = s.take i ++ (c :: s.drop (i + 1)).takeWhile namedB := by
    conv => lhs; rw [e]
    rw [List.takeWhile_append_of_pos]
    intro x hx
    exact digit_named x (hD x hx)
  rw [h1, List.length_append, List.length_take, List.takeWhile_cons, if_pos hn, List.length_cons]; omega
set_option maxHeartbeats 4000000 in
theorem rtoken_digit (s : List UInt8) (i0 : Nat) (c : UInt8) (h0 : s[i0]? = some c) (hs : s.length ≤ 1000000) (hc : (lowB c || highB c) = false) (hdc : digitB c = true) : Pure Tryz.prog G 22 [.str s, .int .i64 i0] (tkR i0 (tokS (s.drop i0))) := by
  have q1 := rlow_pure G c
  have q2 := rhigh_pure G c
  have q3 := rdigit_pure G c
  have hil := (List.getElem?_eq_some_iff.1 h0).1
  have hdp := rdigit_pure G
  have hnp := rnamed_pure G
  have hd := drop_get _ _ _ h0
  obtain ⟨D, hD0⟩ : ∃ D, D = (s.drop i0).takeWhile digitB := ⟨_, rfl⟩
  obtain ⟨W, hW0⟩ : ∃ W, W = (s.drop i0).takeWhile namedB := ⟨_, rfl⟩
  have hk : tokS (s.drop i0) = if 400 < D.length ∨ D.length < W.length then .err 201 else .tok 1 D D.length := by
    rw [hD0, hW0, hd, tokS_cons, if_neg (by rw [hc]; simp), if_pos hdc]
  rw [hk]
  simp only [Bool.or_eq_false_iff] at hc
  rw [hc.1] at q1
  rw [hc.2] at q2
  rw [hdc] at q3
  clear hk hd hc hdc
  intro σ
  refine Tri.of_awp mixed Tryz.func22 rfl (by kernel_rfl) (by kernel_rfl) (by simp [Tryz.ntmps22]) Tryz.results22 ?_
  repeat' (first | refine xs ?_ ?_ <;> intros | ((first | refine xh ?_ | refine xi ?_); intro bx hbx; (try simp only [fb] at hbx)) | refine Pure.use (q1) ?_ | refine Pure.head (q1) ?_ | refine Pure.use (q2) ?_ | refine Pure.head (q2) ?_ | refine Pure.use (q3) ?_ | refine Pure.head (q3) ?_ | refine xj ?_ | ((with_reducible refine And.intro ?_ ?_); omega) | refine bo_buildSlice (d' := ⟨⟩) ?_ | refine xk (by kernel_rfl) ?_ | refine xf ?_ (by repeat' first | exact lr _ | assumption | refine ls ?_ ?_ | refine lt ?_ ?_ | simp only [*]; done | simp only [fb, *, not_false_eq_true, and_self]; done | exact lf ‹_› (by simp only [*])) | refine finish_two ?_ (by repeat' first | exact lr _ | assumption | refine ls ?_ ?_ | refine lt ?_ ?_ | simp only [*]; done | simp only [fb, *, not_false_eq_true, and_self]; done | exact lf ‹_› (by simp only [*])) | simp -dsimp only [↓bp, bq, br, seval, tbRScE, *])
  clear q1 q2 q3
  refine loop_keep mixed (fun n e => ∃ i : Nat, i0 ≤ i ∧ i ≤ s.length ∧ n = s.length - i ∧ e 10 = .int .i64 i ∧ ∀ x, x ∈ (s.drop i0).take (i - i0) → digitB x = true) (s.length - i0)
    ⟨i0, by omega, by omega, by omega, by simp -dsimp only [↓bp, bq, br, seval, tbRScE]; first | done | rfl, by simp⟩ ?_
  rintro n v ⟨i, hi0, hi, rfl, h10, hx⟩
  simp -dsimp only [↓bp, bq, br, seval, tbRScE] at h10
  by_cases hlt : (i : Int) < s.length
  · obtain ⟨d, hd⟩ : ∃ d, s[i]? = some d := ⟨_, List.getElem?_eq_getElem (by omega)⟩
    have hlt' := eq_true hlt
    have hw : IntKind.i64.wrap ((i : Int) + 1) = ((i + 1 : Nat) : Int) := by rw [wrap_nat (by omega) (by omega)]; rfl
    have hnd := hdp d
    have hnn := hnp d
    have hdd : (s.drop i0)[i - i0]? = some d := by rw [List.getElem?_drop, show i0 + (i - i0) = i by omega]; exact hd
    cases hp : digitB d
    · rw [hp] at hnd
      have hD : D = (s.drop i0).take (i - i0) := by
        rw [hD0]; exact take_tw _ _ hx (by rw [List.length_drop]; omega) (fun e he => by rw [hdd] at he; cases he; exact hp)
      have hWl : D.length = i - i0 := by rw [hD, List.length_take, List.length_drop]; omega
      have hsl : (s.take i).drop i0 = D := by rw [take_drop_sub, hD]
      have hle1 : (i0 ≤ i) = True := eq_true hi0
      have hle2 : (i ≤ s.length) = True := eq_true hi
      have hw9 : IntKind.i64.wrap ((i : Int) - (i0 : Int)) = (D.length : Int) := by rw [hWl, wrap_nat (by omega) (by omega)]; omega
      have hend : ((i0 + D.length : Nat) : Int) = (i : Int) := by omega
      by_cases h4 : 400 < D.length
      · have n4 : ((400 : Int) < D.length) = True := eq_true (by omega)
        rw [if_pos (.inl h4)]
        clear h4 hx hdd hD hD0 hW0 hWl hdp hnp hlt hi hi0 hp hil hend hnn
        repeat' (first | refine xs ?_ ?_ <;> intros | ((first | refine xh ?_ | refine xi ?_); intro bx hbx; (try simp only [fb] at hbx)) | refine Pure.use (hnd) ?_ | refine Pure.head (hnd) ?_ | refine xj ?_ | ((with_reducible refine And.intro ?_ ?_); omega) | refine bo_buildSlice (d' := ⟨⟩) ?_ | refine xk (by kernel_rfl) ?_ | refine xf ?_ (by repeat' first | exact lr _ | assumption | refine ls ?_ ?_ | refine lt ?_ ?_ | simp only [*]; done | simp only [fb, *, not_false_eq_true, and_self]; done | exact lf ‹_› (by simp only [*])) | refine finish_two ?_ (by repeat' first | exact lr _ | assumption | refine ls ?_ ?_ | refine lt ?_ ?_ | simp only [*]; done | simp only [fb, *, not_false_eq_true, and_self]; done | exact lf ‹_› (by simp only [*])) | simp -dsimp only [↓bp, bq, br, seval, tbRScE, *])
        all_goals rfl
      · have n4 : ((400 : Int) < D.length) = False := eq_false (by omega)
        cases hq : namedB d
        · rw [hq] at hnn
          have hnW := digits_named (s := s.drop i0) (D := D) (i := i - i0) hx (by rw [List.length_drop]; omega) (fun e he => by rw [hdd] at he; cases he; exact hq)
          rw [← hW0, ← hWl] at hnW
          rw [if_neg (by omega)]
          rw [tkR_tok, hend]
          clear h4 hx hdd hD hD0 hW0 hWl hdp hnp hlt hi hi0 hp hil hend hnW hq
          repeat' (first | refine xs ?_ ?_ <;> intros | ((first | refine xh ?_ | refine xi ?_); intro bx hbx; (try simp only [fb] at hbx)) | refine Pure.use (hnd) ?_ | refine Pure.head (hnd) ?_ | refine Pure.use (hnn) ?_ | refine Pure.head (hnn) ?_ | refine xj ?_ | ((with_reducible refine And.intro ?_ ?_); omega) | refine bo_buildSlice (d' := ⟨⟩) ?_ | refine xk (by kernel_rfl) ?_ | refine xf ?_ (by repeat' first | exact lr _ | assumption | refine ls ?_ ?_ | refine lt ?_ ?_ | simp only [*]; done | simp only [fb, *, not_false_eq_true, and_self]; done | exact lf ‹_› (by simp only [*])) | refine finish_two ?_ (by repeat' first | exact lr _ | assumption | refine ls ?_ ?_ | refine lt ?_ ?_ | simp only [*]; done | simp only [fb, *, not_false_eq_true, and_self]; done | exact lf ‹_› (by simp only [*])) | simp -dsimp only [↓bp, bq, br, seval, tbRScE, *])
          all_goals rfl
        · rw [hq] at hnn
          have hnW := digits_more (s := s.drop i0) (i := i - i0) hx hdd hq
          rw [← hW0, ← hWl] at hnW
          rw [if_pos (.inr hnW)]
          clear h4 hx hdd hD hD0 hW0 hWl hdp hnp hlt hi hi0 hp hil hend hnW hq
          repeat' (first | refine xs ?_ ?_ <;> intros | ((first | refine xh ?_ | refine xi ?_); intro bx hbx; (try simp only [fb] at hbx)) | refine Pure.use (hnd) ?_ | refine Pure.head (hnd) ?_ | refine Pure.use (hnn) ?_ | refine Pure.head (hnn) ?_ | refine xj ?_ | ((with_reducible refine And.intro ?_ ?_); omega) | refine bo_buildSlice (d' := ⟨⟩) ?_ | refine xk (by kernel_rfl) ?_ | refine xf ?_ (by repeat' first | exact lr _ | assumption | refine ls ?_ ?_ | refine lt ?_ ?_ | simp only [*]; done | simp only [fb, *, not_false_eq_true, and_self]; done | exact lf ‹_› (by simp only [*])) | refine finish_two ?_ (by repeat' first | exact lr _ | assumption | refine ls ?_ ?_ | refine lt ?_ ?_ | simp only [*]; done | simp only [fb, *, not_false_eq_true, and_self]; done | exact lf ‹_› (by simp only [*])) | simp -dsimp only [↓bp, bq, br, seval, tbRScE, *])
          all_goals rfl
    · rw [hp] at hnd
      have hx2 : ∀ x, x ∈ (s.drop i0).take (i + 1 - i0) → digitB x = true := fun x hm => by
        rw [show i + 1 - i0 = (i - i0) + 1 by omega, take_succ_get _ _ _ hdd, List.mem_append, List.mem_singleton] at hm
        rcases hm with hm | rfl
        · exact hx x hm
        · exact hp
      clear hx hp hdd hdp hnp hlt hil hnn hD0 hW0
      repeat' (first | refine xs ?_ ?_ <;> intros | ((first | refine xh ?_ | refine xi ?_); intro bx hbx; (try simp only [fb] at hbx)) | refine Pure.use (hnd) ?_ | refine Pure.head (hnd) ?_ | refine xj ?_ | ((with_reducible refine And.intro ?_ ?_); omega) | refine bo_buildSlice (d' := ⟨⟩) ?_ | refine xk (by kernel_rfl) ?_ | refine xf ?_ (by repeat' first | exact lr _ | assumption | refine ls ?_ ?_ | refine lt ?_ ?_ | simp only [*]; done | simp only [fb, *, not_false_eq_true, and_self]; done | exact lf ‹_› (by simp only [*])) | refine finish_two ?_ (by repeat' first | exact lr _ | assumption | refine ls ?_ ?_ | refine lt ?_ ?_ | simp only [*]; done | simp only [fb, *, not_false_eq_true, and_self]; done | exact lf ‹_› (by simp only [*])) | simp -dsimp only [↓bp, bq, br, seval, tbRScE, *])
      all_goals (have hlt := of_eq_true hlt')
      all_goals exact ⟨s.length - (i + 1), by omega, i + 1, by omega, by omega, rfl, rfl, hx2⟩
  · have hil2 : i = s.length := by omega
    have hno : ∀ e, (s.drop i0)[i - i0]? = some e → False := fun e he => by rw [List.getElem?_drop, List.getElem?_eq_none (by omega)] at he; cases he
    have hD : D = (s.drop i0).take (i - i0) := by
      rw [hD0]; exact take_tw _ _ hx (by rw [List.length_drop]; omega) (fun e he => (hno e he).elim)
    have hlt' := eq_false hlt
    have hWl : D.length = i - i0 := by rw [hD, List.length_take, List.length_drop]; omega
    have hsl : (s.take i).drop i0 = D := by rw [take_drop_sub, hD]
    have hle1 : (i0 ≤ i) = True := eq_true hi0
    have hle2 : (i ≤ s.length) = True := eq_true hi
    have hw9 : IntKind.i64.wrap ((i : Int) - (i0 : Int)) = (D.length : Int) := by rw [hWl, wrap_nat (by omega) (by omega)]; omega
    have hend : ((i0 + D.length : Nat) : Int) = (i : Int) := by omega
    by_cases h4 : 400 < D.length
    · have n4 : ((400 : Int) < D.length) = True := eq_true (by omega)
      rw [if_pos (.inl h4)]
      clear h4 hx hD hD0 hW0 hWl hdp hnp hlt hi hi0 hil hend hil2 hno
      repeat' (first | refine xs ?_ ?_ <;> intros | ((first | refine xh ?_ | refine xi ?_); intro bx hbx; (try simp only [fb] at hbx)) | refine xj ?_ | ((with_reducible refine And.intro ?_ ?_); omega) | refine bo_buildSlice (d' := ⟨⟩) ?_ | refine xk (by kernel_rfl) ?_ | refine xf ?_ (by repeat' first | exact lr _ | assumption | refine ls ?_ ?_ | refine lt ?_ ?_ | simp only [*]; done | simp only [fb, *, not_false_eq_true, and_self]; done | exact lf ‹_› (by simp only [*])) | refine finish_two ?_ (by repeat' first | exact lr _ | assumption | refine ls ?_ ?_ | refine lt ?_ ?_ | simp only [*]; done | simp only [fb, *, not_false_eq_true, and_self]; done | exact lf ‹_› (by simp only [*])) | simp -dsimp only [↓bp, bq, br, seval, tbRScE, *])
      all_goals rfl
    · have n4 : ((400 : Int) < D.length) = False := eq_false (by omega)
      have hnW := digits_named (s := s.drop i0) (D := D) (i := i - i0) hx (by rw [List.length_drop]; omega) (fun e he => (hno e he).elim)
      rw [← hW0, ← hWl] at hnW
      rw [if_neg (by omega)]
      rw [tkR_tok, hend]
      clear h4 hx hD hD0 hW0 hWl hdp hnp hlt hi hi0 hil hend hnW hil2 hno
      repeat' (first | refine xs ?_ ?_ <;> intros | ((first | refine xh ?_ | refine xi ?_); intro bx hbx; (try simp only [fb] at hbx)) | refine xj ?_ | ((with_reducible refine And.intro ?_ ?_); omega) | refine bo_buildSlice (d' := ⟨⟩) ?_ | refine xk (by kernel_rfl) ?_ | refine xf ?_ (by repeat' first | exact lr _ | assumption | refine ls ?_ ?_ | refine lt ?_ ?_ | simp only [*]; done | simp only [fb, *, not_false_eq_true, and_self]; done | exact lf ‹_› (by simp only [*])) | refine finish_two ?_ (by repeat' first | exact lr _ | assumption | refine ls ?_ ?_ | refine lt ?_ ?_ | simp only [*]; done | simp only [fb, *, not_false_eq_true, and_self]; done | exact lf ‹_› (by simp only [*])) | simp -dsimp only [↓bp, bq, br, seval, tbRScE, *])
      all_goals rfl
end
set_option maxRecDepth 20000
section
def tbRScF := And.intro (And.intro (And.intro @tf3 @tf4) (And.intro @tf5 (And.intro @tf9 @tf33))) (And.intro (And.intro @tf43 @tf41) (And.intro @tf24 (And.intro @ares_tmpc @ares_cellc)))
variable (G : Nat → AV)
set_option maxHeartbeats 2000000 in
theorem rtoken_quote (s : List UInt8) (i0 : Nat) (c : UInt8) (h0 : s[i0]? = some c) (hs : s.length ≤ 1000000) (hc : (lowB c || highB c) = false) (hdc : digitB c = false) (hq : c = 39 ∨ c = 34) : Pure Tryz.prog G 22 [.str s, .int .i64 i0] (tkR i0 (tokS (s.drop i0))) := by
  have hqp := rquoted_pure G s i0 c h0 hq hs
  have hk : (c.toNat : Int) = 39 ∧ ((c.toNat : Int) = 34) = False ∧ qMost c = 40 ∧ qKind c = 2 ∨ (c.toNat : Int) = 34 ∧ ((c.toNat : Int) = 39) = False ∧ qMost c = 400 ∧ qKind c = 4 := by
    rcases hq with rfl | rfl
    · exact .inl ⟨by decide, by decide, by decide, by decide⟩
    · exact .inr ⟨by decide, by decide, by decide, by decide⟩
  have q1 := rlow_pure G c
  have q2 := rhigh_pure G c
  have q3 := rdigit_pure G c
  have hil := (List.getElem?_eq_some_iff.1 h0).1
  have hd := drop_get _ _ _ h0
  rw [hd, tokS_cons, if_neg (by rw [hc]; simp), if_neg (by rw [hdc]; simp)]
  simp only [Bool.or_eq_false_iff] at hc
  rw [hc.1] at q1
  rw [hc.2] at q2
  rw [hdc] at q3
  rw [if_pos hq]
  clear hq hd hc hdc
  cases ho : qscan c (s.drop (i0 + 1)) with
  | none =>
    rw [ho] at hqp
    unfold rqV at hqp
    simp only
    clear hs ho hil
    rcases hk with ⟨k1, k2, k3, k4⟩ | ⟨k1, k2, k3, k4⟩
    · replace k1 := eq_true k1
      clear k3 k4
      intro σ
      refine Tri.of_awp mixed Tryz.func22 rfl (by kernel_rfl) (by kernel_rfl) (by simp [Tryz.ntmps22]) Tryz.results22 ?_
      repeat' (first | refine xs ?_ ?_ <;> intros | ((first | refine xh ?_ | refine xi ?_); intro bx hbx; (try simp only [fb] at hbx)) | refine Pure.use (q1) ?_ | refine Pure.head (q1) ?_ | refine Pure.use (q2) ?_ | refine Pure.head (q2) ?_ | refine Pure.use (q3) ?_ | refine Pure.head (q3) ?_ | refine Pure.use (hqp) ?_ | refine Pure.head (hqp) ?_ | refine xj ?_ | ((with_reducible refine And.intro ?_ ?_); omega) | refine bo_buildSlice (d' := ⟨⟩) ?_ | refine xk (by kernel_rfl) ?_ | refine xf ?_ (by repeat' first | exact lr _ | assumption | refine ls ?_ ?_ | refine lt ?_ ?_ | simp only [*]; done | simp only [fb, *, not_false_eq_true, and_self]; done | exact lf ‹_› (by simp only [*])) | refine finish_two ?_ (by repeat' first | exact lr _ | assumption | refine ls ?_ ?_ | refine lt ?_ ?_ | simp only [*]; done | simp only [fb, *, not_false_eq_true, and_self]; done | exact lf ‹_› (by simp only [*])) | simp -dsimp only [↓bp, bq, br, seval, tbRScF, *])
      all_goals rfl
    · replace k1 := eq_true k1
      clear k3 k4
      intro σ
      refine Tri.of_awp mixed Tryz.func22 rfl (by kernel_rfl) (by kernel_rfl) (by simp [Tryz.ntmps22]) Tryz.results22 ?_
      repeat' (first | refine xs ?_ ?_ <;> intros | ((first | refine xh ?_ | refine xi ?_); intro bx hbx; (try simp only [fb] at hbx)) | refine Pure.use (q1) ?_ | refine Pure.head (q1) ?_ | refine Pure.use (q2) ?_ | refine Pure.head (q2) ?_ | refine Pure.use (q3) ?_ | refine Pure.head (q3) ?_ | refine Pure.use (hqp) ?_ | refine Pure.head (hqp) ?_ | refine xj ?_ | ((with_reducible refine And.intro ?_ ?_); omega) | refine bo_buildSlice (d' := ⟨⟩) ?_ | refine xk (by kernel_rfl) ?_ | refine xf ?_ (by repeat' first | exact lr _ | assumption | refine ls ?_ ?_ | refine lt ?_ ?_ | simp only [*]; done | simp only [fb, *, not_false_eq_true, and_self]; done | exact lf ‹_› (by simp only [*])) | refine finish_two ?_ (by repeat' first | exact lr _ | assumption | refine ls ?_ ?_ | refine lt ?_ ?_ | simp only [*]; done | simp only [fb, *, not_false_eq_true, and_self]; done | exact lf ‹_› (by simp only [*])) | simp -dsimp only [↓bp, bq, br, seval, tbRScF, *])
      all_goals rfl
  | some p =>
    rw [ho] at hqp
    obtain ⟨T, n⟩ := p
    unfold rqV at hqp
    simp only at hqp ⊢
    rw [show i0 + 1 + n = i0 + (n + 1) by omega] at hqp
    generalize n + 1 = m at *
    clear hs ho hil
    rcases hk with ⟨k1, k2, k3, k4⟩ | ⟨k1, k2, k3, k4⟩
    · replace k1 := eq_true k1
      rw [k3, k4]
      clear k3 k4
      by_cases hT : 40 < T.length
      · have hT' : ((40 : Int) < T.length) = True := eq_true (by omega)
        rw [if_pos hT]
        clear hT
        intro σ
        refine Tri.of_awp mixed Tryz.func22 rfl (by kernel_rfl) (by kernel_rfl) (by simp [Tryz.ntmps22]) Tryz.results22 ?_
        repeat' (first | refine xs ?_ ?_ <;> intros | ((first | refine xh ?_ | refine xi ?_); intro bx hbx; (try simp only [fb] at hbx)) | refine Pure.use (q1) ?_ | refine Pure.head (q1) ?_ | refine Pure.use (q2) ?_ | refine Pure.head (q2) ?_ | refine Pure.use (q3) ?_ | refine Pure.head (q3) ?_ | refine Pure.use (hqp) ?_ | refine Pure.head (hqp) ?_ | refine xj ?_ | ((with_reducible refine And.intro ?_ ?_); omega) | refine bo_buildSlice (d' := ⟨⟩) ?_ | refine xk (by kernel_rfl) ?_ | refine xf ?_ (by repeat' first | exact lr _ | assumption | refine ls ?_ ?_ | refine lt ?_ ?_ | simp only [*]; done | simp only [fb, *, not_false_eq_true, and_self]; done | exact lf ‹_› (by simp only [*])) | refine finish_two ?_ (by repeat' first | exact lr _ | assumption | refine ls ?_ ?_ | refine lt ?_ ?_ | simp only [*]; done | simp only [fb, *, not_false_eq_true, and_self]; done | exact lf ‹_› (by simp only [*])) | simp -dsimp only [↓bp, bq, br, seval, tbRScF, *])
        all_goals rfl
      · have hT' : ((40 : Int) < T.length) = False := eq_false (by omega)
        have hT2 : ((400 : Int) < T.length) = False := eq_false (by omega)
        rw [if_neg hT]
        clear hT
        intro σ
        refine Tri.of_awp mixed Tryz.func22 rfl (by kernel_rfl) (by kernel_rfl) (by simp [Tryz.ntmps22]) Tryz.results22 ?_
        repeat' (first | refine xs ?_ ?_ <;> intros | ((first | refine xh ?_ | refine xi ?_); intro bx hbx; (try simp only [fb] at hbx)) | refine Pure.use (q1) ?_ | refine Pure.head (q1) ?_ | refine Pure.use (q2) ?_ | refine Pure.head (q2) ?_ | refine Pure.use (q3) ?_ | refine Pure.head (q3) ?_ | refine Pure.use (hqp) ?_ | refine Pure.head (hqp) ?_ | refine xj ?_ | ((with_reducible refine And.intro ?_ ?_); omega) | refine bo_buildSlice (d' := ⟨⟩) ?_ | refine xk (by kernel_rfl) ?_ | refine xf ?_ (by repeat' first | exact lr _ | assumption | refine ls ?_ ?_ | refine lt ?_ ?_ | simp only [*]; done | simp only [fb, *, not_false_eq_true, and_self]; done | exact lf ‹_› (by simp only [*])) | refine finish_two ?_ (by repeat' first | exact lr _ | assumption | refine ls ?_ ?_ | refine lt ?_ ?_ | simp only [*]; done | simp only [fb, *, not_false_eq_true, and_self]; done | exact lf ‹_› (by simp only [*])) | simp -dsimp only [↓bp, bq, br, seval, tbRScF, *])
        all_goals rfl
    · replace k1 := eq_true k1
      rw [k3, k4]
      clear k3 k4
      by_cases hT : 400 < T.length
      · have hT' : ((400 : Int) < T.length) = True := eq_true (by omega)
        rw [if_pos hT]
        clear hT
        intro σ
        refine Tri.of_awp mixed Tryz.func22 rfl (by kernel_rfl) (by kernel_rfl) (by simp [Tryz.ntmps22]) Tryz.results22 ?_
        repeat' (first | refine xs ?_ ?_ <;> intros | ((first | refine xh ?_ | refine xi ?_); intro bx hbx; (try simp only [fb] at hbx)) | refine Pure.use (q1) ?_ | refine Pure.head (q1) ?_ | refine Pure.use (q2) ?_ | refine Pure.head (q2) ?_ | refine Pure.use (q3) ?_ | refine Pure.head (q3) ?_ | refine Pure.use (hqp) ?_ | refine Pure.head (hqp) ?_ | refine xj ?_ | ((with_reducible refine And.intro ?_ ?_); omega) | refine bo_buildSlice (d' := ⟨⟩) ?_ | refine xk (by kernel_rfl) ?_ | refine xf ?_ (by repeat' first | exact lr _ | assumption | refine ls ?_ ?_ | refine lt ?_ ?_ | simp only [*]; done | simp only [fb, *, not_false_eq_true, and_self]; done | exact lf ‹_› (by simp only [*])) | refine finish_two ?_ (by repeat' first | exact lr _ | assumption | refine ls ?_ ?_ | refine lt ?_ ?_ | simp only [*]; done | simp only [fb, *, not_false_eq_true, and_self]; done | exact lf ‹_› (by simp only [*])) | simp -dsimp only [↓bp, bq, br, seval, tbRScF, *])
        all_goals rfl
      · have hT' : ((400 : Int) < T.length) = False := eq_false (by omega)
        rw [if_neg hT]
        clear hT
        intro σ
        refine Tri.of_awp mixed Tryz.func22 rfl (by kernel_rfl) (by kernel_rfl) (by simp [Tryz.ntmps22]) Tryz.results22 ?_
        repeat' (first | refine xs ?_ ?_ <;> intros | ((first | refine xh ?_ | refine xi ?_); intro bx hbx; (try simp only [fb] at hbx)) | refine Pure.use (q1) ?_ | refine Pure.head (q1) ?_ | refine Pure.use (q2) ?_ | refine Pure.head (q2) ?_ | refine Pure.use (q3) ?_ | refine Pure.head (q3) ?_ | refine Pure.use (hqp) ?_ | refine Pure.head (hqp) ?_ | refine xj ?_ | ((with_reducible refine And.intro ?_ ?_); omega) | refine bo_buildSlice (d' := ⟨⟩) ?_ | refine xk (by kernel_rfl) ?_ | refine xf ?_ (by repeat' first | exact lr _ | assumption | refine ls ?_ ?_ | refine lt ?_ ?_ | simp only [*]; done | simp only [fb, *, not_false_eq_true, and_self]; done | exact lf ‹_› (by simp only [*])) | refine finish_two ?_ (by repeat' first | exact lr _ | assumption | refine ls ?_ ?_ | refine lt ?_ ?_ | simp only [*]; done | simp only [fb, *, not_false_eq_true, and_self]; done | exact lf ‹_› (by simp only [*])) | simp -dsimp only [↓bp, bq, br, seval, tbRScF, *])
        all_goals rfl
set_option maxHeartbeats 2000000 in
theorem rtoken_dot (s : List UInt8) (i0 : Nat) (c : UInt8) (h0 : s[i0]? = some c) (hs : s.length ≤ 1000000) (hc : (lowB c || highB c) = false) (hdc : digitB c = false) (hq : ¬ (c = 39 ∨ c = 34)) (h46 : c = 46) : Pure Tryz.prog G 22 [.str s, .int .i64 i0] (tkR i0 (tokS (s.drop i0))) := by
  have n39 : ((c.toNat : Int) = 39) = False := u8_no fun h => hq (.inl h)
  have n34 : ((c.toNat : Int) = 34) = False := u8_no fun h => hq (.inr h)
  have q1 := rlow_pure G c
  have q2 := rhigh_pure G c
  have q3 := rdigit_pure G c
  have hil := (List.getElem?_eq_some_iff.1 h0).1
  have hd := drop_get _ _ _ h0
  rw [hd, tokS_cons, if_neg (by rw [hc]; simp), if_neg (by rw [hdc]; simp)]
  simp only [Bool.or_eq_false_iff] at hc
  rw [hc.1] at q1
  rw [hc.2] at q2
  rw [hdc] at q3
  rw [if_neg hq, if_pos h46]
  have n46 : ((c.toNat : Int) = 46) = True := eq_true (by rw [h46]; rfl)
  have hw : IntKind.i64.wrap ((i0 : Int) + 1) = ((i0 + 1 : Nat) : Int) := by rw [wrap_nat (by omega) (by omega)]; rfl
  clear hq hd hc hdc h46
  by_cases hl : i0 + 1 = s.length
  · have hl1 : (((i0 + 1 : Nat) : Int) = s.length) = True := eq_true (by omega)
    rw [List.drop_eq_nil_of_le (by omega)]
    simp only
    clear hl hil hs
    intro σ
    refine Tri.of_awp mixed Tryz.func22 rfl (by kernel_rfl) (by kernel_rfl) (by simp [Tryz.ntmps22]) Tryz.results22 ?_
    repeat' (first | refine xs ?_ ?_ <;> intros | ((first | refine xh ?_ | refine xi ?_); intro bx hbx; (try simp only [fb] at hbx)) | refine Pure.use (q1) ?_ | refine Pure.head (q1) ?_ | refine Pure.use (q2) ?_ | refine Pure.head (q2) ?_ | refine Pure.use (q3) ?_ | refine Pure.head (q3) ?_ | refine xj ?_ | ((with_reducible refine And.intro ?_ ?_); omega) | refine bo_buildSlice (d' := ⟨⟩) ?_ | refine xk (by kernel_rfl) ?_ | refine xf ?_ (by repeat' first | exact lr _ | assumption | refine ls ?_ ?_ | refine lt ?_ ?_ | simp only [*]; done | simp only [fb, *, not_false_eq_true, and_self]; done | exact lf ‹_› (by simp only [*])) | refine finish_two ?_ (by repeat' first | exact lr _ | assumption | refine ls ?_ ?_ | refine lt ?_ ?_ | simp only [*]; done | simp only [fb, *, not_false_eq_true, and_self]; done | exact lf ‹_› (by simp only [*])) | simp -dsimp only [↓bp, bq, br, seval, tbRScF, *])
    all_goals rfl
  · have hl1 : (((i0 + 1 : Nat) : Int) = s.length) = False := eq_false (by omega)
    obtain ⟨d, hd⟩ : ∃ d, s[i0 + 1]? = some d := ⟨_, List.getElem?_eq_getElem (by omega)⟩
    rw [drop_get _ _ _ hd]
    simp only
    have hb := rblank_pure G d
    have hbl : blankB d = decide (d = 32 ∨ d = 9 ∨ d = 13 ∨ d = 10) := by unfold blankB; simp [Bool.decide_or, Bool.or_assoc]
    clear hl hil hs
    cases xb : blankB d
    · rw [xb] at hb hbl
      replace hbl := of_decide_eq_false hbl.symm
      by_cases h37 : d = 37
      · have n37 : ((d.toNat : Int) = 37) = True := eq_true (by rw [h37]; rfl)
        rw [if_pos (by simp [h37])]
        clear hbl h37 xb
        intro σ
        refine Tri.of_awp mixed Tryz.func22 rfl (by kernel_rfl) (by kernel_rfl) (by simp [Tryz.ntmps22]) Tryz.results22 ?_
        repeat' (first | refine xs ?_ ?_ <;> intros | ((first | refine xh ?_ | refine xi ?_); intro bx hbx; (try simp only [fb] at hbx)) | refine Pure.use (q1) ?_ | refine Pure.head (q1) ?_ | refine Pure.use (q2) ?_ | refine Pure.head (q2) ?_ | refine Pure.use (q3) ?_ | refine Pure.head (q3) ?_ | refine Pure.use (hb) ?_ | refine Pure.head (hb) ?_ | refine xj ?_ | ((with_reducible refine And.intro ?_ ?_); omega) | refine bo_buildSlice (d' := ⟨⟩) ?_ | refine xk (by kernel_rfl) ?_ | refine xf ?_ (by repeat' first | exact lr _ | assumption | refine ls ?_ ?_ | refine lt ?_ ?_ | simp only [*]; done | simp only [fb, *, not_false_eq_true, and_self]; done | exact lf ‹_› (by simp only [*])) | refine finish_two ?_ (by repeat' first | exact lr _ | assumption | refine ls ?_ ?_ | refine lt ?_ ?_ | simp only [*]; done | simp only [fb, *, not_false_eq_true, and_self]; done | exact lf ‹_› (by simp only [*])) | simp -dsimp only [↓bp, bq, br, seval, tbRScF, *])
        all_goals rfl
      · have n37 : ((d.toNat : Int) = 37) = False := u8_no h37
        rw [if_neg (by intro h; rcases h with h | h | h | h | h; exact hbl (.inl h); exact hbl (.inr (.inl h)); exact hbl (.inr (.inr (.inl h))); exact hbl (.inr (.inr (.inr h))); exact h37 h)]
        clear hbl h37 xb
        intro σ
        refine Tri.of_awp mixed Tryz.func22 rfl (by kernel_rfl) (by kernel_rfl) (by simp [Tryz.ntmps22]) Tryz.results22 ?_
        repeat' (first | refine xs ?_ ?_ <;> intros | ((first | refine xh ?_ | refine xi ?_); intro bx hbx; (try simp only [fb] at hbx)) | refine Pure.use (q1) ?_ | refine Pure.head (q1) ?_ | refine Pure.use (q2) ?_ | refine Pure.head (q2) ?_ | refine Pure.use (q3) ?_ | refine Pure.head (q3) ?_ | refine Pure.use (hb) ?_ | refine Pure.head (hb) ?_ | refine xj ?_ | ((with_reducible refine And.intro ?_ ?_); omega) | refine bo_buildSlice (d' := ⟨⟩) ?_ | refine xk (by kernel_rfl) ?_ | refine xf ?_ (by repeat' first | exact lr _ | assumption | refine ls ?_ ?_ | refine lt ?_ ?_ | simp only [*]; done | simp only [fb, *, not_false_eq_true, and_self]; done | exact lf ‹_› (by simp only [*])) | refine finish_two ?_ (by repeat' first | exact lr _ | assumption | refine ls ?_ ?_ | refine lt ?_ ?_ | simp only [*]; done | simp only [fb, *, not_false_eq_true, and_self]; done | exact lf ‹_› (by simp only [*])) | simp -dsimp only [↓bp, bq, br, seval, tbRScF, *])
        all_goals rfl
    · rw [xb] at hb hbl
      replace hbl := of_decide_eq_true hbl.symm
      rw [if_pos (by rcases hbl with h | h | h | h; exact .inl h; exact .inr (.inl h); exact .inr (.inr (.inl h)); exact .inr (.inr (.inr (.inl h))))]
      clear hbl xb
      intro σ
      refine Tri.of_awp mixed Tryz.func22 rfl (by kernel_rfl) (by kernel_rfl) (by simp [Tryz.ntmps22]) Tryz.results22 ?_
      repeat' (first | refine xs ?_ ?_ <;> intros | ((first | refine xh ?_ | refine xi ?_); intro bx hbx; (try simp only [fb] at hbx)) | refine Pure.use (q1) ?_ | refine Pure.head (q1) ?_ | refine Pure.use (q2) ?_ | refine Pure.head (q2) ?_ | refine Pure.use (q3) ?_ | refine Pure.head (q3) ?_ | refine Pure.use (hb) ?_ | refine Pure.head (hb) ?_ | refine xj ?_ | ((with_reducible refine And.intro ?_ ?_); omega) | refine bo_buildSlice (d' := ⟨⟩) ?_ | refine xk (by kernel_rfl) ?_ | refine xf ?_ (by repeat' first | exact lr _ | assumption | refine ls ?_ ?_ | refine lt ?_ ?_ | simp only [*]; done | simp only [fb, *, not_false_eq_true, and_self]; done | exact lf ‹_› (by simp only [*])) | refine finish_two ?_ (by repeat' first | exact lr _ | assumption | refine ls ?_ ?_ | refine lt ?_ ?_ | simp only [*]; done | simp only [fb, *, not_false_eq_true, and_self]; done | exact lf ‹_› (by simp only [*])) | simp -dsimp only [↓bp, bq, br, seval, tbRScF, *])
      all_goals rfl
theorem prefix_at {g s : List UInt8} {i0 : Nat} (hil : i0 < s.length) : g.isPrefixOf (s.drop i0) = true ↔ i0 + g.length ≤ s.length ∧ (s.take (i0 + g.length)).drop i0 = g := by
  rw [take_drop_sub, Nat.add_sub_cancel_left, List.isPrefixOf_iff_prefix, List.prefix_iff_eq_take]
  constructor
  · intro h
    have := congrArg List.length h
    rw [List.length_take, List.length_drop] at this
    exact ⟨by omega, h.symm⟩
  · rintro ⟨_, h⟩; exact h.symm
set_option maxHeartbeats 2000000 in
theorem rtoken_sign (s : List UInt8) (i0 : Nat) (c : UInt8) (h0 : s[i0]? = some c) (hs : s.length ≤ 1000000) (hc : (lowB c || highB c) = false) (hdc : digitB c = false) (hq : ¬ (c = 39 ∨ c = 34)) (h46 : ¬ c = 46) : Pure Tryz.prog G 22 [.str s, .int .i64 i0] (tkR i0 (tokS (s.drop i0))) := by
  have n39 : ((c.toNat : Int) = 39) = False := u8_no fun h => hq (.inl h)
  have n34 : ((c.toNat : Int) = 34) = False := u8_no fun h => hq (.inr h)
  have q1 := rlow_pure G c
  have q2 := rhigh_pure G c
  have q3 := rdigit_pure G c
  have hil := (List.getElem?_eq_some_iff.1 h0).1
  have hd := drop_get _ _ _ h0
  rw [hd, tokS_cons, if_neg (by rw [hc]; simp), if_neg (by rw [hdc]; simp)]
  simp only [Bool.or_eq_false_iff] at hc
  rw [hc.1] at q1
  rw [hc.2] at q2
  rw [hdc] at q3
  rw [if_neg hq, if_neg h46, ← hd]
  have n46 : ((c.toNat : Int) = 46) = False := u8_no h46
  clear hq hd hc hdc h46
  have hsg := rsigns_pure G
  have hL : scanSigns.length ≤ 29 := by decide
  have hg3 : ∀ g, g ∈ scanSigns → g.length ≤ 3 := fun g hg => (signs_pos g hg).2
  generalize scanSigns = L at *
  have hpf := fun g : List UInt8 => @prefix_at g s i0 hil
  generalize hS : s.drop i0 = S at *
  clear hS
  intro σ
  refine Tri.of_awp mixed Tryz.func22 rfl (by kernel_rfl) (by kernel_rfl) (by simp [Tryz.ntmps22]) Tryz.results22 ?_
  repeat' (first | refine xs ?_ ?_ <;> intros | ((first | refine xh ?_ | refine xi ?_); intro bx hbx; (try simp only [fb] at hbx)) | refine Pure.use (q1) ?_ | refine Pure.head (q1) ?_ | refine Pure.use (q2) ?_ | refine Pure.head (q2) ?_ | refine Pure.use (q3) ?_ | refine Pure.head (q3) ?_ | refine Pure.use (hsg) ?_ | refine Pure.head (hsg) ?_ | refine xj ?_ | ((with_reducible refine And.intro ?_ ?_); omega) | refine bo_buildSlice (d' := ⟨⟩) ?_ | refine xk (by kernel_rfl) ?_ | refine xf ?_ (by repeat' first | exact lr _ | assumption | refine ls ?_ ?_ | refine lt ?_ ?_ | simp only [*]; done | simp only [fb, *, not_false_eq_true, and_self]; done | exact lf ‹_› (by simp only [*])) | refine finish_two ?_ (by repeat' first | exact lr _ | assumption | refine ls ?_ ?_ | refine lt ?_ ?_ | simp only [*]; done | simp only [fb, *, not_false_eq_true, and_self]; done | exact lf ‹_› (by simp only [*])) | simp -dsimp only [↓bp, bq, br, seval, tbRScF, len_texts, ix_texts, *])
  refine loop_keep mixed (fun n e => ∃ i : Nat, i ≤ L.length ∧ n = L.length - i ∧ e 16 = .int .i64 i ∧ L.find? (fun g => g.isPrefixOf S) = (L.drop i).find? (fun g => g.isPrefixOf S)) L.length
    ⟨0, by omega, by omega, by first | (simp -dsimp only [↓bp, bq, br, seval, tbRScF]; done) | (simp -dsimp only [↓bp, bq, br, seval, tbRScF]; try rfl), by rw [List.drop_zero]⟩ ?_
  rintro n v ⟨i, hi, rfl, h16, hf⟩
  simp -dsimp only [↓bp, bq, br, seval, tbRScF] at h16
  by_cases hlt : (i : Int) < L.length
  · obtain ⟨g, hgi⟩ : ∃ g, L[i]? = some g := ⟨_, List.getElem?_eq_getElem (by omega)⟩
    have hdr := drop_get _ _ _ hgi
    have hgl := hg3 g (List.mem_of_getElem? hgi)
    rw [hdr, List.find?_cons] at hf
    have hw : IntKind.i64.wrap ((i : Int) + 1) = ((i + 1 : Nat) : Int) := by rw [wrap_nat (by omega) (by omega)]; rfl
    have hw2 : IntKind.i64.wrap ((i0 : Int) + (g.length : Int)) = ((i0 + g.length : Nat) : Int) := by rw [wrap_nat (by omega) (by omega)]; omega
    have hlt' := eq_true hlt
    have hp := hpf g
    have b1 : (i0 ≤ i0 + g.length) = True := eq_true (by omega)
    cases hx : g.isPrefixOf S
    · rw [hx] at hp hf
      simp only at hf
      have hp2 : ¬ (i0 + g.length ≤ s.length ∧ (s.take (i0 + g.length)).drop i0 = g) := fun h => by simpa using hp.2 h
      clear hdr hx hpf hL hp hg3
      by_cases hle : i0 + g.length ≤ s.length
      · have b2 := eq_true hle
        have b3 : (((i0 + g.length : Nat) : Int) ≤ s.length) = True := eq_true (by omega)
        have b4 : ((s.take (i0 + g.length)).drop i0 = g) = False := eq_false fun h => hp2 ⟨hle, h⟩
        clear hp2 hle hgl
        repeat' (first | refine xs ?_ ?_ <;> intros | ((first | refine xh ?_ | refine xi ?_); intro bx hbx; (try simp only [fb] at hbx)) | refine xj ?_ | ((with_reducible refine And.intro ?_ ?_); omega) | refine bo_buildSlice (d' := ⟨⟩) ?_ | refine xk (by kernel_rfl) ?_ | refine xf ?_ (by repeat' first | exact lr _ | assumption | refine ls ?_ ?_ | refine lt ?_ ?_ | simp only [*]; done | simp only [fb, *, not_false_eq_true, and_self]; done | exact lf ‹_› (by simp only [*])) | refine finish_two ?_ (by repeat' first | exact lr _ | assumption | refine ls ?_ ?_ | refine lt ?_ ?_ | simp only [*]; done | simp only [fb, *, not_false_eq_true, and_self]; done | exact lf ‹_› (by simp only [*])) | simp -dsimp only [↓bp, bq, br, seval, tbRScF, len_texts, ix_texts, *])
        all_goals (have hlt := of_eq_true hlt')
        all_goals exact ⟨L.length - (i + 1), by omega, i + 1, by omega, rfl, rfl, rfl⟩
      · have b3 : (((i0 + g.length : Nat) : Int) ≤ s.length) = False := eq_false (by omega)
        clear hp2 hle hgl
        repeat' (first | refine xs ?_ ?_ <;> intros | ((first | refine xh ?_ | refine xi ?_); intro bx hbx; (try simp only [fb] at hbx)) | refine xj ?_ | ((with_reducible refine And.intro ?_ ?_); omega) | refine bo_buildSlice (d' := ⟨⟩) ?_ | refine xk (by kernel_rfl) ?_ | refine xf ?_ (by repeat' first | exact lr _ | assumption | refine ls ?_ ?_ | refine lt ?_ ?_ | simp only [*]; done | simp only [fb, *, not_false_eq_true, and_self]; done | exact lf ‹_› (by simp only [*])) | refine finish_two ?_ (by repeat' first | exact lr _ | assumption | refine ls ?_ ?_ | refine lt ?_ ?_ | simp only [*]; done | simp only [fb, *, not_false_eq_true, and_self]; done | exact lf ‹_› (by simp only [*])) | simp -dsimp only [↓bp, bq, br, seval, tbRScF, len_texts, ix_texts, *])
        all_goals (have hlt := of_eq_true hlt')
        all_goals exact ⟨L.length - (i + 1), by omega, i + 1, by omega, rfl, rfl, rfl⟩
    · rw [hx] at hp hf
      simp only at hf
      rw [hf]
      obtain ⟨hle, hp2⟩ := hp.1 rfl
      have b2 := eq_true hle
      have b3 : (((i0 + g.length : Nat) : Int) ≤ s.length) = True := eq_true (by omega)
      clear hdr hx hpf hL hp hg3 hf hle hgl
      repeat' (first | refine xs ?_ ?_ <;> intros | ((first | refine xh ?_ | refine xi ?_); intro bx hbx; (try simp only [fb] at hbx)) | refine xj ?_ | ((with_reducible refine And.intro ?_ ?_); omega) | refine bo_buildSlice (d' := ⟨⟩) ?_ | refine xk (by kernel_rfl) ?_ | refine xf ?_ (by repeat' first | exact lr _ | assumption | refine ls ?_ ?_ | refine lt ?_ ?_ | simp only [*]; done | simp only [fb, *, not_false_eq_true, and_self]; done | exact lf ‹_› (by simp only [*])) | refine finish_two ?_ (by repeat' first | exact lr _ | assumption | refine ls ?_ ?_ | refine lt ?_ ?_ | simp only [*]; done | simp only [fb, *, not_false_eq_true, and_self]; done | exact lf ‹_› (by simp only [*])) | simp -dsimp only [↓bp, bq, br, seval, tbRScF, len_texts, ix_texts, *])
      all_goals rfl
  · have : i = L.length := by omega
    subst this
    rw [List.drop_eq_nil_of_le (by omega)] at hf
    have hlt' := eq_false hlt
    rw [hf]
    clear hpf hf hlt hL hi hg3
    repeat' (first | refine xs ?_ ?_ <;> intros | ((first | refine xh ?_ | refine xi ?_); intro bx hbx; (try simp only [fb] at hbx)) | refine xj ?_ | ((with_reducible refine And.intro ?_ ?_); omega) | refine bo_buildSlice (d' := ⟨⟩) ?_ | refine xk (by kernel_rfl) ?_ | refine xf ?_ (by repeat' first | exact lr _ | assumption | refine ls ?_ ?_ | refine lt ?_ ?_ | simp only [*]; done | simp only [fb, *, not_false_eq_true, and_self]; done | exact lf ‹_› (by simp only [*])) | refine finish_two ?_ (by repeat' first | exact lr _ | assumption | refine ls ?_ ?_ | refine lt ?_ ?_ | simp only [*]; done | simp only [fb, *, not_false_eq_true, and_self]; done | exact lf ‹_› (by simp only [*])) | simp -dsimp only [↓bp, bq, br, seval, tbRScF, len_texts, ix_texts, *])
    all_goals rfl
theorem rtoken_pure (s : List UInt8) (i0 : Nat) (hi : i0 < s.length) (hs : s.length ≤ 1000000) : Pure Tryz.prog G 22 [.str s, .int .i64 i0] (tkR i0 (tokS (s.drop i0))) := by
  obtain ⟨c, h0⟩ : ∃ c, s[i0]? = some c := ⟨_, List.getElem?_eq_getElem hi⟩
  by_cases h1 : (lowB c || highB c) = true
  · exact rtoken_name G s i0 c h0 hs h1
  · have h1 : (lowB c || highB c) = false := by simpa using h1
    by_cases h3 : digitB c = true
    · exact rtoken_digit G s i0 c h0 hs h1 h3
    · have h3 : digitB c = false := by simpa using h3
      by_cases h4 : c = 39 ∨ c = 34
      · exact rtoken_quote G s i0 c h0 hs h1 h3 h4
      · by_cases h5 : c = 46
        · exact rtoken_dot G s i0 c h0 hs h1 h3 h4 h5
        · exact rtoken_sign G s i0 c h0 hs h1 h3 h4 h5
end
end Go.Proofs.YtldmniappliepaaGreatDoor
