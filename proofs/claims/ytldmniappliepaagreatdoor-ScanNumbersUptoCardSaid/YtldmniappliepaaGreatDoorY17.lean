/- What a call has made may be told as what it holds. -/
import Derived.Test.YtldmniappliepaaGreatDoorY16
import Derived.Test.YtldmniappliepaaGreatDoorY15
set_option linter.unusedVariables false
set_option linter.unusedSimpArgs false
set_option linter.defProp false
namespace Go.Av
open Go Go.RowKit
section
variable {P : Program} {e : Env} {σ : AS}
theorem ares_tmpc {t : Tmp} {r : ResultVar} {rs : List ResultVar} : ares P e σ (.tmp t :: r :: rs) = (ares P e σ (r :: rs)).map (e t :: ·) := by
  rw [ares]
  simp only [ares1]
  cases ares P e σ (r :: rs) <;> rfl
theorem ares_cellc {t : Tmp} {ty : TypeId} {r : ResultVar} {rs : List ResultVar} : ares P e σ (.cell t ty :: r :: rs) = (aload P σ ty (e t)).bind fun x => (ares P e σ (r :: rs)).map (x :: ·) := by
  rw [ares]
  simp only [ares1]
  cases aload P σ ty (e t) <;> cases ares P e σ (r :: rs) <;> rfl
end
theorem AS.le.noBox {σ σ' : AS} (h : σ.le σ') {b : Nat} (hb : σ'.box b = none) : σ.box b = none := by
  cases e : σ.box b with
  | none => rfl
  | some z => rw [h.box _ _ e] at hb; cases hb
theorem AS.le.noTip {σ σ' : AS} (h : σ.le σ') {b : Nat} (hb : σ'.tip b = none) : σ.tip b = none := by
  cases e : σ.tip b with
  | none => rfl
  | some z => rw [h.tip _ _ e] at hb; cases hb
end Go.Av
set_option maxRecDepth 20000
namespace Go.Proofs.YtldmniappliepaaGreatDoor
open Go Go.Av
def tbScnC := And.intro (And.intro @tf3 (And.intro @tf4 @tf5)) (And.intro (And.intro @tf9 @tf37) (And.intro @tf129 @tf89))
variable (G : Nat → AV)
theorem bytesA_snoc (t : List UInt8) (c : UInt8) : bytesA (t ++ [c]) = bytesA t ++ [byteA c] := by simp [bytesA]
theorem bytesOf_map : ∀ t : List UInt8, bytesOf (bytesA t) = some t
  | [] => rfl
  | c :: t => by
    have ih := bytesOf_map t
    have h := c.toNat_lt
    unfold bytesA at ih ⊢
    rw [List.map_cons]
    unfold bytesOf
    rw [ih]
    have e : Av.byteOf (byteA c) = some c := by
      show some (UInt8.ofNat (c.toNat : Int).toNat) = some c
      rw [Int.toNat_natCast, UInt8.ofNat_toNat]
    rw [e]
theorem finish_le2 {a b v : AV} {l : List AV} {σ σ' : AS} {d : Dum σ} {d' : Dum fun x s => Le x v ∧ s = σ'} (h2 : Le (AV.tup (a :: b :: l)) v) (h1 : σ'.le σ) : finishW (some (a :: b :: l)) σ (fun x s => Le x v ∧ s = σ') d d' := ⟨_, σ', rfl, h1, h2, rfl⟩
theorem buf_text {n : Nat} {σ0 σ : AS} {v : AV} {t : List UInt8} (h : Buf n σ0 σ v (bytesA t)) {K : AV → Prop} {d : Dum K} (hK : K (.str t)) : bo (aconvZ Tryz.prog σ 37 9 v) K d := by
  have hx := bytesOf_map t
  rcases h.isNil with ⟨h0, rfl⟩ | ⟨b, rfl⟩
  · have : t = [] := by simpa [bytesA] using h0
    subst this
    rw [aconvZ_nil]
    refine ⟨.str [], ?_, hK⟩
    simp [tf37, tf5, tf9, cvb_some, bytesOf]
  · rw [aconvZ_sl]
    refine ⟨.str t, ?_, hK⟩
    simp [tf37, tf5, tf9, cvb_some, hx]
def qText (o : Option (List UInt8 × Nat)) : List UInt8 := match o with | some p => p.1 | none => []
def qNum (o : Option (List UInt8 × Nat)) : Nat := match o with | some p => p.2 + 1 | none => 0
def qPre (t : List UInt8) (k : Nat) (o : Option (List UInt8 × Nat)) : Option (List UInt8 × Nat) := o.map fun p => (t ++ p.1, p.2 + k)
theorem qPre_map (t : List UInt8) (k : Nat) (c : UInt8) (m : Nat) (o : Option (List UInt8 × Nat)) : qPre t k (o.map fun p => (c :: p.1, p.2 + m)) = qPre (t ++ [c]) (k + m) o := by
  cases o with
  | none => rfl
  | some p => simp [qPre]; omega
theorem escB_iff (e : UInt8) : escB e = if (e.toNat : Int) = 110 then some 10 else if (e.toNat : Int) = 116 then some 9 else if (e.toNat : Int) = 92 ∨ (e.toNat : Int) = 39 ∨ (e.toNat : Int) = 34 then some e else none := by
  have key : ∀ k : UInt8, (e = k) ↔ (e.toNat : Int) = k.toNat := fun k => ⟨fun h => by rw [h], fun h => UInt8.toNat_inj.1 (by omega)⟩
  unfold escB
  simp only [key]
  rfl
set_option maxHeartbeats 4000000 in
theorem quoted_pure (q : UInt8) (r : List UInt8) (hq : q = 39 ∨ q = 34) (hr : r.length ≤ 1000000) : Pure Tryz.prog G 42 [.str (q :: r)] (.tup [.str (qText (qscan q r)), .int .i64 (qNum (qscan q r))]) := by
  refine Pure.of_le fun σ => ?_
  have h0 : (q :: r)[0]? = some q := rfl
  have hd1 : (q :: r).drop 1 = r := rfl
  have hsl : (q :: r).length = r.length + 1 := rfl
  generalize hs : q :: r = s at *
  have hl : s.length ≤ 1000001 := by omega
  have hl1 : 1 ≤ s.length := by omega
  clear hs hsl hr
  refine Tri.of_awp mixed Tryz.func42 rfl (by kernel_rfl) (by kernel_rfl) (by simp [Tryz.ntmps42]) Tryz.results42 ?_
  simp -dsimp only [↓bp, bq, br, seval, tbScnC]
  refine loop_intro (fun n e σ' => ∃ (i : Nat) (v : AV) (t : List UInt8), 1 ≤ i ∧ i ≤ s.length ∧ t.length < i ∧ n = s.length - i ∧ e 5 = .int .i64 i ∧ e 4 = v ∧ Buf 1 σ σ' v (bytesA t) ∧ qscan q r = qPre t (i - 1) (qscan q (s.drop i))) (s.length - 1)
    ⟨1, .nil, [], by omega, by omega, by simp, by omega, by simp -dsimp only [↓bp, bq, br, seval, tbScnC]; first | done | rfl, by simp -dsimp only [↓bp, bq, br, seval, tbScnC]; first | done | rfl, .nil (AS.le.refl σ), by rw [hd1]; cases qscan q r <;> simp [qPre]⟩ ?_
  rintro n e σ2 ⟨i, v, t, hi1, hi, hti, rfl, h5, h4, hB, hQ⟩
  simp -dsimp only [↓bp, bq, br, seval, tbScnC] at h5 h4
  have fin : ∀ n : Int, σ.le σ2 := fun _ => hB.le
  by_cases hlt : (i : Int) < s.length
  · obtain ⟨c, hc⟩ : ∃ c, s[i]? = some c := ⟨_, List.getElem?_eq_getElem (by omega)⟩
    have hw : IntKind.i64.wrap ((i : Int) + 1) = ((i + 1 : Nat) : Int) := by rw [wrap_nat (by omega) (by omega)]; rfl
    have hlt' := eq_true hlt
    rw [drop_get _ _ _ hc, qscan_cons] at hQ
    by_cases c1 : c = q
    · subst c1
      rw [if_pos rfl] at hQ
      rw [hQ]
      have hle := hB.le
      simp only [qPre, Option.map_some, qText, qNum, List.append_nil]
      have e1 : ((1 + (i - 1) + 1 : Nat) : Int) = ((i + 1 : Nat) : Int) := by omega
      rw [e1]
      have hc2 := hc
      clear hQ hlt
      repeat' (first | refine xs ?_ ?_ <;> intros | ((first | refine xh ?_ | refine xi ?_); intro bx hbx; (try simp only [fb] at hbx)) | (refine buf_text hB ?_) | refine xj ?_ | refine cv_plain ?_ | ((with_reducible refine And.intro ?_ ?_); omega) | refine bo_buildSlice (d' := ⟨⟩) ?_ | refine xk (by kernel_rfl) ?_ | refine xf ?_ (by repeat' first | exact lr _ | assumption | refine ls ?_ ?_ | refine lt ?_ ?_ | simp only [*]; done | simp only [fb, *, not_false_eq_true, and_self]; done | exact lf ‹_› (by simp only [*])) | refine finish_two ?_ (by repeat' first | exact lr _ | assumption | refine ls ?_ ?_ | refine lt ?_ ?_ | simp only [*]; done | simp only [fb, *, not_false_eq_true, and_self]; done | exact lf ‹_› (by simp only [*])) | simp -dsimp only [↓bp, bq, br, seval, tbScnC, *] | refine cv_any ?_)
      all_goals exact finish_le2 (Le.refl _) hle
    rw [if_neg c1] at hQ
    have n1 : ((c.toNat : Int) = q.toNat) = False := eq_false fun h => c1 (UInt8.toNat_inj.1 (by omega))
    by_cases c2 : c.toNat < 32
    · rw [if_pos c2] at hQ
      have n2 : ((c.toNat : Int) < 32) = True := eq_true (by omega)
      rw [hQ]
      have hle := hB.le
      clear hQ hlt c1 hB
      repeat' (first | refine xs ?_ ?_ <;> intros | ((first | refine xh ?_ | refine xi ?_); intro bx hbx; (try simp only [fb] at hbx)) | refine xj ?_ | refine cv_plain ?_ | ((with_reducible refine And.intro ?_ ?_); omega) | refine bo_buildSlice (d' := ⟨⟩) ?_ | refine xk (by kernel_rfl) ?_ | refine xf ?_ (by repeat' first | exact lr _ | assumption | refine ls ?_ ?_ | refine lt ?_ ?_ | simp only [*]; done | simp only [fb, *, not_false_eq_true, and_self]; done | exact lf ‹_› (by simp only [*])) | refine finish_two ?_ (by repeat' first | exact lr _ | assumption | refine ls ?_ ?_ | refine lt ?_ ?_ | simp only [*]; done | simp only [fb, *, not_false_eq_true, and_self]; done | exact lf ‹_› (by simp only [*])) | simp -dsimp only [↓bp, bq, br, seval, tbScnC, *] | refine cv_any ?_)
      all_goals exact finish_le2 (Le.refl _) hle
    rw [if_neg c2] at hQ
    have n2 : ((c.toNat : Int) < 32) = False := eq_false (by omega)
    by_cases c3 : c = 92
    · rw [if_pos c3] at hQ
      have n3 : ((c.toNat : Int) = 92) = True := eq_true (by rw [c3]; rfl)
      by_cases hlt2 : i + 1 < s.length
      · obtain ⟨e1, he1⟩ : ∃ e1, s[i + 1]? = some e1 := ⟨_, List.getElem?_eq_getElem hlt2⟩
        rw [drop_get _ _ _ he1] at hQ
        simp only [escB_iff] at hQ
        have m1 : (((i + 1 : Nat) : Int) = s.length) = False := eq_false (by omega)
        have hw2 : IntKind.i64.wrap (((i + 1 : Nat) : Int) + 1) = ((i + 2 : Nat) : Int) := by rw [wrap_nat (by omega) (by omega)]; rfl
        clear hlt c1 c2 c3
        by_cases k1 : (e1.toNat : Int) = 110
        · rw [if_pos k1] at hQ
          simp only [qPre_map] at hQ
          rw [show i - 1 + 2 = i + 2 - 1 by omega] at hQ
          have k1' := eq_true k1
          clear k1
          repeat' (first | refine xs ?_ ?_ <;> intros | ((first | refine xh ?_ | refine xi ?_); intro bx hbx; (try simp only [fb] at hbx)) | (refine build_one tfB (a := .int .u8 10) rfl rfl (by omega) ?_) | (refine app_buf (ys := [.int .u8 10]) hB tfB (asrc_sl tfBE) (fun a ha => by simp at ha; subst ha; rfl) (by rw [bytesA_len]; simp only [List.length_cons, List.length_nil]; omega) (fun v3 σ3 hB4 hx4 => ?_)) | refine xj ?_ | refine cv_plain ?_ | ((with_reducible refine And.intro ?_ ?_); omega) | refine bo_buildSlice (d' := ⟨⟩) ?_ | refine xk (by kernel_rfl) ?_ | refine xf ?_ (by repeat' first | exact lr _ | assumption | refine ls ?_ ?_ | refine lt ?_ ?_ | simp only [*]; done | simp only [fb, *, not_false_eq_true, and_self]; done | exact lf ‹_› (by simp only [*])) | refine finish_two ?_ (by repeat' first | exact lr _ | assumption | refine ls ?_ ?_ | refine lt ?_ ?_ | simp only [*]; done | simp only [fb, *, not_false_eq_true, and_self]; done | exact lf ‹_› (by simp only [*])) | simp -dsimp only [↓bp, bq, br, seval, tbScnC, *] | refine cv_any ?_)
          all_goals exact ⟨s.length - (i + 2), by omega, i + 2, v3, t ++ [10], by omega, by omega, by rw [List.length_append, List.length_singleton]; omega, by omega, rfl, rfl, by rw [bytesA_snoc]; exact hB4, rfl⟩
        rw [if_neg k1] at hQ
        have k1' := eq_false k1
        clear k1
        by_cases k2 : (e1.toNat : Int) = 116
        · rw [if_pos k2] at hQ
          simp only [qPre_map] at hQ
          rw [show i - 1 + 2 = i + 2 - 1 by omega] at hQ
          have k2' := eq_true k2
          clear k2
          repeat' (first | refine xs ?_ ?_ <;> intros | ((first | refine xh ?_ | refine xi ?_); intro bx hbx; (try simp only [fb] at hbx)) | (refine build_one tfB (a := .int .u8 9) rfl rfl (by omega) ?_) | (refine app_buf (ys := [.int .u8 9]) hB tfB (asrc_sl tfBE) (fun a ha => by simp at ha; subst ha; rfl) (by rw [bytesA_len]; simp only [List.length_cons, List.length_nil]; omega) (fun v3 σ3 hB4 hx4 => ?_)) | refine xj ?_ | refine cv_plain ?_ | ((with_reducible refine And.intro ?_ ?_); omega) | refine bo_buildSlice (d' := ⟨⟩) ?_ | refine xk (by kernel_rfl) ?_ | refine xf ?_ (by repeat' first | exact lr _ | assumption | refine ls ?_ ?_ | refine lt ?_ ?_ | simp only [*]; done | simp only [fb, *, not_false_eq_true, and_self]; done | exact lf ‹_› (by simp only [*])) | refine finish_two ?_ (by repeat' first | exact lr _ | assumption | refine ls ?_ ?_ | refine lt ?_ ?_ | simp only [*]; done | simp only [fb, *, not_false_eq_true, and_self]; done | exact lf ‹_› (by simp only [*])) | simp -dsimp only [↓bp, bq, br, seval, tbScnC, *] | refine cv_any ?_)
          all_goals exact ⟨s.length - (i + 2), by omega, i + 2, v3, t ++ [9], by omega, by omega, by rw [List.length_append, List.length_singleton]; omega, by omega, rfl, rfl, by rw [bytesA_snoc]; exact hB4, rfl⟩
        rw [if_neg k2] at hQ
        have k2' := eq_false k2
        clear k2
        by_cases k3 : (e1.toNat : Int) = 92 ∨ (e1.toNat : Int) = 39 ∨ (e1.toNat : Int) = 34
        · rw [if_pos k3] at hQ
          simp only [qPre_map] at hQ
          rw [show i - 1 + 2 = i + 2 - 1 by omega] at hQ
          rcases k3 with k3 | k3 | k3
          · have k3' := eq_true k3
            clear k3
            repeat' (first | refine xs ?_ ?_ <;> intros | ((first | refine xh ?_ | refine xi ?_); intro bx hbx; (try simp only [fb] at hbx)) | (refine build_one tfB (a := byteA e1) rfl rfl (by omega) ?_) | (refine app_buf (ys := [byteA e1]) hB tfB (asrc_sl tfBE) (fun a ha => by simp at ha; subst ha; rfl) (by rw [bytesA_len]; simp only [List.length_cons, List.length_nil]; omega) (fun v3 σ3 hB4 hx4 => ?_)) | refine xj ?_ | refine cv_plain ?_ | ((with_reducible refine And.intro ?_ ?_); omega) | refine bo_buildSlice (d' := ⟨⟩) ?_ | refine xk (by kernel_rfl) ?_ | refine xf ?_ (by repeat' first | exact lr _ | assumption | refine ls ?_ ?_ | refine lt ?_ ?_ | simp only [*]; done | simp only [fb, *, not_false_eq_true, and_self]; done | exact lf ‹_› (by simp only [*])) | refine finish_two ?_ (by repeat' first | exact lr _ | assumption | refine ls ?_ ?_ | refine lt ?_ ?_ | simp only [*]; done | simp only [fb, *, not_false_eq_true, and_self]; done | exact lf ‹_› (by simp only [*])) | simp -dsimp only [↓bp, bq, br, seval, tbScnC, *] | refine cv_any ?_)
            all_goals exact ⟨s.length - (i + 2), by omega, i + 2, v3, t ++ [e1], by omega, by omega, by rw [List.length_append, List.length_singleton]; omega, by omega, rfl, rfl, by rw [bytesA_snoc]; exact hB4, rfl⟩
          · have k3' := eq_false (show ¬ (e1.toNat : Int) = 92 by omega)
            have k4' := eq_true k3
            clear k3
            repeat' (first | refine xs ?_ ?_ <;> intros | ((first | refine xh ?_ | refine xi ?_); intro bx hbx; (try simp only [fb] at hbx)) | (refine build_one tfB (a := byteA e1) rfl rfl (by omega) ?_) | (refine app_buf (ys := [byteA e1]) hB tfB (asrc_sl tfBE) (fun a ha => by simp at ha; subst ha; rfl) (by rw [bytesA_len]; simp only [List.length_cons, List.length_nil]; omega) (fun v3 σ3 hB4 hx4 => ?_)) | refine xj ?_ | refine cv_plain ?_ | ((with_reducible refine And.intro ?_ ?_); omega) | refine bo_buildSlice (d' := ⟨⟩) ?_ | refine xk (by kernel_rfl) ?_ | refine xf ?_ (by repeat' first | exact lr _ | assumption | refine ls ?_ ?_ | refine lt ?_ ?_ | simp only [*]; done | simp only [fb, *, not_false_eq_true, and_self]; done | exact lf ‹_› (by simp only [*])) | refine finish_two ?_ (by repeat' first | exact lr _ | assumption | refine ls ?_ ?_ | refine lt ?_ ?_ | simp only [*]; done | simp only [fb, *, not_false_eq_true, and_self]; done | exact lf ‹_› (by simp only [*])) | simp -dsimp only [↓bp, bq, br, seval, tbScnC, *] | refine cv_any ?_)
            all_goals exact ⟨s.length - (i + 2), by omega, i + 2, v3, t ++ [e1], by omega, by omega, by rw [List.length_append, List.length_singleton]; omega, by omega, rfl, rfl, by rw [bytesA_snoc]; exact hB4, rfl⟩
          · have k3' := eq_false (show ¬ (e1.toNat : Int) = 92 by omega)
            have k4' := eq_false (show ¬ (e1.toNat : Int) = 39 by omega)
            have k5' := eq_true k3
            clear k3
            repeat' (first | refine xs ?_ ?_ <;> intros | ((first | refine xh ?_ | refine xi ?_); intro bx hbx; (try simp only [fb] at hbx)) | (refine build_one tfB (a := byteA e1) rfl rfl (by omega) ?_) | (refine app_buf (ys := [byteA e1]) hB tfB (asrc_sl tfBE) (fun a ha => by simp at ha; subst ha; rfl) (by rw [bytesA_len]; simp only [List.length_cons, List.length_nil]; omega) (fun v3 σ3 hB4 hx4 => ?_)) | refine xj ?_ | refine cv_plain ?_ | ((with_reducible refine And.intro ?_ ?_); omega) | refine bo_buildSlice (d' := ⟨⟩) ?_ | refine xk (by kernel_rfl) ?_ | refine xf ?_ (by repeat' first | exact lr _ | assumption | refine ls ?_ ?_ | refine lt ?_ ?_ | simp only [*]; done | simp only [fb, *, not_false_eq_true, and_self]; done | exact lf ‹_› (by simp only [*])) | refine finish_two ?_ (by repeat' first | exact lr _ | assumption | refine ls ?_ ?_ | refine lt ?_ ?_ | simp only [*]; done | simp only [fb, *, not_false_eq_true, and_self]; done | exact lf ‹_› (by simp only [*])) | simp -dsimp only [↓bp, bq, br, seval, tbScnC, *] | refine cv_any ?_)
            all_goals exact ⟨s.length - (i + 2), by omega, i + 2, v3, t ++ [e1], by omega, by omega, by rw [List.length_append, List.length_singleton]; omega, by omega, rfl, rfl, by rw [bytesA_snoc]; exact hB4, rfl⟩
        rw [if_neg k3] at hQ
        have k3' := eq_false (show ¬ (e1.toNat : Int) = 92 by omega)
        have k4' := eq_false (show ¬ (e1.toNat : Int) = 39 by omega)
        have k5' := eq_false (show ¬ (e1.toNat : Int) = 34 by omega)
        clear k3
        by_cases k6 : e1 = 120
        · rw [if_pos k6] at hQ
          have k6' : ((e1.toNat : Int) = 120) = True := eq_true (by rw [k6]; rfl)
          have hw3 : IntKind.i64.wrap (((i + 1 : Nat) : Int) + 2) = ((i + 3 : Nat) : Int) := by rw [wrap_nat (by omega) (by omega)]; omega
          have hw4 : IntKind.i64.wrap (((i + 1 : Nat) : Int) + 3) = ((i + 4 : Nat) : Int) := by rw [wrap_nat (by omega) (by omega)]; omega
          have hw5 : IntKind.i64.wrap (((i + 3 : Nat) : Int) + 1) = ((i + 4 : Nat) : Int) := by rw [wrap_nat (by omega) (by omega)]; omega
          by_cases hl3 : i + 3 < s.length
          · have m3 : ((s.length : Int) ≤ ((i + 3 : Nat) : Int)) = False := eq_false (by omega)
            obtain ⟨h, hh⟩ : ∃ h, s[i + 2]? = some h := ⟨_, List.getElem?_eq_getElem (by omega)⟩
            obtain ⟨l, hhl⟩ : ∃ l, s[i + 3]? = some l := ⟨_, List.getElem?_eq_getElem (by omega)⟩
            have hsl : (s.take (i + 4)).drop (i + 2) = [h, l] := by
              rw [take_succ_get s (i + 3) l hhl, take_succ_get s (i + 2) h hh, List.append_assoc, List.drop_append_of_le_length (by rw [List.length_take]; omega), List.drop_eq_nil_of_le (by rw [List.length_take]; omega)]
              rfl
            have ht := strim_pure G [h, l] hexS (by simp) (by decide) (by decide)
            have hT := trim_hex h l
            rw [drop_get _ _ _ hh, drop_get _ _ _ hhl] at hQ
            simp only at hQ
            generalize Lib.trimS [h, l] hexS = T at *
            unfold hexS at ht
            have s1 : (i + 2 ≤ i + 4) = True := eq_true (by omega)
            have s2 : (i + 4 ≤ s.length) = True := eq_true (by omega)
            by_cases hx : (hexB h && hexB l) = true
            · rw [hx] at hT
              have hT' : (T = []) = True := by simpa using hT
              have hx2 := hx
              simp only [Bool.and_eq_true] at hx2
              rw [if_pos hx] at hQ
              simp only [qPre_map] at hQ
              rw [show i - 1 + 4 = i + 4 - 1 by omega] at hQ
              have hp := parse_pure G h l hx2.1 hx2.2
              have hb1 := hex_lt h hx2.1
              have hb2 := hex_lt l hx2.2
              have hv : IntKind.u8.wrap ((16 * hexV h + hexV l : Nat) : Int) = ((UInt8.ofNat (16 * hexV h + hexV l)).toNat : Int) := by
                rw [UInt8.toNat_ofNat_of_lt' (by show _ < 256; omega)]
                unfold IntKind.wrap; simp [IntKind.signed, IntKind.bits]; omega
              generalize UInt8.ofNat (16 * hexV h + hexV l) = x at *
              clear hT hx hx2 hb1 hb2 hlt2 hh hhl k6
              repeat' (first | refine xs ?_ ?_ <;> intros | ((first | refine xh ?_ | refine xi ?_); intro bx hbx; (try simp only [fb] at hbx)) | refine Pure.use (ht) ?_ | refine Pure.head (ht) ?_ | refine Pure.use (hp) ?_ | refine Pure.head (hp) ?_ | (refine build_one tfB (a := byteA x) rfl rfl (by omega) ?_) | (refine app_buf (ys := [byteA x]) hB tfB (asrc_sl tfBE) (fun a ha => by simp at ha; subst ha; rfl) (by rw [bytesA_len]; simp only [List.length_cons, List.length_nil]; omega) (fun v3 σ3 hB4 hx4 => ?_)) | refine xj ?_ | refine cv_plain ?_ | ((with_reducible refine And.intro ?_ ?_); omega) | refine bo_buildSlice (d' := ⟨⟩) ?_ | refine xk (by kernel_rfl) ?_ | refine xf ?_ (by repeat' first | exact lr _ | assumption | refine ls ?_ ?_ | refine lt ?_ ?_ | simp only [*]; done | simp only [fb, *, not_false_eq_true, and_self]; done | exact lf ‹_› (by simp only [*])) | refine finish_two ?_ (by repeat' first | exact lr _ | assumption | refine ls ?_ ?_ | refine lt ?_ ?_ | simp only [*]; done | simp only [fb, *, not_false_eq_true, and_self]; done | exact lf ‹_› (by simp only [*])) | simp -dsimp only [↓bp, bq, br, seval, tbScnC, *] | refine cv_any ?_)
              all_goals exact ⟨s.length - (i + 4), by omega, i + 4, v3, t ++ [x], by omega, by omega, by rw [List.length_append, List.length_singleton]; omega, by omega, rfl, rfl, by rw [bytesA_snoc]; exact hB4, rfl⟩
            · have hx : (hexB h && hexB l) = false := by simpa using hx
              rw [hx] at hT hQ
              have hT' : (T = []) = False := by simpa using hT
              simp only [Bool.false_eq_true, if_false] at hQ
              rw [hQ]
              have hle := hB.le
              clear hQ hT hx hlt2 hh hhl hB
              repeat' (first | refine xs ?_ ?_ <;> intros | ((first | refine xh ?_ | refine xi ?_); intro bx hbx; (try simp only [fb] at hbx)) | refine Pure.use (ht) ?_ | refine Pure.head (ht) ?_ | refine xj ?_ | refine cv_plain ?_ | ((with_reducible refine And.intro ?_ ?_); omega) | refine bo_buildSlice (d' := ⟨⟩) ?_ | refine xk (by kernel_rfl) ?_ | refine xf ?_ (by repeat' first | exact lr _ | assumption | refine ls ?_ ?_ | refine lt ?_ ?_ | simp only [*]; done | simp only [fb, *, not_false_eq_true, and_self]; done | exact lf ‹_› (by simp only [*])) | refine finish_two ?_ (by repeat' first | exact lr _ | assumption | refine ls ?_ ?_ | refine lt ?_ ?_ | simp only [*]; done | simp only [fb, *, not_false_eq_true, and_self]; done | exact lf ‹_› (by simp only [*])) | simp -dsimp only [↓bp, bq, br, seval, tbScnC, *] | refine cv_any ?_)
              all_goals exact finish_le2 (Le.refl _) hle
          · have m3 : ((s.length : Int) ≤ ((i + 3 : Nat) : Int)) = True := eq_true (by omega)
            have hQ2 : qscan q r = none := by
              rw [hQ]
              have : (s.drop (i + 2)).length ≤ 1 := by rw [List.length_drop]; omega
              match s.drop (i + 2), this with
              | [], _ => rfl
              | [_], _ => rfl
            rw [hQ2]
            have hle := hB.le
            clear hQ hQ2 hlt2 hB
            repeat' (first | refine xs ?_ ?_ <;> intros | ((first | refine xh ?_ | refine xi ?_); intro bx hbx; (try simp only [fb] at hbx)) | refine xj ?_ | refine cv_plain ?_ | ((with_reducible refine And.intro ?_ ?_); omega) | refine bo_buildSlice (d' := ⟨⟩) ?_ | refine xk (by kernel_rfl) ?_ | refine xf ?_ (by repeat' first | exact lr _ | assumption | refine ls ?_ ?_ | refine lt ?_ ?_ | simp only [*]; done | simp only [fb, *, not_false_eq_true, and_self]; done | exact lf ‹_› (by simp only [*])) | refine finish_two ?_ (by repeat' first | exact lr _ | assumption | refine ls ?_ ?_ | refine lt ?_ ?_ | simp only [*]; done | simp only [fb, *, not_false_eq_true, and_self]; done | exact lf ‹_› (by simp only [*])) | simp -dsimp only [↓bp, bq, br, seval, tbScnC, *] | refine cv_any ?_)
            all_goals exact finish_le2 (Le.refl _) hle
        · rw [if_neg k6] at hQ
          have k6' : ((e1.toNat : Int) = 120) = False := eq_false fun h => k6 (UInt8.toNat_inj.1 (show e1.toNat = (120 : UInt8).toNat by rw [show (120 : UInt8).toNat = 120 from rfl]; omega))
          rw [hQ]
          have hle := hB.le
          clear hQ hlt2 hB k6
          repeat' (first | refine xs ?_ ?_ <;> intros | ((first | refine xh ?_ | refine xi ?_); intro bx hbx; (try simp only [fb] at hbx)) | refine xj ?_ | refine cv_plain ?_ | ((with_reducible refine And.intro ?_ ?_); omega) | refine bo_buildSlice (d' := ⟨⟩) ?_ | refine xk (by kernel_rfl) ?_ | refine xf ?_ (by repeat' first | exact lr _ | assumption | refine ls ?_ ?_ | refine lt ?_ ?_ | simp only [*]; done | simp only [fb, *, not_false_eq_true, and_self]; done | exact lf ‹_› (by simp only [*])) | refine finish_two ?_ (by repeat' first | exact lr _ | assumption | refine ls ?_ ?_ | refine lt ?_ ?_ | simp only [*]; done | simp only [fb, *, not_false_eq_true, and_self]; done | exact lf ‹_› (by simp only [*])) | simp -dsimp only [↓bp, bq, br, seval, tbScnC, *] | refine cv_any ?_)
          all_goals exact finish_le2 (Le.refl _) hle
      · have m1 : (((i + 1 : Nat) : Int) = s.length) = True := eq_true (by omega)
        rw [List.drop_eq_nil_of_le (by omega)] at hQ
        simp only at hQ
        rw [hQ]
        have hle := hB.le
        clear hQ hlt hlt2 hB c1 c2 c3
        repeat' (first | refine xs ?_ ?_ <;> intros | ((first | refine xh ?_ | refine xi ?_); intro bx hbx; (try simp only [fb] at hbx)) | refine xj ?_ | refine cv_plain ?_ | ((with_reducible refine And.intro ?_ ?_); omega) | refine bo_buildSlice (d' := ⟨⟩) ?_ | refine xk (by kernel_rfl) ?_ | refine xf ?_ (by repeat' first | exact lr _ | assumption | refine ls ?_ ?_ | refine lt ?_ ?_ | simp only [*]; done | simp only [fb, *, not_false_eq_true, and_self]; done | exact lf ‹_› (by simp only [*])) | refine finish_two ?_ (by repeat' first | exact lr _ | assumption | refine ls ?_ ?_ | refine lt ?_ ?_ | simp only [*]; done | simp only [fb, *, not_false_eq_true, and_self]; done | exact lf ‹_› (by simp only [*])) | simp -dsimp only [↓bp, bq, br, seval, tbScnC, *] | refine cv_any ?_)
        all_goals exact finish_le2 (Le.refl _) hle
    · rw [if_neg c3] at hQ
      have n3 : ((c.toNat : Int) = 92) = False := eq_false fun h => c3 (UInt8.toNat_inj.1 (show c.toNat = (92 : UInt8).toNat by rw [show (92 : UInt8).toNat = 92 from rfl]; omega))
      simp only [qPre_map] at hQ
      rw [show i - 1 + 1 = i + 1 - 1 by omega] at hQ
      clear c1 c2 c3
      repeat' (first | refine xs ?_ ?_ <;> intros | ((first | refine xh ?_ | refine xi ?_); intro bx hbx; (try simp only [fb] at hbx)) | (refine build_one tfB (a := byteA c) rfl rfl (by omega) ?_) | (refine app_buf (ys := [byteA c]) hB tfB (asrc_sl tfBE) (fun a ha => by simp at ha; subst ha; rfl) (by rw [bytesA_len]; simp only [List.length_cons, List.length_nil]; omega) (fun v3 σ3 hB4 hx4 => ?_)) | refine xj ?_ | refine cv_plain ?_ | ((with_reducible refine And.intro ?_ ?_); omega) | refine bo_buildSlice (d' := ⟨⟩) ?_ | refine xk (by kernel_rfl) ?_ | refine xf ?_ (by repeat' first | exact lr _ | assumption | refine ls ?_ ?_ | refine lt ?_ ?_ | simp only [*]; done | simp only [fb, *, not_false_eq_true, and_self]; done | exact lf ‹_› (by simp only [*])) | refine finish_two ?_ (by repeat' first | exact lr _ | assumption | refine ls ?_ ?_ | refine lt ?_ ?_ | simp only [*]; done | simp only [fb, *, not_false_eq_true, and_self]; done | exact lf ‹_› (by simp only [*])) | simp -dsimp only [↓bp, bq, br, seval, tbScnC, *] | refine cv_any ?_)
      all_goals exact ⟨s.length - (i + 1), by omega, i + 1, v3, t ++ [c], by omega, by omega, by rw [List.length_append, List.length_singleton]; omega, by omega, rfl, rfl, by rw [bytesA_snoc]; exact hB4, rfl⟩
  · have : i = s.length := by omega
    subst this
    rw [List.drop_length] at hQ
    have hlt' := eq_false hlt
    rw [hQ]
    have hle := hB.le
    clear hQ hlt hB
    repeat' (first | refine xs ?_ ?_ <;> intros | ((first | refine xh ?_ | refine xi ?_); intro bx hbx; (try simp only [fb] at hbx)) | refine xj ?_ | refine cv_plain ?_ | ((with_reducible refine And.intro ?_ ?_); omega) | refine bo_buildSlice (d' := ⟨⟩) ?_ | refine xk (by kernel_rfl) ?_ | refine xf ?_ (by repeat' first | exact lr _ | assumption | refine ls ?_ ?_ | refine lt ?_ ?_ | simp only [*]; done | simp only [fb, *, not_false_eq_true, and_self]; done | exact lf ‹_› (by simp only [*])) | refine finish_two ?_ (by repeat' first | exact lr _ | assumption | refine ls ?_ ?_ | refine lt ?_ ?_ | simp only [*]; done | simp only [fb, *, not_false_eq_true, and_self]; done | exact lf ‹_› (by simp only [*])) | simp -dsimp only [↓bp, bq, br, seval, tbScnC, *] | refine cv_any ?_)
    all_goals exact finish_le2 (Le.refl _) hle
end Go.Proofs.YtldmniappliepaaGreatDoor
set_option maxRecDepth 20000
namespace Go.Proofs.YtldmniappliepaaGreatDoor
open Go Go.Av
def tbRScC := And.intro (And.intro @tf3 (And.intro @tf4 @tf5)) (And.intro (And.intro @tf9 @tf37) (And.intro @ares_tmpc @ares_cellc))
variable (G : Nat → AV)
def rqV (i0 : Nat) : Option (List UInt8 × Nat) → AV
  | some p => .tup [.str p.1, .int .i64 (i0 + 1 + p.2 : Nat), .bool true]
  | none => .tup [.str [], .int .i64 0, .bool false]
set_option maxHeartbeats 4000000 in
theorem rquoted_pure (s : List UInt8) (i0 : Nat) (q : UInt8) (h0 : s[i0]? = some q) (hq : q = 39 ∨ q = 34) (hs : s.length ≤ 1000000) : Pure Tryz.prog G 49 [.str s, .int .i64 i0] (rqV i0 (qscan q (s.drop (i0 + 1)))) := by
  refine Pure.of_le fun σ => ?_
  have hi0 := (List.getElem?_eq_some_iff.1 h0).1
  have hq92 : q ≠ 92 := by rcases hq with rfl | rfl <;> decide
  have hw0 : IntKind.i64.wrap ((i0 : Int) + 1) = ((i0 + 1 : Nat) : Int) := by rw [wrap_nat (by omega) (by omega)]; rfl
  have g0 : (0 : Int) ≤ i0 := by omega
  have hesc := fun i => rescape_pure G (s.drop i) (by rw [List.length_drop]; omega)
  clear hq
  refine Tri.of_awp mixed Tryz.func49 rfl (by kernel_rfl) (by kernel_rfl) (by simp [Tryz.ntmps49]) Tryz.results49 ?_
  simp -dsimp only [↓bp, bq, br, seval, tbRScC]
  refine loop_intro (fun n e σ' => ∃ (i : Nat) (v : AV) (t : List UInt8), i0 + 1 ≤ i ∧ i ≤ s.length ∧ t.length < i ∧ n = s.length - i ∧ e 8 = .int .i64 i ∧ e 7 = v ∧ Buf 1 σ σ' v (bytesA t) ∧ qscan q (s.drop (i0 + 1)) = qPre t (i - (i0 + 1)) (qscan q (s.drop i))) (s.length - (i0 + 1))
    ⟨i0 + 1, .nil, [], by omega, by omega, by simp, by omega, by simp -dsimp only [↓bp, bq, br, seval, tbRScC, hw0]; first | done | rfl, by simp -dsimp only [↓bp, bq, br, seval, tbRScC]; first | done | rfl, .nil (AS.le.refl σ), by cases qscan q (s.drop (i0 + 1)) <;> simp [qPre]⟩ ?_
  rintro n e σ2 ⟨i, v, t, hi1, hi, hti, rfl, h8, h7, hB, hQ⟩
  simp -dsimp only [↓bp, bq, br, seval, tbRScC] at h8 h7
  by_cases hlt : (i : Int) < s.length
  · obtain ⟨c, hc⟩ : ∃ c, s[i]? = some c := ⟨_, List.getElem?_eq_getElem (by omega)⟩
    have hw : IntKind.i64.wrap ((i : Int) + 1) = ((i + 1 : Nat) : Int) := by rw [wrap_nat (by omega) (by omega)]; rfl
    have hlt' := eq_true hlt
    rw [drop_get _ _ _ hc] at hQ
    by_cases c1 : c = q
    · subst c1
      rw [qscan_cons, if_pos rfl] at hQ
      rw [hQ]
      have hle := hB.le
      simp only [qPre, Option.map_some, rqV, List.append_nil]
      have e1 : ((i0 + 1 + (1 + (i - (i0 + 1))) : Nat) : Int) = ((i + 1 : Nat) : Int) := by omega
      rw [e1]
      clear hQ hlt hesc
      repeat' (first | refine xs ?_ ?_ <;> intros | ((first | refine xh ?_ | refine xi ?_); intro bx hbx; (try simp only [fb] at hbx)) | (refine buf_text hB ?_) | refine xj ?_ | refine cv_plain ?_ | ((with_reducible refine And.intro ?_ ?_); omega) | refine bo_buildSlice (d' := ⟨⟩) ?_ | refine xk (by kernel_rfl) ?_ | refine xf ?_ (by repeat' first | exact lr _ | assumption | refine ls ?_ ?_ | refine lt ?_ ?_ | simp only [*]; done | simp only [fb, *, not_false_eq_true, and_self]; done | exact lf ‹_› (by simp only [*])) | refine finish_two ?_ (by repeat' first | exact lr _ | assumption | refine ls ?_ ?_ | refine lt ?_ ?_ | simp only [*]; done | simp only [fb, *, not_false_eq_true, and_self]; done | exact lf ‹_› (by simp only [*])) | simp -dsimp only [↓bp, bq, br, seval, tbRScC, *] | refine cv_any ?_)
      all_goals exact finish_le2 (Le.refl _) hle
    have n1 : ((c.toNat : Int) = q.toNat) = False := u8_no c1
    by_cases c2 : c.toNat < 32
    · rw [qscan_cons, if_neg c1, if_pos c2] at hQ
      have n2 : ((c.toNat : Int) < 32) = True := eq_true (by omega)
      rw [hQ]
      have hle := hB.le
      clear hQ hlt c1 hB hesc
      repeat' (first | refine xs ?_ ?_ <;> intros | ((first | refine xh ?_ | refine xi ?_); intro bx hbx; (try simp only [fb] at hbx)) | refine xj ?_ | refine cv_plain ?_ | ((with_reducible refine And.intro ?_ ?_); omega) | refine bo_buildSlice (d' := ⟨⟩) ?_ | refine xk (by kernel_rfl) ?_ | refine xf ?_ (by repeat' first | exact lr _ | assumption | refine ls ?_ ?_ | refine lt ?_ ?_ | simp only [*]; done | simp only [fb, *, not_false_eq_true, and_self]; done | exact lf ‹_› (by simp only [*])) | refine finish_two ?_ (by repeat' first | exact lr _ | assumption | refine ls ?_ ?_ | refine lt ?_ ?_ | simp only [*]; done | simp only [fb, *, not_false_eq_true, and_self]; done | exact lf ‹_› (by simp only [*])) | simp -dsimp only [↓bp, bq, br, seval, tbRScC, *] | refine cv_any ?_)
      all_goals exact finish_le2 (Le.refl _) hle
    have n2 : ((c.toNat : Int) < 32) = False := eq_false (by omega)
    by_cases c3 : c = 92
    · have n3 : ((c.toNat : Int) = 92) = True := eq_true (by rw [c3]; rfl)
      have s1 : (i + 1 ≤ s.length) = True := eq_true (by omega)
      rw [c3, qscan_esc hq92] at hQ
      have hE := hesc (i + 1)
      have hEl := (escS_le (s.drop (i + 1)))
      rw [List.length_drop] at hEl
      rw [List.drop_drop] at hQ
      unfold escV at hE
      generalize escS (s.drop (i + 1)) = E at *
      obtain ⟨x, k⟩ := E
      simp only at hQ hE hEl
      by_cases hk : k = 0
      · rw [if_pos hk] at hQ
        have n4 : (((k : Nat) : Int) = 0) = True := eq_true (by omega)
        rw [hQ]
        have hle := hB.le
        clear hQ hlt c1 hB hesc c2 c3 hk hEl
        repeat' (first | refine xs ?_ ?_ <;> intros | ((first | refine xh ?_ | refine xi ?_); intro bx hbx; (try simp only [fb] at hbx)) | refine Pure.use (hE) ?_ | refine Pure.head (hE) ?_ | refine xj ?_ | refine cv_plain ?_ | ((with_reducible refine And.intro ?_ ?_); omega) | refine bo_buildSlice (d' := ⟨⟩) ?_ | refine xk (by kernel_rfl) ?_ | refine xf ?_ (by repeat' first | exact lr _ | assumption | refine ls ?_ ?_ | refine lt ?_ ?_ | simp only [*]; done | simp only [fb, *, not_false_eq_true, and_self]; done | exact lf ‹_› (by simp only [*])) | refine finish_two ?_ (by repeat' first | exact lr _ | assumption | refine ls ?_ ?_ | refine lt ?_ ?_ | simp only [*]; done | simp only [fb, *, not_false_eq_true, and_self]; done | exact lf ‹_› (by simp only [*])) | simp -dsimp only [↓bp, bq, br, seval, tbRScC, *] | refine cv_any ?_)
        all_goals exact finish_le2 (Le.refl _) hle
      · rw [if_neg hk] at hQ
        have n4 : (((k : Nat) : Int) = 0) = False := eq_false (by omega)
        rw [qPre_map] at hQ
        rw [show i - (i0 + 1) + (k + 1) = i + 1 + k - (i0 + 1) by omega] at hQ
        have hw2 : IntKind.i64.wrap (((i + 1 : Nat) : Int) + (k : Int)) = ((i + 1 + k : Nat) : Int) := by rw [wrap_nat (by omega) (by omega)]; omega
        clear hlt c1 hesc c2 c3 hk
        repeat' (first | refine xs ?_ ?_ <;> intros | ((first | refine xh ?_ | refine xi ?_); intro bx hbx; (try simp only [fb] at hbx)) | refine Pure.use (hE) ?_ | refine Pure.head (hE) ?_ | (refine build_one tfB (a := byteA x) rfl rfl (by omega) ?_) | (refine app_buf (ys := [byteA x]) hB tfB (asrc_sl tfBE) (fun a ha => by simp at ha; subst ha; rfl) (by rw [bytesA_len]; simp only [List.length_cons, List.length_nil]; omega) (fun v3 σ3 hB4 hx4 => ?_)) | refine xj ?_ | refine cv_plain ?_ | ((with_reducible refine And.intro ?_ ?_); omega) | refine bo_buildSlice (d' := ⟨⟩) ?_ | refine xk (by kernel_rfl) ?_ | refine xf ?_ (by repeat' first | exact lr _ | assumption | refine ls ?_ ?_ | refine lt ?_ ?_ | simp only [*]; done | simp only [fb, *, not_false_eq_true, and_self]; done | exact lf ‹_› (by simp only [*])) | refine finish_two ?_ (by repeat' first | exact lr _ | assumption | refine ls ?_ ?_ | refine lt ?_ ?_ | simp only [*]; done | simp only [fb, *, not_false_eq_true, and_self]; done | exact lf ‹_› (by simp only [*])) | simp -dsimp only [↓bp, bq, br, seval, tbRScC, *] | refine cv_any ?_)
        all_goals (have hlt := of_eq_true hlt')
        all_goals exact ⟨s.length - (i + 1 + k), by omega, i + 1 + k, v3, t ++ [x], by omega, by omega, by rw [List.length_append, List.length_singleton]; omega, by omega, rfl, rfl, by rw [bytesA_snoc]; exact hB4, rfl⟩
    · rw [qscan_cons, if_neg c1, if_neg c2, if_neg c3] at hQ
      have n3 : ((c.toNat : Int) = 92) = False := u8_no c3
      rw [qPre_map] at hQ
      rw [show i - (i0 + 1) + 1 = i + 1 - (i0 + 1) by omega] at hQ
      clear c1 c2 c3 hesc
      repeat' (first | refine xs ?_ ?_ <;> intros | ((first | refine xh ?_ | refine xi ?_); intro bx hbx; (try simp only [fb] at hbx)) | (refine build_one tfB (a := byteA c) rfl rfl (by omega) ?_) | (refine app_buf (ys := [byteA c]) hB tfB (asrc_sl tfBE) (fun a ha => by simp at ha; subst ha; rfl) (by rw [bytesA_len]; simp only [List.length_cons, List.length_nil]; omega) (fun v3 σ3 hB4 hx4 => ?_)) | refine xj ?_ | refine cv_plain ?_ | ((with_reducible refine And.intro ?_ ?_); omega) | refine bo_buildSlice (d' := ⟨⟩) ?_ | refine xk (by kernel_rfl) ?_ | refine xf ?_ (by repeat' first | exact lr _ | assumption | refine ls ?_ ?_ | refine lt ?_ ?_ | simp only [*]; done | simp only [fb, *, not_false_eq_true, and_self]; done | exact lf ‹_› (by simp only [*])) | refine finish_two ?_ (by repeat' first | exact lr _ | assumption | refine ls ?_ ?_ | refine lt ?_ ?_ | simp only [*]; done | simp only [fb, *, not_false_eq_true, and_self]; done | exact lf ‹_› (by simp only [*])) | simp -dsimp only [↓bp, bq, br, seval, tbRScC, *] | refine cv_any ?_)
      all_goals (have hlt := of_eq_true hlt')
      all_goals exact ⟨s.length - (i + 1), by omega, i + 1, v3, t ++ [c], by omega, by omega, by rw [List.length_append, List.length_singleton]; omega, by omega, rfl, rfl, by rw [bytesA_snoc]; exact hB4, by first | rfl | rw [Nat.add_sub_add_right]⟩
  · have : i = s.length := by omega
    subst this
    rw [List.drop_length] at hQ
    have hlt' := eq_false hlt
    rw [hQ]
    have hle := hB.le
    clear hQ hlt hB hesc
    repeat' (first | refine xs ?_ ?_ <;> intros | ((first | refine xh ?_ | refine xi ?_); intro bx hbx; (try simp only [fb] at hbx)) | refine xj ?_ | refine cv_plain ?_ | ((with_reducible refine And.intro ?_ ?_); omega) | refine bo_buildSlice (d' := ⟨⟩) ?_ | refine xk (by kernel_rfl) ?_ | refine xf ?_ (by repeat' first | exact lr _ | assumption | refine ls ?_ ?_ | refine lt ?_ ?_ | simp only [*]; done | simp only [fb, *, not_false_eq_true, and_self]; done | exact lf ‹_› (by simp only [*])) | refine finish_two ?_ (by repeat' first | exact lr _ | assumption | refine ls ?_ ?_ | refine lt ?_ ?_ | simp only [*]; done | simp only [fb, *, not_false_eq_true, and_self]; done | exact lf ‹_› (by simp only [*])) | simp -dsimp only [↓bp, bq, br, seval, tbRScC, *] | refine cv_any ?_)
    all_goals exact finish_le2 (Le.refl _) hle
end Go.Proofs.YtldmniappliepaaGreatDoor
