/- A term's text. -/
import Derived.Test.YtphnoaihojccbaaGreatDoorZ08
import Derived.Test.YtphnoaihojccbaaGreatDoorZ06
import Derived.Test.YtphnoaihojccbaaGreatDoorZ07
import Derived.Test.YtphnoaihojccbaaGreatDoorZ05
import Derived.Test.YtphnoaihojccbaaGreatDoorZ04
import Derived.ProofKit
import Derived.OpenShut
import Derived.Deep.DeepHandedRow
import Derived.Below
import Derived.ChangeSame
import Derived.DataShut
import Derived.HandedShaped
set_option linter.unusedVariables false
set_option linter.unusedSimpArgs false
set_option maxRecDepth 20000
set_option linter.defProp false
namespace Go.Proofs.YtphnoaihojccbaaGreatDoor
open Go Go.Av
def tbTText2 := And.intro (And.intro (And.intro (And.intro @tf3 @tf4) (And.intro @tf5 (And.intro @tf9 @tf86))) (And.intro (And.intro @tf39 (And.intro @tf22 @tf42)) (And.intro @tf40 (And.intro @tf95 @tf93)))) (And.intro (And.intro (And.intro @tf127 (And.intro @tf129 @Term.flat_enc)) (And.intro @Term.isv_enc (And.intro @Term.fold_enc @isv_encs))) (And.intro (And.intro @flat_encs (And.intro @len_encs @ix_encs)) (And.intro @ix_encs' (And.intro @isv_lims @flat_lims))))
variable {G : Nat → AV}
theorem right_num {t : Term} (h : right t = true) (hk : t.knd = 3 ∨ t.knd = 4 ∨ t.knd = 5) : 0 ≤ t.num ∧ t.num ≤ 1099511627776 := by
  simp only [right, decide_eq_true_eq] at h
  rw [size_eq, if_neg (by omega)] at h
  split at h
  · rename_i hf
    obtain ⟨f1, _⟩ := adds_true _ _ hf
    obtain ⟨f3, _⟩ := adds_true _ _ f1
    simp only at f3
    unfold head at f3
    rw [if_neg (by omega)] at f3
    by_cases e3 : t.knd = 3 ∨ t.knd = 5
    · rw [if_pos e3] at f3
      simp only [Bool.and_eq_true, decide_eq_true_eq] at f3
      omega
    · rw [if_neg e3, if_pos (by omega)] at f3
      simp only [Bool.and_eq_true, decide_eq_true_eq] at f3
      omega
  · omega
set_option maxHeartbeats 2000000 in
theorem put_tri (hg : GlobT G) (t : Term) : t.bulk ≤ 100000000 → right t = true → Puts G t := by
  refine Term.ind (P := fun t => t.bulk ≤ 100000000 → right t = true → Puts G t) (fun t ih1 ih2 hb hr => ?_) t
  have A := right_spec hr
  have hi : ∀ x, x ∈ t.items → Puts G x := fun x hx => ih1 x hx (by have := bulk_item hx; omega) (A.items x hx)
  have ht : ∀ x, x ∈ t.tail → Puts G x := fun x hx => ih2 x hx (by have := bulk_tail hx; omega) (A.tail x hx)
  clear ih1 ih2
  intro σ0 σ b p q xs hF hB hlen
  have hse := said_eq t
  have htx := len_text t
  refine Tri.of_awp mixed Tryz.func99 rfl (by kernel_rfl) (by kernel_rfl) (by simp [Tryz.ntmps99]) Tryz.results99 ?_
  simp -dsimp only [↓bp, bq, br, seval, tbTText2]
  refine newW_intro fun b3 h3 => ?_
  obtain ⟨σ1, hs1⟩ : ∃ σ1, σ1 = σ0.setBox b3 [.int .u8 t.knd, .bool t.neg, lims t.limbs, .str t.text, .int .i64 t.num, encs t.items, encs t.tail] := ⟨_, rfl⟩
  have hB1 := hB.newBox h3 [.int .u8 t.knd, .bool t.neg, lims t.limbs, .str t.text, .int .i64 t.num, encs t.items, encs t.tail]
  rw [← hs1] at hB1
  have hle1 : σ0.le σ1 := by rw [hs1]; exact (AS.le.refl σ0).setBox (hB.le.fresh h3).1 _
  have hF1 := hF.up hle1
  have hb3 : σ1.box b3 = some [.int .u8 t.knd, .bool t.neg, lims t.limbs, .str t.text, .int .i64 t.num, encs t.items, encs t.tail] := by rw [hs1]; simp [AS.setBox]
  clear hs1 hB h3
  generalize σ.setBox b3 _ = s0 at *
  have k3 := hB1.le.box b3 _ hb3
  have kq := hB1.le.box q _ hF1.row
  by_cases e1 : t.knd = 1
  · have hw := wtext_pure G t (by omega)
    rw [A.int e1, if_pos rfl] at hw
    rw [if_pos e1] at hse
    rw [hse] at hlen ⊢
    have k1 := eq_true e1
    clear e1 A hi ht hr
    repeat' (first | refine xs ?_ ?_ <;> intros | ((first | refine xh ?_ | refine xi ?_); intro bx hbx; (try simp only [fb] at hbx)) | refine Pure.use (hw) ?_ | refine Pure.head (hw) ?_ | ((refine Tri.mono (writeString_tri _ hB1 _ (by omega)) ?_; rintro r s1 hB2)) | refine xj ?_ | ((with_reducible refine And.intro ?_ ?_); omega) | refine bo_buildSlice (d' := ⟨⟩) ?_ | refine xk (by kernel_rfl) ?_ | refine xf ?_ (by repeat' first | exact lr _ | assumption | refine ls ?_ ?_ | refine lt ?_ ?_ | simp only [*]; done | exact lf ‹_› (by simp only [*])) | simp -dsimp only [↓bp, bq, br, seval, tbTText2, *])
    exact finishW_some _ (AS.le.refl _) (hB2.weaken hle1)
  have k1 := eq_false e1
  rw [if_neg e1] at hse
  by_cases e2 : t.knd = 2
  · have hpl := plainA_pure hg.toGlob t.text (by omega)
    have hqu := quoted_pure (G := G) t.text (by omega)
    rw [if_pos e2] at hse
    rw [hse] at hlen ⊢
    have k2 := eq_true e2
    unfold atomT at hlen ⊢
    clear e1 e2 A hi ht hr hse
    cases hp : plainA t.text with
    | true =>
      rw [hp] at hpl hlen
      simp only [if_true] at hlen ⊢
      repeat' (first | refine xs ?_ ?_ <;> intros | ((first | refine xh ?_ | refine xi ?_); intro bx hbx; (try simp only [fb] at hbx)) | refine Pure.use (hpl) ?_ | refine Pure.head (hpl) ?_ | ((refine Tri.mono (writeString_tri _ hB1 _ (by omega)) ?_; rintro r s1 hB2)) | refine xj ?_ | ((with_reducible refine And.intro ?_ ?_); omega) | refine bo_buildSlice (d' := ⟨⟩) ?_ | refine xk (by kernel_rfl) ?_ | refine xf ?_ (by repeat' first | exact lr _ | assumption | refine ls ?_ ?_ | refine lt ?_ ?_ | simp only [*]; done | exact lf ‹_› (by simp only [*])) | simp -dsimp only [↓bp, bq, br, seval, tbTText2, *])
      exact finishW_some _ (AS.le.refl _) (hB2.weaken hle1)
    | false =>
      rw [hp] at hpl hlen
      simp only [Bool.false_eq_true, if_false] at hlen ⊢
      repeat' (first | refine xs ?_ ?_ <;> intros | ((first | refine xh ?_ | refine xi ?_); intro bx hbx; (try simp only [fb] at hbx)) | refine Pure.use (hpl) ?_ | refine Pure.head (hpl) ?_ | refine Pure.use (hqu) ?_ | refine Pure.head (hqu) ?_ | ((refine Tri.mono (writeString_tri _ hB1 _ (by omega)) ?_; rintro r s1 hB2)) | refine xj ?_ | ((with_reducible refine And.intro ?_ ?_); omega) | refine bo_buildSlice (d' := ⟨⟩) ?_ | refine xk (by kernel_rfl) ?_ | refine xf ?_ (by repeat' first | exact lr _ | assumption | refine ls ?_ ?_ | refine lt ?_ ?_ | simp only [*]; done | exact lf ‹_› (by simp only [*])) | simp -dsimp only [↓bp, bq, br, seval, tbTText2, *])
      exact finishW_some _ (AS.le.refl _) (hB2.weaken hle1)
  have k2 := eq_false e2
  rw [if_neg e2] at hse
  by_cases e3 : t.knd = 3
  · have hn := right_num hr (by omega)
    have hit := itoa_pure hg.pow t.num (by omega) (by omega)
    rw [if_pos e3] at hse
    rw [hse] at hlen ⊢
    have kk := eq_true e3
    have hl2 := hlen
    simp only [List.length_append, List.length_cons, List.length_nil] at hl2
    clear A hi ht hr hse hn e1 e2 htx
    generalize itoa t.num = it at *
    repeat' (first | refine xs ?_ ?_ <;> intros | ((first | refine xh ?_ | refine xi ?_); intro bx hbx; (try simp only [fb] at hbx)) | refine Pure.use (hit) ?_ | refine Pure.head (hit) ?_ | refine xj ?_ | ((with_reducible refine And.intro ?_ ?_); omega) | refine bo_buildSlice (d' := ⟨⟩) ?_ | refine xk (by kernel_rfl) ?_ | refine xf ?_ (by repeat' first | exact lr _ | assumption | refine ls ?_ ?_ | refine lt ?_ ?_ | simp only [*]; done | exact lf ‹_› (by simp only [*])) | simp -dsimp only [↓bp, bq, br, seval, tbTText2, *])
    refine And.intro (by unfold maxLen; omega) (And.intro (by unfold maxLen; omega) ?_)
    refine Tri.mono (writeString_tri _ hB1 (35 :: 82 :: 101 :: 102 :: 60 :: (it ++ [62])) (by simp only [List.length_append, List.length_cons, List.length_nil]; omega)) ?_
    rintro r s1 hB2
    repeat' (first | refine xs ?_ ?_ <;> intros | ((first | refine xh ?_ | refine xi ?_); intro bx hbx; (try simp only [fb] at hbx)) | refine xj ?_ | ((with_reducible refine And.intro ?_ ?_); omega) | refine bo_buildSlice (d' := ⟨⟩) ?_ | refine xk (by kernel_rfl) ?_ | refine xf ?_ (by repeat' first | exact lr _ | assumption | refine ls ?_ ?_ | refine lt ?_ ?_ | simp only [*]; done | exact lf ‹_› (by simp only [*])) | simp -dsimp only [↓bp, bq, br, seval, tbTText2, *])
    exact finishW_some _ (AS.le.refl _) (by have := hB2.weaken hle1; simpa using this)
  have k3' := eq_false e3
  rw [if_neg e3] at hse
  by_cases e4 : t.knd = 4
  · have hn := right_num hr (by omega)
    have hit := itoa_pure hg.pow t.num (by omega) (by omega)
    rw [if_pos e4] at hse
    rw [hse] at hlen ⊢
    have kk := eq_true e4
    have hl2 := hlen
    simp only [List.length_append, List.length_cons, List.length_nil] at hl2
    clear A hi ht hr hse hn e1 e2 htx
    generalize itoa t.num = it at *
    repeat' (first | refine xs ?_ ?_ <;> intros | ((first | refine xh ?_ | refine xi ?_); intro bx hbx; (try simp only [fb] at hbx)) | refine Pure.use (hit) ?_ | refine Pure.head (hit) ?_ | refine xj ?_ | ((with_reducible refine And.intro ?_ ?_); omega) | refine bo_buildSlice (d' := ⟨⟩) ?_ | refine xk (by kernel_rfl) ?_ | refine xf ?_ (by repeat' first | exact lr _ | assumption | refine ls ?_ ?_ | refine lt ?_ ?_ | simp only [*]; done | exact lf ‹_› (by simp only [*])) | simp -dsimp only [↓bp, bq, br, seval, tbTText2, *])
    refine And.intro (by unfold maxLen; omega) (And.intro (by unfold maxLen; omega) ?_)
    refine Tri.mono (writeString_tri _ hB1 (35 :: 70 :: 117 :: 110 :: 60 :: (it ++ [62])) (by simp only [List.length_append, List.length_cons, List.length_nil]; omega)) ?_
    rintro r s1 hB2
    repeat' (first | refine xs ?_ ?_ <;> intros | ((first | refine xh ?_ | refine xi ?_); intro bx hbx; (try simp only [fb] at hbx)) | refine xj ?_ | ((with_reducible refine And.intro ?_ ?_); omega) | refine bo_buildSlice (d' := ⟨⟩) ?_ | refine xk (by kernel_rfl) ?_ | refine xf ?_ (by repeat' first | exact lr _ | assumption | refine ls ?_ ?_ | refine lt ?_ ?_ | simp only [*]; done | exact lf ‹_› (by simp only [*])) | simp -dsimp only [↓bp, bq, br, seval, tbTText2, *])
    exact finishW_some _ (AS.le.refl _) (by have := hB2.weaken hle1; simpa using this)
  have k4' := eq_false e4
  rw [if_neg e4] at hse
  by_cases e5 : t.knd = 5
  · have hn := right_num hr (by omega)
    have hit := itoa_pure hg.pow t.num (by omega) (by omega)
    rw [if_pos e5] at hse
    rw [hse] at hlen ⊢
    have kk := eq_true e5
    have hl2 := hlen
    simp only [List.length_append, List.length_cons, List.length_nil] at hl2
    clear A hi ht hr hse hn e1 e2 htx
    generalize itoa t.num = it at *
    repeat' (first | refine xs ?_ ?_ <;> intros | ((first | refine xh ?_ | refine xi ?_); intro bx hbx; (try simp only [fb] at hbx)) | refine Pure.use (hit) ?_ | refine Pure.head (hit) ?_ | refine xj ?_ | ((with_reducible refine And.intro ?_ ?_); omega) | refine bo_buildSlice (d' := ⟨⟩) ?_ | refine xk (by kernel_rfl) ?_ | refine xf ?_ (by repeat' first | exact lr _ | assumption | refine ls ?_ ?_ | refine lt ?_ ?_ | simp only [*]; done | exact lf ‹_› (by simp only [*])) | simp -dsimp only [↓bp, bq, br, seval, tbTText2, *])
    refine And.intro (by unfold maxLen; omega) (And.intro (by unfold maxLen; omega) ?_)
    refine Tri.mono (writeString_tri _ hB1 (60 :: (it ++ [62])) (by simp only [List.length_append, List.length_cons, List.length_nil]; omega)) ?_
    rintro r s1 hB2
    repeat' (first | refine xs ?_ ?_ <;> intros | ((first | refine xh ?_ | refine xi ?_); intro bx hbx; (try simp only [fb] at hbx)) | refine xj ?_ | ((with_reducible refine And.intro ?_ ?_); omega) | refine bo_buildSlice (d' := ⟨⟩) ?_ | refine xk (by kernel_rfl) ?_ | refine xf ?_ (by repeat' first | exact lr _ | assumption | refine ls ?_ ?_ | refine lt ?_ ?_ | simp only [*]; done | exact lf ‹_› (by simp only [*])) | simp -dsimp only [↓bp, bq, br, seval, tbTText2, *])
    exact finishW_some _ (AS.le.refl _) (by have := hB2.weaken hle1; simpa using this)
  have k5' := eq_false e5
  rw [if_neg e5] at hse
  by_cases e6 : t.knd = 6
  · have k6 := eq_true e6
    rw [if_pos e6] at hse
    clear e6
    have hl2 := hlen
    rw [hse] at hl2
    simp only [List.length_append, List.length_cons, List.length_nil] at hl2
    have hrow := fun s1 (hBs : Bl σ1 s1 b xs) => row_tri t (by omega) hi ht [123] [125] σ1 s1 b p q xs hF1 hBs (by simp only [List.length_cons, List.length_nil]; omega)
    rw [hse]
    clear A hi ht hr hse e1 e2 e3 e4 e5 htx hlen
    repeat' (first | refine xs ?_ ?_ <;> intros | ((first | refine xh ?_ | refine xi ?_); intro bx hbx; (try simp only [fb] at hbx)) | ((refine Tri.mono (hrow _ hB1) ?_; rintro r s1 hB2)) | refine xj ?_ | ((with_reducible refine And.intro ?_ ?_); omega) | refine bo_buildSlice (d' := ⟨⟩) ?_ | refine xk (by kernel_rfl) ?_ | refine xf ?_ (by repeat' first | exact lr _ | assumption | refine ls ?_ ?_ | refine lt ?_ ?_ | simp only [*]; done | exact lf ‹_› (by simp only [*])) | simp -dsimp only [↓bp, bq, br, seval, tbTText2, *])
    exact finishW_some _ (AS.le.refl _) (by have := hB2.weaken hle1; simpa using this)
  · have k6 := eq_false e6
    rw [if_neg e6] at hse
    clear e6
    have hl2 := hlen
    rw [hse] at hl2
    simp only [List.length_append, List.length_cons, List.length_nil] at hl2
    have hrow := fun s1 (hBs : Bl σ1 s1 b xs) => row_tri t (by omega) hi ht [91] [93] σ1 s1 b p q xs hF1 hBs (by simp only [List.length_cons, List.length_nil]; omega)
    rw [hse]
    clear A hi ht hr hse e1 e2 e3 e4 e5 htx hlen
    repeat' (first | refine xs ?_ ?_ <;> intros | ((first | refine xh ?_ | refine xi ?_); intro bx hbx; (try simp only [fb] at hbx)) | ((refine Tri.mono (hrow _ hB1) ?_; rintro r s1 hB2)) | refine xj ?_ | ((with_reducible refine And.intro ?_ ?_); omega) | refine bo_buildSlice (d' := ⟨⟩) ?_ | refine xk (by kernel_rfl) ?_ | refine xf ?_ (by repeat' first | exact lr _ | assumption | refine ls ?_ ?_ | refine lt ?_ ?_ | simp only [*]; done | exact lf ‹_› (by simp only [*])) | simp -dsimp only [↓bp, bq, br, seval, tbTText2, *])
    exact finishW_some _ (AS.le.refl _) (by have := hB2.weaken hle1; simpa using this)
end Go.Proofs.YtphnoaihojccbaaGreatDoor
set_option maxRecDepth 20000
namespace Go.Proofs.YtphnoaihojccbaaGreatDoor
open Go Go.Av
def tbTText3 := And.intro (And.intro (And.intro (And.intro @tf3 @tf4) (And.intro @tf5 (And.intro @tf9 @tf86))) (And.intro (And.intro @tf39 (And.intro @tf22 @tf42)) (And.intro @tf40 (And.intro @tf95 @tf93)))) (And.intro (And.intro (And.intro @tf127 (And.intro @tf129 @Term.flat_enc)) (And.intro @Term.isv_enc (And.intro @Term.fold_enc @isv_encs))) (And.intro (And.intro @flat_encs (And.intro @len_encs @ix_encs)) (And.intro @ix_encs' (And.intro @isv_lims @flat_lims))))
variable {G : Nat → AV}
theorem saidN_len : ∀ (l : List Term), (∀ x, x ∈ l → (said x).length + 1 ≤ 400 * x.bulk) → (saidN l).length ≤ 400 * bulks l
  | [], _ => by simp [saidN, bulks]
  | x :: l, h => by
    have h1 := h x (by simp)
    have h2 := saidN_len l fun y hy => h y (by simp [hy])
    simp only [saidN, List.length_cons, List.length_append, bulks]; omega
theorem saidI_len (l : List Term) (h : ∀ x, x ∈ l → (said x).length + 1 ≤ 400 * x.bulk) : (saidI l).length ≤ 400 * bulks l := by
  cases l with
  | nil => simp [saidI, bulks]
  | cons x l =>
    have h1 := h x (by simp)
    have h2 := saidN_len l fun y hy => h y (by simp [hy])
    simp only [saidI, List.length_append, bulks]; omega
theorem saidT_len : ∀ (l : List Term), (∀ x, x ∈ l → (said x).length + 1 ≤ 400 * x.bulk) → (saidT l).length ≤ 400 * bulks l
  | [], _ => by simp [saidT, bulks]
  | x :: l, h => by
    have h1 := h x (by simp)
    have h2 := saidT_len l fun y hy => h y (by simp [hy])
    simp only [saidT, List.length_cons, List.length_append, bulks]; omega
theorem decT_len {k n : Nat} (hk : 0 < k) (h : n < 10 ^ k) : (decT n).length ≤ k := by
  unfold decT
  split
  · simp; omega
  · rw [List.length_reverse]; exact digs_len k n h
theorem itoa_len {n : Int} (h0 : 0 ≤ n) (h1 : n ≤ 1099511627776) : (itoa n).length ≤ 20 := by
  unfold itoa
  rw [if_neg (by omega)]
  have := decT_len (k := 20) (n := n.natAbs) (by omega) (by have : (10 : Nat) ^ 20 = 100000000000000000000 := by decide
                                                            omega)
  simpa using this
theorem said_len (t : Term) : right t = true → (said t).length + 1 ≤ 400 * t.bulk := by
  refine Term.ind (P := fun t => right t = true → (said t).length + 1 ≤ 400 * t.bulk) (fun t ih1 ih2 hr => ?_) t
  have A := right_spec hr
  have h1 := saidI_len t.items fun x hx => ih1 x hx (A.items x hx)
  have h2 := saidT_len t.tail fun x hx => ih2 x hx (A.tail x hx)
  have hb := t.bulk_eq
  rw [said_eq]
  by_cases e1 : t.knd = 1
  · rw [if_pos e1]
    obtain ⟨_, _, h32⟩ := wr_int (A.int e1)
    have hd := dig_bound h32
    unfold wsaid decT
    simp only [List.length_append]
    split <;> split <;> simp only [List.length_cons, List.length_nil, List.length_reverse] <;> omega
  rw [if_neg e1]
  by_cases e2 : t.knd = 2
  · rw [if_pos e2]
    have hq := quoCs_len t.text
    unfold atomT
    split
    · omega
    · simp only [quoted, List.length_cons, List.length_append, List.length_nil]; omega
  rw [if_neg e2]
  by_cases e3 : t.knd = 3
  · rw [if_pos e3]
    obtain ⟨n0, n1⟩ := right_num hr (.inl e3)
    have := itoa_len n0 n1
    simp only [List.length_append, List.length_cons, List.length_nil]; omega
  rw [if_neg e3]
  by_cases e4 : t.knd = 4
  · rw [if_pos e4]
    obtain ⟨n0, n1⟩ := right_num hr (.inr (.inl e4))
    have := itoa_len n0 n1
    simp only [List.length_append, List.length_cons, List.length_nil]; omega
  rw [if_neg e4]
  by_cases e5 : t.knd = 5
  · rw [if_pos e5]
    obtain ⟨n0, n1⟩ := right_num hr (.inr (.inr e5))
    have := itoa_len n0 n1
    simp only [List.length_append, List.length_cons, List.length_nil]; omega
  rw [if_neg e5]
  split <;> simp only [List.length_append, List.length_cons, List.length_nil] <;> omega
set_option maxHeartbeats 1000000 in
theorem text_pure (hg : GlobT G) (t : Term) (hb : t.bulk ≤ 2000000) : Pure Tryz.prog G 56 [t.enc] (.str (text t)) := by
  have hr := right_pure G t (by omega)
  unfold text
  cases er : right t with
  | false =>
    rw [er] at hr
    intro σ
    refine Tri.of_awp mixed Tryz.func56 rfl (by kernel_rfl) (by kernel_rfl) (by simp [Tryz.ntmps56]) Tryz.results56 ?_
    repeat' (first | refine xs ?_ ?_ <;> intros | ((first | refine xh ?_ | refine xi ?_); intro bx hbx; (try simp only [fb] at hbx)) | refine Pure.use (hr) ?_ | refine Pure.head (hr) ?_ | refine xj ?_ | ((with_reducible refine And.intro ?_ ?_); omega) | refine bo_buildSlice (d' := ⟨⟩) ?_ | refine xk (by kernel_rfl) ?_ | refine xf ?_ (by repeat' first | exact lr _ | assumption | refine ls ?_ ?_ | refine lt ?_ ?_ | simp only [*]; done | exact lf ‹_› (by simp only [*])) | simp -dsimp only [↓bp, bq, br, seval, tbTText3, *])
    all_goals rfl
  | true =>
    rw [er] at hr
    rw [if_pos rfl]
    have hl := said_len t er
    have hput := put_tri hg t (by omega) er
    clear hg
    refine fun σ => ?_
    refine Tri.of_awp mixed Tryz.func56 rfl (by kernel_rfl) (by kernel_rfl) (by simp [Tryz.ntmps56]) Tryz.results56 ?_
    simp -dsimp only [↓bp, bq, br, seval, tbTText3]
    refine newW_intro fun b1 h1 => ?_
    simp -dsimp only [↓bp, bq, br, seval, tbTText3]
    refine Pure.use hr ?_
    simp -dsimp only [↓bp, bq, br, seval, tbTText3]
    refine newT_ty fun b3 h3 => ?_
    obtain ⟨σa, hσa⟩ : ∃ σa, σa = σ.setBox b1 [.int .u8 t.knd, .bool t.neg, lims t.limbs, .str t.text, .int .i64 t.num, encs t.items, encs t.tail] := ⟨_, rfl⟩
    have hla : σ.le σa := by rw [hσa]; exact (AS.le.refl σ).setBox h1.1 _
    have ha1 : σa.box b1 = some [.int .u8 t.knd, .bool t.neg, lims t.limbs, .str t.text, .int .i64 t.num, encs t.items, encs t.tail] := by rw [hσa]; simp [AS.setBox]
    rw [← hσa] at h3
    have hB0 : Bl σa ((σa.setBox b3 [.nilptr, .nil]).setTy b3 (95, 2)) b3 [] := Bld.start (AS.le.refl σa) h3
    rw [← hσa]
    simp only [List.length_cons, List.length_nil, Nat.zero_add, Nat.reduceAdd]
    generalize (σa.setBox b3 [.nilptr, .nil]).setTy b3 (95, 2) = S at *
    simp -dsimp only [↓bp, bq, br, seval, tbTText3]
    refine newT_plain fun b4 h4 => ?_
    simp -dsimp only [↓bp, bq, br, seval, tbTText3]
    refine newT_plain fun b5 h5 => ?_
    rw [fresh_setBox] at h5
    have n54 : ¬ b5 = b4 := h5.2
    have n45 : ¬ b4 = b5 := fun e => n54 e.symm
    have hS1 : S.box b1 = some [.int .u8 t.knd, .bool t.neg, lims t.limbs, .str t.text, .int .i64 t.num, encs t.items, encs t.tail] := hB0.le.box _ _ ha1
    have n14 := (fresh_ne hS1 h4).1
    have n15 := (fresh_ne hS1 h5.1).1
    have hB1 := hB0.newBox h4 [.fn 99 [.ptr b3 0, .ptr b5 0]]
    have hB2 := hB1.newBox (c := b5) (fresh_setBox.2 ⟨h5.1, n54⟩) [.fn 97 [.ptr b3 0, .ptr b4 0]]
    have hlb : σ.le ((σa.setBox b4 [.fn 99 [.ptr b3 0, .ptr b5 0]]).setBox b5 [.fn 97 [.ptr b3 0, .ptr b4 0]]) := by
      have f4 := hB0.le.fresh h4
      have f5 := hB0.le.fresh h5.1
      exact hla.trans (((AS.le.refl σa).setBox f4.1 _).setBox f5.1 _)
    have hF : Fns ((σa.setBox b4 [.fn 99 [.ptr b3 0, .ptr b5 0]]).setBox b5 [.fn 97 [.ptr b3 0, .ptr b4 0]]) b3 b4 b5 := ⟨by simp [AS.setBox, n45], by simp [AS.setBox]⟩
    have hst : ((S.setBox b4 [.nilfn]).setBox b5 [.fn 97 [.ptr b3 0, .ptr b4 0]]).setBox b4 [.fn 99 [.ptr b3 0, .ptr b5 0]] = (S.setBox b4 [.fn 99 [.ptr b3 0, .ptr b5 0]]).setBox b5 [.fn 97 [.ptr b3 0, .ptr b4 0]] := by
      rw [AS.setBox_comm n54, set_set]
    generalize (σa.setBox b4 [.fn 99 [.ptr b3 0, .ptr b5 0]]).setBox b5 [.fn 97 [.ptr b3 0, .ptr b4 0]] = σb at *
    clear hB1 hB0 h3 h1 hσa hla ha1 h4 h5
    simp -dsimp only [↓bp, bq, br, seval, tbTText3, n54, n45, n14, n15, hS1]
    rw [hst]
    refine Tri.mono (hput σb _ b3 b4 b5 [] hF hB2 (by simp; omega)) ?_
    rintro r s2 hB3
    repeat' (first | refine xs ?_ ?_ <;> intros | ((first | refine xh ?_ | refine xi ?_); intro bx hbx; (try simp only [fb] at hbx)) | ((refine Tri.mono (string_tri _ hB3 (by simp; omega)) ?_; rintro r s3 ⟨rfl, rfl⟩)) | refine xj ?_ | ((with_reducible refine And.intro ?_ ?_); omega) | refine bo_buildSlice (d' := ⟨⟩) ?_ | refine xk (by kernel_rfl) ?_ | refine xf ?_ (by repeat' first | exact lr _ | assumption | refine ls ?_ ?_ | refine lt ?_ ?_ | simp only [*]; done | exact lf ‹_› (by simp only [*])) | simp -dsimp only [↓bp, bq, br, seval, tbTText3, *])
    all_goals skip
end Go.Proofs.YtphnoaihojccbaaGreatDoor
set_option maxRecDepth 20000
namespace Go.Proofs.YtphnoaihojccbaaGreatDoor
open Go Go.Av Go.RowKit
def tbTaleT := And.intro (And.intro (And.intro (And.intro (And.intro @tf3 @tf4) (And.intro @tf5 (And.intro @tf85 @tf9))) (And.intro (And.intro @tf31 @tf40) (And.intro @tf39 (And.intro @tf22 @tf42)))) (And.intro (And.intro (And.intro @tf23 @tf44) (And.intro @tf24 (And.intro @tf46 @tf26))) (And.intro (And.intro @tf57 (And.intro @Term.flat_enc @Term.isv_enc)) (And.intro @Term.fold_enc (And.intro @isv_encs @flat_encs))))) (And.intro (And.intro (And.intro (And.intro @len_encs @ix_encs) (And.intro @isv_lims (And.intro @flat_lims @len_lims))) (And.intro (And.intro @Ended.flat_enc (And.intro @Ended.isv_enc @Ended.fold_enc)) (And.intro @Named.flat_enc (And.intro @Named.isv_enc @Named.fold_enc)))) (And.intro (And.intro (And.intro @Seen.flat_enc @Seen.isv_enc) (And.intro @Seen.fold_enc (And.intro @isv_encE @flat_encE))) (And.intro (And.intro @len_encE (And.intro @ix_encE @isv_encN)) (And.intro @flat_encN (And.intro @len_encN @ix_encN)))))
variable {G : Nat → AV}
theorem Pure.of_calls2 {P : Program} {f : FuncId} {args : List AV} {v : AV} {u : Value} (hcl : callable P f = true) (hv : ∀ K, VR K v u)
    (h : ∀ K σ w l, Rel G K σ w → VRl K args l → Calls P f l.toArray w fun e w' => e = .returned u ∧ Below w.heap.size w w') : Pure P G f args v := by
  intro σ
  refine ⟨hcl, fun K w l hr hl => ?_⟩
  exact (h K σ w l hr hl).mono fun e w' ⟨he, hb⟩ => ⟨u, v, σ, K, he, ⟨rfl, rfl⟩, hv K, hr.grown hb, Ctx.le.refl K⟩
theorem flatMap_str (xs : List (List UInt8)) : (xs.map AV.str).flatMap flat = xs.map AV.str := by
  induction xs with
  | nil => rfl
  | cons x l ih => simp only [List.map_cons, List.flatMap_cons, ih, flat, List.singleton_append]
theorem join_pure (xs : List (List UInt8)) (sep : List UInt8) (g : Gh) (h1 : xs ≠ []) (hn : xs.length ≤ 1000000) (hl : (Lib.join xs sep).length ≤ 1000000000) : Pure Tryz.prog G 30 [.sl g (xs.map AV.str) [], .str sep] (.str (Lib.join xs sep)) := by
  have h0 : 0 < xs.length := List.length_pos_iff.2 h1
  refine Pure.of_calls2 (u := .string ⟨⟨Lib.join xs sep⟩⟩) (by kernel_rfl) (fun K => .str _) (fun K σ w l hr hl' => ?_)
  match l, hl' with
  | [a, b], ⟨ha, hb, _⟩ =>
    rw [VR.str_iff] at hb
    subst hb
    generalize hx : xs.map AV.str = ys at ha
    cases ha with
    | sl0 a => exact absurd (List.map_eq_nil_iff.1 hx) h1
    | sl _ _ _ sz b off cap f hsz hcap hml himm hv hg =>
      have e1 : (ys ++ []).flatMap flat = xs.map AV.str := by rw [List.append_nil, ← hx, flatMap_str]
      have hlen : ys.length = xs.length := by rw [← hx]; simp
      have hcell : ∀ (j : Nat) x, (xs.map fun s => (⟨⟨s⟩⟩ : ByteArray))[j]? = some x → w.cell? ⟨b, off + j, none⟩ = some (.string x) := by
        intro j x hj
        rw [List.getElem?_map] at hj
        obtain ⟨s, hs, rfl⟩ := Option.map_eq_some_iff.1 hj
        have hjl : j < xs.length := (List.getElem?_eq_some_iff.1 hs).1
        have i1 := himm j (by rw [e1]; simpa using hjl)
        have i2 := hv j (by rw [e1]; simpa using hjl)
        have e2 : ((ys ++ []).flatMap flat)[j]'(by rw [e1]; simpa using hjl) = AV.str s := by
          have : ((ys ++ []).flatMap flat)[j]? = some (AV.str s) := by rw [e1, List.getElem?_map, hs]; rfl
          exact (List.getElem?_eq_some_iff.1 this).2
        rw [e2, VR.str_iff] at i2
        rw [hr.imm _ _ _ i1, i2]
      have i0 := himm 0 (by rw [e1]; simpa using h0)
      have hb : b < w.heap.size := hr.imm_lt i0
      have e3 : (xs.map fun s => (⟨⟨s⟩⟩ : ByteArray)).map (·.data.toList) = xs := by
        rw [List.map_map]
        exact List.map_id'' (fun s => rfl) xs
      have hlen2 : (xs.map fun s => (⟨⟨s⟩⟩ : ByteArray)).length = ys.length := by rw [List.length_map, hlen]
      rw [← hlen2]
      refine (Tryz.strings_Join b off cap (xs.map fun s => (⟨⟨s⟩⟩ : ByteArray)) ⟨⟨sep⟩⟩ w hcell hb (by rw [List.length_map]; omega) (by rw [hlen2]; simpa using hcap) (by rw [e3]; show (Lib.join xs sep).length ≤ _; omega)).mono ?_
      rintro e w' ⟨he, hw⟩
      rw [e3] at he
      exact ⟨he, hw⟩
theorem join2 (a b : List UInt8) : Lib.join [a, b] [32] = a ++ 32 :: b := by
  rw [Lib.join_cons]; simp [Lib.joinTail]
theorem join3 (a b c : List UInt8) : Lib.join [a, b, c] [32] = a ++ 32 :: (b ++ 32 :: c) := by
  rw [Lib.join_cons]; simp [Lib.joinTail]
theorem lineT_pure (hg : GlobT G) (t : Term) (hb : t.bulk ≤ 2000000) : Pure Tryz.prog G 31 [t.enc] (.str (lineT t)) := by
  have h1 := right_pure G t (by omega)
  have h2 := text_pure hg t hb
  unfold lineT
  clear hg hb
  intro σ
  cases e : right t
  · rw [e] at h1
    rw [if_neg (by simp)]
    refine Tri.of_awp mixed Tryz.func31 rfl (by kernel_rfl) (by kernel_rfl) (by simp [Tryz.ntmps31]) Tryz.results31 ?_
    repeat' (first | refine xs ?_ ?_ <;> intros | ((first | refine xh ?_ | refine xi ?_); intro bx hbx; (try simp only [fb] at hbx)) | refine Pure.use (h1) ?_ | refine Pure.head (h1) ?_ | refine xj ?_ | ((with_reducible refine And.intro ?_ ?_); omega) | refine bo_buildSlice (d' := ⟨⟩) ?_ | refine xk (by kernel_rfl) ?_ | refine xf ?_ (by repeat' first | exact lr _ | assumption | refine ls ?_ ?_ | refine lt ?_ ?_ | simp only [*]; done | exact lf ‹_› (by simp only [*])) | simp -dsimp only [↓bp, bq, br, seval, tbTaleT, *])
    all_goals rfl
  · rw [e] at h1
    rw [if_pos rfl]
    refine Tri.of_awp mixed Tryz.func31 rfl (by kernel_rfl) (by kernel_rfl) (by simp [Tryz.ntmps31]) Tryz.results31 ?_
    repeat' (first | refine xs ?_ ?_ <;> intros | ((first | refine xh ?_ | refine xi ?_); intro bx hbx; (try simp only [fb] at hbx)) | refine Pure.use (h1) ?_ | refine Pure.head (h1) ?_ | refine Pure.use (h2) ?_ | refine Pure.head (h2) ?_ | refine xj ?_ | ((with_reducible refine And.intro ?_ ?_); omega) | refine bo_buildSlice (d' := ⟨⟩) ?_ | refine xk (by kernel_rfl) ?_ | refine xf ?_ (by repeat' first | exact lr _ | assumption | refine ls ?_ ?_ | refine lt ?_ ?_ | simp only [*]; done | exact lf ‹_› (by simp only [*])) | simp -dsimp only [↓bp, bq, br, seval, tbTaleT, *])
    all_goals rfl
structure Out (σ0 σ : AS) (b : Nat) (xs : List (List UInt8)) : Prop where
  fr : σ0.fresh b
  ex : ∃ v, σ.box b = some [v] ∧ Buf 1 σ0 σ v (xs.map AV.str)
theorem Out.le {σ0 σ : AS} {b : Nat} {xs : List (List UInt8)} (h : Out σ0 σ b xs) : σ0.le σ := by
  obtain ⟨v, _, h2⟩ := h.ex; exact h2.le
theorem Out.newBox {σ0 σ : AS} {b : Nat} {xs : List (List UInt8)} (h : Out σ0 σ b xs) {c : Nat} (hc : σ.fresh c) (x : List AV) : Out σ0 (σ.setBox c x) b xs := by
  obtain ⟨v, h1, h2⟩ := h.ex
  have hne : b ≠ c := fun e => by subst e; rw [hc.1] at h1; cases h1
  exact ⟨h.fr, v, by simp [AS.setBox, hne, h1], h2.newBox hc x⟩
theorem tsN : aelt Tryz.prog 31 = some (9, 1, 16) := tf31.2.2.2.2.2.2
theorem tsE : el Tryz.prog 31 = some 9 := tf31.2.2.2.1
theorem buf_one {n : Nat} {σ0 σ : AS} {v : AV} {l : List AV} (h : Buf n σ0 σ v l) : one v = true ∧ flat v = [v] ∧ isv v = true := by cases h <;> exact ⟨rfl, rfl, rfl⟩
theorem Buf.setB {n : Nat} {σ0 σ : AS} {v : AV} {l : List AV} (h : Buf n σ0 σ v l) {b : Nat} (hb : σ0.fresh b) (x : List AV) : Buf n σ0 (σ.setBox b x) v l := by
  cases h with
  | nil h => exact .nil (le_set hb h)
  | own b' xs h h0 ht hx => exact .own b' l (le_set hb h) h0 (by simpa [AS.setBox] using ht) hx
theorem putS_tri (xs ws : List (List UInt8)) (h1 : ws ≠ []) (hn : ws.length ≤ 1000000) (hl : (Lib.join ws [32]).length ≤ 1000000000) (hx : xs.length ≤ 1000000000) (σ0 σ : AS) (b : Nat) (h : Out σ0 σ b xs) :
    Tri Tryz.prog G 29 [.sl .full (ws.map AV.str) [], .ptr b 0] σ fun r σ' => r = .tup [] ∧ Out σ0 σ' b (xs ++ [Lib.join ws [32]]) := by
  have hj := join_pure (G := G) ws [32] .full h1 hn hl
  generalize Lib.join ws [32] = s at *
  obtain ⟨hfr, v, hb, hB⟩ := h
  obtain ⟨o1, o2, o3⟩ := buf_one hB
  clear h1 hn hl
  refine Tri.of_awp mixed Tryz.func29 rfl (by kernel_rfl) (by kernel_rfl) (by simp [Tryz.ntmps29]) Tryz.results29 ?_
  repeat' (first | refine xs ?_ ?_ <;> intros | ((first | refine xh ?_ | refine xi ?_); intro bx hbx; (try simp only [fb] at hbx)) | refine Pure.use (hj) ?_ | refine Pure.head (hj) ?_ | (refine build_one tsN (a := .str s) rfl rfl (by omega) ?_) | (refine app_buf (ys := [.str s]) hB tsN (asrc_sl tsE) (fun a ha => by simp at ha; subst ha; rfl) (by simp; omega) (fun v3 σ3 hB4 hx4 => ?_)) | refine xj ?_ | ((with_reducible refine And.intro ?_ ?_); omega) | refine bo_buildSlice (d' := ⟨⟩) ?_ | refine xk (by kernel_rfl) ?_ | refine xf ?_ (by repeat' first | exact lr _ | assumption | refine ls ?_ ?_ | refine lt ?_ ?_ | simp only [*]; done | exact lf ‹_› (by simp only [*])) | simp -dsimp only [↓bp, bq, br, seval, tbTaleT, *])
  obtain ⟨p1, p2, p3⟩ := buf_one hB4
  refine ⟨⟨p3, by rw [p2]; rfl⟩, ?_⟩
  rw [p2]
  refine finishW_some _ (AS.le.refl _) ⟨rfl, hfr, v3, by simp [AS.setBox], ?_⟩
  rw [List.map_append]
  exact Buf.setB hB4 hfr [v3]
theorem lineT_len (t : Term) (hb : t.bulk ≤ 2000000) : (lineT t).length ≤ 800000001 := by
  unfold lineT text
  split
  · rename_i h
    have := said_len t h
    omega
  · simp
theorem itoa_len2 (n : Int) (h0 : -9223372036854775808 ≤ n) (h1 : n ≤ 9223372036854775807) : (itoa n).length ≤ 31 := by
  unfold itoa
  have := decT_len (k := 30) (n := n.natAbs) (by omega) (by have : (10 : Nat) ^ 30 = 1000000000000000000000000000000 := by decide
                                                            omega)
  split <;> simp only [List.length_append, List.length_cons, List.length_nil] <;> omega
def outW : List UInt8 := [111, 117, 116]
def endW : List UInt8 := [101, 110, 100, 101, 100]
def namW : List UInt8 := [110, 97, 109, 101]
theorem outL_eq (t : Term) : Lib.join [outW, lineT t] [32] = outL t := by rw [join2]; rfl
theorem endL_eq (e : Ended) : Lib.join [endW, itoa e.pid, lineT e.reason] [32] = endL e := by rw [join3]; rfl
theorem namL_eq (n : Named) : Lib.join [namW, lineT (atomTm n.name), itoa n.pid] [32] = namL n := by rw [join3]; rfl
theorem verL_eq (n : Int) : Lib.join [[118, 101, 114, 100, 105, 99, 116], itoa n] [32] = verL n := by rw [join2]; rfl
theorem speL_eq (n : Int) : Lib.join [[115, 112, 101, 110, 116], itoa n] [32] = speL n := by rw [join2]; rfl
theorem cloL_eq (n : Int) : Lib.join [[99, 108, 111, 99, 107], itoa n] [32] = cloL n := by rw [join2]; rfl
end Go.Proofs.YtphnoaihojccbaaGreatDoor
set_option maxRecDepth 20000
namespace Go.Proofs.YtphnoaihojccbaaGreatDoor
open Go Go.Av Go.RowKit
def tbTaleX := And.intro (And.intro (And.intro (And.intro (And.intro @tf3 @tf4) (And.intro @tf5 (And.intro @tf85 @tf9))) (And.intro (And.intro @tf31 @tf40) (And.intro @tf39 (And.intro @tf22 @tf42)))) (And.intro (And.intro (And.intro @tf23 @tf44) (And.intro @tf24 (And.intro @tf46 @tf26))) (And.intro (And.intro @tf57 (And.intro @Term.flat_enc @Term.isv_enc)) (And.intro @Term.fold_enc (And.intro @isv_encs @flat_encs))))) (And.intro (And.intro (And.intro (And.intro @len_encs @ix_encs) (And.intro @isv_lims (And.intro @flat_lims @len_lims))) (And.intro (And.intro @Ended.flat_enc (And.intro @Ended.isv_enc @Ended.fold_enc)) (And.intro @Named.flat_enc (And.intro @Named.isv_enc @Named.fold_enc)))) (And.intro (And.intro (And.intro @Seen.flat_enc @Seen.isv_enc) (And.intro @Seen.fold_enc (And.intro @isv_encE @flat_encE))) (And.intro (And.intro @len_encE (And.intro @ix_encE @isv_encN)) (And.intro @flat_encN (And.intro @len_encN @ix_encN)))))
variable {G : Nat → AV}
def i64R (n : Int) : Prop := -9223372036854775808 ≤ n ∧ n ≤ 9223372036854775807
structure Seen.Rng (s : Seen) : Prop where
  ended : ∀ e, e ∈ s.ended → i64R e.pid
  names : ∀ n, n ∈ s.names → i64R n.pid
  verdict : i64R s.verdict
  spent : i64R s.spent
  clock : i64R s.clock
set_option maxHeartbeats 2000000 in
theorem taleText_pure (hg : GlobT G) (s : Seen) (hb : s.bulk ≤ 2000000) (hr : s.Rng) : Pure Tryz.prog G 10 [s.enc] (texts (tlines s)) := by
  have hto : ∀ x, x ∈ s.out → Pure Tryz.prog G 31 [x.enc] (.str (lineT x)) ∧ (lineT x).length ≤ 800000001 := fun x hx => by
    have := bulk_mem hx
    unfold Seen.bulk at hb
    exact ⟨lineT_pure hg x (by omega), lineT_len x (by omega)⟩
  have hte : ∀ x, x ∈ s.ended → Pure Tryz.prog G 31 [x.reason.enc] (.str (lineT x.reason)) ∧ (lineT x.reason).length ≤ 800000001 := fun x hx => by
    have := bulkE_mem hx
    unfold Seen.bulk at hb
    exact ⟨lineT_pure hg x.reason (by omega), lineT_len x.reason (by omega)⟩
  have htn : ∀ x, x ∈ s.names → Pure Tryz.prog G 31 [.agg [.int .u8 2, .bool false, .nil, .str x.name, .int .i64 0, .nil, .nil]] (.str (lineT (atomTm x.name))) ∧ (lineT (atomTm x.name)).length ≤ 800000001 := fun x hx => by
    have := bulkN_mem hx
    unfold Seen.bulk at hb
    have hk : (atomTm x.name).bulk ≤ 2000000 := by simp only [atomTm, Term.bulk, bulks, List.length_nil]; omega
    exact ⟨(lineT_pure hg (atomTm x.name) hk).lessArgs (.cons (enc_nil 2 false x.name 0) .nil), lineT_len _ hk⟩
  have hio : ∀ n, i64R n → Pure Tryz.prog G 32 [.int .i64 n] (.str (itoa n)) ∧ (itoa n).length ≤ 31 := fun n hn => ⟨itoa_pure hg.pow n hn.1 hn.2, itoa_len2 n hn.1 hn.2⟩
  have hie : ∀ x, x ∈ s.ended → Pure Tryz.prog G 32 [.int .i64 x.pid] (.str (itoa x.pid)) ∧ (itoa x.pid).length ≤ 31 := fun x hx => hio _ (hr.ended x hx)
  have hin : ∀ x, x ∈ s.names → Pure Tryz.prog G 32 [.int .i64 x.pid] (.str (itoa x.pid)) ∧ (itoa x.pid).length ≤ 31 := fun x hx => hio _ (hr.names x hx)
  obtain ⟨hi1, hl1⟩ := hio _ hr.verdict
  obtain ⟨hi2, hl2⟩ := hio _ hr.spent
  obtain ⟨hi3, hl3⟩ := hio _ hr.clock
  have n1 : s.out.length ≤ 2000000 := by have := len_le_bulks s.out; unfold Seen.bulk at hb; omega
  have n2 : s.ended.length ≤ 2000000 := by have := lenE_le s.ended; unfold Seen.bulk at hb; omega
  have n3 : s.names.length ≤ 2000000 := by have := lenN_le s.names; unfold Seen.bulk at hb; omega
  clear hg hb hr hio
  refine Pure.of_le fun σ => ?_
  refine Tri.of_awp mixed Tryz.func10 rfl (by kernel_rfl) (by kernel_rfl) (by simp [Tryz.ntmps10]) Tryz.results10 ?_
  simp -dsimp only [↓bp, bq, br, seval, tbTaleX]
  refine newW_intro fun b1 h1 => ?_
  simp -dsimp only [↓bp, bq, br, seval, tbTaleX]
  refine newT_plain fun b3 h3 => ?_
  obtain ⟨σa, hσa⟩ : ∃ σa, σa = σ.setBox b1 [encs s.out, encE s.ended, encN s.names, .int .i64 s.verdict, .int .i64 s.spent, .int .i64 s.clock] := ⟨_, rfl⟩
  have hla : σ.le σa := by rw [hσa]; exact (AS.le.refl σ).setBox h1.1 _
  have ha : σa.box b1 = some [encs s.out, encE s.ended, encN s.names, .int .i64 s.verdict, .int .i64 s.spent, .int .i64 s.clock] := by rw [hσa]; simp [AS.setBox]
  rw [← hσa] at h3
  have hO0 : Out σa (σa.setBox b3 [.nil]) b3 [] := ⟨h3, .nil, by simp [AS.setBox], Buf.setB (Buf.nil (AS.le.refl _)) h3 _⟩
  rw [← hσa]
  generalize σa.setBox b3 [.nil] = S at *
  have ha0 := hO0.le.box _ _ ha
  clear hσa h1 h3
  simp -dsimp only [↓bp, bq, br, seval, tbTaleX, ha0]
  refine loop_intro (fun n e σ' => ∃ i : Nat, i ≤ s.out.length ∧ n = s.out.length - i ∧ e 15 = .int .i64 i ∧ Out σa σ' b3 ((s.out.take i).map outL)) s.out.length
    ⟨0, by omega, by omega, by first | (simp -dsimp only [↓bp, bq, br, seval, tbTaleX]; done) | (simp -dsimp only [↓bp, bq, br, seval, tbTaleX]; try rfl), by simpa using hO0⟩ ?_
  rintro n v σ2 ⟨i, hi, rfl, h15, hO⟩
  clear hO0 ha0
  simp -dsimp only [↓bp, bq, br, seval, tbTaleX] at h15
  by_cases hlt : (i : Int) < s.out.length
  · obtain ⟨x, hx⟩ : ∃ x, s.out[i]? = some x := ⟨_, List.getElem?_eq_getElem (by omega)⟩
    have hw : IntKind.i64.wrap ((i : Int) + 1) = ((i + 1 : Nat) : Int) := by rw [wrap_nat (by omega) (by omega)]; rfl
    have ha1 : σ2.box b1 = some [encs s.out, encE s.ended, encN s.names, .int .i64 s.verdict, .int .i64 s.spent, .int .i64 s.clock] := hO.le.box _ _ ha
    obtain ⟨hp, hpl⟩ := hto x (List.mem_of_getElem? hx)
    have hlt' := eq_true hlt
    have hjl : (Lib.join [outW, lineT x] [32]).length ≤ 1000000000 := by rw [join2, List.length_append, List.length_cons]; simp only [outW, List.length_cons, List.length_nil]; omega
    have hxl : ((s.out.take i).map outL).length ≤ 1000000000 := by rw [List.length_map, List.length_take]; omega
    clear hto hte htn hie hin hi1 hi2 hi3
    repeat' (first | refine xs ?_ ?_ <;> intros | ((first | refine xh ?_ | refine xi ?_); intro bx hbx; (try simp only [fb] at hbx)) | refine Pure.use (hp) ?_ | refine Pure.head (hp) ?_ | ((refine Tri.mono (putS_tri _ [outW, lineT x] (by simp) (by simp) hjl hxl σa _ b3 (hO.newBox (by first | assumption | (simp only [*]; done)) _)) ?_; rintro r s2 ⟨rfl, hO2⟩)) | refine xj ?_ | ((with_reducible refine And.intro ?_ ?_); omega) | refine bo_buildSlice (d' := ⟨⟩) ?_ | refine xk (by kernel_rfl) ?_ | refine xf ?_ (by repeat' first | exact lr _ | assumption | refine ls ?_ ?_ | refine lt ?_ ?_ | simp only [*]; done | exact lf ‹_› (by simp only [*])) | simp -dsimp only [↓bp, bq, br, seval, tbTaleX, *])
    all_goals
      rw [outL_eq] at hO2
      exact ⟨s.out.length - (i + 1), by omega, i + 1, by omega, rfl, rfl, by rw [take_succ_get _ _ _ hx, List.map_append]; exact hO2⟩
  · have : i = s.out.length := by omega
    subst this
    rw [List.take_length] at hO
    have hlt' := eq_false hlt
    have ha1 : σ2.box b1 = some [encs s.out, encE s.ended, encN s.names, .int .i64 s.verdict, .int .i64 s.spent, .int .i64 s.clock] := hO.le.box _ _ ha
    simp -dsimp only [↓bp, bq, br, seval, tbTaleX, h15, hlt', ha1]
    generalize hL1 : s.out.map outL = L1 at *
    have m1 : L1.length ≤ 2000000 := by rw [← hL1, List.length_map]; exact n1
    clear hto hlt hlt' hi
    refine loop_intro (fun n e σ' => ∃ i : Nat, i ≤ s.ended.length ∧ n = s.ended.length - i ∧ e 28 = .int .i64 i ∧ Out σa σ' b3 (L1 ++ (s.ended.take i).map endL)) s.ended.length
      ⟨0, by omega, by omega, by first | (simp -dsimp only [↓bp, bq, br, seval, tbTaleX]; done) | (simp -dsimp only [↓bp, bq, br, seval, tbTaleX]; try rfl), by simpa using hO⟩ ?_
    clear hO h15 ha1
    rintro n v σ2 ⟨i, hi, rfl, h28, hO⟩
    simp -dsimp only [↓bp, bq, br, seval, tbTaleX] at h28
    by_cases hlt : (i : Int) < s.ended.length
    · obtain ⟨x, hx⟩ : ∃ x, s.ended[i]? = some x := ⟨_, List.getElem?_eq_getElem (by omega)⟩
      have hw : IntKind.i64.wrap ((i : Int) + 1) = ((i + 1 : Nat) : Int) := by rw [wrap_nat (by omega) (by omega)]; rfl
      have ha1 : σ2.box b1 = some [encs s.out, encE s.ended, encN s.names, .int .i64 s.verdict, .int .i64 s.spent, .int .i64 s.clock] := hO.le.box _ _ ha
      obtain ⟨hp, hpl⟩ := hte x (List.mem_of_getElem? hx)
      obtain ⟨hq, hql⟩ := hie x (List.mem_of_getElem? hx)
      have hlt' := eq_true hlt
      have hjl : (Lib.join [endW, itoa x.pid, lineT x.reason] [32]).length ≤ 1000000000 := by rw [join3, List.length_append, List.length_cons, List.length_append, List.length_cons]; simp only [endW, List.length_cons, List.length_nil]; omega
      have hxl : (L1 ++ (s.ended.take i).map endL).length ≤ 1000000000 := by rw [List.length_append, List.length_map, List.length_take]; omega
      clear hte htn hie hin hi1 hi2 hi3
      repeat' (first | refine xs ?_ ?_ <;> intros | ((first | refine xh ?_ | refine xi ?_); intro bx hbx; (try simp only [fb] at hbx)) | refine Pure.use (hp) ?_ | refine Pure.head (hp) ?_ | refine Pure.use (hq) ?_ | refine Pure.head (hq) ?_ | (refine draw_intro 8 (by kernel_rfl) rfl rfl ?_) | ((refine Tri.mono (putS_tri _ [endW, itoa x.pid, lineT x.reason] (by simp) (by simp) hjl hxl σa _ b3 (hO.newBox (by first | assumption | (simp only [*]; done)) _)) ?_; rintro r s2 ⟨rfl, hO2⟩)) | refine xj ?_ | ((with_reducible refine And.intro ?_ ?_); omega) | refine bo_buildSlice (d' := ⟨⟩) ?_ | refine xk (by kernel_rfl) ?_ | refine xf ?_ (by repeat' first | exact lr _ | assumption | refine ls ?_ ?_ | refine lt ?_ ?_ | simp only [*]; done | exact lf ‹_› (by simp only [*])) | simp -dsimp only [↓bp, bq, br, seval, tbTaleX, *])
      all_goals
        rw [endL_eq] at hO2
        exact ⟨s.ended.length - (i + 1), by omega, i + 1, by omega, rfl, rfl, by rw [take_succ_get _ _ _ hx, List.map_append, ← List.append_assoc]; exact hO2⟩
    · have : i = s.ended.length := by omega
      subst this
      rw [List.take_length] at hO
      have hlt' := eq_false hlt
      have ha1 : σ2.box b1 = some [encs s.out, encE s.ended, encN s.names, .int .i64 s.verdict, .int .i64 s.spent, .int .i64 s.clock] := hO.le.box _ _ ha
      simp -dsimp only [↓bp, bq, br, seval, tbTaleX, h28, hlt', ha1]
      generalize hL2 : L1 ++ s.ended.map endL = L2 at *
      have m2 : L2.length ≤ 4000000 := by rw [← hL2, List.length_append, List.length_map]; omega
      clear hte hie hlt hlt' hi
      refine loop_intro (fun n e σ' => ∃ i : Nat, i ≤ s.names.length ∧ n = s.names.length - i ∧ e 45 = .int .i64 i ∧ Out σa σ' b3 (L2 ++ (s.names.take i).map namL)) s.names.length
        ⟨0, by omega, by omega, by first | (simp -dsimp only [↓bp, bq, br, seval, tbTaleX]; done) | (simp -dsimp only [↓bp, bq, br, seval, tbTaleX]; try rfl), by simpa using hO⟩ ?_
      clear hO h28 ha1
      rintro n v σ2 ⟨i, hi, rfl, h45, hO⟩
      simp -dsimp only [↓bp, bq, br, seval, tbTaleX] at h45
      by_cases hlt : (i : Int) < s.names.length
      · obtain ⟨x, hx⟩ : ∃ x, s.names[i]? = some x := ⟨_, List.getElem?_eq_getElem (by omega)⟩
        have hw : IntKind.i64.wrap ((i : Int) + 1) = ((i + 1 : Nat) : Int) := by rw [wrap_nat (by omega) (by omega)]; rfl
        have ha1 : σ2.box b1 = some [encs s.out, encE s.ended, encN s.names, .int .i64 s.verdict, .int .i64 s.spent, .int .i64 s.clock] := hO.le.box _ _ ha
        obtain ⟨hp, hpl⟩ := htn x (List.mem_of_getElem? hx)
        obtain ⟨hq, hql⟩ := hin x (List.mem_of_getElem? hx)
        have hlt' := eq_true hlt
        have hjl : (Lib.join [namW, lineT (atomTm x.name), itoa x.pid] [32]).length ≤ 1000000000 := by rw [join3, List.length_append, List.length_cons, List.length_append, List.length_cons]; simp only [namW, List.length_cons, List.length_nil]; omega
        have hxl : (L2 ++ (s.names.take i).map namL).length ≤ 1000000000 := by rw [List.length_append, List.length_map, List.length_take]; omega
        clear htn hin hi1 hi2 hi3
        repeat' (first | refine xs ?_ ?_ <;> intros | ((first | refine xh ?_ | refine xi ?_); intro bx hbx; (try simp only [fb] at hbx)) | refine Pure.use (hp) ?_ | refine Pure.head (hp) ?_ | refine Pure.use (hq) ?_ | refine Pure.head (hq) ?_ | (refine draw_intro 9 (by kernel_rfl) rfl rfl ?_) | ((refine Tri.mono (putS_tri _ [namW, lineT (atomTm x.name), itoa x.pid] (by simp) (by simp) hjl hxl σa _ b3 (hO.newBox (by first | assumption | (simp only [*]; done)) _)) ?_; rintro r s2 ⟨rfl, hO2⟩)) | refine xj ?_ | ((with_reducible refine And.intro ?_ ?_); omega) | refine bo_buildSlice (d' := ⟨⟩) ?_ | refine xk (by kernel_rfl) ?_ | refine xf ?_ (by repeat' first | exact lr _ | assumption | refine ls ?_ ?_ | refine lt ?_ ?_ | simp only [*]; done | exact lf ‹_› (by simp only [*])) | simp -dsimp only [↓bp, bq, br, seval, tbTaleX, *])
        all_goals
          rw [namL_eq] at hO2
          exact ⟨s.names.length - (i + 1), by omega, i + 1, by omega, rfl, rfl, by rw [take_succ_get _ _ _ hx, List.map_append, ← List.append_assoc]; exact hO2⟩
      · have : i = s.names.length := by omega
        subst this
        rw [List.take_length] at hO
        have hlt' := eq_false hlt
        generalize hL3 : L2 ++ s.names.map namL = L3 at *
        have m3 : L3.length ≤ 6000000 := by rw [← hL3, List.length_append, List.length_map]; omega
        have e1 := verL_eq s.verdict
        have e2 := speL_eq s.spent
        have e3 := cloL_eq s.clock
        have k1 : (Lib.join [[118, 101, 114, 100, 105, 99, 116], itoa s.verdict] [32]).length ≤ 1000000000 := by rw [join2, List.length_append, List.length_cons]; simp only [List.length_cons, List.length_nil]; omega
        have k2 : (Lib.join [[115, 112, 101, 110, 116], itoa s.spent] [32]).length ≤ 1000000000 := by rw [join2, List.length_append, List.length_cons]; simp only [List.length_cons, List.length_nil]; omega
        have k3 : (Lib.join [[99, 108, 111, 99, 107], itoa s.clock] [32]).length ≤ 1000000000 := by rw [join2, List.length_append, List.length_cons]; simp only [List.length_cons, List.length_nil]; omega
        have hT : tlines s = ((L3 ++ [verL s.verdict]) ++ [speL s.spent]) ++ [cloL s.clock] := by
          rw [← hL3, ← hL2, ← hL1]; simp [tlines]
        rw [hT]
        clear htn hin hlt hi hL1 hL2 hL3 hT
        have ha1 : σ2.box b1 = some [encs s.out, encE s.ended, encN s.names, .int .i64 s.verdict, .int .i64 s.spent, .int .i64 s.clock] := hO.le.box _ _ ha
        repeat' (first | refine xs ?_ ?_ <;> intros | ((first | refine xh ?_ | refine xi ?_); intro bx hbx; (try simp only [fb] at hbx)) | refine Pure.use (hi1) ?_ | refine Pure.head (hi1) ?_ | ((refine Tri.mono (putS_tri _ [[118, 101, 114, 100, 105, 99, 116], itoa s.verdict] (by simp) (by simp) k1 (by omega) σa _ b3 hO) ?_; rintro r s3 ⟨rfl, hO3⟩)) | refine xj ?_ | ((with_reducible refine And.intro ?_ ?_); omega) | refine bo_buildSlice (d' := ⟨⟩) ?_ | refine xk (by kernel_rfl) ?_ | refine xf ?_ (by repeat' first | exact lr _ | assumption | refine ls ?_ ?_ | refine lt ?_ ?_ | simp only [*]; done | exact lf ‹_› (by simp only [*])) | simp -dsimp only [↓bp, bq, br, seval, tbTaleX, *])
        rw [e1] at hO3
        have ha2 : s3.box b1 = some [encs s.out, encE s.ended, encN s.names, .int .i64 s.verdict, .int .i64 s.spent, .int .i64 s.clock] := hO3.le.box _ _ ha
        repeat' (first | refine xs ?_ ?_ <;> intros | ((first | refine xh ?_ | refine xi ?_); intro bx hbx; (try simp only [fb] at hbx)) | refine Pure.use (hi2) ?_ | refine Pure.head (hi2) ?_ | ((refine Tri.mono (putS_tri _ [[115, 112, 101, 110, 116], itoa s.spent] (by simp) (by simp) k2 (by rw [List.length_append]; simp only [List.length_cons, List.length_nil]; omega) σa _ b3 hO3) ?_; rintro r s4 ⟨rfl, hO4⟩)) | refine xj ?_ | ((with_reducible refine And.intro ?_ ?_); omega) | refine bo_buildSlice (d' := ⟨⟩) ?_ | refine xk (by kernel_rfl) ?_ | refine xf ?_ (by repeat' first | exact lr _ | assumption | refine ls ?_ ?_ | refine lt ?_ ?_ | simp only [*]; done | exact lf ‹_› (by simp only [*])) | simp -dsimp only [↓bp, bq, br, seval, tbTaleX, *])
        rw [e2] at hO4
        have ha3 : s4.box b1 = some [encs s.out, encE s.ended, encN s.names, .int .i64 s.verdict, .int .i64 s.spent, .int .i64 s.clock] := hO4.le.box _ _ ha
        repeat' (first | refine xs ?_ ?_ <;> intros | ((first | refine xh ?_ | refine xi ?_); intro bx hbx; (try simp only [fb] at hbx)) | refine Pure.use (hi3) ?_ | refine Pure.head (hi3) ?_ | ((refine Tri.mono (putS_tri _ [[99, 108, 111, 99, 107], itoa s.clock] (by simp) (by simp) k3 (by simp only [List.length_append, List.length_cons, List.length_nil]; omega) σa _ b3 hO4) ?_; rintro r s5 ⟨rfl, hO5⟩)) | refine xj ?_ | ((with_reducible refine And.intro ?_ ?_); omega) | refine bo_buildSlice (d' := ⟨⟩) ?_ | refine xk (by kernel_rfl) ?_ | refine xf ?_ (by repeat' first | exact lr _ | assumption | refine ls ?_ ?_ | refine lt ?_ ?_ | simp only [*]; done | exact lf ‹_› (by simp only [*])) | simp -dsimp only [↓bp, bq, br, seval, tbTaleX, *])
        rw [e3] at hO5
        obtain ⟨v5, hv5, hB5⟩ := hO5.ex
        obtain ⟨o1, o2, o3⟩ := buf_one hB5
        have hle := hla.trans hO5.le
        repeat' (first | refine xs ?_ ?_ <;> intros | ((first | refine xh ?_ | refine xi ?_); intro bx hbx; (try simp only [fb] at hbx)) | refine xj ?_ | ((with_reducible refine And.intro ?_ ?_); omega) | refine bo_buildSlice (d' := ⟨⟩) ?_ | refine xk (by kernel_rfl) ?_ | refine xf ?_ (by repeat' first | exact lr _ | assumption | refine ls ?_ ?_ | refine lt ?_ ?_ | simp only [*]; done | exact lf ‹_› (by simp only [*])) | simp -dsimp only [↓bp, bq, br, seval, tbTaleX, *])
        exact finish_le (by simpa [texts] using hB5.told) hle
end Go.Proofs.YtphnoaihojccbaaGreatDoor
set_option maxRecDepth 20000
namespace Go.Proofs.YtphnoaihojccbaaGreatDoor
open Go Go.Av Go.RowKit
def tbTaleXW := And.intro (And.intro (And.intro (And.intro (And.intro @tf3 @tf4) (And.intro @tf5 (And.intro @tf85 @tf9))) (And.intro (And.intro @tf31 @tf40) (And.intro @tf39 (And.intro @tf22 @tf42)))) (And.intro (And.intro (And.intro @tf23 @tf44) (And.intro @tf24 (And.intro @tf46 @tf26))) (And.intro (And.intro @tf57 (And.intro @Term.flat_enc @Term.isv_enc)) (And.intro @Term.fold_enc (And.intro @isv_encs @flat_encs))))) (And.intro (And.intro (And.intro (And.intro @len_encs @ix_encs) (And.intro @isv_lims (And.intro @flat_lims @len_lims))) (And.intro (And.intro @Ended.flat_enc (And.intro @Ended.isv_enc @Ended.fold_enc)) (And.intro @Named.flat_enc (And.intro @Named.isv_enc @Named.fold_enc)))) (And.intro (And.intro (And.intro @Seen.flat_enc @Seen.isv_enc) (And.intro @Seen.fold_enc (And.intro @isv_encE @flat_encE))) (And.intro (And.intro @len_encE (And.intro @ix_encE @isv_encN)) (And.intro @flat_encN (And.intro @len_encN @ix_encN)))))
variable {G : Nat → AV}
theorem le_none {σ σ' : AS} (h : σ.le σ') {b : Nat} (hb : σ'.box b = none) : σ.box b = none := by
  cases e : σ.box b with
  | none => rfl
  | some z => rw [h.box _ _ e] at hb; cases hb
theorem le_noTip {σ σ' : AS} (h : σ.le σ') {b : Nat} (hb : σ'.tip b = none) : σ.tip b = none := by
  cases e : σ.tip b with
  | none => rfl
  | some z => rw [h.tip _ _ e] at hb; cases hb
structure OutW (σ0 σ : AS) (b : Nat) (xs : List (List UInt8)) : Prop where
  fr : σ0.fresh b
  ex : ∃ v, σ.box b = some [v] ∧ WBuf 1 9 σ0 σ v (xs.map AV.str) ∧ notRow v b
theorem OutW.le {σ0 σ : AS} {b : Nat} {xs : List (List UInt8)} (h : OutW σ0 σ b xs) : σ0.le σ := by
  obtain ⟨v, _, h2, _⟩ := h.ex; exact h2.le
theorem OutW.newBox {σ0 σ : AS} {b : Nat} {xs : List (List UInt8)} (h : OutW σ0 σ b xs) {c : Nat} (hc : σ.fresh c) (x : List AV) : OutW σ0 (σ.setBox c x) b xs := by
  obtain ⟨v, h1, h2, h3⟩ := h.ex
  have hne : b ≠ c := fun e => by subst e; rw [hc.1] at h1; cases h1
  exact ⟨h.fr, v, by simp [AS.setBox, hne, h1], (h2.newBox hc x).1, h3⟩
theorem wbuf_one {n : Nat} {E : TypeId} {σ0 σ : AS} {v : AV} {l : List AV} (h : WBuf n E σ0 σ v l) : one v = true ∧ flat v = [v] ∧ isv v = true := by cases h <;> exact ⟨rfl, rfl, rfl⟩
theorem putSW_tri (xs ws : List (List UInt8)) (h1 : ws ≠ []) (hn : ws.length ≤ 1000000) (hl : (Lib.join ws [32]).length ≤ 1000000000) (hx : xs.length ≤ 1000000000) (σ0 σ : AS) (b : Nat) (h : OutW σ0 σ b xs) :
    Tri Tryz.prog G 29 [.sl .full (ws.map AV.str) [], .ptr b 0] σ fun r σ' => r = .tup [] ∧ OutW σ0 σ' b (xs ++ [Lib.join ws [32]]) := by
  have hj := join_pure (G := G) ws [32] .full h1 hn hl
  generalize Lib.join ws [32] = s at *
  obtain ⟨hfr, v, hb, hB, hnr⟩ := h
  obtain ⟨o1, o2, o3⟩ := wbuf_one hB
  have hlen : (xs.map AV.str).length ≤ 1000000000 := by rw [List.length_map]; exact hx
  clear h1 hn hl
  refine Tri.of_awp mixed Tryz.func29 rfl (by kernel_rfl) (by kernel_rfl) (by simp [Tryz.ntmps29]) Tryz.results29 ?_
  repeat' (first | refine xs ?_ ?_ <;> intros | ((first | refine xh ?_ | refine xi ?_); intro bx hbx; (try simp only [fb] at hbx)) | refine Pure.use (hj) ?_ | refine Pure.head (hj) ?_ | (refine build_one tsN (a := .str s) rfl rfl (by omega) ?_) | ((refine app_wb (ys := [.str s]) hB tsN (asrc_sl tsE) (fun a ha => by simp at ha; subst ha; exact ⟨rfl, rfl⟩) (by simp only [List.length_cons, List.length_nil]; omega) (fun v3 σ3 hA => ?_); obtain ⟨hk1, hk2⟩ := hA.keep b _ hb hnr)) | refine xj ?_ | ((with_reducible refine And.intro ?_ ?_); omega) | refine bo_buildSlice (d' := ⟨⟩) ?_ | refine xk (by kernel_rfl) ?_ | refine xf ?_ (by repeat' first | exact lr _ | assumption | refine ls ?_ ?_ | refine lt ?_ ?_ | simp only [*]; done | exact lf ‹_› (by simp only [*])) | simp -dsimp only [↓bp, bq, br, seval, tbTaleXW, *])
  obtain ⟨p1, p2, p3⟩ := wbuf_one hA.buf
  refine ⟨⟨p3, by rw [p2]; rfl⟩, ?_⟩
  rw [p2]
  refine finishW_some _ (AS.le.refl _) ⟨rfl, hfr, v3, by simp [AS.setBox], ?_, hk2⟩
  rw [List.map_append]
  exact hA.buf.setOther hfr.1 hk2 _
set_option maxHeartbeats 2000000 in
theorem taleText_tri (hg : GlobT G) (s : Seen) (hb : s.bulk ≤ 2000000) (hr : s.Rng) (σ : AS) : Tri Tryz.prog G 10 [s.enc] σ fun r σ' => ∃ b, r = .bs b (tlines s).length 1 9 ∧ σ'.box b = some ((tlines s).map AV.str) ∧ σ.le σ' ∧ σ.box b = none ∧ σ.tip b = none := by
  have hto : ∀ x, x ∈ s.out → Pure Tryz.prog G 31 [x.enc] (.str (lineT x)) ∧ (lineT x).length ≤ 800000001 := fun x hx => by
    have := bulk_mem hx
    unfold Seen.bulk at hb
    exact ⟨lineT_pure hg x (by omega), lineT_len x (by omega)⟩
  have hte : ∀ x, x ∈ s.ended → Pure Tryz.prog G 31 [x.reason.enc] (.str (lineT x.reason)) ∧ (lineT x.reason).length ≤ 800000001 := fun x hx => by
    have := bulkE_mem hx
    unfold Seen.bulk at hb
    exact ⟨lineT_pure hg x.reason (by omega), lineT_len x.reason (by omega)⟩
  have htn : ∀ x, x ∈ s.names → Pure Tryz.prog G 31 [.agg [.int .u8 2, .bool false, .nil, .str x.name, .int .i64 0, .nil, .nil]] (.str (lineT (atomTm x.name))) ∧ (lineT (atomTm x.name)).length ≤ 800000001 := fun x hx => by
    have := bulkN_mem hx
    unfold Seen.bulk at hb
    have hk : (atomTm x.name).bulk ≤ 2000000 := by simp only [atomTm, Term.bulk, bulks, List.length_nil]; omega
    exact ⟨(lineT_pure hg (atomTm x.name) hk).lessArgs (.cons (enc_nil 2 false x.name 0) .nil), lineT_len _ hk⟩
  have hio : ∀ n, i64R n → Pure Tryz.prog G 32 [.int .i64 n] (.str (itoa n)) ∧ (itoa n).length ≤ 31 := fun n hn => ⟨itoa_pure hg.pow n hn.1 hn.2, itoa_len2 n hn.1 hn.2⟩
  have hie : ∀ x, x ∈ s.ended → Pure Tryz.prog G 32 [.int .i64 x.pid] (.str (itoa x.pid)) ∧ (itoa x.pid).length ≤ 31 := fun x hx => hio _ (hr.ended x hx)
  have hin : ∀ x, x ∈ s.names → Pure Tryz.prog G 32 [.int .i64 x.pid] (.str (itoa x.pid)) ∧ (itoa x.pid).length ≤ 31 := fun x hx => hio _ (hr.names x hx)
  obtain ⟨hi1, hl1⟩ := hio _ hr.verdict
  obtain ⟨hi2, hl2⟩ := hio _ hr.spent
  obtain ⟨hi3, hl3⟩ := hio _ hr.clock
  have n1 : s.out.length ≤ 2000000 := by have := len_le_bulks s.out; unfold Seen.bulk at hb; omega
  have n2 : s.ended.length ≤ 2000000 := by have := lenE_le s.ended; unfold Seen.bulk at hb; omega
  have n3 : s.names.length ≤ 2000000 := by have := lenN_le s.names; unfold Seen.bulk at hb; omega
  clear hg hb hr hio
  refine Tri.of_awp mixed Tryz.func10 rfl (by kernel_rfl) (by kernel_rfl) (by simp [Tryz.ntmps10]) Tryz.results10 ?_
  simp -dsimp only [↓bp, bq, br, seval, tbTaleXW]
  refine newW_intro fun b1 h1 => ?_
  simp -dsimp only [↓bp, bq, br, seval, tbTaleXW]
  refine newT_plain fun b3 h3 => ?_
  obtain ⟨σa, hσa⟩ : ∃ σa, σa = σ.setBox b1 [encs s.out, encE s.ended, encN s.names, .int .i64 s.verdict, .int .i64 s.spent, .int .i64 s.clock] := ⟨_, rfl⟩
  have hla : σ.le σa := by rw [hσa]; exact (AS.le.refl σ).setBox h1.1 _
  have ha : σa.box b1 = some [encs s.out, encE s.ended, encN s.names, .int .i64 s.verdict, .int .i64 s.spent, .int .i64 s.clock] := by rw [hσa]; simp [AS.setBox]
  rw [← hσa] at h3
  have hO0 : OutW σa (σa.setBox b3 [.nil]) b3 [] := ⟨h3, .nil, by simp [AS.setBox], (WBuf.nil (AS.le.refl _)).setOther h3.1 trivial _, trivial⟩
  rw [← hσa]
  generalize σa.setBox b3 [.nil] = S at *
  have ha0 := hO0.le.box _ _ ha
  clear hσa h1 h3
  simp -dsimp only [↓bp, bq, br, seval, tbTaleXW, ha0]
  refine loop_intro (fun n e σ' => ∃ i : Nat, i ≤ s.out.length ∧ n = s.out.length - i ∧ e 15 = .int .i64 i ∧ OutW σa σ' b3 ((s.out.take i).map outL)) s.out.length
    ⟨0, by omega, by omega, by first | (simp -dsimp only [↓bp, bq, br, seval, tbTaleXW]; done) | (simp -dsimp only [↓bp, bq, br, seval, tbTaleXW]; try rfl), by simpa using hO0⟩ ?_
  rintro n v σ2 ⟨i, hi, rfl, h15, hO⟩
  clear hO0 ha0
  simp -dsimp only [↓bp, bq, br, seval, tbTaleXW] at h15
  by_cases hlt : (i : Int) < s.out.length
  · obtain ⟨x, hx⟩ : ∃ x, s.out[i]? = some x := ⟨_, List.getElem?_eq_getElem (by omega)⟩
    have hw : IntKind.i64.wrap ((i : Int) + 1) = ((i + 1 : Nat) : Int) := by rw [wrap_nat (by omega) (by omega)]; rfl
    have ha1 : σ2.box b1 = some [encs s.out, encE s.ended, encN s.names, .int .i64 s.verdict, .int .i64 s.spent, .int .i64 s.clock] := hO.le.box _ _ ha
    obtain ⟨hp, hpl⟩ := hto x (List.mem_of_getElem? hx)
    have hlt' := eq_true hlt
    have hjl : (Lib.join [outW, lineT x] [32]).length ≤ 1000000000 := by rw [join2, List.length_append, List.length_cons]; simp only [outW, List.length_cons, List.length_nil]; omega
    have hxl : ((s.out.take i).map outL).length ≤ 1000000000 := by rw [List.length_map, List.length_take]; omega
    clear hto hte htn hie hin hi1 hi2 hi3
    repeat' (first | refine xs ?_ ?_ <;> intros | ((first | refine xh ?_ | refine xi ?_); intro bx hbx; (try simp only [fb] at hbx)) | refine Pure.use (hp) ?_ | refine Pure.head (hp) ?_ | ((refine Tri.mono (putSW_tri _ [outW, lineT x] (by simp) (by simp) hjl hxl σa _ b3 (hO.newBox (by first | assumption | (simp only [*]; done)) _)) ?_; rintro r s2 ⟨rfl, hO2⟩)) | refine xj ?_ | ((with_reducible refine And.intro ?_ ?_); omega) | refine bo_buildSlice (d' := ⟨⟩) ?_ | refine xk (by kernel_rfl) ?_ | refine xf ?_ (by repeat' first | exact lr _ | assumption | refine ls ?_ ?_ | refine lt ?_ ?_ | simp only [*]; done | exact lf ‹_› (by simp only [*])) | simp -dsimp only [↓bp, bq, br, seval, tbTaleXW, *])
    all_goals
      rw [outL_eq] at hO2
      exact ⟨s.out.length - (i + 1), by omega, i + 1, by omega, rfl, rfl, by rw [take_succ_get _ _ _ hx, List.map_append]; exact hO2⟩
  · have : i = s.out.length := by omega
    subst this
    rw [List.take_length] at hO
    have hlt' := eq_false hlt
    have ha1 : σ2.box b1 = some [encs s.out, encE s.ended, encN s.names, .int .i64 s.verdict, .int .i64 s.spent, .int .i64 s.clock] := hO.le.box _ _ ha
    simp -dsimp only [↓bp, bq, br, seval, tbTaleXW, h15, hlt', ha1]
    generalize hL1 : s.out.map outL = L1 at *
    have m1 : L1.length ≤ 2000000 := by rw [← hL1, List.length_map]; exact n1
    clear hto hlt hlt' hi
    refine loop_intro (fun n e σ' => ∃ i : Nat, i ≤ s.ended.length ∧ n = s.ended.length - i ∧ e 28 = .int .i64 i ∧ OutW σa σ' b3 (L1 ++ (s.ended.take i).map endL)) s.ended.length
      ⟨0, by omega, by omega, by first | (simp -dsimp only [↓bp, bq, br, seval, tbTaleXW]; done) | (simp -dsimp only [↓bp, bq, br, seval, tbTaleXW]; try rfl), by simpa using hO⟩ ?_
    clear hO h15 ha1
    rintro n v σ2 ⟨i, hi, rfl, h28, hO⟩
    simp -dsimp only [↓bp, bq, br, seval, tbTaleXW] at h28
    by_cases hlt : (i : Int) < s.ended.length
    · obtain ⟨x, hx⟩ : ∃ x, s.ended[i]? = some x := ⟨_, List.getElem?_eq_getElem (by omega)⟩
      have hw : IntKind.i64.wrap ((i : Int) + 1) = ((i + 1 : Nat) : Int) := by rw [wrap_nat (by omega) (by omega)]; rfl
      have ha1 : σ2.box b1 = some [encs s.out, encE s.ended, encN s.names, .int .i64 s.verdict, .int .i64 s.spent, .int .i64 s.clock] := hO.le.box _ _ ha
      obtain ⟨hp, hpl⟩ := hte x (List.mem_of_getElem? hx)
      obtain ⟨hq, hql⟩ := hie x (List.mem_of_getElem? hx)
      have hlt' := eq_true hlt
      have hjl : (Lib.join [endW, itoa x.pid, lineT x.reason] [32]).length ≤ 1000000000 := by rw [join3, List.length_append, List.length_cons, List.length_append, List.length_cons]; simp only [endW, List.length_cons, List.length_nil]; omega
      have hxl : (L1 ++ (s.ended.take i).map endL).length ≤ 1000000000 := by rw [List.length_append, List.length_map, List.length_take]; omega
      clear hte htn hie hin hi1 hi2 hi3
      repeat' (first | refine xs ?_ ?_ <;> intros | ((first | refine xh ?_ | refine xi ?_); intro bx hbx; (try simp only [fb] at hbx)) | refine Pure.use (hp) ?_ | refine Pure.head (hp) ?_ | refine Pure.use (hq) ?_ | refine Pure.head (hq) ?_ | (refine draw_intro 8 (by kernel_rfl) rfl rfl ?_) | ((refine Tri.mono (putSW_tri _ [endW, itoa x.pid, lineT x.reason] (by simp) (by simp) hjl hxl σa _ b3 (hO.newBox (by first | assumption | (simp only [*]; done)) _)) ?_; rintro r s2 ⟨rfl, hO2⟩)) | refine xj ?_ | ((with_reducible refine And.intro ?_ ?_); omega) | refine bo_buildSlice (d' := ⟨⟩) ?_ | refine xk (by kernel_rfl) ?_ | refine xf ?_ (by repeat' first | exact lr _ | assumption | refine ls ?_ ?_ | refine lt ?_ ?_ | simp only [*]; done | exact lf ‹_› (by simp only [*])) | simp -dsimp only [↓bp, bq, br, seval, tbTaleXW, *])
      all_goals
        rw [endL_eq] at hO2
        exact ⟨s.ended.length - (i + 1), by omega, i + 1, by omega, rfl, rfl, by rw [take_succ_get _ _ _ hx, List.map_append, ← List.append_assoc]; exact hO2⟩
    · have : i = s.ended.length := by omega
      subst this
      rw [List.take_length] at hO
      have hlt' := eq_false hlt
      have ha1 : σ2.box b1 = some [encs s.out, encE s.ended, encN s.names, .int .i64 s.verdict, .int .i64 s.spent, .int .i64 s.clock] := hO.le.box _ _ ha
      simp -dsimp only [↓bp, bq, br, seval, tbTaleXW, h28, hlt', ha1]
      generalize hL2 : L1 ++ s.ended.map endL = L2 at *
      have m2 : L2.length ≤ 4000000 := by rw [← hL2, List.length_append, List.length_map]; omega
      clear hte hie hlt hlt' hi
      refine loop_intro (fun n e σ' => ∃ i : Nat, i ≤ s.names.length ∧ n = s.names.length - i ∧ e 45 = .int .i64 i ∧ OutW σa σ' b3 (L2 ++ (s.names.take i).map namL)) s.names.length
        ⟨0, by omega, by omega, by first | (simp -dsimp only [↓bp, bq, br, seval, tbTaleXW]; done) | (simp -dsimp only [↓bp, bq, br, seval, tbTaleXW]; try rfl), by simpa using hO⟩ ?_
      clear hO h28 ha1
      rintro n v σ2 ⟨i, hi, rfl, h45, hO⟩
      simp -dsimp only [↓bp, bq, br, seval, tbTaleXW] at h45
      by_cases hlt : (i : Int) < s.names.length
      · obtain ⟨x, hx⟩ : ∃ x, s.names[i]? = some x := ⟨_, List.getElem?_eq_getElem (by omega)⟩
        have hw : IntKind.i64.wrap ((i : Int) + 1) = ((i + 1 : Nat) : Int) := by rw [wrap_nat (by omega) (by omega)]; rfl
        have ha1 : σ2.box b1 = some [encs s.out, encE s.ended, encN s.names, .int .i64 s.verdict, .int .i64 s.spent, .int .i64 s.clock] := hO.le.box _ _ ha
        obtain ⟨hp, hpl⟩ := htn x (List.mem_of_getElem? hx)
        obtain ⟨hq, hql⟩ := hin x (List.mem_of_getElem? hx)
        have hlt' := eq_true hlt
        have hjl : (Lib.join [namW, lineT (atomTm x.name), itoa x.pid] [32]).length ≤ 1000000000 := by rw [join3, List.length_append, List.length_cons, List.length_append, List.length_cons]; simp only [namW, List.length_cons, List.length_nil]; omega
        have hxl : (L2 ++ (s.names.take i).map namL).length ≤ 1000000000 := by rw [List.length_append, List.length_map, List.length_take]; omega
        clear htn hin hi1 hi2 hi3
        repeat' (first | refine xs ?_ ?_ <;> intros | ((first | refine xh ?_ | refine xi ?_); intro bx hbx; (try simp only [fb] at hbx)) | refine Pure.use (hp) ?_ | refine Pure.head (hp) ?_ | refine Pure.use (hq) ?_ | refine Pure.head (hq) ?_ | (refine draw_intro 9 (by kernel_rfl) rfl rfl ?_) | ((refine Tri.mono (putSW_tri _ [namW, lineT (atomTm x.name), itoa x.pid] (by simp) (by simp) hjl hxl σa _ b3 (hO.newBox (by first | assumption | (simp only [*]; done)) _)) ?_; rintro r s2 ⟨rfl, hO2⟩)) | refine xj ?_ | ((with_reducible refine And.intro ?_ ?_); omega) | refine bo_buildSlice (d' := ⟨⟩) ?_ | refine xk (by kernel_rfl) ?_ | refine xf ?_ (by repeat' first | exact lr _ | assumption | refine ls ?_ ?_ | refine lt ?_ ?_ | simp only [*]; done | exact lf ‹_› (by simp only [*])) | simp -dsimp only [↓bp, bq, br, seval, tbTaleXW, *])
        all_goals
          rw [namL_eq] at hO2
          exact ⟨s.names.length - (i + 1), by omega, i + 1, by omega, rfl, rfl, by rw [take_succ_get _ _ _ hx, List.map_append, ← List.append_assoc]; exact hO2⟩
      · have : i = s.names.length := by omega
        subst this
        rw [List.take_length] at hO
        have hlt' := eq_false hlt
        generalize hL3 : L2 ++ s.names.map namL = L3 at *
        have m3 : L3.length ≤ 6000000 := by rw [← hL3, List.length_append, List.length_map]; omega
        have e1 := verL_eq s.verdict
        have e2 := speL_eq s.spent
        have e3 := cloL_eq s.clock
        have k1 : (Lib.join [[118, 101, 114, 100, 105, 99, 116], itoa s.verdict] [32]).length ≤ 1000000000 := by rw [join2, List.length_append, List.length_cons]; simp only [List.length_cons, List.length_nil]; omega
        have k2 : (Lib.join [[115, 112, 101, 110, 116], itoa s.spent] [32]).length ≤ 1000000000 := by rw [join2, List.length_append, List.length_cons]; simp only [List.length_cons, List.length_nil]; omega
        have k3 : (Lib.join [[99, 108, 111, 99, 107], itoa s.clock] [32]).length ≤ 1000000000 := by rw [join2, List.length_append, List.length_cons]; simp only [List.length_cons, List.length_nil]; omega
        have hT : tlines s = ((L3 ++ [verL s.verdict]) ++ [speL s.spent]) ++ [cloL s.clock] := by
          rw [← hL3, ← hL2, ← hL1]; simp [tlines]
        rw [hT]
        clear htn hin hlt hi hL1 hL2 hL3 hT
        have ha1 : σ2.box b1 = some [encs s.out, encE s.ended, encN s.names, .int .i64 s.verdict, .int .i64 s.spent, .int .i64 s.clock] := hO.le.box _ _ ha
        repeat' (first | refine xs ?_ ?_ <;> intros | ((first | refine xh ?_ | refine xi ?_); intro bx hbx; (try simp only [fb] at hbx)) | refine Pure.use (hi1) ?_ | refine Pure.head (hi1) ?_ | ((refine Tri.mono (putSW_tri _ [[118, 101, 114, 100, 105, 99, 116], itoa s.verdict] (by simp) (by simp) k1 (by omega) σa _ b3 hO) ?_; rintro r s3 ⟨rfl, hO3⟩)) | refine xj ?_ | ((with_reducible refine And.intro ?_ ?_); omega) | refine bo_buildSlice (d' := ⟨⟩) ?_ | refine xk (by kernel_rfl) ?_ | refine xf ?_ (by repeat' first | exact lr _ | assumption | refine ls ?_ ?_ | refine lt ?_ ?_ | simp only [*]; done | exact lf ‹_› (by simp only [*])) | simp -dsimp only [↓bp, bq, br, seval, tbTaleXW, *])
        rw [e1] at hO3
        have ha2 : s3.box b1 = some [encs s.out, encE s.ended, encN s.names, .int .i64 s.verdict, .int .i64 s.spent, .int .i64 s.clock] := hO3.le.box _ _ ha
        repeat' (first | refine xs ?_ ?_ <;> intros | ((first | refine xh ?_ | refine xi ?_); intro bx hbx; (try simp only [fb] at hbx)) | refine Pure.use (hi2) ?_ | refine Pure.head (hi2) ?_ | ((refine Tri.mono (putSW_tri _ [[115, 112, 101, 110, 116], itoa s.spent] (by simp) (by simp) k2 (by rw [List.length_append]; simp only [List.length_cons, List.length_nil]; omega) σa _ b3 hO3) ?_; rintro r s4 ⟨rfl, hO4⟩)) | refine xj ?_ | ((with_reducible refine And.intro ?_ ?_); omega) | refine bo_buildSlice (d' := ⟨⟩) ?_ | refine xk (by kernel_rfl) ?_ | refine xf ?_ (by repeat' first | exact lr _ | assumption | refine ls ?_ ?_ | refine lt ?_ ?_ | simp only [*]; done | exact lf ‹_› (by simp only [*])) | simp -dsimp only [↓bp, bq, br, seval, tbTaleXW, *])
        rw [e2] at hO4
        have ha3 : s4.box b1 = some [encs s.out, encE s.ended, encN s.names, .int .i64 s.verdict, .int .i64 s.spent, .int .i64 s.clock] := hO4.le.box _ _ ha
        repeat' (first | refine xs ?_ ?_ <;> intros | ((first | refine xh ?_ | refine xi ?_); intro bx hbx; (try simp only [fb] at hbx)) | refine Pure.use (hi3) ?_ | refine Pure.head (hi3) ?_ | ((refine Tri.mono (putSW_tri _ [[99, 108, 111, 99, 107], itoa s.clock] (by simp) (by simp) k3 (by simp only [List.length_append, List.length_cons, List.length_nil]; omega) σa _ b3 hO4) ?_; rintro r s5 ⟨rfl, hO5⟩)) | refine xj ?_ | ((with_reducible refine And.intro ?_ ?_); omega) | refine bo_buildSlice (d' := ⟨⟩) ?_ | refine xk (by kernel_rfl) ?_ | refine xf ?_ (by repeat' first | exact lr _ | assumption | refine ls ?_ ?_ | refine lt ?_ ?_ | simp only [*]; done | exact lf ‹_› (by simp only [*])) | simp -dsimp only [↓bp, bq, br, seval, tbTaleXW, *])
        rw [e3] at hO5
        obtain ⟨v5, hv5, hB5, hn5⟩ := hO5.ex
        obtain ⟨r, rfl, g1, g2, g3⟩ := hB5.form (by simp)
        rw [flatMap_str] at g1
        rw [List.length_map] at hv5 hn5
        have hle := hla.trans hO5.le
        repeat' (first | refine xs ?_ ?_ <;> intros | ((first | refine xh ?_ | refine xi ?_); intro bx hbx; (try simp only [fb] at hbx)) | refine xj ?_ | ((with_reducible refine And.intro ?_ ?_); omega) | refine bo_buildSlice (d' := ⟨⟩) ?_ | refine xk (by kernel_rfl) ?_ | refine xf ?_ (by repeat' first | exact lr _ | assumption | refine ls ?_ ?_ | refine lt ?_ ?_ | simp only [*]; done | exact lf ‹_› (by simp only [*])) | simp -dsimp only [↓bp, bq, br, seval, tbTaleXW, *])
        exact finishW_some _ (AS.le.refl _) ⟨r, rfl, g1, hle, le_none hla g2, le_noTip hla g3⟩
end Go.Proofs.YtphnoaihojccbaaGreatDoor
namespace Go.Av
open Go Go.RowKit
variable {H : Type}
mutual
def avW : DataW H → AV
  | .lit (.bool b) => .bool b
  | .lit (.int k n) => .int k n
  | .lit (.string s) => .str s
  | .lit _ => .undef
  | .nil => .sl .none [] []
  | .slice elems _ => .sl .none (avWs elems) []
  | .agg parts => .agg (flatsW parts)
  | _ => .undef
def avWs : List (DataW H) → List AV
  | [] => []
  | d :: r => avW d :: avWs r
def flatsW : List (DataW H) → List AV
  | [] => []
  | d :: r => flat (avW d) ++ flatsW r
end
theorem avWs_map (l : List (DataW H)) : avWs l = l.map avW := by
  induction l with
  | nil => simp [avWs]
  | cons d r ih => simp [avWs, ih]
def tiles (P : Program) : Nat → List Field → Nat → Bool
  | k, [], n => decide (k = n)
  | k, f :: fs, n => decide (f.offset = k) && tiles P (k + P.cellsOf f.type) fs n
def closedT (P : Program) (S : List TypeId) : Bool :=
  S.all fun t => match P.underlying t with
    | some .bool | some (.int _) | some .string => true
    | some (.slice e) => S.contains e && decide (0 < P.cellsOf e)
    | some (.struct fs) => (fs.toList.all fun f => S.contains f.type) && tiles P 0 fs.toList (P.cellsOf t)
    | some (.array n e) => S.contains e && decide (n * P.cellsOf e = P.cellsOf t)
    | _ => false
structure CL (K : Ctx) (cs : List AV) (vs : List Value) : Prop where
  size : vs.length = cs.length
  one : ∀ c, c ∈ cs → one c = true
  at_ : ∀ j (h : j < cs.length), VR K cs[j] (vs.getD j Go.undef)
theorem CL.one1 {K : Ctx} {a : AV} {v : Value} (h : VR K a v) (h1 : Av.one a = true) : CL K [a] [v] :=
  ⟨rfl, fun c hc => by simp at hc; subst hc; exact h1, fun j hj => by
    have : j = 0 := by simpa using hj
    subst this; exact h⟩
theorem CL.append {K : Ctx} {a b : List AV} {v u : List Value} (h : CL K a v) (k : CL K b u) : CL K (a ++ b) (v ++ u) := by
  have h1 := h.size
  refine ⟨by simp [h.size, k.size], fun c hc => ?_, fun j hj => ?_⟩
  · rcases List.mem_append.1 hc with hc | hc
    · exact h.one c hc
    · exact k.one c hc
  · by_cases hja : j < a.length
    · rw [List.getElem_append_left hja]
      have := h.at_ j hja
      simpa [List.getElem?_append_left (show j < v.length by omega)] using this
    · rw [List.getElem_append_right (by omega)]
      have := k.at_ (j - a.length) (by simp at hj; omega)
      simpa [List.getElem?_append_right (show v.length ≤ j by omega), h1] using this
theorem CL.nil {K : Ctx} : CL K [] [] := ⟨rfl, (fun c hc => by cases hc), (fun j hj => by cases hj)⟩
theorem CL.flatMap {α : Type} {K : Ctx} {f : α → List AV} {g : α → List Value} : ∀ (l : List α), (∀ x, x ∈ l → CL K (f x) (g x)) → CL K (l.flatMap f) (l.flatMap g)
  | [], _ => CL.nil
  | x :: l, h => by
    rw [List.flatMap_cons, List.flatMap_cons]
    exact (h x (by simp)).append (CL.flatMap l fun y hy => h y (by simp [hy]))
def tyW (P : Program) : Nat → TypeId → DataW H → Prop
  | 0, _, _ => False
  | n + 1, t, d => match P.underlying t with
    | some .bool => ∃ b, d = .lit (.bool b)
    | some (.int k) => ∃ m, d = .lit (.int k m) ∧ (Lit.int k m).wf = true
    | some .string => ∃ s, d = .lit (.string s) ∧ s.length ≤ maxLen
    | some (.slice e) => d = .nil ∨ ∃ xs sp, d = .slice xs sp ∧ ∀ x, x ∈ xs → tyW P n e x
    | some (.struct fs) => ∃ ds, d = .agg ds ∧ ds.length = fs.size ∧ ∀ (i : Nat) (f : Field) x, fs[i]? = some f → ds[i]? = some x → tyW P n f.type x
    | some (.array m e) => ∃ ds, d = .agg ds ∧ ds.length = m ∧ ∀ x, x ∈ ds → tyW P n e x
    | _ => False
section read
variable {enc : TypeId × Value → H} {P : Program} {w : World} {held : Bool} {K : Ctx} {S : List TypeId}
theorem fields_read {r : TypeId → List Value → Option (DataW H × List MemPlace)} {total : Nat} {cs : List Value}
    (hr : ∀ t cs x, t ∈ S → r t cs = some x → CL K (flat (avW x.1)) cs) : ∀ (fs : List Field) (xs : List (DataW H × List MemPlace)) (k : Nat), (∀ f, f ∈ fs → f.type ∈ S) → tiles P k fs total = true → xs.length = fs.length →
    (∀ (i : Nat) (f : Field), fs[i]? = some f → r f.type ((cs.drop f.offset).take (P.cellsOf f.type)) = xs[i]?) → cs.length = total → CL K (flatsW (xs.map (·.1))) (cs.drop k)
  | [], [], k, _, ht, _, _, hl => by
    simp only [tiles, decide_eq_true_eq] at ht
    rw [List.drop_eq_nil_of_le (by omega)]
    exact CL.nil
  | f :: fs, x :: xs, k, hS, ht, hlen, hx, hl => by
    simp only [tiles, Bool.and_eq_true, decide_eq_true_eq] at ht
    have h0 := hx 0 f rfl
    simp only [List.getElem?_cons_zero, ht.1] at h0
    have h1 := hr _ _ _ (hS f (by simp)) h0
    have h2 := fields_read hr fs xs (k + P.cellsOf f.type) (fun g hg => hS g (by simp [hg])) ht.2 (by simpa using hlen) (fun i g hg => by have := hx (i + 1) g (by simpa using hg); simpa using this) hl
    have e : cs.drop k = (cs.drop k).take (P.cellsOf f.type) ++ cs.drop (k + P.cellsOf f.type) := by
      rw [← List.drop_drop, List.take_append_drop]
    rw [e]
    simp only [List.map_cons, flatsW]
    exact h1.append h2
  | [], _ :: _, _, _, _, h, _, _ => by cases h
  | _ :: _, [], _, _, _, h, _, _ => by cases h
theorem items_read {r : List Value → Option (DataW H × List MemPlace)} {n : Nat} {cs : List Value}
    (hr : ∀ cs x, r cs = some x → CL K (flat (avW x.1)) cs) : ∀ (xs : List (DataW H × List MemPlace)) (k : Nat),
    (∀ i, i < xs.length → r ((cs.drop ((k + i) * n)).take n) = xs[i]?) → cs.length = (k + xs.length) * n → CL K (flatsW (xs.map (·.1))) (cs.drop (k * n))
  | [], k, _, hl => by
    rw [List.drop_eq_nil_of_le (by simp only [List.length_nil, Nat.add_zero] at hl; omega)]
    exact CL.nil
  | x :: xs, k, hx, hl => by
    have h0 := hx 0 (by simp)
    simp only [List.getElem?_cons_zero, Nat.add_zero] at h0
    have h1 := hr _ _ h0
    have h2 := items_read hr xs (k + 1) (fun i hi => by have := hx (i + 1) (by simpa using hi); simpa [Nat.add_assoc, Nat.add_comm 1 i] using this) (by rw [hl, List.length_cons]; congr 1; omega)
    have e : cs.drop (k * n) = (cs.drop (k * n)).take n ++ cs.drop ((k + 1) * n) := by
      rw [Nat.succ_mul, ← List.drop_drop, List.take_append_drop]
    rw [e]
    simp only [List.map_cons, flatsW]
    exact h1.append h2
theorem read_all (hS : closedT P S = true) (hK : ∀ b o v, w.cell? ⟨b, o, none⟩ = some v → K.imm b o = some v) : ∀ (fuel : Nat) (t : TypeId) (cs : List Value) (x : DataW H × List MemPlace), t ∈ S →
    DataW.trod enc P w 0 (fun _ => true) held fuel t cs = some x → tyW P fuel t x.1 ∧ CL K (flat (avW x.1)) cs ∧ isv (avW x.1) = true := by
  intro fuel
  induction fuel with
  | zero => intro t cs x _ h; simp [DataW.trod] at h
  | succ n ih =>
    intro t cs x htS h
    have hc := List.all_eq_true.1 hS t htS
    unfold tyW
    split at hc
    · rename_i ht
      obtain ⟨b, rfl, rfl⟩ := DataW.trod_bool ht h
      simp only [avW]
      exact ⟨⟨b, rfl⟩, CL.one1 (.bool b) rfl, rfl⟩
    · rename_i k ht
      obtain ⟨m, rfl, rfl, hw⟩ := DataW.trod_int ht h
      simp only [avW]
      exact ⟨⟨m, rfl, hw⟩, CL.one1 (.int k m) rfl, rfl⟩
    · rename_i ht
      obtain ⟨s, rfl, rfl, hw⟩ := DataW.trod_string ht h
      simp only [avW]
      exact ⟨⟨_, rfl, by simpa using hw⟩, CL.one1 (.str s.data.toList) rfl, rfl⟩
    · rename_i e ht
      simp only [Bool.and_eq_true, decide_eq_true_eq] at hc
      have heS : e ∈ S := by simpa using hc.1
      rcases DataW.trod_slice ht h with ⟨rfl, rfl⟩ | ⟨a, len, cap, elems, rest, m, hm, rfl, rfl, _, hlc, hml, hlen, hel, hsp, _⟩
      · exact ⟨.inl rfl, by simp only [avW]; exact CL.one1 (.sl0 none) rfl, by simp only [avW]; rfl⟩
      · have hmn : m = n := by omega
        subst hmn
        have hel2 : ∀ i (hi : i < elems.length), ∃ cs, w.cells? 0 (a.add (i * P.cellsOf e)) (P.cellsOf e) = some cs ∧ DataW.trod enc P w 0 (fun _ => true) held m e cs = some elems[i] := fun i hi => by
          have h1 := hel i (by omega)
          rw [List.getElem?_eq_getElem hi, Option.bind_eq_some_iff] at h1
          exact h1
        refine ⟨.inr ⟨_, _, rfl, fun d hd => ?_⟩, ?_, rfl⟩
        · obtain ⟨y, hy, rfl⟩ := List.mem_map.1 hd
          obtain ⟨i, hi, rfl⟩ := List.getElem_of_mem hy
          obtain ⟨cs, _, h2⟩ := hel2 i hi
          exact (ih e cs _ heS h2).1
        · simp only [avW]
          refine CL.one1 ?_ rfl
          rw [avWs_map, List.map_map]
          by_cases hcap : cap = 0
          · have : elems = [] := List.eq_nil_of_length_eq_zero (by omega)
            subst this
            have hl0 : len = 0 := by omega
            subst hcap hl0
            exact .sl0 (some a)
          · obtain ⟨b, off, spot⟩ := a
            have hspot : spot = none := by
              have h0 : ∃ c0, w.cell? ⟨b, off, spot⟩ = some c0 := by
                by_cases hl0 : len = 0
                · obtain ⟨hrl, hr⟩ := hsp rfl
                  have h1 := hr 0 (by omega)
                  obtain ⟨y, hy⟩ : ∃ y, rest[0]? = some y := ⟨_, List.getElem?_eq_getElem (by omega)⟩
                  rw [hy, Option.bind_eq_some_iff] at h1
                  obtain ⟨cs, h2, _⟩ := h1
                  obtain ⟨_, hcl, hcc⟩ := World.cells?_some h2
                  have h3 := hcc 0 hc.2
                  obtain ⟨c0, hc0⟩ : ∃ c0, cs[0]? = some c0 := ⟨_, List.getElem?_eq_getElem (by omega)⟩
                  refine ⟨c0, ?_⟩
                  rw [hc0] at h3
                  simpa [Addr.add, hl0] using h3
                · obtain ⟨cs, h2, _⟩ := hel2 0 (by omega)
                  obtain ⟨_, hcl, hcc⟩ := World.cells?_some h2
                  have h3 := hcc 0 hc.2
                  obtain ⟨c0, hc0⟩ : ∃ c0, cs[0]? = some c0 := ⟨_, List.getElem?_eq_getElem (by omega)⟩
                  refine ⟨c0, ?_⟩
                  rw [hc0] at h3
                  simpa [Addr.add] using h3
              obtain ⟨c0, h0⟩ := h0
              simpa using World.cell?_spot h0
            subst hspot
            have hcell : ∀ i (hi : i < elems.length), ∃ cs, cs.length = P.cellsOf e ∧ (∀ r, r < P.cellsOf e → w.cell? ⟨b, off + (i * P.cellsOf e + r), none⟩ = cs[r]?) ∧ CL K (flat (avW elems[i].1)) cs ∧ isv (avW elems[i].1) = true := fun i hi => by
              obtain ⟨cs, h2, h3⟩ := hel2 i hi
              obtain ⟨_, hcl, hcc⟩ := World.cells?_some h2
              obtain ⟨_, h4, h5⟩ := ih e cs _ heS h3
              refine ⟨cs, hcl, fun r hr => ?_, h4, h5⟩
              have := hcc r hr
              rw [← this, Addr.add_lit, Addr.add_lit, Nat.add_assoc]
            have hflen : ∀ y, y ∈ elems.map (avW ∘ fun x => x.1) → (flat y).length = P.cellsOf e ∧ isv y = true ∧ ∀ c, c ∈ flat y → one c = true := fun y hy => by
              obtain ⟨z, hz, rfl⟩ := List.mem_map.1 hy
              obtain ⟨i, hi, rfl⟩ := List.getElem_of_mem hz
              obtain ⟨cs, hcl, _, h4, h5⟩ := hcell i hi
              exact ⟨by have := h4.size; simp only [Function.comp]; omega, h5, h4.one⟩
            have hfl := flatMap_length (sz := P.cellsOf e) (elems.map (avW ∘ fun x => x.1)) (fun y hy => (hflen y hy).1)
            have hvals : ∀ j (hj : j < ((elems.map (avW ∘ fun x => x.1)).flatMap flat).length), ∃ v, w.cell? ⟨b, off + j, none⟩ = some v ∧ VR K ((elems.map (avW ∘ fun x => x.1)).flatMap flat)[j] v := fun j hj => by
              have hz : 0 < P.cellsOf e := hc.2
              have hj2 : j < elems.length * P.cellsOf e := by rw [hfl, List.length_map] at hj; exact hj
              have hi : j / P.cellsOf e < elems.length := Nat.div_lt_of_lt_mul (by rw [Nat.mul_comm]; exact hj2)
              have hr : j % P.cellsOf e < P.cellsOf e := Nat.mod_lt _ hz
              have hjd : j / P.cellsOf e * P.cellsOf e + j % P.cellsOf e = j := Nat.div_add_mod' j _
              obtain ⟨cs, hcl, h3, h4, h5⟩ := hcell (j / P.cellsOf e) hi
              have h6 := h3 (j % P.cellsOf e) hr
              rw [hjd] at h6
              have hlt : j % P.cellsOf e < (flat (avW elems[j / P.cellsOf e].1)).length := by have := h4.size; omega
              have h7 := h4.at_ _ hlt
              have h8 := flatMap_at (sz := P.cellsOf e) (elems.map (avW ∘ fun x => x.1)) (fun y hy => (hflen y hy).1) (j / P.cellsOf e) (by simpa using hi) (j % P.cellsOf e) hr
              rw [hjd, List.getElem?_eq_getElem hj] at h8
              simp only [List.getElem_map, Function.comp] at h8
              rw [List.getElem?_eq_getElem hlt] at h8
              have h9 := Option.some.inj h8
              refine ⟨cs.getD (j % P.cellsOf e) Go.undef, ?_, ?_⟩
              · rw [h6]; simp [List.getD, show j % P.cellsOf e < cs.length by omega]
              · rw [h9]; exact h7
            have := VR.sl (K := K) .none (elems.map (avW ∘ fun x => x.1)) [] (P.cellsOf e) b off cap (fun j => (w.cell? ⟨b, off + j, none⟩).getD Go.undef)
              (fun y hy => hflen y (by simpa using hy)) (by simp; omega) hml
              (fun j hj => by
                simp only [List.append_nil] at hj
                obtain ⟨v, h1, _⟩ := hvals j hj
                rw [h1]
                exact hK _ _ _ h1)
              (fun j hj => by
                simp only [List.append_nil] at hj ⊢
                obtain ⟨v, h1, h2⟩ := hvals j hj
                rw [h1]; exact h2) trivial
            rw [List.length_map, hlen] at this
            exact this
    · rename_i fs ht
      simp only [Bool.and_eq_true] at hc
      obtain ⟨xs, m, hm, rfl, hcl, hxl, hx⟩ := DataW.trod_struct ht h
      have hmn : m = n := by omega
      subst hmn
      have hfS : ∀ f, f ∈ fs.toList → f.type ∈ S := fun f hf => by have := List.all_eq_true.1 hc.1 f hf; simpa using this
      refine ⟨⟨_, rfl, by simpa using hxl, fun i f x hf hd => ?_⟩, ?_, rfl⟩
      · rw [List.getElem?_map] at hd
        cases hy : xs[i]? with
        | none => rw [hy] at hd; cases hd
        | some y =>
          rw [hy] at hd
          simp only [Option.map_some, Option.some.injEq] at hd
          subst hd
          have h1 := hx i f hf
          rw [hy] at h1
          exact (ih f.type _ y (hfS f (by rw [Array.mem_toList_iff]; exact Array.mem_of_getElem? hf)) h1).1
      · simp only [avW, flat]
        have := fields_read (P := P) (S := S) (K := K) (r := DataW.trod enc P w 0 (fun _ => true) held m) (total := P.cellsOf t) (cs := cs) (fun t cs x hts hh => (ih t cs x hts hh).2.1) fs.toList xs 0 hfS hc.2 (by simpa using hxl) (fun i f hf => hx i f (by simpa using hf)) hcl
        simpa using this
    · rename_i q e ht
      simp only [Bool.and_eq_true, decide_eq_true_eq] at hc
      have heS : e ∈ S := by simpa using hc.1
      obtain ⟨xs, m, hm, rfl, hcl, hxl, hx⟩ := DataW.trod_array ht h
      have hmn : m = n := by omega
      subst hmn
      refine ⟨⟨_, rfl, by simpa using hxl, fun x hd => ?_⟩, ?_, rfl⟩
      · obtain ⟨y, hy, rfl⟩ := List.mem_map.1 hd
        obtain ⟨i, hi, rfl⟩ := List.getElem_of_mem hy
        have h1 := hx i (by omega)
        rw [List.getElem?_eq_getElem hi] at h1
        exact (ih e _ _ heS h1).1
      · simp only [avW, flat]
        have := items_read (K := K) (r := DataW.trod enc P w 0 (fun _ => true) held m e) (n := P.cellsOf e) (cs := cs) (fun cs x hh => (ih e cs x heS hh).2.1) xs 0 (fun i hi => by have := hx i (by omega); simpa using this) (by simp only [Nat.zero_add]; rw [hcl, ← hc.2, hxl])
        simpa using this
    · cases hc
end read
end Go.Av
namespace Go.Av
open Go Go.RowKit Go.WideShapes Go.ChangeShapes
variable {H : Type}
section shut
variable {enc : TypeId × Value → H} {P : Program} {w : World} {held : Bool} {S : List TypeId}
theorem trod_sp (hS : closedT P S = true) {sp : Nat → Bool} : ∀ (fuel : Nat) (t : TypeId) (cs : List Value) (x : DataW H × List MemPlace), t ∈ S →
    DataW.trod enc P w 0 (fun _ => true) held fuel t cs = some x → (∀ p ∈ x.2, sp p.block = true) → DataW.trod enc P w 0 sp held fuel t cs = some x := by
  intro fuel
  induction fuel with
  | zero => intro t cs x _ h; simp [DataW.trod] at h
  | succ n ih =>
    intro t cs x htS h hsp
    have hc := List.all_eq_true.1 hS t htS
    split at hc
    · rename_i ht
      obtain ⟨b, rfl, rfl⟩ := DataW.trod_bool ht h
      simp [DataW.trod, ht]
    · rename_i k ht
      obtain ⟨m, rfl, rfl, hw⟩ := DataW.trod_int ht h
      simp [DataW.trod, ht, hw]
    · rename_i ht
      obtain ⟨s, rfl, rfl, hw⟩ := DataW.trod_string ht h
      simp [DataW.trod, ht, hw]
    · rename_i e ht
      simp only [Bool.and_eq_true, decide_eq_true_eq] at hc
      have heS : e ∈ S := by simpa using hc.1
      rcases DataW.trod_slice ht h with ⟨rfl, rfl⟩ | ⟨a, len, cap, elems, rest, m, hm, rfl, rfl, hb0, hlc, hml, hlen, hel, hspr, _⟩
      · simp [DataW.trod, ht]
      · have hmn : m = n := by omega
        subst hmn
        obtain ⟨hrl, hr⟩ := hspr rfl
        have hpe : ∀ y, y ∈ elems ++ rest → ∀ p ∈ y.2, sp p.block = true := fun y hy p hp => hsp p (by
          simp only [List.mem_append, List.mem_flatMap]
          exact .inr ⟨y, by simpa using hy, hp⟩)
        have step : ∀ (i : Nat) (y : DataW H × List MemPlace), y ∈ elems ++ rest → ((w.cells? 0 (a.add (i * P.cellsOf e)) (P.cellsOf e)).bind (DataW.trod enc P w 0 (fun _ => true) held m e)) = some y →
            ((w.cells? 0 (a.add (i * P.cellsOf e)) (P.cellsOf e)).bind (DataW.trod enc P w 0 sp held m e)) = some y := fun i y hy hh => by
          rw [Option.bind_eq_some_iff] at hh ⊢
          obtain ⟨cs, g1, g2⟩ := hh
          exact ⟨cs, g1, ih e cs y heS g2 (hpe y hy)⟩
        have h1' : (List.range len).mapM (fun i => (w.cells? 0 (a.add (i * P.cellsOf e)) (P.cellsOf e)).bind (DataW.trod enc P w 0 sp held m e)) = some elems :=
          mapM_some_of_get _ _ (by simp [hlen]) (fun i x hx => by
            obtain ⟨hi, rfl⟩ := List.getElem?_eq_some_iff.1 hx
            simp only [List.length_range] at hi
            rw [List.getElem_range, List.getElem?_eq_getElem (by omega)]
            refine step i _ (List.mem_append_left _ (List.getElem_mem _)) ?_
            rw [hel i hi, List.getElem?_eq_getElem (by omega)])
        have h2' : (List.range (cap - len)).mapM (fun j => (w.cells? 0 (a.add ((len + j) * P.cellsOf e)) (P.cellsOf e)).bind (DataW.trod enc P w 0 sp held m e)) = some rest :=
          mapM_some_of_get _ _ (by simp [hrl]) (fun i x hx => by
            obtain ⟨hi, rfl⟩ := List.getElem?_eq_some_iff.1 hx
            simp only [List.length_range] at hi
            rw [List.getElem_range, List.getElem?_eq_getElem (by omega)]
            refine step (len + i) _ (List.mem_append_right _ (List.getElem_mem _)) ?_
            rw [hr i hi, List.getElem?_eq_getElem (by omega)])
        rw [DataW.trod_step]
        unfold DataW.trodStep
        simp only [ht]
        rw [if_pos ⟨hb0, hlc, hml⟩, h1']
        simp only [Option.bind_some]
        by_cases hz : cap - len = 0
        · have : rest = [] := List.eq_nil_of_length_eq_zero (by omega)
          subst this
          rw [hz]
          split <;> simp
        · have hb : sp a.block = true := by
            refine hsp (.cell a.block a.off) ?_
            simp only [List.mem_append]
            refine .inl (MemPlace.mem_row.2 ⟨0, ?_, rfl⟩)
            have hp : 0 < P.cellsOf e := hc.2
            exact Nat.mul_pos (by omega) hp
          rw [if_pos hb, h2']
          simp
    · rename_i fs ht
      simp only [Bool.and_eq_true] at hc
      have hfS : ∀ f, f ∈ fs.toList → f.type ∈ S := fun f hf => by have := List.all_eq_true.1 hc.1 f hf; simpa using this
      obtain ⟨xs, m, hm, rfl, hcl, hxl, hx⟩ := DataW.trod_struct ht h
      have hmn : m = n := by omega
      subst hmn
      have h1' : fs.toList.mapM (fun f => DataW.trod enc P w 0 sp held m f.type ((cs.drop f.offset).take (P.cellsOf f.type))) = some xs :=
        mapM_some_of_get _ _ (by simp [hxl]) (fun i f hf => by
          have hfa : fs[i]? = some f := by simpa using hf
          have h2 := hx i f hfa
          have hi : i < xs.length := by have := (Array.getElem?_eq_some_iff.1 hfa).1; omega
          rw [List.getElem?_eq_getElem hi] at h2 ⊢
          exact ih f.type _ _ (hfS f (by rw [Array.mem_toList_iff]; exact Array.mem_of_getElem? hfa)) h2 fun p hp => hsp p (List.mem_flatMap.2 ⟨_, List.getElem_mem hi, hp⟩))
      rw [DataW.trod_step]
      unfold DataW.trodStep
      simp only [ht]
      rw [if_pos hcl, h1']
      rfl
    · rename_i q e ht
      simp only [Bool.and_eq_true, decide_eq_true_eq] at hc
      have heS : e ∈ S := by simpa using hc.1
      obtain ⟨xs, m, hm, rfl, hcl, hxl, hx⟩ := DataW.trod_array ht h
      have hmn : m = n := by omega
      subst hmn
      have h1' : (List.range q).mapM (fun i => DataW.trod enc P w 0 sp held m e ((cs.drop (i * P.cellsOf e)).take (P.cellsOf e))) = some xs :=
        mapM_some_of_get _ _ (by simp [hxl]) (fun i f hf => by
          obtain ⟨hi, rfl⟩ := List.getElem?_eq_some_iff.1 hf
          simp only [List.length_range] at hi
          rw [List.getElem_range]
          have h2 := hx i hi
          rw [List.getElem?_eq_getElem (by omega)] at h2 ⊢
          exact ih e _ _ heS h2 fun p hp => hsp p (List.mem_flatMap.2 ⟨_, List.getElem_mem (by omega), hp⟩))
      rw [DataW.trod_step]
      unfold DataW.trodStep
      simp only [ht]
      rw [if_pos hcl, h1']
      rfl
    · cases hc
theorem shut_args (hS : closedT P S = true) {w' : World} {sp : Nat → Bool} (hb : Below w.heap.size w w') : ∀ (ts : List TypeId) (vs : List Value) (ds : List (DataW H)) (ps : List MemPlace), (∀ t, t ∈ ts → t ∈ S) →
    DataW.TrodAll enc P w 0 (fun _ => true) held ts vs ds ps → (∀ p ∈ ps, p.block < w.heap.size) → (∀ p ∈ ps, sp p.block = true) → DataW.TrodAll enc P w' 0 sp held ts vs ds ps
  | [], [], [], ps, _, h, _, _ => h
  | t :: ts, v :: vs, d :: ds, ps, hts, ⟨p, q, ⟨fuel, h1⟩, h2, h3⟩, hlt, hsp => by
    subst h3
    have hsame : ∀ x ∈ p, w.sameAt w' x := fun x hx => by
      have hl := hlt x (by simp [hx])
      cases x with
      | cell b o => exact hb.cell (p := ⟨b, o, none⟩) hl
      | map b => exact hb.block b hl
    have h4 := DataW.trod_carry fuel t _ _ h1 hsame
    exact ⟨p, q, ⟨fuel, trod_sp hS fuel t _ _ (hts t (by simp)) h4 fun x hx => hsp x (by simp [hx])⟩,
      shut_args hS hb ts vs ds q (fun t ht => hts t (by simp [ht])) h2 (fun x hx => hlt x (by simp [hx])) (fun x hx => hsp x (by simp [hx])), rfl⟩
  | [], _ :: _, _, _, _, h, _, _ => h.elim
  | [], [], _ :: _, _, _, h, _, _ => h.elim
  | _ :: _, [], _, _, _, h, _, _ => h.elim
  | _ :: _, _ :: _, [], _, _, h, _, _ => h.elim
end shut
section typed
variable {P : Program} {n : Nat} {t : TypeId} {d : DataW H}
end typed
section entry
variable {P : Program} {G : Nat → AV} {W : World}
def entryK (W : World) : Ctx := { imm := fun b o => W.cell? ⟨b, o, none⟩, row := fun _ => none, base := W.heap.size, W := W }
def entryS : AS := { box := fun _ => none, tip := fun _ => none, ty := fun _ => none }
theorem Rel.entry (hG : ∀ g, VR (entryK W) (G g) (.pointer (some ⟨g, 0, none⟩))) : Rel G (entryK W) entryS W :=
  ⟨fun _ _ _ h => h, fun _ _ _ _ h => (by cases h), fun _ _ h => (by cases h), fun _ _ _ h => (by cases h), fun _ _ _ h => (by cases h), hG, Below.refl _ _, Nat.le_refl _⟩
theorem laidVars_mem {P : Program} {w : World} {n : String} {d : DataW Unit} : ∀ (laid : List (String × DataW Unit)) (ps : List MemPlace), DataW.LaidVars P w laid ps → (n, d) ∈ laid →
    ∃ g t cs fuel p, P.globalNamed n = some g ∧ (P.globals[g]?).map (·.type) = some t ∧ w.var? P n = some cs ∧ DataW.trod (fun _ => ()) P w 0 (fun _ => true) false fuel t cs.toList = some (d, p)
  | [], _, _, h => by cases h
  | (m, e) :: r, ps, ⟨g, t, cs, fuel, p, q, h1, h2, h3, h4, h5, _⟩, h => by
    rcases List.mem_cons.1 h with h | h
    · cases h; exact ⟨g, t, cs, fuel, p, h1, h2, h3, h4⟩
    · exact laidVars_mem r q h5 h
theorem laid_glob {S : List TypeId} (hS : closedT P S = true) {laid : List (String × DataW Unit)} (hL : laidMet P laid W) {n : String} {d : DataW Unit} (hm : (n, d) ∈ laid) {g : Nat} {t : TypeId} (hg : P.globalNamed n = some g)
    (ht : (P.globals[g]?).map (·.type) = some t) (htS : t ∈ S) {cs : List AV} (hcs : flat (avW d) = cs) : VR (entryK W) (.rp cs) (.pointer (some ⟨g, 0, none⟩)) := by
  obtain ⟨ps, h1, _⟩ := hL
  obtain ⟨g', t', vs, fuel, p, hg', ht', hvar, hd⟩ := laidVars_mem laid ps h1 hm
  obtain rfl := Option.some.inj (hg.symm.trans hg')
  obtain rfl := Option.some.inj (ht.symm.trans ht')
  obtain ⟨_, h2, _⟩ := read_all (K := entryK W) hS (fun b o v h => h) fuel t _ _ htS hd
  simp only [hcs] at h2
  have hsz := h2.size
  refine .rp cs g 0 (fun j => vs.toList.getD j Go.undef) h2.one (fun j hj => ?_) h2.at_
  have h3 := World.var?_cell hg hvar j
  show W.cell? ⟨g, 0 + j, none⟩ = _
  have hj2 : j < vs.toList.length := by omega
  have hj3 : j < vs.size := by simpa using hj2
  rw [Nat.zero_add, h3]
  simp [hj3]
theorem Pure.calls {f : FuncId} {args : List AV} {vals : List Value} {b : Bool} (h : Pure P G f args (.bool b)) (hG : ∀ g, VR (entryK W) (G g) (.pointer (some ⟨g, 0, none⟩))) (hv : VRl (entryK W) args vals) :
    Calls P f vals.toArray W fun e w' => e = .returned (.bool b) ∧ Below W.heap.size W w' := by
  refine ((h entryS).2 (entryK W) W vals (Rel.entry hG) hv).mono ?_
  rintro e w' ⟨v, r, σ', K', rfl, ⟨rfl, rfl⟩, hvr, hrel, hle⟩
  rw [VR.bool_iff] at hvr
  subst hvr
  have hb := hrel.below
  rw [hle.base, hle.W] at hb
  exact ⟨rfl, hb⟩
end entry
theorem law_post {t0 : TypeId} {enc : TypeId × Value → H} {P : Program} {f : Func} {s : ChangeSpec} {W W' : World} {args : Array Value} {ds gs : List (DataW H)} {before : List MemPlace} {S : List TypeId} (hS : closedT P S = true) (hts : ∀ t, t ∈ f.params.toList → t ∈ S)
    (hvars : s.vars = []) (hres : f.resultTypes = #[t0]) (ht0 : P.underlying t0 = some .bool)
    (hfn : s.fn H (ds ++ gs) = { results := [.lit (.bool true)], args := ds })
    (hW : DataW.Whole enc P f.params.toList s.vars false W args.toList ds gs before) (hb : Below W.heap.size W W') :
    s.post enc P f false true false false W args (.bool true) W' := by
  have hW' := hW
  obtain ⟨p, q, hA, hV, rfl, hfz, hnd⟩ := hW
  rw [hvars] at hV
  obtain ⟨hgs, rfl⟩ := trodVars_none hV
  rw [List.append_nil] at hW'
  have hA' : DataW.TrodAll enc P W 0 (fun _ => true) true f.params.toList args.toList ds p := hA
  have hlt : ∀ x ∈ p, x.block < W.heap.size := fun x hx => hA'.lt x hx
  have inW : ∀ x ∈ p, decide (x.block < W.heap.size) = true := fun x hx => by simpa using hlt x hx
  have results : ∀ (b : Nat) (sp : Nat → Bool) (hd : Bool), DataW.TrodAll enc P W' b sp hd f.resultTypes.toList ((Value.bool true).resultList f.resultTypes.size) (s.fn H (ds ++ gs)).results [] := fun b sp hd => by
    rw [hfn, hres]; exact trodAll_cons_mk (shut_bool ht0 _) trodAll_mk0
  have arguments : ∀ sp : Nat → Bool, (∀ x ∈ p, sp x.block = true) → DataW.TrodAll enc P W' 0 sp true f.params.toList args.toList (s.fn H (ds ++ gs)).args p := fun sp hsp => by
    rw [hfn]; exact shut_args hS hb _ _ _ _ hts hA' hlt hsp
  have variables_ : ∀ sp : Nat → Bool, DataW.TrodVars enc P W' sp s.vars (s.fn H (ds ++ gs)).vars [] := fun sp => by
    rw [hfn, hvars]; exact rfl
  refine ⟨ds, gs, p, [], p, [], by simpa using hW', results _ _ _, arguments _ inW, variables_ _, World.keptBut_mono (fun x hx => hx.elim) (hb.frame fun _ => False), fun _ => ?_⟩
  refine ⟨?_, _, _, p, ⟨p, [], trodAll_append (arguments _ fun _ _ => rfl) (results _ _ _), variables_ _, (by simp), ?_, fun h => (by cases h)⟩, fun x hx _ => (by simpa using hx)⟩
  · exact ok_one hres rfl (okWide_bool_mk ht0 _)
  · intro b o hx
    rw [hb.frozen (p := ⟨b, o, none⟩) (hlt (.cell b o) hx)]
    exact hfz b o (by simpa using hx)
end Go.Av
