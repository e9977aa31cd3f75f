/- An integer's text. -/
import Derived.Test.YtphnoaihojccbaaGreatDoorZ06
import Derived.Test.YtphnoaihojccbaaGreatDoorZ05
import Derived.Test.YtphnoaihojccbaaGreatDoorZ04
import Derived.Shelf.Strings.Builder1
import Derived.Shelf.Strings.Builder2
import Derived.Shelf.Strings.OnBuilder
import Derived.Shelf.Strings.BuilderF
import Derived.Shelf.Strings.BuilderK
import Derived.Shelf.Strconv.Itoa0
import Derived.Shelf.Strconv.Itoa1
import Derived.Shelf.LaysM
import Derived.Shelf.Strconv.Itoa2
import Derived.Shelf.Strconv.Itoa3
import Derived.Test.YtphnoaihojccbaaGreatDoorProg
import Derived.Lib.AppendIntMem
set_option linter.unusedVariables false
set_option linter.unusedSimpArgs false
set_option maxRecDepth 20000
set_option linter.defProp false
namespace Go.Proofs.YtphnoaihojccbaaGreatDoor
open Go Go.Av
def tbWText := And.intro (And.intro (And.intro (And.intro @tf3 (And.intro @tf4 @tf5)) (And.intro @tf85 (And.intro @tf9 @tf40))) (And.intro (And.intro @tf86 (And.intro @tf39 @tf22)) (And.intro @tf42 (And.intro @bytesA_len @Term.flat_enc)))) (And.intro (And.intro (And.intro @Term.isv_enc (And.intro @Term.fold_enc @isv_encs)) (And.intro @flat_encs (And.intro @len_encs @isv_lims))) (And.intro (And.intro @flat_lims (And.intro @len_lims @ix_lims)) (And.intro (And.intro @ix_lims' @flat_limA) (And.intro @isv_byteA @flat_byteA))))
variable (G : Nat → AV)
theorem canon_zero {m : List UInt32} (h : m = [] ∨ ∃ q x, m = q ++ [x] ∧ x ≠ 0) (h0 : val m = 0) : m = [] := by
  rcases h with h | ⟨q, x, rfl, hx⟩
  · exact h
  · rw [val_append] at h0
    simp only [val] at h0
    have hp : 0 < 4294967296 ^ q.length := Nat.pow_pos (by omega)
    have : x.toNat ≠ 0 := fun e => hx (UInt32.toNat_inj.1 (by simpa using e))
    have : 0 < 4294967296 ^ q.length * (x.toNat + 4294967296 * 0) := Nat.mul_pos hp (by omega)
    omega
theorem wr_int {t : Term} (h : wr t = true) : t = intT t.neg t.limbs ∧ (t.limbs = [] ∨ ∃ q x, t.limbs = q ++ [x] ∧ x ≠ 0) ∧ t.limbs.length ≤ 32 := by
  obtain ⟨h1, h2, h3, h4, h5, h6, h7, h8⟩ := wr_spec h
  refine ⟨term_ext h1 rfl rfl h2 h3 h4 h5, ?_, h6⟩
  rcases List.eq_nil_or_concat t.limbs with e | ⟨q, x, e⟩
  · exact .inl e
  · rw [List.concat_eq_append] at e
    refine .inr ⟨q, x, e, fun hx => ?_⟩
    have := h8 (by rw [e]; simp)
    rw [e] at this
    simp [lastOk, hx] at this
theorem intT_limbs (g : Bool) (m : List UInt32) : (intT g m).limbs = m := rfl
theorem intT_fold (g : Bool) (m : List UInt32) : AV.agg [.int .u8 (intT g m).knd, .bool g, lims m, .str (intT g m).text, .int .i64 (intT g m).num, encs (intT g m).items, encs (intT g m).tail] = (intT g m).enc := (intT g m).fold_enc
theorem intT_neg (g : Bool) (m : List UInt32) : (intT g m).neg = g := rfl
theorem digs_step {n : Nat} (h : n ≠ 0) : digs n = UInt8.ofNat (48 + n % 10) :: digs (n / 10) := by rw [digs, dif_neg h]
theorem dig_byte (d : Nat) (h : d < 10) : AV.int .u8 (IntKind.u8.wrap (IntKind.u32.wrap (48 + (d : Int)))) = byteA (UInt8.ofNat (48 + d)) := by
  unfold byteA
  rw [u32_wrap (by omega) (by omega), IntKind.wrap_u8, UInt8.toNat_ofNat']
  congr 1
theorem bytesOf_bytesA (l : List UInt8) : bytesOf (bytesA l) = some l := by
  induction l with
  | nil => rfl
  | cons c l ih =>
    have : Av.byteOf (byteA c) = some c := by simp [Av.byteOf, byteA]
    simp only [bytesA, List.map_cons, bytesOf] at ih ⊢
    rw [this, ih]
theorem app_bytes (a b : List UInt8) : bytesA a ++ bytesA b = bytesA (a ++ b) := by simp [bytesA]
theorem rev_buf {σ1 s : AS} {v : AV} {zs : List UInt8} (h : WBuf 1 5 σ1 s v (bytesA zs)) (hne : zs ≠ []) (hl : zs.length ≤ 1000000) :
    Tri Tryz.prog G 140 [v] s fun r s' => ∃ rr, v = .bs rr zs.length 1 5 ∧ s'.box rr = some (bytesA zs.reverse) ∧ σ1.le s' := by
  obtain ⟨r, hr, hrb, hr0, hr1⟩ := h.form (by simpa [bytesA] using hne)
  rw [flat_bytesA] at hrb
  rw [bytesA_len] at hr
  subst hr
  refine (reverse_tri G zs (by omega) s r hrb).mono ?_
  rintro _ s' rfl
  exact ⟨r, rfl, by simp [AS.setBox], h.le.setBox hr0 _⟩
theorem digs_len : ∀ (k n : Nat), n < 10 ^ k → (digs n).length ≤ k
  | 0, n, h => by
    have : n = 0 := by simp at h; omega
    subst this
    rw [digs]; simp
  | k + 1, n, h => by
    by_cases h0 : n = 0
    · subst h0; rw [digs]; simp
    · rw [digs_step h0, List.length_cons]
      have := digs_len k (n / 10) (by rw [Nat.pow_succ] at h; omega)
      omega
theorem val_lt : ∀ l : List UInt32, val l < 4294967296 ^ l.length
  | [] => by simp [val]
  | x :: l => by
    have := val_lt l
    have := x.toNat_lt
    simp only [val, List.length_cons, Nat.pow_succ]
    omega
theorem dig_bound {l : List UInt32} (h : l.length ≤ 32) : (digs (val l)).length ≤ 309 := by
  refine digs_len 309 _ (Nat.lt_of_lt_of_le (val_lt l) (Nat.le_trans (Nat.pow_le_pow_right (by omega) h) ?_))
  decide +kernel
set_option maxHeartbeats 2000000 in
theorem wtext_pure (t : Term) (hb : t.bulk ≤ 1000000000) : Pure Tryz.prog G 100 [t.enc] (.str (if wr t = true then wsaid t else [])) := by
  have hw := wr_pure G t hb
  cases ew : wr t with
  | false =>
    rw [ew] at hw
    intro σ
    refine Tri.of_awp mixed Tryz.func100 rfl (by kernel_rfl) (by kernel_rfl) (by simp [Tryz.ntmps100]) Tryz.results100 ?_
    repeat' (first | refine xs ?_ ?_ <;> intros | ((first | refine xh ?_ | refine xi ?_); intro bx hbx; (try simp only [fb] at hbx)) | refine Pure.use (hw) ?_ | refine Pure.head (hw) ?_ | refine xj ?_ | ((with_reducible refine And.intro ?_ ?_); omega) | refine bo_buildSlice (d' := ⟨⟩) ?_ | refine xk (by kernel_rfl) ?_ | refine xf ?_ (by repeat' first | exact lr _ | assumption | refine ls ?_ ?_ | refine lt ?_ ?_ | simp only [*]; done | exact lf ‹_› (by simp only [*])) | simp -dsimp only [↓bp, bq, br, seval, tbWText, bytesOf_bytesA, intT_fold, intT_limbs, intT_neg, List.length_reverse, *])
    all_goals rfl
  | true =>
    rw [ew] at hw
    obtain ⟨et, hcan, h32⟩ := wr_int ew
    rw [if_pos rfl]
    obtain ⟨g, hg⟩ : ∃ g, t.neg = g := ⟨_, rfl⟩
    obtain ⟨l, hl⟩ : ∃ l, t.limbs = l := ⟨_, rfl⟩
    have hsaid : wsaid t = (if g = true then [45] else []) ++ decT (val l) := by unfold wsaid; rw [hg, hl]
    rw [hsaid]
    rw [hg, hl] at et
    rw [hl] at hcan h32
    subst et
    clear hsaid hg hl hb ew
    have hsh := fun (m : List UInt32) (h : m.length ≤ 32) => short_pure G m 10 (by omega) (by omega) (by omega)
    have hmd := fun (m : List UInt32) (h : m.length ≤ 32) => made_pure G m false (by omega)
    have hdb := dig_bound h32
    intro σ
    refine Tri.of_awp mixed Tryz.func100 rfl (by kernel_rfl) (by kernel_rfl) (by simp [Tryz.ntmps100]) Tryz.results100 ?_
    repeat' (first | refine xs ?_ ?_ <;> intros | ((first | refine xh ?_ | refine xi ?_); intro bx hbx; (try simp only [fb] at hbx)) | refine Pure.use (hw) ?_ | refine Pure.head (hw) ?_ | refine xj ?_ | ((with_reducible refine And.intro ?_ ?_); omega) | refine bo_buildSlice (d' := ⟨⟩) ?_ | refine xk (by kernel_rfl) ?_ | refine xf ?_ (by repeat' first | exact lr _ | assumption | refine ls ?_ ?_ | refine lt ?_ ?_ | simp only [*]; done | exact lf ‹_› (by simp only [*])) | simp -dsimp only [↓bp, bq, br, seval, tbWText, bytesOf_bytesA, intT_fold, intT_limbs, intT_neg, List.length_reverse, *])
    rename_i b1 hb1
    obtain ⟨σ1, hs1⟩ : ∃ σ1, σ1 = σ.setBox b1 (flat (intT g l).enc) := ⟨_, rfl⟩
    have hle1 : σ.le σ1 := by rw [hs1]; exact (AS.le.refl σ).setBox hb1.1 _
    have hf1 : σ1.box b1 = some (flat (intT g l).enc) := by rw [hs1]; simp [AS.setBox]
    rw [Term.flat_enc, intT_limbs, intT_neg] at hs1
    rw [← hs1]
    have hbx' : σ1.fresh bx := by rw [hs1, fresh_setBox]; exact ⟨hbx.1, hbx.2.1⟩
    refine loop_intro (fun n e σ' => ∃ (m : List UInt32) (gg : Bool) (b4 : Nat) (v : AV) (xs : List UInt8), n = val m ∧ (m = [] ∨ ∃ q x, m = q ++ [x] ∧ x ≠ 0) ∧ m.length ≤ 32 ∧ e 4 = .ptr b4 0 ∧ σ'.box b4 = some (flat (intT gg m).enc) ∧ e 3 = v ∧
      WBuf 1 5 σ1 σ' v (bytesA xs) ∧ notRow v b4 ∧ σ1.box b4 = none ∧ xs ++ digs (val m) = digs (val l)) (val l)
      ⟨l, g, bx, .nil, [], rfl, hcan, h32, by first | (simp -dsimp only [↓bp, bq, br, seval, tbWText, bytesOf_bytesA, intT_fold, intT_limbs, intT_neg, List.length_reverse]; done) | (simp -dsimp only [↓bp, bq, br, seval, tbWText, bytesOf_bytesA, intT_fold, intT_limbs, intT_neg, List.length_reverse]; try rfl), by rw [Term.flat_enc]; first | (simp -dsimp only [↓bp, bq, br, seval, tbWText, bytesOf_bytesA, intT_fold, intT_limbs, intT_neg, List.length_reverse]; done) | (simp -dsimp only [↓bp, bq, br, seval, tbWText, bytesOf_bytesA, intT_fold, intT_limbs, intT_neg, List.length_reverse]; try rfl), by first | (simp -dsimp only [↓bp, bq, br, seval, tbWText, bytesOf_bytesA, intT_fold, intT_limbs, intT_neg, List.length_reverse]; done) | (simp -dsimp only [↓bp, bq, br, seval, tbWText, bytesOf_bytesA, intT_fold, intT_limbs, intT_neg, List.length_reverse]; try rfl), .nil ((AS.le.refl σ1).setBox hbx'.1 _), trivial, hbx'.1, rfl⟩ ?_
    rintro n v σ' ⟨m, gg, b4, v3, xs, rfl, hc, hm, h4, hb4, h3, hB, hn, h14, hxs⟩
    have hsh := hsh m hm
    obtain ⟨q1, q2, q3⟩ := divd_spec 10 (by omega) (by omega) m
    have hmd := hmd (divd m 10).1 (by omega)
    have hsl := strip_len (divd m 10).1
    have hmr : madeR (divd m 10).1 false = .tup [(intT false (strip (divd m 10).1)).enc, .bool true] := by unfold madeR; rw [if_pos (by omega), Bool.false_and]
    rw [hmr] at hmd
    have hv1 : val (strip (divd m 10).1) = val m / 10 := by rw [strip_val]; omega
    have hd1 : (divd m 10).2 = val m % 10 := by omega
    have hcn := strip_last (divd m 10).1
    rw [Term.flat_enc, intT_limbs, intT_neg] at hb4
    rw [hd1] at hsh q2
    generalize hq : (divd m 10).1 = q at *
    generalize strip q = q' at *
    simp -dsimp only [↓bp, bq, br, seval, tbWText, bytesOf_bytesA, intT_fold, intT_limbs, intT_neg, List.length_reverse] at h4 h3
    rcases List.eq_nil_or_concat m with hm0 | ⟨m', x, hm0⟩
    · have hml : (m.length : Int) = 0 := by rw [hm0]; rfl
      have hxd : xs = digs (val l) := by
        rw [hm0] at hxs
        have e0 : digs (val []) = [] := by rw [digs]; simp [val]
        rw [e0, List.append_nil] at hxs
        exact hxs
      have hlv := hB.len (P := Tryz.prog) (t := 86)
      rw [bytesA_len] at hlv
      have hk0 := hB.le.box b1 _ hf1
      rw [Term.flat_enc, intT_limbs, intT_neg] at hk0 hf1
      have a48 : asrc Tryz.prog 86 (.sl .full [.int .u8 48] []) = some (bytesA [48]) := asrc_sl tfBE
      have a45 : asrc Tryz.prog 86 (.sl .full [.int .u8 45] []) = some (bytesA [45]) := asrc_sl tfBE
      have hxl : xs.length ≤ 309 := by rw [hxd]; exact hdb
      have hdec : decT (val l) = if xs = [] then [48] else xs.reverse := by
        unfold decT
        by_cases hv : val l = 0
        · rw [if_pos hv, if_pos (by rw [hxd, hv, digs]; simp)]
        · rw [if_neg hv, if_neg (by rw [hxd]; exact digs_ne hv), hxd]
      rw [hdec]
      clear hdec hw hsh hmd hdb hm0 hxs hmr hv1 hd1 hcn hc hs1 hxd q1 q2 q3 hsl hq hbx hm
      by_cases hx0 : xs = []
      · subst hx0
        rw [if_pos rfl]
        have hz : (([] : List UInt8).length : Int) = 0 := rfl
        rw [hz] at hlv
        cases g with
        | false =>
          repeat' (first | refine xs ?_ ?_ <;> intros | ((first | refine xh ?_ | refine xi ?_); intro bx hbx; (try simp only [fb] at hbx)) | ((refine app_wb (ys := bytesA [48]) hB tfB a48 (bytes_ok _) (by simp [bytesA]) (fun v5 s5 ha => ?_); have k5 := ha.buf.le.box b1 _ hf1; have hb5 := ha.buf; have hl5 := hb5.len (P := Tryz.prog) (t := 86); rw [app_bytes] at hb5; clear ha)) | ((refine Tri.mono (rev_buf G hb5 (by simp) (by simp)) ?_; rintro _ s ⟨rr, rfl, hrr, hles⟩; replace hles := hle1.trans hles)) | refine xj ?_ | ((with_reducible refine And.intro ?_ ?_); omega) | refine bo_buildSlice (d' := ⟨⟩) ?_ | refine xk (by kernel_rfl) ?_ | refine xf ?_ (by repeat' first | exact lr _ | assumption | refine ls ?_ ?_ | refine lt ?_ ?_ | simp only [*]; done | exact lf ‹_› (by simp only [*])) | simp -dsimp only [↓bp, bq, br, seval, tbWText, bytesOf_bytesA, intT_fold, intT_limbs, intT_neg, List.length_reverse, *])
          all_goals simp
        | true =>
          repeat' (first | refine xs ?_ ?_ <;> intros | ((first | refine xh ?_ | refine xi ?_); intro bx hbx; (try simp only [fb] at hbx)) | ((refine app_wb (ys := bytesA [48]) hB tfB a48 (bytes_ok _) (by simp [bytesA]) (fun v5 s5 ha => ?_); have k5 := ha.buf.le.box b1 _ hf1; have hb5 := ha.buf; have hl5 := hb5.len (P := Tryz.prog) (t := 86); rw [app_bytes] at hb5; clear ha)) | ((refine app_wb (ys := bytesA [45]) hb5 tfB a45 (bytes_ok _) (by simp [bytesA]) (fun v6 s6 ha => ?_); have k6 := ha.buf.le.box b1 _ hf1; have hb6 := ha.buf; have hl6 := hb6.len (P := Tryz.prog) (t := 86); rw [app_bytes] at hb6; clear ha)) | ((refine Tri.mono (rev_buf G hb6 (by simp) (by simp)) ?_; rintro _ s ⟨rr, rfl, hrr, hles⟩; replace hles := hle1.trans hles)) | refine xj ?_ | ((with_reducible refine And.intro ?_ ?_); omega) | refine bo_buildSlice (d' := ⟨⟩) ?_ | refine xk (by kernel_rfl) ?_ | refine xf ?_ (by repeat' first | exact lr _ | assumption | refine ls ?_ ?_ | refine lt ?_ ?_ | simp only [*]; done | exact lf ‹_› (by simp only [*])) | simp -dsimp only [↓bp, bq, br, seval, tbWText, bytesOf_bytesA, intT_fold, intT_limbs, intT_neg, List.length_reverse, *])
          all_goals simp
      · rw [if_neg hx0]
        have hz : ¬ (xs.length : Int) = 0 := fun e => hx0 (List.eq_nil_of_length_eq_zero (by omega))
        cases g with
        | false =>
          repeat' (first | refine xs ?_ ?_ <;> intros | ((first | refine xh ?_ | refine xi ?_); intro bx hbx; (try simp only [fb] at hbx)) | ((refine Tri.mono (rev_buf G hB hx0 (by omega)) ?_; rintro _ s ⟨rr, rfl, hrr, hles⟩; replace hles := hle1.trans hles)) | refine xj ?_ | ((with_reducible refine And.intro ?_ ?_); omega) | refine bo_buildSlice (d' := ⟨⟩) ?_ | refine xk (by kernel_rfl) ?_ | refine xf ?_ (by repeat' first | exact lr _ | assumption | refine ls ?_ ?_ | refine lt ?_ ?_ | simp only [*]; done | exact lf ‹_› (by simp only [*])) | simp -dsimp only [↓bp, bq, br, seval, tbWText, bytesOf_bytesA, intT_fold, intT_limbs, intT_neg, List.length_reverse, *])
          all_goals simp
        | true =>
          repeat' (first | refine xs ?_ ?_ <;> intros | ((first | refine xh ?_ | refine xi ?_); intro bx hbx; (try simp only [fb] at hbx)) | ((refine app_wb (ys := bytesA [45]) hB tfB a45 (bytes_ok _) (by simp [bytesA]; omega) (fun v6 s6 ha => ?_); have k6 := ha.buf.le.box b1 _ hf1; have hb6 := ha.buf; have hl6 := hb6.len (P := Tryz.prog) (t := 86); rw [app_bytes] at hb6; clear ha)) | ((refine Tri.mono (rev_buf G hb6 (by simp) (by simp; omega)) ?_; rintro _ s ⟨rr, rfl, hrr, hles⟩; replace hles := hle1.trans hles)) | refine xj ?_ | ((with_reducible refine And.intro ?_ ?_); omega) | refine bo_buildSlice (d' := ⟨⟩) ?_ | refine xk (by kernel_rfl) ?_ | refine xf ?_ (by repeat' first | exact lr _ | assumption | refine ls ?_ ?_ | refine lt ?_ ?_ | simp only [*]; done | exact lf ‹_› (by simp only [*])) | simp -dsimp only [↓bp, bq, br, seval, tbWText, bytesOf_bytesA, intT_fold, intT_limbs, intT_neg, List.length_reverse, *])
          all_goals simp
    · have hml : (0 : Int) < m.length := by rw [hm0]; simp
      have hv0 : val m ≠ 0 := fun e => by have := canon_zero hc e; rw [hm0] at this; simp at this
      rw [digs_step hv0] at hxs
      have hdig := dig_byte (val m % 10) q2
      have hlen : xs.length + 1 ≤ 309 := by have := congrArg List.length hxs; simp at this; omega
      have hbs : asrc Tryz.prog 86 (.sl .full [byteA (UInt8.ofNat (48 + val m % 10))] []) = some (bytesA [UInt8.ofNat (48 + val m % 10)]) := asrc_sl tfBE
      have hq32 : q'.length ≤ 32 := by omega
      clear hm0 hw hdb q1 q3 hd1 hmr hsl hf1 hbx hs1 hq
      repeat' (first | refine xs ?_ ?_ <;> intros | ((first | refine xh ?_ | refine xi ?_); intro bx hbx; (try simp only [fb] at hbx)) | refine Pure.use (hsh) ?_ | refine Pure.head (hsh) ?_ | refine Pure.use (hmd) ?_ | refine Pure.head (hmd) ?_ | ((refine app_wb (ys := bytesA [UInt8.ofNat (48 + val m % 10)]) (hB.setOther h14 hn _) tfB hbs (bytes_ok _) (by rw [bytesA_len, bytesA_len]; simp; omega) (fun v5 s5 ha => ?_); have k1 := ha.keep b4 (flat (intT false q').enc) (by rw [Term.flat_enc]; simp [AS.setBox, intT_limbs, intT_neg]) hn; rw [Term.flat_enc, intT_limbs, intT_neg] at k1)) | refine xj ?_ | ((with_reducible refine And.intro ?_ ?_); omega) | refine bo_buildSlice (d' := ⟨⟩) ?_ | refine xk (by kernel_rfl) ?_ | refine xf ?_ (by repeat' first | exact lr _ | assumption | refine ls ?_ ?_ | refine lt ?_ ?_ | simp only [*]; done | exact lf ‹_› (by simp only [*])) | simp -dsimp only [↓bp, bq, br, seval, tbWText, bytesOf_bytesA, intT_fold, intT_limbs, intT_neg, List.length_reverse, *])
      have hbb : bytesA xs ++ bytesA [UInt8.ofNat (48 + val m % 10)] = bytesA (xs ++ [UInt8.ofNat (48 + val m % 10)]) := by simp [bytesA]
      have hnb := ha.buf.newBox hbx
      rw [hbb] at hnb
      exact ⟨val q', by rw [hv1]; omega, q', false, bx, v5, xs ++ [UInt8.ofNat (48 + val m % 10)], rfl, hcn, hq32, rfl, (by first | (rw [if_pos rfl]; done) | (rw [if_pos rfl]; rfl)), rfl, (hnb _).1, (hnb []).2, (ha.buf.le.fresh hbx).1, by rw [hv1, List.append_assoc]; exact hxs⟩
end Go.Proofs.YtphnoaihojccbaaGreatDoor
namespace Go.Proofs.YtphnoaihojccbaaGreatDoor
open Go Go.Av
def back : List UInt8 → Nat
  | [] => 0
  | c :: l => (c.toNat - 48) + 10 * back l
theorem val_inj : ∀ {a b : List UInt32}, a.length = b.length → val a = val b → a = b
  | [], [], _, _ => rfl
  | x :: a, y :: b, hl, h => by
    simp only [val] at h
    have hx := x.toNat_lt
    have hy := y.toNat_lt
    have h1 : x.toNat = y.toNat := by omega
    have h2 : val a = val b := by omega
    rw [UInt32.toNat_inj.1 h1, val_inj (by simpa using hl) h2]
end Go.Proofs.YtphnoaihojccbaaGreatDoor
namespace Go.Proofs.YtphnoaihojccbaaGreatDoor
open Go Go.Av
def lineT (t : Term) : List UInt8 := if right t = true then text t else [63]
def atomTm (s : List UInt8) : Term := .mk 2 false [] s 0 [] []
def outL (t : Term) : List UInt8 := 111 :: ([117, 116, 32] ++ lineT t)
def endL (e : Ended) : List UInt8 := 101 :: ([110, 100, 101, 100, 32] ++ (itoa e.pid ++ 32 :: lineT e.reason))
def namL (n : Named) : List UInt8 := 110 :: ([97, 109, 101, 32] ++ (lineT (atomTm n.name) ++ 32 :: itoa n.pid))
def verL (n : Int) : List UInt8 := 118 :: ([101, 114, 100, 105, 99, 116, 32] ++ itoa n)
def speL (n : Int) : List UInt8 := 115 :: ([112, 101, 110, 116, 32] ++ itoa n)
def cloL (n : Int) : List UInt8 := 99 :: ([108, 111, 99, 107, 32] ++ itoa n)
def tlines (s : Seen) : List (List UInt8) := s.out.map outL ++ (s.ended.map endL ++ (s.names.map namL ++ [verL s.verdict, speL s.spent, cloL s.clock]))
theorem tlines_len (s : Seen) : (tlines s).length = s.out.length + s.ended.length + s.names.length + 3 := by
  simp only [tlines, List.length_append, List.length_map, List.length_cons, List.length_nil]; omega
end Go.Proofs.YtphnoaihojccbaaGreatDoor
namespace Go.Proofs
open Go.Shelf
def Tryz.lays156_ren : Go.Shelf.Ren := ⟨fun | 156 => 30 | 165 => 52 | 166 => 53 | 169 => 54 | 240 => 94 | 241 => 95 | 276 => 133 | 277 => 134 | n => n, fun | 31 => 31 | 9 => 9 | 3 => 3 | 4 => 4 | 0 => 0 | 20 => 20 | 72 => 95 | 76 => 99 | 70 => 93 | 37 => 86 | 75 => 98 | 127 => 125 | 164 => 200 | 5 => 5 | 80 => 101 | n => n, fun | n => n⟩
theorem Tryz.lays156 : Go.Proofs.Lays.n156 Tryz.prog Tryz.lays156_ren := {
  mixed := by kernel_rfl
  f156 := Tryz.func30.trans (congrArg some (by kernel_rfl))
  f165 := Tryz.func52.trans (congrArg some (by kernel_rfl))
  f166 := Tryz.func53.trans (congrArg some (by kernel_rfl))
  f169 := Tryz.func54.trans (congrArg some (by kernel_rfl))
  f240 := Tryz.func94.trans (congrArg some (by kernel_rfl))
  f241 := Tryz.func95.trans (congrArg some (by kernel_rfl))
  f276 := Tryz.func133.trans (congrArg some (by kernel_rfl))
  f277 := Tryz.func134.trans (congrArg some (by kernel_rfl))
  t0 := Tryz.underlying0
  a0 := Tryz.isAgg0
  z0 := Tryz.sizeOf0
  v0 := Tryz.zeroValue0
  t3 := Tryz.underlying3
  a3 := Tryz.isAgg3
  z3 := Tryz.sizeOf3
  v3 := Tryz.zeroValue3
  t4 := Tryz.underlying4
  a4 := Tryz.isAgg4
  z4 := Tryz.sizeOf4
  v4 := Tryz.zeroValue4
  t9 := Tryz.underlying9
  a9 := Tryz.isAgg9
  z9 := Tryz.sizeOf9
  v9 := Tryz.zeroValue9
  t20 := Tryz.underlying20
  a20 := Tryz.isAgg20
  z20 := Tryz.sizeOf20
  v20 := Tryz.zeroValue20
  t31 := Tryz.underlying31
  a31 := Tryz.isAgg31
  z31 := Tryz.sizeOf31
  v31 := Tryz.zeroValue31
  t37 := Tryz.underlying86
  a37 := Tryz.isAgg86
  z37 := Tryz.sizeOf86
  v37 := Tryz.zeroValue86
  t70 := Tryz.underlying93
  a70 := Tryz.isAgg93
  z70 := Tryz.sizeOf93
  v70 := Tryz.zeroValue93
  t72 := Tryz.underlying95
  a72 := Tryz.isAgg95
  z72 := Tryz.sizeOf95
  v72 := Tryz.zeroValue95
  t75 := Tryz.underlying98
  a75 := Tryz.isAgg98
  z75 := Tryz.sizeOf98
  v75 := Tryz.zeroValue98
  t76 := Tryz.underlying99
  a76 := Tryz.isAgg99
  z76 := Tryz.sizeOf99
  v76 := Tryz.zeroValue99
  t127 := Tryz.underlying125
  a127 := Tryz.isAgg125
  z127 := Tryz.sizeOf125
  v127 := Tryz.zeroValue125
  t164 := Tryz.underlying200
  a164 := Tryz.isAgg200
  z164 := Tryz.sizeOf200
  v164 := Tryz.zeroValue200 }
theorem Tryz.Builder_Extra_156 : Builder.Extra Tryz.prog Tryz.lays156_ren := {
  sizeBuilder := by kernel_rfl
  liesBuilder := by kernel_rfl
  t5 := Tryz.underlying5
  a5 := Tryz.isAgg5
  z5 := Tryz.sizeOf5
  v5 := Tryz.zeroValue5
  infoByte := by kernel_rfl
  cellsByte := by kernel_rfl
  sizeByte := by kernel_rfl
  neB5 := by decide }
open Go.RowKit in
theorem Tryz.strings_Join (bk o c : Nat) (xs : List ByteArray) (sep : ByteArray) (w : World) (hcells : ∀ (j : Nat) x, xs[j]? = some x → w.cell? ⟨bk, o + j, none⟩ = some (.string x)) (hbk : bk < w.heap.size) (hN : xs.length ≤ 140737488355328) (hcap : xs.length ≤ c) (hlen : (Lib.join (xs.map (·.data.toList)) sep.data.toList).length ≤ 140737488355328) :
    Calls Tryz.prog 30 #[.slice (some ⟨bk, o, none⟩) xs.length c, .string sep] w fun e w' => e = .returned (.string ⟨(Lib.join (xs.map (·.data.toList)) sep.data.toList).toArray⟩) ∧ Below w.heap.size w w' := Any.strings_Join Tryz.lays156 Tryz.Builder_Extra_156 bk o c xs sep w hcells hbk hN hcap hlen
def Tryz.laysM171_ren : Go.Shelf.Ren := ⟨fun | 171 => 32 | 243 => 57 | 246 => 103 | 283 => 143 | 284 => 144 | 285 => 145 | 286 => 146 | 129 => 164 | 317 => 163 | 318 => 165 | 319 => 166 | 320 => 167 | 337 => 171 | 338 => 172 | n => n, fun | 3 => 3 | 9 => 9 | 2 => 2 | 4 => 4 | 171 => 211 | 0 => 0 | 53 => 137 | 37 => 86 | 5 => 5 | 173 => 214 | 212 => 230 | 51 => 85 | 20 => 20 | 213 => 231 | 46 => 138 | 232 => 237 | 233 => 238 | n => n, fun | 17 => 2 | 18 => 4 | 19 => 5 | n => n⟩
theorem Tryz.laysM171 : Go.Proofs.LaysM.n171 Tryz.prog Tryz.laysM171_ren := {
  mixed := by kernel_rfl
  f129 := Tryz.func164.trans (congrArg some (by kernel_rfl))
  f171 := Tryz.func32.trans (congrArg some (by kernel_rfl))
  f243 := Tryz.func57.trans (congrArg some (by kernel_rfl))
  f246 := Tryz.func103.trans (congrArg some (by kernel_rfl))
  f283 := Tryz.func143.trans (congrArg some (by kernel_rfl))
  f284 := Tryz.func144.trans (congrArg some (by kernel_rfl))
  f285 := Tryz.func145.trans (congrArg some (by kernel_rfl))
  f286 := Tryz.func146.trans (congrArg some (by kernel_rfl))
  f317 := Tryz.func163.trans (congrArg some (by kernel_rfl))
  f318 := Tryz.func165.trans (congrArg some (by kernel_rfl))
  f319 := Tryz.func166.trans (congrArg some (by kernel_rfl))
  f320 := Tryz.func167.trans (congrArg some (by kernel_rfl))
  f337 := Tryz.func171.trans (congrArg some (by kernel_rfl))
  f338 := Tryz.func172.trans (congrArg some (by kernel_rfl))
  t0 := Tryz.underlying0
  a0 := Tryz.isAgg0
  z0 := Tryz.sizeOf0
  v0 := Tryz.zeroValue0
  t2 := Tryz.underlying2
  a2 := Tryz.isAgg2
  z2 := Tryz.sizeOf2
  v2 := Tryz.zeroValue2
  t3 := Tryz.underlying3
  a3 := Tryz.isAgg3
  z3 := Tryz.sizeOf3
  v3 := Tryz.zeroValue3
  t4 := Tryz.underlying4
  a4 := Tryz.isAgg4
  z4 := Tryz.sizeOf4
  v4 := Tryz.zeroValue4
  t5 := Tryz.underlying5
  a5 := Tryz.isAgg5
  z5 := Tryz.sizeOf5
  v5 := Tryz.zeroValue5
  t9 := Tryz.underlying9
  a9 := Tryz.isAgg9
  z9 := Tryz.sizeOf9
  v9 := Tryz.zeroValue9
  t20 := Tryz.underlying20
  a20 := Tryz.isAgg20
  z20 := Tryz.sizeOf20
  v20 := Tryz.zeroValue20
  t37 := Tryz.underlying86
  a37 := Tryz.isAgg86
  z37 := Tryz.sizeOf86
  v37 := Tryz.zeroValue86
  t46 := Tryz.underlying138
  a46 := Tryz.isAgg138
  z46 := Tryz.sizeOf138
  v46 := Tryz.zeroValue138
  t51 := Tryz.underlying85
  a51 := Tryz.isAgg85
  z51 := Tryz.sizeOf85
  v51 := Tryz.zeroValue85
  t53 := Tryz.underlying137
  a53 := Tryz.isAgg137
  z53 := Tryz.sizeOf137
  v53 := Tryz.zeroValue137
  t171 := Tryz.underlying211
  a171 := Tryz.isAgg211
  z171 := Tryz.sizeOf211
  v171 := Tryz.zeroValue211
  t173 := Tryz.underlying214
  a173 := Tryz.isAgg214
  z173 := Tryz.sizeOf214
  v173 := Tryz.zeroValue214
  t212 := Tryz.underlying230
  a212 := Tryz.isAgg230
  z212 := Tryz.sizeOf230
  v212 := Tryz.zeroValue230
  t213 := Tryz.underlying231
  a213 := Tryz.isAgg231
  z213 := Tryz.sizeOf231
  t232 := Tryz.underlying237
  a232 := Tryz.isAgg237
  z232 := Tryz.sizeOf237
  v232 := Tryz.zeroValue237
  t233 := Tryz.underlying238
  a233 := Tryz.isAgg238
  z233 := Tryz.sizeOf238
  v233 := Tryz.zeroValue238
  g17 := by kernel_rfl
  g18 := by kernel_rfl
  g19 := by kernel_rfl
  i0 := by kernel_rfl
  i2 := by kernel_rfl
  i3 := by kernel_rfl
  i4 := by kernel_rfl
  i5 := by kernel_rfl
  i9 := by kernel_rfl
  i20 := by kernel_rfl
  i37 := by kernel_rfl
  i46 := by kernel_rfl
  i51 := by kernel_rfl
  i53 := by kernel_rfl
  i171 := by kernel_rfl
  i173 := by kernel_rfl
  i212 := by kernel_rfl
  i232 := by kernel_rfl
  i233 := by kernel_rfl
  m17 := by kernel_rfl
  m18 := by kernel_rfl
  m19 := by kernel_rfl }
open Go.RowKit Go.Sort Go.Lib in
theorem Tryz.strconv_Itoa (n : Int) (h0 : -9223372036854775808 ≤ n) (h1 : n ≤ 9223372036854775807) (w : World) (htab : Lib.TabIs Tryz.prog w "internal/strconv.uint64pow10" .u64 Lib.pow10Tab) :
    Calls Tryz.prog 32 #[.int .i64 n] w fun e w' => e = .returned (.string ⟨(Lib.itoa n).toArray⟩) ∧ ∃ k os, w' = grow (w.drewN k) os := Any.strconv_Itoa Tryz.laysM171 n h0 h1 w htab
end Go.Proofs
namespace Go.Proofs.YtphnoaihojccbaaGreatDoor
open Go Go.Av Go.RowKit
variable {G : Nat → AV}
theorem decDigits_eq (n : Nat) : Lib.decDigits n = decT n := by
  have key : ∀ n, n ≠ 0 → Lib.decDigits n = (digs n).reverse := by
    intro n
    induction n using Nat.strongRecOn with
    | _ n ih =>
      intro h0
      rw [Lib.decDigits, digs_step h0]
      by_cases h : n < 10
      · rw [dif_pos h]
        have : n / 10 = 0 := by omega
        rw [this, digs]
        simp
        congr 1; omega
      · rw [dif_neg h, ih (n / 10) (by omega) (by omega)]
        simp
  unfold decT
  by_cases h0 : n = 0
  · subst h0; rw [if_pos rfl, Lib.decDigits]; rfl
  · rw [if_neg h0, key n h0]
theorem libitoa_eq (n : Int) : Lib.itoa n = itoa n := by
  unfold Lib.itoa itoa
  split
  · rw [decDigits_eq]; rfl
  · rw [decDigits_eq]
    have : n.toNat = n.natAbs := by omega
    rw [this]; rfl
def powV : List Value := Lib.pow10Tab.map fun z => .int .u64 z
theorem itoa_pure (hp : G 2 = .tab powV) (n : Int) (h0 : -9223372036854775808 ≤ n) (h1 : n ≤ 9223372036854775807) : Pure Tryz.prog G 32 [.int .i64 n] (.str (itoa n)) := by
  refine Pure.of_calls (vals := [.int .i64 n]) (u := .string ⟨⟨itoa n⟩⟩) (by kernel_rfl) (fun K l h => ?_) (fun K => .str _) (fun K σ w hr => ?_)
  · match l, h with
    | [a], ⟨h1, _⟩ => rw [VR.int_iff] at h1; rw [h1]
  · have hg := hr.glob 2
    rw [hp] at hg
    have htab : Lib.TabIs Tryz.prog w "internal/strconv.uint64pow10" .u64 Lib.pow10Tab := by
      cases hg with
      | tab _ _ E fz hb hw =>
        have hblk := (hr.below.block _ hb).trans hw
        unfold Lib.TabIs World.var?
        rw [show Tryz.prog.globalNamed "internal/strconv.uint64pow10" = some 2 by kernel_rfl]
        simp [hblk, powV]
    refine (Tryz.strconv_Itoa n h0 h1 w htab).mono ?_
    rintro e w' ⟨he, k, os, hw⟩
    subst hw
    rw [libitoa_eq] at he
    exact ⟨he, Lib.below_grow _ _ (Nat.le_refl _) k os⟩
end Go.Proofs.YtphnoaihojccbaaGreatDoor
set_option maxRecDepth 20000
namespace Go.Proofs.YtphnoaihojccbaaGreatDoor
open Go Go.Av
def tbQuo2 := And.intro (And.intro (And.intro @tf3 (And.intro @tf4 @tf5)) (And.intro @tf9 (And.intro @tf86 @tf31))) (And.intro (And.intro @tf210 (And.intro @tf95 @tf93)) (And.intro @tf138 (And.intro @isv_byteA @flat_byteA)))
variable {G : Nat → AV}
structure Glob (G : Nat → AV) : Prop where
  words : G 0 = .rp (Proofs.YtphnoaihojccbaaGreatDoor.words.map AV.str)
theorem words_len : (words.map AV.str).length = 19 := rfl
theorem plainA_pure (hg : Glob G) (s : List UInt8) (hs : s.length ≤ 1000000000) : Pure Tryz.prog G 101 [.str s] (.bool (plainA s)) := by
  have hi := inner_pure G s hs
  have hc := contains_pure G words s (by decide)
  have hw := hg.words
  have h19 : rsk (some (19, 1)) (words.map AV.str) = some (texts words) := by
    show (if 19 = (words.map AV.str).length ∧ 19 ≤ maxLen then some (AV.sl .none (words.map AV.str) []) else none) = _
    exact if_pos ⟨words_len.symm, by unfold maxLen; decide⟩
  have ha : arrT Tryz.prog 210 = some (19, 1) := tf210.2.2.2.2.2.2
  have has : aslice Tryz.prog 210 (.rp (words.map AV.str)) none none = some (texts words) := by rw [aslice_rp, ha, h19]
  cases s with
  | nil =>
    intro σ
    clear hi hc
    refine Tri.of_awp mixed Tryz.func101 rfl (by kernel_rfl) (by kernel_rfl) (by simp [Tryz.ntmps101]) Tryz.results101 ?_
    repeat' (first | refine xs ?_ ?_ <;> intros | ((first | refine xh ?_ | refine xi ?_); intro bx hbx; (try simp only [fb] at hbx)) | refine xj ?_ | ((with_reducible refine And.intro ?_ ?_); omega) | refine bo_buildSlice (d' := ⟨⟩) ?_ | refine xk (by kernel_rfl) ?_ | refine xf ?_ (by repeat' first | exact lr _ | assumption | refine ls ?_ ?_ | refine lt ?_ ?_ | simp only [*]; done | exact lf ‹_› (by simp only [*])) | simp -dsimp only [↓bp, bq, br, seval, tbQuo2, *])
    all_goals rfl
  | cons c l =>
    have hp : plainA (c :: l) = (decide (97 ≤ c.toNat) && decide (c.toNat ≤ 122) && !words.contains (c :: l) && (c :: l).all innerC) := rfl
    have hx : (c :: l)[0]? = some c := rfl
    have hne : ¬ (c :: l) = [] := by simp
    rw [hp]
    generalize (c :: l) = s at *
    clear hp
    generalize words.contains s = wc at *
    generalize s.all innerC = si at *
    have e1 : ((97 : Int) ≤ c.toNat) ↔ 97 ≤ c.toNat := by omega
    have e2 : ((c.toNat : Int) ≤ 122) ↔ c.toNat ≤ 122 := by omega
    by_cases h1 : 97 ≤ c.toNat
    · have g1 : ¬ (c.toNat : Int) < 97 := by omega
      by_cases h2 : c.toNat ≤ 122
      · have g2 : ¬ (122 : Int) < c.toNat := by omega
        have q1 := decide_eq_true h1
        have q2 := decide_eq_true h2
        rw [q1, q2]
        clear h1 h2 e1 e2 q1 q2
        intro σ
        cases wc
        · refine Tri.of_awp mixed Tryz.func101 rfl (by kernel_rfl) (by kernel_rfl) (by simp [Tryz.ntmps101]) Tryz.results101 ?_
          repeat' (first | refine xs ?_ ?_ <;> intros | ((first | refine xh ?_ | refine xi ?_); intro bx hbx; (try simp only [fb] at hbx)) | refine Pure.use (hc) ?_ | refine Pure.head (hc) ?_ | refine Pure.use (hi) ?_ | refine Pure.head (hi) ?_ | refine xj ?_ | ((with_reducible refine And.intro ?_ ?_); omega) | refine bo_buildSlice (d' := ⟨⟩) ?_ | refine xk (by kernel_rfl) ?_ | refine xf ?_ (by repeat' first | exact lr _ | assumption | refine ls ?_ ?_ | refine lt ?_ ?_ | simp only [*]; done | exact lf ‹_› (by simp only [*])) | simp -dsimp only [↓bp, bq, br, seval, tbQuo2, *])
          all_goals rfl
        · refine Tri.of_awp mixed Tryz.func101 rfl (by kernel_rfl) (by kernel_rfl) (by simp [Tryz.ntmps101]) Tryz.results101 ?_
          repeat' (first | refine xs ?_ ?_ <;> intros | ((first | refine xh ?_ | refine xi ?_); intro bx hbx; (try simp only [fb] at hbx)) | refine Pure.use (hc) ?_ | refine Pure.head (hc) ?_ | refine Pure.use (hi) ?_ | refine Pure.head (hi) ?_ | refine xj ?_ | ((with_reducible refine And.intro ?_ ?_); omega) | refine bo_buildSlice (d' := ⟨⟩) ?_ | refine xk (by kernel_rfl) ?_ | refine xf ?_ (by repeat' first | exact lr _ | assumption | refine ls ?_ ?_ | refine lt ?_ ?_ | simp only [*]; done | exact lf ‹_› (by simp only [*])) | simp -dsimp only [↓bp, bq, br, seval, tbQuo2, *])
          all_goals rfl
      · have g2 : (122 : Int) < c.toNat := by omega
        have q2 := decide_eq_false h2
        rw [q2]
        simp only [Bool.and_false, Bool.false_and]
        clear h1 h2 e1 e2 q2
        intro σ
        refine Tri.of_awp mixed Tryz.func101 rfl (by kernel_rfl) (by kernel_rfl) (by simp [Tryz.ntmps101]) Tryz.results101 ?_
        repeat' (first | refine xs ?_ ?_ <;> intros | ((first | refine xh ?_ | refine xi ?_); intro bx hbx; (try simp only [fb] at hbx)) | refine Pure.use (hc) ?_ | refine Pure.head (hc) ?_ | refine Pure.use (hi) ?_ | refine Pure.head (hi) ?_ | refine xj ?_ | ((with_reducible refine And.intro ?_ ?_); omega) | refine bo_buildSlice (d' := ⟨⟩) ?_ | refine xk (by kernel_rfl) ?_ | refine xf ?_ (by repeat' first | exact lr _ | assumption | refine ls ?_ ?_ | refine lt ?_ ?_ | simp only [*]; done | exact lf ‹_› (by simp only [*])) | simp -dsimp only [↓bp, bq, br, seval, tbQuo2, *])
        all_goals rfl
    · have g1 : (c.toNat : Int) < 97 := by omega
      have q1 := decide_eq_false h1
      rw [q1]
      simp only [Bool.and_false, Bool.false_and]
      clear h1 e1 e2 q1
      intro σ
      refine Tri.of_awp mixed Tryz.func101 rfl (by kernel_rfl) (by kernel_rfl) (by simp [Tryz.ntmps101]) Tryz.results101 ?_
      repeat' (first | refine xs ?_ ?_ <;> intros | ((first | refine xh ?_ | refine xi ?_); intro bx hbx; (try simp only [fb] at hbx)) | refine Pure.use (hc) ?_ | refine Pure.head (hc) ?_ | refine Pure.use (hi) ?_ | refine Pure.head (hi) ?_ | refine xj ?_ | ((with_reducible refine And.intro ?_ ?_); omega) | refine bo_buildSlice (d' := ⟨⟩) ?_ | refine xk (by kernel_rfl) ?_ | refine xf ?_ (by repeat' first | exact lr _ | assumption | refine ls ?_ ?_ | refine lt ?_ ?_ | simp only [*]; done | exact lf ‹_› (by simp only [*])) | simp -dsimp only [↓bp, bq, br, seval, tbQuo2, *])
      all_goals rfl
theorem wb {σ0 σ : AS} {b : Nat} {xs : List UInt8} (h : Bl σ0 σ b xs) (hl : xs.length ≤ 1000000000) (c : UInt8) (n : Int) (hn : n = c.toNat) :
    Tri Tryz.prog G 98 [.ptr b 0, .int .u8 n] σ fun r σ' => Bl σ0 σ' b (xs ++ [c]) := by subst hn; exact writeByte_tri G h hl c
def hexT : List UInt8 := [48, 49, 50, 51, 52, 53, 54, 55, 56, 57, 97, 98, 99, 100, 101, 102]
theorem hex_at : ∀ k, k < 16 → hexT[k]? = some (hexD k) := by decide
theorem fdiv16 (c : UInt8) : ((c.toNat : Int).fdiv (2 ^ min 4 IntKind.u8.bits)) = ((c.toNat / 16 : Nat) : Int) := by
  have : ((2 : Int) ^ min 4 IntKind.u8.bits) = ((16 : Nat) : Int) := by decide
  rw [this, Int.fdiv_eq_ediv_of_nonneg _ (by omega)]; rfl
theorem and15 (c : UInt8) : IntKind.u8.wrap ((BitVec.ofInt IntKind.u8.bits (c.toNat : Int) &&& BitVec.ofInt IntKind.u8.bits 15).toNat : Int) = ((c.toNat % 16 : Nat) : Int) := by
  have hb : IntKind.u8.bits = 8 := rfl
  have hc := c.toNat_lt
  rw [hb, BitVec.toNat_and, BitVec.toNat_ofInt, BitVec.toNat_ofInt]
  have e1 : ((c.toNat : Int) % ((2 ^ 8 : Nat) : Int)).toNat = c.toNat := by omega
  have e2 : ((15 : Int) % ((2 ^ 8 : Nat) : Int)).toNat = 15 := by decide
  rw [e1, e2, show (15 : Nat) = 2 ^ 4 - 1 by decide, Nat.and_two_pow_sub_one_eq_mod, IntKind.wrap_u8]
  omega
end Go.Proofs.YtphnoaihojccbaaGreatDoor
