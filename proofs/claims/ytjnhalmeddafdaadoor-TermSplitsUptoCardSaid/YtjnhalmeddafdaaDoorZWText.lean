/- An integer's text. -/
import Derived.Test.YtjnhalmeddafdaaDoorZRev
import Derived.Test.YtjnhalmeddafdaaDoorZMade
import Derived.Test.YtjnhalmeddafdaaDoorZSize
set_option linter.unusedVariables false
set_option linter.unusedSimpArgs false
set_option maxRecDepth 20000
namespace Go.Proofs.YtjnhalmeddafdaaDoor
open Go Go.Av
variable (G : Nat → AV)
theorem canon_zero {m : List UInt32} (h : m = [] ∨ ∃ q x, m = q ++ [x] ∧ x ≠ 0) (h0 : val m = 0) : m = [] := by
  rcases h with h | ⟨q, x, rfl, hx⟩
  · exact h
  · rw [val_append] at h0
    simp only [val] at h0
    have hp : 0 < 4294967296 ^ q.length := Nat.pow_pos (by omega)
    have : x.toNat ≠ 0 := fun e => hx (UInt32.toNat_inj.1 (by simpa using e))
    have : 0 < 4294967296 ^ q.length * (x.toNat + 4294967296 * 0) := Nat.mul_pos hp (by omega)
    omega
theorem wr_int {t : Term} (h : wr t = true) : t = intT t.neg t.limbs ∧ (t.limbs = [] ∨ ∃ q x, t.limbs = q ++ [x] ∧ x ≠ 0) ∧ t.limbs.length ≤ 32 := by
  obtain ⟨h1, h2, h3, h4, h5, h6, h7, h8⟩ := wr_spec h
  refine ⟨term_ext h1 rfl rfl h2 h3 h4 h5, ?_, h6⟩
  rcases List.eq_nil_or_concat t.limbs with e | ⟨q, x, e⟩
  · exact .inl e
  · rw [List.concat_eq_append] at e
    refine .inr ⟨q, x, e, fun hx => ?_⟩
    have := h8 (by rw [e]; simp)
    rw [e] at this
    simp [lastOk, hx] at this
theorem intT_limbs (g : Bool) (m : List UInt32) : (intT g m).limbs = m := rfl
theorem intT_fold (g : Bool) (m : List UInt32) : AV.agg [.int .u8 (intT g m).knd, .bool g, lims m, .str (intT g m).text, .int .i64 (intT g m).num, encs (intT g m).items, encs (intT g m).tail] = (intT g m).enc := (intT g m).fold_enc
theorem intT_neg (g : Bool) (m : List UInt32) : (intT g m).neg = g := rfl
theorem digs_step {n : Nat} (h : n ≠ 0) : digs n = UInt8.ofNat (48 + n % 10) :: digs (n / 10) := by rw [digs, dif_neg h]
theorem dig_byte (d : Nat) (h : d < 10) : AV.int .u8 (IntKind.u8.wrap (IntKind.u32.wrap (48 + (d : Int)))) = byteA (UInt8.ofNat (48 + d)) := by
  unfold byteA
  rw [u32_wrap (by omega) (by omega), IntKind.wrap_u8, UInt8.toNat_ofNat']
  congr 1
theorem bytesOf_bytesA (l : List UInt8) : bytesOf (bytesA l) = some l := by
  induction l with
  | nil => rfl
  | cons c l ih =>
    have : Av.byteOf (byteA c) = some c := by simp [Av.byteOf, byteA]
    simp only [bytesA, List.map_cons, bytesOf] at ih ⊢
    rw [this, ih]
theorem app_bytes (a b : List UInt8) : bytesA a ++ bytesA b = bytesA (a ++ b) := by simp [bytesA]
theorem rev_buf {σ1 s : AS} {v : AV} {zs : List UInt8} (h : WBuf 1 5 σ1 s v (bytesA zs)) (hne : zs ≠ []) (hl : zs.length ≤ 1000000) :
    Tri Tryd.prog G 73 [v] s fun r s' => ∃ rr, v = .bs rr zs.length 1 5 ∧ s'.box rr = some (bytesA zs.reverse) ∧ σ1.le s' := by
  obtain ⟨r, hr, hrb, hr0, hr1⟩ := h.form (by simpa [bytesA] using hne)
  rw [flat_bytesA] at hrb
  rw [bytesA_len] at hr
  subst hr
  refine (reverse_tri G zs (by omega) s r hrb).mono ?_
  rintro _ s' rfl
  exact ⟨r, rfl, by simp [AS.setBox], h.le.setBox hr0 _⟩
theorem digs_len : ∀ (k n : Nat), n < 10 ^ k → (digs n).length ≤ k
  | 0, n, h => by
    have : n = 0 := by simp at h; omega
    subst this
    rw [digs]; simp
  | k + 1, n, h => by
    by_cases h0 : n = 0
    · subst h0; rw [digs]; simp
    · rw [digs_step h0, List.length_cons]
      have := digs_len k (n / 10) (by rw [Nat.pow_succ] at h; omega)
      omega
theorem val_lt : ∀ l : List UInt32, val l < 4294967296 ^ l.length
  | [] => by simp [val]
  | x :: l => by
    have := val_lt l
    have := x.toNat_lt
    simp only [val, List.length_cons, Nat.pow_succ]
    omega
theorem dig_bound {l : List UInt32} (h : l.length ≤ 32) : (digs (val l)).length ≤ 309 := by
  refine digs_len 309 _ (Nat.lt_of_lt_of_le (val_lt l) (Nat.le_trans (Nat.pow_le_pow_right (by omega) h) ?_))
  decide +kernel
set_option maxHeartbeats 2000000 in
theorem wtext_pure (t : Term) (hb : t.bulk ≤ 1000000000) : Pure Tryd.prog G 46 [t.enc] (.str (if wr t = true then wsaid t else [])) := by
  have hw := wr_pure G t hb
  cases ew : wr t with
  | false =>
    rw [ew] at hw
    intro σ
    refine Tri.of_awp mixed Tryd.func46 rfl (by kernel_rfl) (by kernel_rfl) (by simp [Tryd.ntmps46]) Tryd.results46 ?_
    repeat' (first
    | with_reducible refine condW_both (fun _ _ => ?_) (fun _ _ => ?_)
    | with_reducible refine gW_both (fun _ _ => ?_) (fun _ _ => ?_)
    | with_reducible refine condW_split (fun _ => ?_) (fun _ => ?_)
    | with_reducible refine gW_split (fun _ => ?_) (fun _ => ?_)
    | with_reducible refine pickW_split (fun _ => ?_) (fun _ => ?_)
    | (refine newW_intro ?_; intro bx hbx; (try simp only [fresh_box, fresh_tip, fresh_ty] at hbx))
    | (refine newT_plain ?_; intro bx hbx; (try simp only [fresh_box, fresh_tip, fresh_ty] at hbx))
    | refine Pure.use (hw) ?_
    | refine Pure.head (hw) ?_
    | refine storeX_w ?_
    | ((with_reducible refine And.intro ?_ ?_); omega)
    | refine bo_buildSlice (d' := ⟨⟩) ?_
    | (refine draw_all (by kernel_rfl) ?_)
    | refine finish_pure ?_ (by repeat' (first | exact AS.le.refl _ | assumption | (refine le_set (by first | assumption | (simp only [*]; done) | exact AS.le.fresh (by assumption) (by simp only [*])) ?_) | (refine le_ty (by first | assumption | (simp only [*]; done) | exact AS.le.fresh (by assumption) (by simp only [*])) ?_)))
    | simp -dsimp only [↓bp, bq, br, afin, bsk, cWrites, opsWrites, pieceGh, rsk, ne_eq, if_true, if_false, exists_eq_left', forall_const, forall_eq, Nat.reduceLT, Int.reduceSub, Nat.reduceAdd, Nat.reduceSub, Nat.reduceMul, Nat.reduceLeDiff, Nat.reduceEqDiff, Nat.reduceBEq, Nat.reduceBNe, Int.reduceNeg, Int.reduceAdd, Int.reduceMul, Int.reduceLE, Int.reduceLT, Int.reduceEq, Int.reduceToNat, reduceIte, reduceCtorEq, tf3, tf4, tf5, tf44, tf9, tf23, tf51, tf22, tf24, tf26, bytesOf_bytesA, bytesA_len, List.length_reverse, intT_fold, intT_limbs, intT_neg, Term.flat_enc, Term.isv_enc, Term.fold_enc, isv_encs, flat_encs, len_encs, isv_lims, flat_lims, len_lims, ix_lims, ix_lims', flat_limA, isv_byteA, flat_byteA, *])
    all_goals rfl
  | true =>
    rw [ew] at hw
    obtain ⟨et, hcan, h32⟩ := wr_int ew
    rw [if_pos rfl]
    obtain ⟨g, hg⟩ : ∃ g, t.neg = g := ⟨_, rfl⟩
    obtain ⟨l, hl⟩ : ∃ l, t.limbs = l := ⟨_, rfl⟩
    have hsaid : wsaid t = (if g = true then [45] else []) ++ decT (val l) := by unfold wsaid; rw [hg, hl]
    rw [hsaid]
    rw [hg, hl] at et
    rw [hl] at hcan h32
    subst et
    clear hsaid hg hl hb ew
    have hsh := fun (m : List UInt32) (h : m.length ≤ 32) => short_pure G m 10 (by omega) (by omega) (by omega)
    have hmd := fun (m : List UInt32) (h : m.length ≤ 32) => made_pure G m false (by omega)
    have hdb := dig_bound h32
    intro σ
    refine Tri.of_awp mixed Tryd.func46 rfl (by kernel_rfl) (by kernel_rfl) (by simp [Tryd.ntmps46]) Tryd.results46 ?_
    repeat' (first
    | with_reducible refine condW_both (fun _ _ => ?_) (fun _ _ => ?_)
    | with_reducible refine gW_both (fun _ _ => ?_) (fun _ _ => ?_)
    | with_reducible refine condW_split (fun _ => ?_) (fun _ => ?_)
    | with_reducible refine gW_split (fun _ => ?_) (fun _ => ?_)
    | with_reducible refine pickW_split (fun _ => ?_) (fun _ => ?_)
    | (refine newW_intro ?_; intro bx hbx; (try simp only [fresh_box, fresh_tip, fresh_ty] at hbx))
    | (refine newT_plain ?_; intro bx hbx; (try simp only [fresh_box, fresh_tip, fresh_ty] at hbx))
    | refine Pure.use (hw) ?_
    | refine Pure.head (hw) ?_
    | refine storeX_w ?_
    | ((with_reducible refine And.intro ?_ ?_); omega)
    | refine bo_buildSlice (d' := ⟨⟩) ?_
    | (refine draw_all (by kernel_rfl) ?_)
    | refine finish_pure ?_ (by repeat' (first | exact AS.le.refl _ | assumption | (refine le_set (by first | assumption | (simp only [*]; done) | exact AS.le.fresh (by assumption) (by simp only [*])) ?_) | (refine le_ty (by first | assumption | (simp only [*]; done) | exact AS.le.fresh (by assumption) (by simp only [*])) ?_)))
    | simp -dsimp only [↓bp, bq, br, afin, bsk, cWrites, opsWrites, pieceGh, rsk, ne_eq, if_true, if_false, exists_eq_left', forall_const, forall_eq, Nat.reduceLT, Int.reduceSub, Nat.reduceAdd, Nat.reduceSub, Nat.reduceMul, Nat.reduceLeDiff, Nat.reduceEqDiff, Nat.reduceBEq, Nat.reduceBNe, Int.reduceNeg, Int.reduceAdd, Int.reduceMul, Int.reduceLE, Int.reduceLT, Int.reduceEq, Int.reduceToNat, reduceIte, reduceCtorEq, tf3, tf4, tf5, tf44, tf9, tf23, tf51, tf22, tf24, tf26, bytesOf_bytesA, bytesA_len, List.length_reverse, intT_fold, intT_limbs, intT_neg, Term.flat_enc, Term.isv_enc, Term.fold_enc, isv_encs, flat_encs, len_encs, isv_lims, flat_lims, len_lims, ix_lims, ix_lims', flat_limA, isv_byteA, flat_byteA, *])
    rename_i b1 hb1
    obtain ⟨σ1, hs1⟩ : ∃ σ1, σ1 = σ.setBox b1 (flat (intT g l).enc) := ⟨_, rfl⟩
    have hle1 : σ.le σ1 := by rw [hs1]; exact (AS.le.refl σ).setBox hb1.1 _
    have hf1 : σ1.box b1 = some (flat (intT g l).enc) := by rw [hs1]; simp [AS.setBox]
    rw [Term.flat_enc, intT_limbs, intT_neg] at hs1
    rw [← hs1]
    have hbx' : σ1.fresh bx := by rw [hs1, fresh_setBox]; exact ⟨hbx.1, hbx.2.1⟩
    refine loop_intro (fun n e σ' => ∃ (m : List UInt32) (gg : Bool) (b4 : Nat) (v : AV) (xs : List UInt8), n = val m ∧ (m = [] ∨ ∃ q x, m = q ++ [x] ∧ x ≠ 0) ∧ m.length ≤ 32 ∧ e 4 = .ptr b4 0 ∧ σ'.box b4 = some (flat (intT gg m).enc) ∧ e 3 = v ∧
      WBuf 1 5 σ1 σ' v (bytesA xs) ∧ notRow v b4 ∧ σ1.box b4 = none ∧ xs ++ digs (val m) = digs (val l)) (val l)
      ⟨l, g, bx, .nil, [], rfl, hcan, h32, by first | (simp -dsimp only [↓bp, bq, br, afin, bsk, cWrites, opsWrites, pieceGh, rsk, ne_eq, if_true, if_false, exists_eq_left', forall_const, forall_eq, Nat.reduceLT, Int.reduceSub, Nat.reduceAdd, Nat.reduceSub, Nat.reduceMul, Nat.reduceLeDiff, Nat.reduceEqDiff, Nat.reduceBEq, Nat.reduceBNe, Int.reduceNeg, Int.reduceAdd, Int.reduceMul, Int.reduceLE, Int.reduceLT, Int.reduceEq, Int.reduceToNat, reduceIte, reduceCtorEq, tf3, tf4, tf5, tf44, tf9, tf23, tf51, tf22, tf24, tf26, bytesOf_bytesA, bytesA_len, List.length_reverse, intT_fold, intT_limbs, intT_neg, Term.flat_enc, Term.isv_enc, Term.fold_enc, isv_encs, flat_encs, len_encs, isv_lims, flat_lims, len_lims, ix_lims, ix_lims', flat_limA, isv_byteA, flat_byteA]; done) | (simp -dsimp only [↓bp, bq, br, afin, bsk, cWrites, opsWrites, pieceGh, rsk, ne_eq, if_true, if_false, exists_eq_left', forall_const, forall_eq, Nat.reduceLT, Int.reduceSub, Nat.reduceAdd, Nat.reduceSub, Nat.reduceMul, Nat.reduceLeDiff, Nat.reduceEqDiff, Nat.reduceBEq, Nat.reduceBNe, Int.reduceNeg, Int.reduceAdd, Int.reduceMul, Int.reduceLE, Int.reduceLT, Int.reduceEq, Int.reduceToNat, reduceIte, reduceCtorEq, tf3, tf4, tf5, tf44, tf9, tf23, tf51, tf22, tf24, tf26, bytesOf_bytesA, bytesA_len, List.length_reverse, intT_fold, intT_limbs, intT_neg, Term.flat_enc, Term.isv_enc, Term.fold_enc, isv_encs, flat_encs, len_encs, isv_lims, flat_lims, len_lims, ix_lims, ix_lims', flat_limA, isv_byteA, flat_byteA]; rfl), by rw [Term.flat_enc]; first | (simp -dsimp only [↓bp, bq, br, afin, bsk, cWrites, opsWrites, pieceGh, rsk, ne_eq, if_true, if_false, exists_eq_left', forall_const, forall_eq, Nat.reduceLT, Int.reduceSub, Nat.reduceAdd, Nat.reduceSub, Nat.reduceMul, Nat.reduceLeDiff, Nat.reduceEqDiff, Nat.reduceBEq, Nat.reduceBNe, Int.reduceNeg, Int.reduceAdd, Int.reduceMul, Int.reduceLE, Int.reduceLT, Int.reduceEq, Int.reduceToNat, reduceIte, reduceCtorEq, tf3, tf4, tf5, tf44, tf9, tf23, tf51, tf22, tf24, tf26, bytesOf_bytesA, bytesA_len, List.length_reverse, intT_fold, intT_limbs, intT_neg, Term.flat_enc, Term.isv_enc, Term.fold_enc, isv_encs, flat_encs, len_encs, isv_lims, flat_lims, len_lims, ix_lims, ix_lims', flat_limA, isv_byteA, flat_byteA]; done) | (simp -dsimp only [↓bp, bq, br, afin, bsk, cWrites, opsWrites, pieceGh, rsk, ne_eq, if_true, if_false, exists_eq_left', forall_const, forall_eq, Nat.reduceLT, Int.reduceSub, Nat.reduceAdd, Nat.reduceSub, Nat.reduceMul, Nat.reduceLeDiff, Nat.reduceEqDiff, Nat.reduceBEq, Nat.reduceBNe, Int.reduceNeg, Int.reduceAdd, Int.reduceMul, Int.reduceLE, Int.reduceLT, Int.reduceEq, Int.reduceToNat, reduceIte, reduceCtorEq, tf3, tf4, tf5, tf44, tf9, tf23, tf51, tf22, tf24, tf26, bytesOf_bytesA, bytesA_len, List.length_reverse, intT_fold, intT_limbs, intT_neg, Term.flat_enc, Term.isv_enc, Term.fold_enc, isv_encs, flat_encs, len_encs, isv_lims, flat_lims, len_lims, ix_lims, ix_lims', flat_limA, isv_byteA, flat_byteA]; rfl), by first | (simp -dsimp only [↓bp, bq, br, afin, bsk, cWrites, opsWrites, pieceGh, rsk, ne_eq, if_true, if_false, exists_eq_left', forall_const, forall_eq, Nat.reduceLT, Int.reduceSub, Nat.reduceAdd, Nat.reduceSub, Nat.reduceMul, Nat.reduceLeDiff, Nat.reduceEqDiff, Nat.reduceBEq, Nat.reduceBNe, Int.reduceNeg, Int.reduceAdd, Int.reduceMul, Int.reduceLE, Int.reduceLT, Int.reduceEq, Int.reduceToNat, reduceIte, reduceCtorEq, tf3, tf4, tf5, tf44, tf9, tf23, tf51, tf22, tf24, tf26, bytesOf_bytesA, bytesA_len, List.length_reverse, intT_fold, intT_limbs, intT_neg, Term.flat_enc, Term.isv_enc, Term.fold_enc, isv_encs, flat_encs, len_encs, isv_lims, flat_lims, len_lims, ix_lims, ix_lims', flat_limA, isv_byteA, flat_byteA]; done) | (simp -dsimp only [↓bp, bq, br, afin, bsk, cWrites, opsWrites, pieceGh, rsk, ne_eq, if_true, if_false, exists_eq_left', forall_const, forall_eq, Nat.reduceLT, Int.reduceSub, Nat.reduceAdd, Nat.reduceSub, Nat.reduceMul, Nat.reduceLeDiff, Nat.reduceEqDiff, Nat.reduceBEq, Nat.reduceBNe, Int.reduceNeg, Int.reduceAdd, Int.reduceMul, Int.reduceLE, Int.reduceLT, Int.reduceEq, Int.reduceToNat, reduceIte, reduceCtorEq, tf3, tf4, tf5, tf44, tf9, tf23, tf51, tf22, tf24, tf26, bytesOf_bytesA, bytesA_len, List.length_reverse, intT_fold, intT_limbs, intT_neg, Term.flat_enc, Term.isv_enc, Term.fold_enc, isv_encs, flat_encs, len_encs, isv_lims, flat_lims, len_lims, ix_lims, ix_lims', flat_limA, isv_byteA, flat_byteA]; rfl), .nil ((AS.le.refl σ1).setBox hbx'.1 _), trivial, hbx'.1, rfl⟩ ?_
    rintro n v σ' ⟨m, gg, b4, v3, xs, rfl, hc, hm, h4, hb4, h3, hB, hn, h14, hxs⟩
    have hsh := hsh m hm
    obtain ⟨q1, q2, q3⟩ := divd_spec 10 (by omega) (by omega) m
    have hmd := hmd (divd m 10).1 (by omega)
    have hsl := strip_len (divd m 10).1
    have hmr : madeR (divd m 10).1 false = .tup [(intT false (strip (divd m 10).1)).enc, .bool true] := by unfold madeR; rw [if_pos (by omega), Bool.false_and]
    rw [hmr] at hmd
    have hv1 : val (strip (divd m 10).1) = val m / 10 := by rw [strip_val]; omega
    have hd1 : (divd m 10).2 = val m % 10 := by omega
    have hcn := strip_last (divd m 10).1
    rw [Term.flat_enc, intT_limbs, intT_neg] at hb4
    rw [hd1] at hsh q2
    generalize hq : (divd m 10).1 = q at *
    generalize strip q = q' at *
    simp -dsimp only [↓bp, bq, br, afin, bsk, cWrites, opsWrites, pieceGh, rsk, ne_eq, if_true, if_false, exists_eq_left', forall_const, forall_eq, Nat.reduceLT, Int.reduceSub, Nat.reduceAdd, Nat.reduceSub, Nat.reduceMul, Nat.reduceLeDiff, Nat.reduceEqDiff, Nat.reduceBEq, Nat.reduceBNe, Int.reduceNeg, Int.reduceAdd, Int.reduceMul, Int.reduceLE, Int.reduceLT, Int.reduceEq, Int.reduceToNat, reduceIte, reduceCtorEq, tf3, tf4, tf5, tf44, tf9, tf23, tf51, tf22, tf24, tf26, bytesOf_bytesA, bytesA_len, List.length_reverse, intT_fold, intT_limbs, intT_neg, Term.flat_enc, Term.isv_enc, Term.fold_enc, isv_encs, flat_encs, len_encs, isv_lims, flat_lims, len_lims, ix_lims, ix_lims', flat_limA, isv_byteA, flat_byteA] at h4 h3
    rcases List.eq_nil_or_concat m with hm0 | ⟨m', x, hm0⟩
    · have hml : (m.length : Int) = 0 := by rw [hm0]; rfl
      have hxd : xs = digs (val l) := by
        rw [hm0] at hxs
        have e0 : digs (val []) = [] := by rw [digs]; simp [val]
        rw [e0, List.append_nil] at hxs
        exact hxs
      have hlv := hB.len (P := Tryd.prog) (t := 51)
      rw [bytesA_len] at hlv
      have hk0 := hB.le.box b1 _ hf1
      rw [Term.flat_enc, intT_limbs, intT_neg] at hk0 hf1
      have a48 : asrc Tryd.prog 51 (.sl .full [.int .u8 48] []) = some (bytesA [48]) := asrc_sl tfBE
      have a45 : asrc Tryd.prog 51 (.sl .full [.int .u8 45] []) = some (bytesA [45]) := asrc_sl tfBE
      have hxl : xs.length ≤ 309 := by rw [hxd]; exact hdb
      have hdec : decT (val l) = if xs = [] then [48] else xs.reverse := by
        unfold decT
        by_cases hv : val l = 0
        · rw [if_pos hv, if_pos (by rw [hxd, hv, digs]; simp)]
        · rw [if_neg hv, if_neg (by rw [hxd]; exact digs_ne hv), hxd]
      rw [hdec]
      clear hdec hw hsh hmd hdb hm0 hxs hmr hv1 hd1 hcn hc hs1 hxd q1 q2 q3 hsl hq hbx hm
      by_cases hx0 : xs = []
      · subst hx0
        rw [if_pos rfl]
        have hz : (([] : List UInt8).length : Int) = 0 := rfl
        rw [hz] at hlv
        cases g with
        | false =>
          repeat' (first
    | with_reducible refine condW_both (fun _ _ => ?_) (fun _ _ => ?_)
    | with_reducible refine gW_both (fun _ _ => ?_) (fun _ _ => ?_)
    | with_reducible refine condW_split (fun _ => ?_) (fun _ => ?_)
    | with_reducible refine gW_split (fun _ => ?_) (fun _ => ?_)
    | with_reducible refine pickW_split (fun _ => ?_) (fun _ => ?_)
    | (refine newW_intro ?_; intro bx hbx; (try simp only [fresh_box, fresh_tip, fresh_ty] at hbx))
    | (refine newT_plain ?_; intro bx hbx; (try simp only [fresh_box, fresh_tip, fresh_ty] at hbx))
    | ((refine app_wb (ys := bytesA [48]) hB tfB a48 (bytes_ok _) (by simp [bytesA]) (fun v5 s5 ha => ?_); have k5 := ha.buf.le.box b1 _ hf1; have hb5 := ha.buf; have hl5 := hb5.len (P := Tryd.prog) (t := 51); rw [app_bytes] at hb5; clear ha))
    | ((refine Tri.mono (rev_buf G hb5 (by simp) (by simp)) ?_; rintro _ s ⟨rr, rfl, hrr, hles⟩; replace hles := hle1.trans hles))
    | refine storeX_w ?_
    | ((with_reducible refine And.intro ?_ ?_); omega)
    | refine bo_buildSlice (d' := ⟨⟩) ?_
    | (refine draw_all (by kernel_rfl) ?_)
    | refine finish_pure ?_ (by repeat' (first | exact AS.le.refl _ | assumption | (refine le_set (by first | assumption | (simp only [*]; done) | exact AS.le.fresh (by assumption) (by simp only [*])) ?_) | (refine le_ty (by first | assumption | (simp only [*]; done) | exact AS.le.fresh (by assumption) (by simp only [*])) ?_)))
    | simp -dsimp only [↓bp, bq, br, afin, bsk, cWrites, opsWrites, pieceGh, rsk, ne_eq, if_true, if_false, exists_eq_left', forall_const, forall_eq, Nat.reduceLT, Int.reduceSub, Nat.reduceAdd, Nat.reduceSub, Nat.reduceMul, Nat.reduceLeDiff, Nat.reduceEqDiff, Nat.reduceBEq, Nat.reduceBNe, Int.reduceNeg, Int.reduceAdd, Int.reduceMul, Int.reduceLE, Int.reduceLT, Int.reduceEq, Int.reduceToNat, reduceIte, reduceCtorEq, tf3, tf4, tf5, tf44, tf9, tf23, tf51, tf22, tf24, tf26, bytesOf_bytesA, bytesA_len, List.length_reverse, intT_fold, intT_limbs, intT_neg, Term.flat_enc, Term.isv_enc, Term.fold_enc, isv_encs, flat_encs, len_encs, isv_lims, flat_lims, len_lims, ix_lims, ix_lims', flat_limA, isv_byteA, flat_byteA, *])
          all_goals simp
        | true =>
          repeat' (first
    | with_reducible refine condW_both (fun _ _ => ?_) (fun _ _ => ?_)
    | with_reducible refine gW_both (fun _ _ => ?_) (fun _ _ => ?_)
    | with_reducible refine condW_split (fun _ => ?_) (fun _ => ?_)
    | with_reducible refine gW_split (fun _ => ?_) (fun _ => ?_)
    | with_reducible refine pickW_split (fun _ => ?_) (fun _ => ?_)
    | (refine newW_intro ?_; intro bx hbx; (try simp only [fresh_box, fresh_tip, fresh_ty] at hbx))
    | (refine newT_plain ?_; intro bx hbx; (try simp only [fresh_box, fresh_tip, fresh_ty] at hbx))
    | ((refine app_wb (ys := bytesA [48]) hB tfB a48 (bytes_ok _) (by simp [bytesA]) (fun v5 s5 ha => ?_); have k5 := ha.buf.le.box b1 _ hf1; have hb5 := ha.buf; have hl5 := hb5.len (P := Tryd.prog) (t := 51); rw [app_bytes] at hb5; clear ha))
    | ((refine app_wb (ys := bytesA [45]) hb5 tfB a45 (bytes_ok _) (by simp [bytesA]) (fun v6 s6 ha => ?_); have k6 := ha.buf.le.box b1 _ hf1; have hb6 := ha.buf; have hl6 := hb6.len (P := Tryd.prog) (t := 51); rw [app_bytes] at hb6; clear ha))
    | ((refine Tri.mono (rev_buf G hb6 (by simp) (by simp)) ?_; rintro _ s ⟨rr, rfl, hrr, hles⟩; replace hles := hle1.trans hles))
    | refine storeX_w ?_
    | ((with_reducible refine And.intro ?_ ?_); omega)
    | refine bo_buildSlice (d' := ⟨⟩) ?_
    | (refine draw_all (by kernel_rfl) ?_)
    | refine finish_pure ?_ (by repeat' (first | exact AS.le.refl _ | assumption | (refine le_set (by first | assumption | (simp only [*]; done) | exact AS.le.fresh (by assumption) (by simp only [*])) ?_) | (refine le_ty (by first | assumption | (simp only [*]; done) | exact AS.le.fresh (by assumption) (by simp only [*])) ?_)))
    | simp -dsimp only [↓bp, bq, br, afin, bsk, cWrites, opsWrites, pieceGh, rsk, ne_eq, if_true, if_false, exists_eq_left', forall_const, forall_eq, Nat.reduceLT, Int.reduceSub, Nat.reduceAdd, Nat.reduceSub, Nat.reduceMul, Nat.reduceLeDiff, Nat.reduceEqDiff, Nat.reduceBEq, Nat.reduceBNe, Int.reduceNeg, Int.reduceAdd, Int.reduceMul, Int.reduceLE, Int.reduceLT, Int.reduceEq, Int.reduceToNat, reduceIte, reduceCtorEq, tf3, tf4, tf5, tf44, tf9, tf23, tf51, tf22, tf24, tf26, bytesOf_bytesA, bytesA_len, List.length_reverse, intT_fold, intT_limbs, intT_neg, Term.flat_enc, Term.isv_enc, Term.fold_enc, isv_encs, flat_encs, len_encs, isv_lims, flat_lims, len_lims, ix_lims, ix_lims', flat_limA, isv_byteA, flat_byteA, *])
          all_goals simp
      · rw [if_neg hx0]
        have hz : ¬ (xs.length : Int) = 0 := fun e => hx0 (List.eq_nil_of_length_eq_zero (by omega))
        cases g with
        | false =>
          repeat' (first
    | with_reducible refine condW_both (fun _ _ => ?_) (fun _ _ => ?_)
    | with_reducible refine gW_both (fun _ _ => ?_) (fun _ _ => ?_)
    | with_reducible refine condW_split (fun _ => ?_) (fun _ => ?_)
    | with_reducible refine gW_split (fun _ => ?_) (fun _ => ?_)
    | with_reducible refine pickW_split (fun _ => ?_) (fun _ => ?_)
    | (refine newW_intro ?_; intro bx hbx; (try simp only [fresh_box, fresh_tip, fresh_ty] at hbx))
    | (refine newT_plain ?_; intro bx hbx; (try simp only [fresh_box, fresh_tip, fresh_ty] at hbx))
    | ((refine Tri.mono (rev_buf G hB hx0 (by omega)) ?_; rintro _ s ⟨rr, rfl, hrr, hles⟩; replace hles := hle1.trans hles))
    | refine storeX_w ?_
    | ((with_reducible refine And.intro ?_ ?_); omega)
    | refine bo_buildSlice (d' := ⟨⟩) ?_
    | (refine draw_all (by kernel_rfl) ?_)
    | refine finish_pure ?_ (by repeat' (first | exact AS.le.refl _ | assumption | (refine le_set (by first | assumption | (simp only [*]; done) | exact AS.le.fresh (by assumption) (by simp only [*])) ?_) | (refine le_ty (by first | assumption | (simp only [*]; done) | exact AS.le.fresh (by assumption) (by simp only [*])) ?_)))
    | simp -dsimp only [↓bp, bq, br, afin, bsk, cWrites, opsWrites, pieceGh, rsk, ne_eq, if_true, if_false, exists_eq_left', forall_const, forall_eq, Nat.reduceLT, Int.reduceSub, Nat.reduceAdd, Nat.reduceSub, Nat.reduceMul, Nat.reduceLeDiff, Nat.reduceEqDiff, Nat.reduceBEq, Nat.reduceBNe, Int.reduceNeg, Int.reduceAdd, Int.reduceMul, Int.reduceLE, Int.reduceLT, Int.reduceEq, Int.reduceToNat, reduceIte, reduceCtorEq, tf3, tf4, tf5, tf44, tf9, tf23, tf51, tf22, tf24, tf26, bytesOf_bytesA, bytesA_len, List.length_reverse, intT_fold, intT_limbs, intT_neg, Term.flat_enc, Term.isv_enc, Term.fold_enc, isv_encs, flat_encs, len_encs, isv_lims, flat_lims, len_lims, ix_lims, ix_lims', flat_limA, isv_byteA, flat_byteA, *])
          all_goals simp
        | true =>
          repeat' (first
    | with_reducible refine condW_both (fun _ _ => ?_) (fun _ _ => ?_)
    | with_reducible refine gW_both (fun _ _ => ?_) (fun _ _ => ?_)
    | with_reducible refine condW_split (fun _ => ?_) (fun _ => ?_)
    | with_reducible refine gW_split (fun _ => ?_) (fun _ => ?_)
    | with_reducible refine pickW_split (fun _ => ?_) (fun _ => ?_)
    | (refine newW_intro ?_; intro bx hbx; (try simp only [fresh_box, fresh_tip, fresh_ty] at hbx))
    | (refine newT_plain ?_; intro bx hbx; (try simp only [fresh_box, fresh_tip, fresh_ty] at hbx))
    | ((refine app_wb (ys := bytesA [45]) hB tfB a45 (bytes_ok _) (by simp [bytesA]; omega) (fun v6 s6 ha => ?_); have k6 := ha.buf.le.box b1 _ hf1; have hb6 := ha.buf; have hl6 := hb6.len (P := Tryd.prog) (t := 51); rw [app_bytes] at hb6; clear ha))
    | ((refine Tri.mono (rev_buf G hb6 (by simp) (by simp; omega)) ?_; rintro _ s ⟨rr, rfl, hrr, hles⟩; replace hles := hle1.trans hles))
    | refine storeX_w ?_
    | ((with_reducible refine And.intro ?_ ?_); omega)
    | refine bo_buildSlice (d' := ⟨⟩) ?_
    | (refine draw_all (by kernel_rfl) ?_)
    | refine finish_pure ?_ (by repeat' (first | exact AS.le.refl _ | assumption | (refine le_set (by first | assumption | (simp only [*]; done) | exact AS.le.fresh (by assumption) (by simp only [*])) ?_) | (refine le_ty (by first | assumption | (simp only [*]; done) | exact AS.le.fresh (by assumption) (by simp only [*])) ?_)))
    | simp -dsimp only [↓bp, bq, br, afin, bsk, cWrites, opsWrites, pieceGh, rsk, ne_eq, if_true, if_false, exists_eq_left', forall_const, forall_eq, Nat.reduceLT, Int.reduceSub, Nat.reduceAdd, Nat.reduceSub, Nat.reduceMul, Nat.reduceLeDiff, Nat.reduceEqDiff, Nat.reduceBEq, Nat.reduceBNe, Int.reduceNeg, Int.reduceAdd, Int.reduceMul, Int.reduceLE, Int.reduceLT, Int.reduceEq, Int.reduceToNat, reduceIte, reduceCtorEq, tf3, tf4, tf5, tf44, tf9, tf23, tf51, tf22, tf24, tf26, bytesOf_bytesA, bytesA_len, List.length_reverse, intT_fold, intT_limbs, intT_neg, Term.flat_enc, Term.isv_enc, Term.fold_enc, isv_encs, flat_encs, len_encs, isv_lims, flat_lims, len_lims, ix_lims, ix_lims', flat_limA, isv_byteA, flat_byteA, *])
          all_goals simp
    · have hml : (0 : Int) < m.length := by rw [hm0]; simp
      have hv0 : val m ≠ 0 := fun e => by have := canon_zero hc e; rw [hm0] at this; simp at this
      rw [digs_step hv0] at hxs
      have hdig := dig_byte (val m % 10) q2
      have hlen : xs.length + 1 ≤ 309 := by have := congrArg List.length hxs; simp at this; omega
      have hbs : asrc Tryd.prog 51 (.sl .full [byteA (UInt8.ofNat (48 + val m % 10))] []) = some (bytesA [UInt8.ofNat (48 + val m % 10)]) := asrc_sl tfBE
      have hq32 : q'.length ≤ 32 := by omega
      clear hm0 hw hdb q1 q3 hd1 hmr hsl hf1 hbx hs1 hq
      repeat' (first
    | with_reducible refine condW_both (fun _ _ => ?_) (fun _ _ => ?_)
    | with_reducible refine gW_both (fun _ _ => ?_) (fun _ _ => ?_)
    | with_reducible refine condW_split (fun _ => ?_) (fun _ => ?_)
    | with_reducible refine gW_split (fun _ => ?_) (fun _ => ?_)
    | with_reducible refine pickW_split (fun _ => ?_) (fun _ => ?_)
    | (refine newW_intro ?_; intro bx hbx; (try simp only [fresh_box, fresh_tip, fresh_ty] at hbx))
    | (refine newT_plain ?_; intro bx hbx; (try simp only [fresh_box, fresh_tip, fresh_ty] at hbx))
    | refine Pure.use (hsh) ?_
    | refine Pure.head (hsh) ?_
    | refine Pure.use (hmd) ?_
    | refine Pure.head (hmd) ?_
    | ((refine app_wb (ys := bytesA [UInt8.ofNat (48 + val m % 10)]) (hB.setOther h14 hn _) tfB hbs (bytes_ok _) (by rw [bytesA_len, bytesA_len]; simp; omega) (fun v5 s5 ha => ?_); have k1 := ha.keep b4 (flat (intT false q').enc) (by rw [Term.flat_enc]; simp [AS.setBox, intT_limbs, intT_neg]) hn; rw [Term.flat_enc, intT_limbs, intT_neg] at k1))
    | refine storeX_w ?_
    | ((with_reducible refine And.intro ?_ ?_); omega)
    | refine bo_buildSlice (d' := ⟨⟩) ?_
    | (refine draw_all (by kernel_rfl) ?_)
    | refine finish_pure ?_ (by repeat' (first | exact AS.le.refl _ | assumption | (refine le_set (by first | assumption | (simp only [*]; done) | exact AS.le.fresh (by assumption) (by simp only [*])) ?_) | (refine le_ty (by first | assumption | (simp only [*]; done) | exact AS.le.fresh (by assumption) (by simp only [*])) ?_)))
    | simp -dsimp only [↓bp, bq, br, afin, bsk, cWrites, opsWrites, pieceGh, rsk, ne_eq, if_true, if_false, exists_eq_left', forall_const, forall_eq, Nat.reduceLT, Int.reduceSub, Nat.reduceAdd, Nat.reduceSub, Nat.reduceMul, Nat.reduceLeDiff, Nat.reduceEqDiff, Nat.reduceBEq, Nat.reduceBNe, Int.reduceNeg, Int.reduceAdd, Int.reduceMul, Int.reduceLE, Int.reduceLT, Int.reduceEq, Int.reduceToNat, reduceIte, reduceCtorEq, tf3, tf4, tf5, tf44, tf9, tf23, tf51, tf22, tf24, tf26, bytesOf_bytesA, bytesA_len, List.length_reverse, intT_fold, intT_limbs, intT_neg, Term.flat_enc, Term.isv_enc, Term.fold_enc, isv_encs, flat_encs, len_encs, isv_lims, flat_lims, len_lims, ix_lims, ix_lims', flat_limA, isv_byteA, flat_byteA, *])
      have hbb : bytesA xs ++ bytesA [UInt8.ofNat (48 + val m % 10)] = bytesA (xs ++ [UInt8.ofNat (48 + val m % 10)]) := by simp [bytesA]
      have hnb := ha.buf.newBox hbx
      rw [hbb] at hnb
      exact ⟨val q', by rw [hv1]; omega, q', false, bx, v5, xs ++ [UInt8.ofNat (48 + val m % 10)], rfl, hcn, hq32, rfl, (by first | (rw [if_pos rfl]; done) | (rw [if_pos rfl]; rfl)), rfl, (hnb _).1, (hnb []).2, (ha.buf.le.fresh hbx).1, by rw [hv1, List.append_assoc]; exact hxs⟩
end Go.Proofs.YtjnhalmeddafdaaDoor
