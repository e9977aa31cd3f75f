/- The integer of limbs. -/
import Derived.Test.YtjmdaeabllkgnaaGreatDoorZ15
import Derived.Test.YtjmdaeabllkgnaaGreatDoorZ13
import Derived.Test.YtjmdaeabllkgnaaGreatDoorZ00
import Derived.Lib.AppendIntMem
import Derived.Test.YtjmdaeabllkgnaaGreatDoorZ12
set_option linter.unusedVariables false
set_option linter.unusedSimpArgs false
set_option maxRecDepth 20000
set_option linter.defProp false
namespace Go.Proofs.YtjmdaeabllkgnaaGreatDoor
open Go Go.Av
section
def tbMade := And.intro (And.intro (And.intro (And.intro @tf3 (And.intro @tf4 @tf5)) (And.intro @tf169 (And.intro @tf171 @tf116))) (And.intro (And.intro @tf9 (And.intro @tf56 @tf55)) (And.intro @tf24 (And.intro @tf58 @Term.flat_enc)))) (And.intro (And.intro (And.intro @Term.isv_enc (And.intro @Term.fold_enc @isv_lims)) (And.intro @flat_lims (And.intro @len_lims @ix_lims))) (And.intro (And.intro @ix_lims' (And.intro @flat_limA @ares_cons2)) (And.intro @ares1_tmp (And.intro @ares1_cell @aresk_some))))
variable (G : Nat → AV)
def strip : List UInt32 → List UInt32
 | [] => []
 | x :: l => if strip l = [] ∧ x = 0 then [] else x :: strip l
theorem strip_val : ∀ l, val (strip l) = val l
 | [] => rfl
 | x :: l => by
  have ih := strip_val l
  simp only [strip]
  split
  ·rename_i h
   obtain ⟨h1, rfl⟩ := h
   rw [h1] at ih
   simp only [val] at ih ⊢
   rw [← ih]; rfl
  ·simp only [val, ih]
theorem strip_zero : ∀ l, strip (l ++ [0]) = strip l
 | [] => by simp [strip]
 | x :: l => by simp only [List.cons_append, strip, strip_zero l]
theorem strip_keep : ∀ (l : List UInt32) (x : UInt32), x ≠ 0 → strip (l ++ [x]) = l ++ [x]
 | [], x, h => by simp [strip, h]
 | y :: l, x, h => by simp only [List.cons_append, strip, strip_keep l x h]; simp
theorem strip_len : ∀ l, (strip l).length ≤ l.length
 | [] => by simp [strip]
 | x :: l => by
  have := strip_len l
  simp only [strip]
  split <;> simp <;> omega
theorem strip_last : ∀ l, strip l = [] ∨ ∃ m x, strip l = m ++ [x] ∧ x ≠ 0
 | [] => .inl rfl
 | x :: l => by
  simp only [strip]
  rcases strip_last l with h | ⟨m, y, h, hy⟩
  ·by_cases hx : x = 0
   ·rw [if_pos ⟨h, hx⟩]; exact .inl rfl
   ·rw [if_neg (fun c => hx c.2), h]; exact .inr ⟨[], x, rfl, hx⟩
  ·rw [if_neg (fun c => by rw [h] at c; simp at c), h]; exact .inr ⟨x :: m, y, rfl, hy⟩
def intT (neg : Bool) (m : List UInt32) : Term := .mk 1 neg m [] 0 [] []
def madeR (l : List UInt32) (neg : Bool) : AV := if (strip l).length ≤ 32 then .tup [(intT (neg && decide (0 < ((strip l).length : Int))) (strip l)).enc, .bool true] else .tup [zeroT.enc, .bool false]
theorem intT_le (g : Bool) (m : List UInt32) : Le (.agg [.int .u8 1, .bool g, lims m, .str [], .int .i64 0, .nil, .nil]) (intT g m).enc := by
 rw [← Term.fold_enc (intT g m)]
 refine Le.agg ?_ (fun d hd => ones (intT g m) d (by rw [Term.flat_enc]; exact hd))
 exact .cons (Le.refl _) (.cons (Le.refl _) (.cons (Le.refl _) (.cons (Le.refl _) (.cons (Le.refl _) (.cons Le.nil (.cons Le.nil .nil))))))
theorem made_pure (l : List UInt32) (neg : Bool) (hl : l.length ≤ 1000000000) : Pure Tryz.prog G 177 [lims l, .bool neg] (madeR l neg) := by
 refine Pure.of_le fun σ => ?_
 have hc : ∀ m : List UInt32, m.length ≤ 1000000000 → Pure Tryz.prog G 209 [lims m] (lims m) := fun m hm => Pure.of_le (clone_tri G m hm)
 refine Tri.of_awp mixed Tryz.func177 rfl (by kernel_rfl) (by kernel_rfl) (by simp [Tryz.ntmps177]) Tryz.results177 ?_
 repeat' (first | refine xs ?_ ?_ <;> intros | (refine wn ?_; intro bx hbx; try simp only [fb] at hbx) | refine wj ?_ | simp -dsimp only [↓bp, bq, br, seval, tbMade, *] | refine wz ?_ | fail)
 refine loop_intro (fun n e σ' => ∃ m : List UInt32, n = m.length ∧ m.length ≤ l.length ∧ strip m = strip l ∧ e 0 = lims m ∧ σ' = σ.setBox bx [.int .u8 0, .bool false, .nil, .str [], .int .i64 0, .nil, .nil]) l.length ⟨l, rfl, Nat.le_refl _, rfl, by first | (simp -dsimp only [↓bp, bq, br, seval, tbMade]; done) | (simp -dsimp only [↓bp, bq, br, seval, tbMade]; try rfl), rfl⟩ ?_
 rintro n v σ' ⟨m, rfl, hml, hst, h0, rfl⟩
 simp -dsimp only [↓bp, bq, br, seval, tbMade] at h0
 rcases List.eq_nil_or_concat m with rfl | ⟨m', x, rfl⟩
 ·have hs : strip l = [] := by rw [← hst]; rfl
  have hcm := hc [] (by simp)
  have hlz : (([] : List UInt32).length : Int) = 0 := rfl
  have hr : madeR l neg = .tup [(intT false []).enc, .bool true] := by unfold madeR; rw [hs]; simp
  rw [hr]
  generalize hnil : ([] : List UInt32) = q at *
  clear hc hs hst hml hr
  repeat' (first | refine xs ?_ ?_ <;> intros | (refine wn ?_; intro bx hbx; try simp only [fb] at hbx) | refine wp hcm ?_ | refine wj ?_ | simp -dsimp only [↓bp, bq, br, seval, tbMade, hlz, *] | refine wz ?_ | fail)
  all_goals
   refine finishW_some σ (by repeat' first | exact lr _ | assumption | refine ls ?_ ?_ | refine lt ?_ ?_ | simp only [*]; done | simp only [fb, *, not_false_eq_true, and_self]; done | exact lf ‹_› (by simp only [*])) ?_
   exact ⟨Le.tup (.cons (intT_le _ _) (.cons (Le.refl _) .nil)), rfl⟩
 ·simp only [List.concat_eq_append] at *
  have hlen : ((m' ++ [x]).length : Int) = m'.length + 1 := by simp
  have hlen' : (m' ++ [x]).length = m'.length + 1 := by simp
  have hw : IntKind.i64.wrap ((m'.length : Int) + 1 - 1) = m'.length := by rw [wrap_nat (by omega) (by omega)]; omega
  have hget : (m' ++ [x])[m'.length]? = some x := by simp
  have htake : (m' ++ [x]).take m'.length = m' := by simp
  have hcm := hc (m' ++ [x]) (by omega)
  have hp : (0 : Int) < m'.length + 1 := by omega
  have hmm : m'.length ≤ (m' ++ [x]).length := by omega
  by_cases hx : x = 0
  ·subst hx
   rw [strip_zero] at hst
   have hz : ((0 : UInt32).toNat : Int) = 0 := rfl
   have hml' : m'.length ≤ l.length := by omega
   generalize hq : m' ++ [0] = q at *
   clear hc hml hlen'
   repeat' (first | refine xs ?_ ?_ <;> intros | (refine wn ?_; intro bx hbx; try simp only [fb] at hbx) | refine wj ?_ | simp -dsimp only [↓bp, bq, br, seval, tbMade, hlen, hw, limA, hz, sl_lims, *] | refine wz ?_ | fail)
   all_goals exact ⟨m'.length, by rw [← hq]; simp, m', rfl, hml', hst, rfl⟩
  ·have hs : strip l = m' ++ [x] := by rw [← hst, strip_keep _ _ hx]
   have hz : ¬ (x.toNat : Int) = 0 := fun e => hx (UInt32.toNat_inj.1 (by simpa using e))
   by_cases h32 : m'.length + 1 ≤ 32
   ·have hr : madeR l neg = .tup [(intT (neg && true) (m' ++ [x])).enc, .bool true] := by unfold madeR; rw [hs, hlen', if_pos h32]; congr 5; simp
    rw [hr]
    have h32' : ¬ (32 : Int) < m'.length + 1 := by omega
    generalize hq : m' ++ [x] = q at *
    clear hc hs hst hml hr h32 hlen'
    repeat' (first | refine xs ?_ ?_ <;> intros | (refine wn ?_; intro bx hbx; try simp only [fb] at hbx) | refine wp hcm ?_ | refine wj ?_ | simp -dsimp only [↓bp, bq, br, seval, tbMade, hlen, hw, limA, hz, sl_lims, *] | refine wz ?_ | fail)
    all_goals
     refine finishW_some σ (by repeat' first | exact lr _ | assumption | refine ls ?_ ?_ | refine lt ?_ ?_ | simp only [*]; done | simp only [fb, *, not_false_eq_true, and_self]; done | exact lf ‹_› (by simp only [*])) ?_
     cases neg <;> first | exact ⟨Le.tup (.cons (intT_le _ _) (.cons (Le.refl _) .nil)), rfl⟩ | (exfalso; simp_all; done)
   ·have hr : madeR l neg = .tup [zeroT.enc, .bool false] := by unfold madeR; rw [hs, hlen', if_neg h32]
    rw [hr]
    have h32' : (32 : Int) < m'.length + 1 := by omega
    generalize hq : m' ++ [x] = q at *
    clear hc hs hst hml hr h32 hlen'
    repeat' (first | refine xs ?_ ?_ <;> intros | (refine wn ?_; intro bx hbx; try simp only [fb] at hbx) | refine wp hcm ?_ | refine wj ?_ | simp -dsimp only [↓bp, bq, br, seval, tbMade, hlen, hw, limA, hz, sl_lims, *] | refine wz ?_ | fail)
    all_goals
     refine finishW_some σ (by repeat' first | exact lr _ | assumption | refine ls ?_ ?_ | refine lt ?_ ?_ | simp only [*]; done | simp only [fb, *, not_false_eq_true, and_self]; done | exact lf ‹_› (by simp only [*])) ?_
     exact ⟨Le.tup (.cons (enc_nil 0 false [] 0) (.cons (Le.refl _) .nil)), rfl⟩
end
set_option maxRecDepth 20000
section
def tbWText := And.intro (And.intro (And.intro (And.intro @tf3 (And.intro @tf4 @tf5)) (And.intro @tf169 (And.intro @tf9 @tf56))) (And.intro (And.intro @tf54 (And.intro @tf55 @tf24)) (And.intro @tf58 (And.intro @bytesA_len @Term.flat_enc)))) (And.intro (And.intro (And.intro @Term.isv_enc (And.intro @Term.fold_enc @isv_encs)) (And.intro @flat_encs (And.intro @len_encs @isv_lims))) (And.intro (And.intro @flat_lims (And.intro @len_lims @ix_lims)) (And.intro (And.intro @ix_lims' @flat_limA) (And.intro @isv_byteA @flat_byteA))))
variable (G : Nat → AV)
theorem canon_zero {m : List UInt32} (h : m = [] ∨ ∃ q x, m = q ++ [x] ∧ x ≠ 0) (h0 : val m = 0) : m = [] := by
 rcases h with h | ⟨q, x, rfl, hx⟩
 ·exact h
 ·rw [val_append] at h0
  simp only [val] at h0
  have hp : 0 < 4294967296 ^ q.length := Nat.pow_pos (by omega)
  have : x.toNat ≠ 0 := fun e => hx (UInt32.toNat_inj.1 (by simpa using e))
  have : 0 < 4294967296 ^ q.length * (x.toNat + 4294967296 * 0) := Nat.mul_pos hp (by omega)
  omega
theorem wr_int {t : Term} (h : wr t = true) : t = intT t.neg t.limbs ∧ (t.limbs = [] ∨ ∃ q x, t.limbs = q ++ [x] ∧ x ≠ 0) ∧ t.limbs.length ≤ 32 := by
 obtain ⟨h1, h2, h3, h4, h5, h6, h7, h8⟩ := wr_spec h
 refine ⟨term_ext h1 rfl rfl h2 h3 h4 h5, ?_, h6⟩
 rcases List.eq_nil_or_concat t.limbs with e | ⟨q, x, e⟩
 ·exact .inl e
 ·rw [List.concat_eq_append] at e
  refine .inr ⟨q, x, e, fun hx => ?_⟩
  have := h8 (by rw [e]; simp)
  rw [e] at this
  simp [lastOk, hx] at this
theorem intT_limbs (g : Bool) (m : List UInt32) : (intT g m).limbs = m := rfl
theorem intT_fold (g : Bool) (m : List UInt32) : AV.agg [.int .u8 (intT g m).knd, .bool g, lims m, .str (intT g m).text, .int .i64 (intT g m).num, encs (intT g m).items, encs (intT g m).tail] = (intT g m).enc := (intT g m).fold_enc
theorem intT_neg (g : Bool) (m : List UInt32) : (intT g m).neg = g := rfl
theorem digs_step {n : Nat} (h : n ≠ 0) : digs n = UInt8.ofNat (48 + n % 10) :: digs (n / 10) := by rw [digs, dif_neg h]
theorem dig_byte (d : Nat) (h : d < 10) : AV.int .u8 (IntKind.u8.wrap (IntKind.u32.wrap (48 + (d : Int)))) = byteA (UInt8.ofNat (48 + d)) := by
 unfold byteA
 rw [u32_wrap (by omega) (by omega), IntKind.wrap_u8, UInt8.toNat_ofNat']
 congr 1
theorem bytesOf_bytesA (l : List UInt8) : bytesOf (bytesA l) = some l := by
 induction l with
 | nil => rfl
 | cons c l ih =>
  have : Av.byteOf (byteA c) = some c := by simp [Av.byteOf, byteA]
  simp only [bytesA, List.map_cons, bytesOf] at ih ⊢
  rw [this, ih]
theorem app_bytes (a b : List UInt8) : bytesA a ++ bytesA b = bytesA (a ++ b) := by simp [bytesA]
theorem rev_buf {σ1 s : AS} {v : AV} {zs : List UInt8} (h : WBuf 1 5 σ1 s v (bytesA zs)) (hne : zs ≠ []) (hl : zs.length ≤ 1000000) :
  Tri Tryz.prog G 178 [v] s fun r s' => ∃ rr, v = .bs rr zs.length 1 5 ∧ s'.box rr = some (bytesA zs.reverse) ∧ σ1.le s' := by
 obtain ⟨r, hr, hrb, hr0, hr1⟩ := h.form (by simpa [bytesA] using hne)
 rw [flat_bytesA] at hrb
 rw [bytesA_len] at hr
 subst hr
 refine (reverse_tri G zs (by omega) s r hrb).mono ?_
 rintro _ s' rfl
 exact ⟨r, rfl, by simp [AS.setBox], h.le.setBox hr0 _⟩
theorem digs_len : ∀ (k n : Nat), n < 10 ^ k → (digs n).length ≤ k
 | 0, n, h => by
  have : n = 0 := by simp at h; omega
  subst this
  rw [digs]; simp
 | k + 1, n, h => by
  by_cases h0 : n = 0
  ·subst h0; rw [digs]; simp
  ·rw [digs_step h0, List.length_cons]
   have := digs_len k (n / 10) (by rw [Nat.pow_succ] at h; omega)
   omega
theorem val_lt : ∀ l : List UInt32, val l < 4294967296 ^ l.length
 | [] => by simp [val]
 | x :: l => by
  have := val_lt l
  have := x.toNat_lt
  simp only [val, List.length_cons, Nat.pow_succ]
  omega
theorem dig_bound {l : List UInt32} (h : l.length ≤ 32) : (digs (val l)).length ≤ 309 := by
 refine digs_len 309 _ (Nat.lt_of_lt_of_le (val_lt l) (Nat.le_trans (Nat.pow_le_pow_right (by omega) h) ?_))
 decide +kernel
set_option maxHeartbeats 2000000 in
theorem wtext_pure (t : Term) (hb : t.bulk ≤ 1000000000) : Pure Tryz.prog G 124 [t.enc] (.str (if wr t = true then wsaid t else [])) := by
 have hw := wr_pure G t hb
 cases ew : wr t with
 | false =>
  rw [ew] at hw
  intro σ
  refine Tri.of_awp mixed Tryz.func124 rfl (by kernel_rfl) (by kernel_rfl) (by simp [Tryz.ntmps124]) Tryz.results124 ?_
  repeat' (first | refine xs ?_ ?_ <;> intros | (refine wn ?_; intro bx hbx; try simp only [fb] at hbx) | refine wp hw ?_ | refine wj ?_ | simp -dsimp only [↓bp, bq, br, seval, tbWText, bytesOf_bytesA, intT_fold, intT_limbs, intT_neg, List.length_reverse, *] | refine wz ?_ | fail)
  all_goals rfl
 | true =>
  rw [ew] at hw
  obtain ⟨et, hcan, h32⟩ := wr_int ew
  rw [if_pos rfl]
  obtain ⟨g, hg⟩ : ∃ g, t.neg = g := ⟨_, rfl⟩
  obtain ⟨l, hl⟩ : ∃ l, t.limbs = l := ⟨_, rfl⟩
  have hsaid : wsaid t = (if g = true then [45] else []) ++ decT (val l) := by unfold wsaid; rw [hg, hl]
  rw [hsaid]
  rw [hg, hl] at et
  rw [hl] at hcan h32
  subst et
  clear hsaid hg hl hb ew
  have hsh := fun (m : List UInt32) (h : m.length ≤ 32) => short_pure G m 10 (by omega) (by omega) (by omega)
  have hmd := fun (m : List UInt32) (h : m.length ≤ 32) => made_pure G m false (by omega)
  have hdb := dig_bound h32
  intro σ
  refine Tri.of_awp mixed Tryz.func124 rfl (by kernel_rfl) (by kernel_rfl) (by simp [Tryz.ntmps124]) Tryz.results124 ?_
  repeat' (first | refine xs ?_ ?_ <;> intros | (refine wn ?_; intro bx hbx; try simp only [fb] at hbx) | refine wp hw ?_ | refine wj ?_ | simp -dsimp only [↓bp, bq, br, seval, tbWText, bytesOf_bytesA, intT_fold, intT_limbs, intT_neg, List.length_reverse, *] | refine wz ?_ | fail)
  rename_i b1 hb1
  obtain ⟨σ1, hs1⟩ : ∃ σ1, σ1 = σ.setBox b1 (flat (intT g l).enc) := ⟨_, rfl⟩
  have hle1 : σ.le σ1 := by rw [hs1]; exact (AS.le.refl σ).setBox hb1.1 _
  have hf1 : σ1.box b1 = some (flat (intT g l).enc) := by rw [hs1]; simp [AS.setBox]
  rw [Term.flat_enc, intT_limbs, intT_neg] at hs1
  rw [← hs1]
  have hbx' : σ1.fresh bx := by rw [hs1, fresh_setBox]; exact ⟨hbx.1, hbx.2.1⟩
  refine loop_intro (fun n e σ' => ∃ (m : List UInt32) (gg : Bool) (b4 : Nat) (v : AV) (xs : List UInt8), n = val m ∧ (m = [] ∨ ∃ q x, m = q ++ [x] ∧ x ≠ 0) ∧ m.length ≤ 32 ∧ e 4 = .ptr b4 0 ∧ σ'.box b4 = some (flat (intT gg m).enc) ∧ e 3 = v ∧
   WBuf 1 5 σ1 σ' v (bytesA xs) ∧ notRow v b4 ∧ σ1.box b4 = none ∧ xs ++ digs (val m) = digs (val l)) (val l)
   ⟨l, g, bx, .nil, [], rfl, hcan, h32, by first | (simp -dsimp only [↓bp, bq, br, seval, tbWText, bytesOf_bytesA, intT_fold, intT_limbs, intT_neg, List.length_reverse]; done) | (simp -dsimp only [↓bp, bq, br, seval, tbWText, bytesOf_bytesA, intT_fold, intT_limbs, intT_neg, List.length_reverse]; try rfl), by rw [Term.flat_enc]; first | (simp -dsimp only [↓bp, bq, br, seval, tbWText, bytesOf_bytesA, intT_fold, intT_limbs, intT_neg, List.length_reverse]; done) | (simp -dsimp only [↓bp, bq, br, seval, tbWText, bytesOf_bytesA, intT_fold, intT_limbs, intT_neg, List.length_reverse]; try rfl), by first | (simp -dsimp only [↓bp, bq, br, seval, tbWText, bytesOf_bytesA, intT_fold, intT_limbs, intT_neg, List.length_reverse]; done) | (simp -dsimp only [↓bp, bq, br, seval, tbWText, bytesOf_bytesA, intT_fold, intT_limbs, intT_neg, List.length_reverse]; try rfl), .nil ((AS.le.refl σ1).setBox hbx'.1 _), trivial, hbx'.1, rfl⟩ ?_
  rintro n v σ' ⟨m, gg, b4, v3, xs, rfl, hc, hm, h4, hb4, h3, hB, hn, h14, hxs⟩
  have hsh := hsh m hm
  obtain ⟨q1, q2, q3⟩ := divd_spec 10 (by omega) (by omega) m
  have hmd := hmd (divd m 10).1 (by omega)
  have hsl := strip_len (divd m 10).1
  have hmr : madeR (divd m 10).1 false = .tup [(intT false (strip (divd m 10).1)).enc, .bool true] := by unfold madeR; rw [if_pos (by omega), Bool.false_and]
  rw [hmr] at hmd
  have hv1 : val (strip (divd m 10).1) = val m / 10 := by rw [strip_val]; omega
  have hd1 : (divd m 10).2 = val m % 10 := by omega
  have hcn := strip_last (divd m 10).1
  rw [Term.flat_enc, intT_limbs, intT_neg] at hb4
  rw [hd1] at hsh q2
  generalize hq : (divd m 10).1 = q at *
  generalize strip q = q' at *
  simp -dsimp only [↓bp, bq, br, seval, tbWText, bytesOf_bytesA, intT_fold, intT_limbs, intT_neg, List.length_reverse] at h4 h3
  rcases List.eq_nil_or_concat m with hm0 | ⟨m', x, hm0⟩
  ·have hml : (m.length : Int) = 0 := by rw [hm0]; rfl
   have hxd : xs = digs (val l) := by
    rw [hm0] at hxs
    have e0 : digs (val []) = [] := by rw [digs]; simp [val]
    rw [e0, List.append_nil] at hxs
    exact hxs
   have hlv := hB.len (P := Tryz.prog) (t := 54)
   rw [bytesA_len] at hlv
   have hk0 := hB.le.box b1 _ hf1
   rw [Term.flat_enc, intT_limbs, intT_neg] at hk0 hf1
   have a48 : asrc Tryz.prog 54 (.sl .full [.int .u8 48] []) = some (bytesA [48]) := asrc_sl tfBE
   have a45 : asrc Tryz.prog 54 (.sl .full [.int .u8 45] []) = some (bytesA [45]) := asrc_sl tfBE
   have hxl : xs.length ≤ 309 := by rw [hxd]; exact hdb
   have hdec : decT (val l) = if xs = [] then [48] else xs.reverse := by
    unfold decT
    by_cases hv : val l = 0
    ·rw [if_pos hv, if_pos (by rw [hxd, hv, digs]; simp)]
    ·rw [if_neg hv, if_neg (by rw [hxd]; exact digs_ne hv), hxd]
   rw [hdec]
   clear hdec hw hsh hmd hdb hm0 hxs hmr hv1 hd1 hcn hc hs1 hxd q1 q2 q3 hsl hq hbx hm
   by_cases hx0 : xs = []
   ·subst hx0
    rw [if_pos rfl]
    have hz : (([] : List UInt8).length : Int) = 0 := rfl
    rw [hz] at hlv
    cases g with
    | false =>
     repeat' (first | refine xs ?_ ?_ <;> intros | (refine wn ?_; intro bx hbx; try simp only [fb] at hbx) | ((refine app_wb (ys := bytesA [48]) hB tfB a48 (bytes_ok _) (by simp [bytesA]) (fun v5 s5 ha => ?_); have k5 := ha.buf.le.box b1 _ hf1; have hb5 := ha.buf; have hl5 := hb5.len (P := Tryz.prog) (t := 54); rw [app_bytes] at hb5; clear ha)) | ((refine Tri.mono (rev_buf G hb5 (by simp) (by simp)) ?_; rintro _ s ⟨rr, rfl, hrr, hles⟩; replace hles := hle1.trans hles)) | refine wj ?_ | simp -dsimp only [↓bp, bq, br, seval, tbWText, bytesOf_bytesA, intT_fold, intT_limbs, intT_neg, List.length_reverse, *] | refine wz ?_ | fail)
     all_goals simp
    | true =>
     repeat' (first | refine xs ?_ ?_ <;> intros | (refine wn ?_; intro bx hbx; try simp only [fb] at hbx) | ((refine app_wb (ys := bytesA [48]) hB tfB a48 (bytes_ok _) (by simp [bytesA]) (fun v5 s5 ha => ?_); have k5 := ha.buf.le.box b1 _ hf1; have hb5 := ha.buf; have hl5 := hb5.len (P := Tryz.prog) (t := 54); rw [app_bytes] at hb5; clear ha)) | ((refine app_wb (ys := bytesA [45]) hb5 tfB a45 (bytes_ok _) (by simp [bytesA]) (fun v6 s6 ha => ?_); have k6 := ha.buf.le.box b1 _ hf1; have hb6 := ha.buf; have hl6 := hb6.len (P := Tryz.prog) (t := 54); rw [app_bytes] at hb6; clear ha)) | ((refine Tri.mono (rev_buf G hb6 (by simp) (by simp)) ?_; rintro _ s ⟨rr, rfl, hrr, hles⟩; replace hles := hle1.trans hles)) | refine wj ?_ | simp -dsimp only [↓bp, bq, br, seval, tbWText, bytesOf_bytesA, intT_fold, intT_limbs, intT_neg, List.length_reverse, *] | refine wz ?_ | fail)
     all_goals simp
   ·rw [if_neg hx0]
    have hz : ¬ (xs.length : Int) = 0 := fun e => hx0 (List.eq_nil_of_length_eq_zero (by omega))
    cases g with
    | false =>
     repeat' (first | refine xs ?_ ?_ <;> intros | (refine wn ?_; intro bx hbx; try simp only [fb] at hbx) | ((refine Tri.mono (rev_buf G hB hx0 (by omega)) ?_; rintro _ s ⟨rr, rfl, hrr, hles⟩; replace hles := hle1.trans hles)) | refine wj ?_ | simp -dsimp only [↓bp, bq, br, seval, tbWText, bytesOf_bytesA, intT_fold, intT_limbs, intT_neg, List.length_reverse, *] | refine wz ?_ | fail)
     all_goals simp
    | true =>
     repeat' (first | refine xs ?_ ?_ <;> intros | (refine wn ?_; intro bx hbx; try simp only [fb] at hbx) | ((refine app_wb (ys := bytesA [45]) hB tfB a45 (bytes_ok _) (by simp [bytesA]; omega) (fun v6 s6 ha => ?_); have k6 := ha.buf.le.box b1 _ hf1; have hb6 := ha.buf; have hl6 := hb6.len (P := Tryz.prog) (t := 54); rw [app_bytes] at hb6; clear ha)) | ((refine Tri.mono (rev_buf G hb6 (by simp) (by simp; omega)) ?_; rintro _ s ⟨rr, rfl, hrr, hles⟩; replace hles := hle1.trans hles)) | refine wj ?_ | simp -dsimp only [↓bp, bq, br, seval, tbWText, bytesOf_bytesA, intT_fold, intT_limbs, intT_neg, List.length_reverse, *] | refine wz ?_ | fail)
     all_goals simp
  ·have hml : (0 : Int) < m.length := by rw [hm0]; simp
   have hv0 : val m ≠ 0 := fun e => by have := canon_zero hc e; rw [hm0] at this; simp at this
   rw [digs_step hv0] at hxs
   have hdig := dig_byte (val m % 10) q2
   have hlen : xs.length + 1 ≤ 309 := by have := congrArg List.length hxs; simp at this; omega
   have hbs : asrc Tryz.prog 54 (.sl .full [byteA (UInt8.ofNat (48 + val m % 10))] []) = some (bytesA [UInt8.ofNat (48 + val m % 10)]) := asrc_sl tfBE
   have hq32 : q'.length ≤ 32 := by omega
   clear hm0 hw hdb q1 q3 hd1 hmr hsl hf1 hbx hs1 hq
   repeat' (first | refine xs ?_ ?_ <;> intros | (refine wn ?_; intro bx hbx; try simp only [fb] at hbx) | refine wp hsh ?_ | refine wp hmd ?_ | ((refine app_wb (ys := bytesA [UInt8.ofNat (48 + val m % 10)]) (hB.setOther h14 hn _) tfB hbs (bytes_ok _) (by rw [bytesA_len, bytesA_len]; simp; omega) (fun v5 s5 ha => ?_); have k1 := ha.keep b4 (flat (intT false q').enc) (by rw [Term.flat_enc]; simp [AS.setBox, intT_limbs, intT_neg]) hn; rw [Term.flat_enc, intT_limbs, intT_neg] at k1)) | refine wj ?_ | simp -dsimp only [↓bp, bq, br, seval, tbWText, bytesOf_bytesA, intT_fold, intT_limbs, intT_neg, List.length_reverse, *] | refine wz ?_ | fail)
   have hbb : bytesA xs ++ bytesA [UInt8.ofNat (48 + val m % 10)] = bytesA (xs ++ [UInt8.ofNat (48 + val m % 10)]) := by simp [bytesA]
   have hnb := ha.buf.newBox hbx
   rw [hbb] at hnb
   exact ⟨val q', by rw [hv1]; omega, q', false, bx, v5, xs ++ [UInt8.ofNat (48 + val m % 10)], rfl, hcn, hq32, rfl, (by first | (rw [if_pos rfl]; done) | (rw [if_pos rfl]; rfl)), rfl, (hnb _).1, (hnb []).2, (ha.buf.le.fresh hbx).1, by rw [hv1, List.append_assoc]; exact hxs⟩
end
section
open Go Go.Av Go.RowKit
variable {G : Nat → AV}
theorem decDigits_eq (n : Nat) : Lib.decDigits n = decT n := by
 have key : ∀ n, n ≠ 0 → Lib.decDigits n = (digs n).reverse := by
  intro n
  induction n using Nat.strongRecOn with
  | _ n ih =>
   intro h0
   rw [Lib.decDigits, digs_step h0]
   by_cases h : n < 10
   ·rw [dif_pos h]
    have : n / 10 = 0 := by omega
    rw [this, digs]
    simp
    congr 1; omega
   ·rw [dif_neg h, ih (n / 10) (by omega) (by omega)]
    simp
 unfold decT
 by_cases h0 : n = 0
 ·subst h0; rw [if_pos rfl, Lib.decDigits]; rfl
 ·rw [if_neg h0, key n h0]
theorem libitoa_eq (n : Int) : Lib.itoa n = itoa n := by
 unfold Lib.itoa itoa
 split
 ·rw [decDigits_eq]; rfl
 ·rw [decDigits_eq]
  have : n.toNat = n.natAbs := by omega
  rw [this]; rfl
def powV : List Value := Lib.pow10Tab.map fun z => .int .u64 z
theorem itoa_pure (hp : G 4 = .tab powV) (n : Int) (h0 : -9223372036854775808 ≤ n) (h1 : n ≤ 9223372036854775807) : Pure Tryz.prog G 63 [.int .i64 n] (.str (itoa n)) := by
 refine Pure.of_calls (vals := [.int .i64 n]) (u := .string ⟨⟨itoa n⟩⟩) (by kernel_rfl) (fun K l h => ?_) (fun K => .str _) (fun K σ w hr => ?_)
 ·match l, h with
  | [a], ⟨h1, _⟩ => rw [VR.int_iff] at h1; rw [h1]
 ·have hg := hr.glob 4
  rw [hp] at hg
  have htab : Lib.TabIs Tryz.prog w "internal/strconv.uint64pow10" .u64 Lib.pow10Tab := by
   cases hg with
   | tab _ _ E fz hb hw =>
    have hblk := (hr.below.block _ hb).trans hw
    unfold Lib.TabIs World.var?
    rw [show Tryz.prog.globalNamed "internal/strconv.uint64pow10" = some 4 by kernel_rfl]
    simp [hblk, powV]
  refine (Tryz.strconv_Itoa n h0 h1 w htab).mono ?_
  rintro e w' ⟨he, k, os, hw⟩
  subst hw
  rw [libitoa_eq] at he
  exact ⟨he, Lib.below_grow _ _ (Nat.le_refl _) k os⟩
end
set_option maxRecDepth 20000
section
def tbQuo := And.intro (And.intro (And.intro @tf3 @tf4) (And.intro @tf5 (And.intro @tf9 @tf54))) (And.intro (And.intro @tf124 @tf242) (And.intro @tf147 (And.intro @tf145 @tf116)))
variable (G : Nat → AV)
def idx (s : List UInt8) : Nat → List (List UInt8) → Int
 | _, [] => -1
 | k, w :: ws => if s = w then k else idx s (k + 1) ws
theorem idx_mem (s : List UInt8) : ∀ (ws : List (List UInt8)) (k : Nat), (0 ≤ idx s k ws) ↔ s ∈ ws
 | [], k => by simp [idx]
 | w :: ws, k => by
  simp only [idx]
  split
  ·rename_i h; subst h; simp
  ·rename_i h; rw [idx_mem s ws (k + 1)]; simp [h]
def texts (ws : List (List UInt8)) : AV := .sl .none (ws.map AV.str) []
instance {ws : List (List UInt8)} : NotBs (texts ws) := ⟨fun _ _ _ _ h => by unfold texts at h; cases h⟩
theorem len_texts {P : Program} {t : TypeId} (l : List (List UInt8)) : ablt P .len #[t] [texts l] = if (el P t).isSome then some (.int .i64 l.length) else none := by
 simp [texts, l_sl]
theorem ix_texts {P : Program} {t : TypeId} {k : IntKind} (l : List (List UInt8)) (i : Nat) : aindexA P t (texts l) (.int k (i : Int)) = ixk ((el P t).bind (tk P)) ((l[i]?).map AV.str) := by
 simp [texts, aindexA_sl]
theorem index_pure (ws : List (List UInt8)) (s : List UInt8) (hl : ws.length ≤ 1000000) : Pure Tryz.prog G 210 [texts ws, .str s] (.int .i64 (idx s 0 ws)) := by
 intro σ
 refine Tri.of_awp mixed Tryz.func210 rfl (by kernel_rfl) (by kernel_rfl) (by simp [Tryz.ntmps210]) Tryz.results210 ?_
 repeat' (first | refine xs ?_ ?_ <;> intros | (refine wn ?_; intro bx hbx; try simp only [fb] at hbx) | refine wj ?_ | simp -dsimp only [↓bp, bq, br, seval, tbQuo, len_texts, ix_texts, *] | refine wz ?_ | fail)
 refine loop_keep mixed (fun n e => ∃ i : Nat, i ≤ (ws).length ∧ n = (ws).length - i ∧ e 8 = .int .i64 i ∧ idx s i (ws.drop i) = idx s 0 ws) (ws).length
   ⟨0, by omega, by omega, by simp -dsimp only [↓bp, bq, br, seval, tbQuo]; first | done | rfl, rfl⟩ ?_
 rintro n v ⟨i, hi, rfl, h8, htk⟩
 simp -dsimp only [↓bp, bq, br, seval, tbQuo] at h8
 simp -dsimp only [↓bp, bq, br, seval, tbQuo, h8]
 refine condW_dec (fun hlt => ?_) (fun hge => ?_)
 ·obtain ⟨x, hx⟩ : ∃ x, ws[i]? = some x := ⟨_, List.getElem?_eq_getElem (by omega)⟩
  rw [drop_get _ _ _ hx] at htk
  simp only [idx] at htk
  clear hi hlt
  by_cases h0 : s = x
  ·subst h0
   simp only [if_true] at htk
   rw [← htk]
   clear htk
   repeat' (first | refine xs ?_ ?_ <;> intros | (refine wn ?_; intro bx hbx; try simp only [fb] at hbx) | refine wj ?_ | simp -dsimp only [↓bp, bq, br, seval, tbQuo, len_texts, ix_texts, *] | refine wz ?_ | fail)
   all_goals rfl
  ·rw [if_neg h0] at htk
   repeat' (first | refine xs ?_ ?_ <;> intros | (refine wn ?_; intro bx hbx; try simp only [fb] at hbx) | refine wj ?_ | simp -dsimp only [↓bp, bq, br, seval, tbQuo, len_texts, ix_texts, *] | refine wz ?_ | fail)
   all_goals (have hlt := (List.getElem?_eq_some_iff.1 hx).1)
   all_goals exact ⟨ws.length - (i + 1), by omega, i + 1, by omega, rfl, by rw [wrap_nat (by omega) (by omega)]; rfl, htk⟩
 ·have : i = ws.length := by omega
  subst this
  rw [List.drop_length] at htk
  simp only [idx] at htk
  rw [← htk]
  clear hi hge htk
  repeat' (first | refine xs ?_ ?_ <;> intros | (refine wn ?_; intro bx hbx; try simp only [fb] at hbx) | refine wj ?_ | simp -dsimp only [↓bp, bq, br, seval, tbQuo, len_texts, ix_texts, *] | refine wz ?_ | fail)
  all_goals rfl
theorem contains_pure (ws : List (List UInt8)) (s : List UInt8) (hl : ws.length ≤ 1000000) : Pure Tryz.prog G 179 [texts ws, .str s] (.bool (ws.contains s)) := by
 have h := index_pure G ws s hl
 have hm := idx_mem s ws 0
 have e : ws.contains s = decide (0 ≤ idx s 0 ws) := by rw [Bool.eq_iff_iff, decide_eq_true_eq, hm]; simp
 rw [e]
 intro σ
 refine Tri.of_awp mixed Tryz.func179 rfl (by kernel_rfl) (by kernel_rfl) (by simp [Tryz.ntmps179]) Tryz.results179 ?_
 repeat' (first | refine xs ?_ ?_ <;> intros | (refine wn ?_; intro bx hbx; try simp only [fb] at hbx) | refine wp h ?_ | refine wj ?_ | simp -dsimp only [↓bp, bq, br, seval, tbQuo, *] | refine wz ?_ | fail)
 all_goals rfl
set_option maxHeartbeats 1000000 in
theorem inner_pure (s : List UInt8) (hs : s.length ≤ 1000000000) : Pure Tryz.prog G 180 [.str s] (.bool (s.all innerC)) := by
 intro σ
 have hml : s.length ≤ maxLen := by unfold maxLen; omega
 refine Tri.of_awp mixed Tryz.func180 rfl (by kernel_rfl) (by kernel_rfl) (by simp [Tryz.ntmps180]) Tryz.results180 ?_
 repeat' (first | refine xs ?_ ?_ <;> intros | (refine wn ?_; intro bx hbx; try simp only [fb] at hbx) | refine wj ?_ | simp -dsimp only [↓bp, bq, br, seval, tbQuo, hml, *] | refine wz ?_ | fail)
 refine loop_keep mixed (fun n e => ∃ i : Nat, i ≤ (s).length ∧ n = (s).length - i ∧ e 8 = .int .i64 i ∧ ∀ x, x ∈ s.take i → innerC x = true) (s).length
   ⟨0, by omega, by omega, by simp -dsimp only [↓bp, bq, br, seval, tbQuo]; first | done | rfl, by simp⟩ ?_
 rintro n v ⟨i, hi, rfl, h8, hno⟩
 simp -dsimp only [↓bp, bq, br, seval, tbQuo] at h8
 simp -dsimp only [↓bp, bq, br, seval, tbQuo, h8]
 refine condW_dec (fun hlt => ?_) (fun hge => ?_)
 ·obtain ⟨k, hk⟩ : ∃ k, s[i]? = some k := ⟨_, List.getElem?_eq_getElem (by omega)⟩
  have hkm : k ∈ s := List.mem_of_getElem? hk
  have step : innerC k = true → ∀ x, x ∈ s.take (i + 1) → innerC x = true := fun ht x hx => by
   rw [take_succ_get _ _ _ hk, List.mem_append, List.mem_singleton] at hx
   rcases hx with hx | rfl
   ·exact hno x hx
   ·exact ht
  have stop_ : innerC k = false → s.all innerC = false := fun hf => by
   rw [List.all_eq_false]; exact ⟨k, hkm, by simp [hf]⟩
  have hic : innerC k = (decide ((97 : Int) ≤ k.toNat) && decide ((k.toNat : Int) ≤ 122) || decide ((65 : Int) ≤ k.toNat) && decide ((k.toNat : Int) ≤ 90) || decide ((48 : Int) ≤ k.toNat) && decide ((k.toNat : Int) ≤ 57) || decide ((k.toNat : Int) = 95) || decide ((k.toNat : Int) = 64)) := by
   unfold innerC
   rw [Bool.eq_iff_iff]
   simp only [Bool.or_eq_true, Bool.and_eq_true, decide_eq_true_eq]
   omega
  have hw : IntKind.i64.wrap ((i : Int) + 1) = ((i + 1 : Nat) : Int) := by rw [wrap_nat (by omega) (by omega)]; rfl
  rw [hic] at step stop_
  have hlt' := (List.getElem?_eq_some_iff.1 hk).1
  clear hic hno hi hlt
  cases hv : (decide ((97 : Int) ≤ k.toNat) && decide ((k.toNat : Int) ≤ 122) || decide ((65 : Int) ≤ k.toNat) && decide ((k.toNat : Int) ≤ 90) || decide ((48 : Int) ≤ k.toNat) && decide ((k.toNat : Int) ≤ 57) || decide ((k.toNat : Int) = 95) || decide ((k.toNat : Int) = 64))
  ·have stop_ := stop_ hv
   rw [stop_]
   simp only [Bool.or_eq_false_iff, Bool.and_eq_false_iff, decide_eq_false_iff_not] at hv
   clear step stop_
   repeat' (first | refine xs ?_ ?_ <;> intros | (refine wn ?_; intro bx hbx; try simp only [fb] at hbx) | refine wj ?_ | simp -dsimp only [↓bp, bq, br, seval, tbQuo, hk, hw, *] | refine wz ?_ | fail)
   all_goals first | rfl | (exfalso; omega)
  ·have step := step hv
   simp only [Bool.or_eq_true, Bool.and_eq_true, decide_eq_true_eq] at hv
   clear stop_
   repeat' (first | refine xs ?_ ?_ <;> intros | (refine wn ?_; intro bx hbx; try simp only [fb] at hbx) | refine wj ?_ | simp -dsimp only [↓bp, bq, br, seval, tbQuo, hk, hw, *] | refine wz ?_ | fail)
   all_goals first | exact ⟨s.length - (i + 1), by omega, i + 1, by omega, rfl, rfl, step⟩ | (exfalso; omega)
 ·have : i = s.length := by omega
  subst this
  rw [List.take_length] at hno
  have he : s.all innerC = true := List.all_eq_true.2 hno
  rw [he]
  clear hno hi hge
  repeat' (first | refine xs ?_ ?_ <;> intros | (refine wn ?_; intro bx hbx; try simp only [fb] at hbx) | refine wj ?_ | simp -dsimp only [↓bp, bq, br, seval, tbQuo, *] | refine wz ?_ | fail)
  all_goals rfl
end
set_option maxRecDepth 20000
section
def tbQuo2 := And.intro (And.intro (And.intro @tf3 (And.intro @tf4 @tf5)) (And.intro @tf9 (And.intro @tf54 @tf124))) (And.intro (And.intro @tf242 (And.intro @tf147 @tf145)) (And.intro @tf116 (And.intro @isv_byteA @flat_byteA)))
variable {G : Nat → AV}
structure Glob (G : Nat → AV) : Prop where
 words : G 1 = .rp (Proofs.YtjmdaeabllkgnaaGreatDoor.words.map AV.str)
theorem words_len : (words.map AV.str).length = 19 := rfl
theorem plainA_pure (hg : Glob G) (s : List UInt8) (hs : s.length ≤ 1000000000) : Pure Tryz.prog G 125 [.str s] (.bool (plainA s)) := by
 have hi := inner_pure G s hs
 have hc := contains_pure G words s (by decide)
 have hw := hg.words
 have h19 : rsk (some (19, 1)) (words.map AV.str) = some (texts words) := by
  show (if 19 = (words.map AV.str).length ∧ 19 ≤ maxLen then some (AV.sl .none (words.map AV.str) []) else none) = _
  exact if_pos ⟨words_len.symm, by unfold maxLen; decide⟩
 have ha : arrT Tryz.prog 242 = some (19, 1) := tf242.2.2.2.2.2.2.1
 have has : aslice Tryz.prog 242 (.rp (words.map AV.str)) none none = some (texts words) := by rw [aslice_rp, ha, h19]
 cases s with
 | nil =>
  intro σ
  clear hi hc
  refine Tri.of_awp mixed Tryz.func125 rfl (by kernel_rfl) (by kernel_rfl) (by simp [Tryz.ntmps125]) Tryz.results125 ?_
  repeat' (first | refine xs ?_ ?_ <;> intros | (refine wn ?_; intro bx hbx; try simp only [fb] at hbx) | refine wj ?_ | simp -dsimp only [↓bp, bq, br, seval, tbQuo2, *] | refine wz ?_ | fail)
  all_goals rfl
 | cons c l =>
  have hp : plainA (c :: l) = (decide (97 ≤ c.toNat) && decide (c.toNat ≤ 122) && !words.contains (c :: l) && (c :: l).all innerC) := rfl
  have hx : (c :: l)[0]? = some c := rfl
  have hne : ¬ (c :: l) = [] := by simp
  rw [hp]
  generalize (c :: l) = s at *
  clear hp
  generalize words.contains s = wc at *
  generalize s.all innerC = si at *
  have e1 : ((97 : Int) ≤ c.toNat) ↔ 97 ≤ c.toNat := by omega
  have e2 : ((c.toNat : Int) ≤ 122) ↔ c.toNat ≤ 122 := by omega
  by_cases h1 : 97 ≤ c.toNat
  ·have g1 : ¬ (c.toNat : Int) < 97 := by omega
   by_cases h2 : c.toNat ≤ 122
   ·have g2 : ¬ (122 : Int) < c.toNat := by omega
    have q1 := decide_eq_true h1
    have q2 := decide_eq_true h2
    rw [q1, q2]
    clear h1 h2 e1 e2 q1 q2
    intro σ
    cases wc
    ·refine Tri.of_awp mixed Tryz.func125 rfl (by kernel_rfl) (by kernel_rfl) (by simp [Tryz.ntmps125]) Tryz.results125 ?_
     repeat' (first | refine xs ?_ ?_ <;> intros | (refine wn ?_; intro bx hbx; try simp only [fb] at hbx) | refine wp hc ?_ | refine wp hi ?_ | refine wj ?_ | simp -dsimp only [↓bp, bq, br, seval, tbQuo2, *] | refine wz ?_ | fail)
     all_goals rfl
    ·refine Tri.of_awp mixed Tryz.func125 rfl (by kernel_rfl) (by kernel_rfl) (by simp [Tryz.ntmps125]) Tryz.results125 ?_
     repeat' (first | refine xs ?_ ?_ <;> intros | (refine wn ?_; intro bx hbx; try simp only [fb] at hbx) | refine wp hc ?_ | refine wp hi ?_ | refine wj ?_ | simp -dsimp only [↓bp, bq, br, seval, tbQuo2, *] | refine wz ?_ | fail)
     all_goals rfl
   ·have g2 : (122 : Int) < c.toNat := by omega
    have q2 := decide_eq_false h2
    rw [q2]
    simp only [Bool.and_false, Bool.false_and]
    clear h1 h2 e1 e2 q2
    intro σ
    refine Tri.of_awp mixed Tryz.func125 rfl (by kernel_rfl) (by kernel_rfl) (by simp [Tryz.ntmps125]) Tryz.results125 ?_
    repeat' (first | refine xs ?_ ?_ <;> intros | (refine wn ?_; intro bx hbx; try simp only [fb] at hbx) | refine wp hc ?_ | refine wp hi ?_ | refine wj ?_ | simp -dsimp only [↓bp, bq, br, seval, tbQuo2, *] | refine wz ?_ | fail)
    all_goals rfl
  ·have g1 : (c.toNat : Int) < 97 := by omega
   have q1 := decide_eq_false h1
   rw [q1]
   simp only [Bool.and_false, Bool.false_and]
   clear h1 e1 e2 q1
   intro σ
   refine Tri.of_awp mixed Tryz.func125 rfl (by kernel_rfl) (by kernel_rfl) (by simp [Tryz.ntmps125]) Tryz.results125 ?_
   repeat' (first | refine xs ?_ ?_ <;> intros | (refine wn ?_; intro bx hbx; try simp only [fb] at hbx) | refine wp hc ?_ | refine wp hi ?_ | refine wj ?_ | simp -dsimp only [↓bp, bq, br, seval, tbQuo2, *] | refine wz ?_ | fail)
   all_goals rfl
theorem wb {σ0 σ : AS} {b : Nat} {xs : List UInt8} (h : Bl σ0 σ b xs) (hl : xs.length ≤ 1000000000) (c : UInt8) (n : Int) (hn : n = c.toNat) :
  Tri Tryz.prog G 122 [.ptr b 0, .int .u8 n] σ fun r σ' => Bl σ0 σ' b (xs ++ [c]) := by subst hn; exact writeByte_tri G h hl c
def hexT : List UInt8 := [48, 49, 50, 51, 52, 53, 54, 55, 56, 57, 97, 98, 99, 100, 101, 102]
theorem hex_at : ∀ k, k < 16 → hexT[k]? = some (hexD k) := by decide
theorem fdiv16 (c : UInt8) : ((c.toNat : Int).fdiv (2 ^ min 4 IntKind.u8.bits)) = ((c.toNat / 16 : Nat) : Int) := by
 have : ((2 : Int) ^ min 4 IntKind.u8.bits) = ((16 : Nat) : Int) := by decide
 rw [this, Int.fdiv_eq_ediv_of_nonneg _ (by omega)]; rfl
theorem and15 (c : UInt8) : IntKind.u8.wrap ((BitVec.ofInt IntKind.u8.bits (c.toNat : Int) &&& BitVec.ofInt IntKind.u8.bits 15).toNat : Int) = ((c.toNat % 16 : Nat) : Int) := by
 have hb : IntKind.u8.bits = 8 := rfl
 have hc := c.toNat_lt
 rw [hb, BitVec.toNat_and, BitVec.toNat_ofInt, BitVec.toNat_ofInt]
 have e1 : ((c.toNat : Int) % ((2 ^ 8 : Nat) : Int)).toNat = c.toNat := by omega
 have e2 : ((15 : Int) % ((2 ^ 8 : Nat) : Int)).toNat = 15 := by decide
 rw [e1, e2, show (15 : Nat) = 2 ^ 4 - 1 by decide, Nat.and_two_pow_sub_one_eq_mod, IntKind.wrap_u8]
 omega
end
end Go.Proofs.YtjmdaeabllkgnaaGreatDoor
