/- The kit's copies of terms with marks in their spare room; whether they are as they were. -/
import Derived.Test.YtjnhalmeddafdaaDoorZTermKit
set_option linter.unusedVariables false
set_option linter.unusedSimpArgs false
set_option maxRecDepth 20000
set_option linter.defProp false
namespace Go.Proofs.YtjnhalmeddafdaaDoor
open Go Go.Av
def tbTermLent := And.intro (And.intro (And.intro (And.intro @tf3 @tf4) (And.intro @tf5 (And.intro @tf44 @tf9))) (And.intro (And.intro @tf23 (And.intro @tf22 @tf24)) (And.intro @tf26 (And.intro @Term.flat_enc @Term.isv_enc)))) (And.intro (And.intro (And.intro @Term.fold_enc (And.intro @isv_encs @flat_encs)) (And.intro @len_encs (And.intro @ix_encs @ix_encs'))) (And.intro (And.intro @isv_lims (And.intro @flat_lims @len_lims)) (And.intro @ix_lims (And.intro @ix_lims' @flat_limA))))
variable (G : Nat → AV)
def markT (k i : Int) : Term := .mk 0 false [] [] (markI k i) [] []
theorem enc_nil (k : UInt8) (g : Bool) (s : List UInt8) (n : Int) : Le (.agg [.int .u8 k.toNat, .bool g, .nil, .str s, .int .i64 n, .nil, .nil]) (Term.mk k g [] s n [] []).enc := by
  have e : (Term.mk k g [] s n [] []).enc = .agg [.int .u8 k.toNat, .bool g, .sl .none [] [], .str s, .int .i64 n, .sl .none [] [], .sl .none [] []] := by simp [Term.enc, lims]
  rw [e]
  exact Le.agg (.cons (Le.refl _) (.cons (Le.refl _) (.cons Le.nil (.cons (Le.refl _) (.cons (Le.refl _) (.cons Le.nil (.cons Le.nil .nil))))))) (fun d hd => by simp at hd; rcases hd with rfl | rfl | rfl | rfl | rfl | rfl <;> rfl)
theorem markTerm_pure (k i : Int) : Pure Tryd.prog G 52 [.int .i64 k, .int .i64 i] (markT k i).enc := by
  refine Pure.tellLess (v := .agg [.int .u8 0, .bool false, .nil, .str [], .int .i64 (markI k i), .nil, .nil]) ?_ (enc_nil 0 false [] _)
  intro σ
  refine Tri.of_awp mixed Tryd.func52 rfl (by kernel_rfl) (by kernel_rfl) (by simp [Tryd.ntmps52]) Tryd.results52 ?_
  repeat' (first
    | with_reducible refine condW_both (fun _ _ => ?_) (fun _ _ => ?_)
    | with_reducible refine gW_both (fun _ _ => ?_) (fun _ _ => ?_)
    | with_reducible refine condW_split (fun _ => ?_) (fun _ => ?_)
    | with_reducible refine gW_split (fun _ => ?_) (fun _ => ?_)
    | with_reducible refine pickW_split (fun _ => ?_) (fun _ => ?_)
    | (refine newW_intro ?_; intro bx hbx; (try simp only [fresh_box, fresh_tip, fresh_ty] at hbx))
    | (refine newT_plain ?_; intro bx hbx; (try simp only [fresh_box, fresh_tip, fresh_ty] at hbx))
    | refine Pure.use (by apply mark_pure <;> (first | assumption | omega | (simp only [*]; done))) ?_
    | refine storeX_w ?_
    | ((with_reducible refine And.intro ?_ ?_); omega)
    | refine bo_buildSlice (d' := ⟨⟩) ?_
    | (refine draw_all (by kernel_rfl) ?_)
    | refine finish_pure ?_ (by repeat' (first | exact AS.le.refl _ | assumption | (refine le_set (by first | assumption | (simp only [*]; done) | exact AS.le.fresh (by assumption) (by simp only [*])) ?_) | (refine le_ty (by first | assumption | (simp only [*]; done) | exact AS.le.fresh (by assumption) (by simp only [*])) ?_)))
    | simp -dsimp only [↓bp, bq, br, afin, bsk, cWrites, opsWrites, pieceGh, rsk, ne_eq, if_true, if_false, exists_eq_left', forall_const, forall_eq, Nat.reduceLT, Int.reduceSub, Nat.reduceAdd, Nat.reduceSub, Nat.reduceMul, Nat.reduceLeDiff, Nat.reduceEqDiff, Nat.reduceBEq, Nat.reduceBNe, Int.reduceNeg, Int.reduceAdd, Int.reduceMul, Int.reduceLE, Int.reduceLT, Int.reduceEq, Int.reduceToNat, reduceIte, reduceCtorEq, tbTermLent, *])
  all_goals rfl
def marksTo (k i : Nat) : List AV := (List.range i).map fun (i : Nat) => (markT k (i : Int)).enc
theorem marksTo_succ (k i : Nat) : marksTo k (i + 1) = marksTo k i ++ [(markT k (i : Int)).enc] := by simp [marksTo, List.range_succ]
theorem marksTo_len (k i : Nat) : (marksTo k i).length = i := by simp [marksTo]
def marks : List AV := marksTo 1 12
def Term.lent : Term → AV
  | .mk k g l s n ks ts => .agg [.int .u8 k.toNat, .bool g, lentLims l, .str s, .int .i64 n, .sl .none (ks.map Term.lent) marks, .sl .none (ts.map Term.lent) marks]
def lents (l : List Term) : AV := .sl .none (l.map Term.lent) marks
theorem Term.flat_lent (t : Term) : flat t.lent = [.int .u8 t.knd, .bool t.neg, lentLims t.limbs, .str t.text, .int .i64 t.num, lents t.items, lents t.tail] := by
  cases t; simp [Term.lent, flat, Term.knd, Term.kind, Term.neg, Term.limbs, Term.text, Term.num, Term.items, Term.tail, lents]
theorem Term.isv_lent (t : Term) : isv t.lent = true := by cases t; simp [Term.lent, isv]
theorem isv_lents (l : List Term) : isv (lents l) = true := rfl
theorem flat_lents (l : List Term) : flat (lents l) = [lents l] := rfl
theorem Term.fold_lent (t : Term) : AV.agg [.int .u8 t.knd, .bool t.neg, lentLims t.limbs, .str t.text, .int .i64 t.num, lents t.items, lents t.tail] = t.lent := by
  cases t; simp [Term.lent, Term.knd, Term.kind, Term.neg, Term.limbs, Term.text, Term.num, Term.items, Term.tail, lents]
theorem lent_leE (t : Term) : LeE t.lent t.enc := by
  refine Term.ind (P := fun t => LeE t.lent t.enc) (fun t ih1 ih2 => ?_) t
  refine ⟨?_, t.isv_enc, ones t⟩
  rw [t.flat_lent, t.flat_enc]
  exact .cons (Le.refl _) (.cons (Le.refl _) (.cons (lentLims_le _) (.cons (Le.refl _) (.cons (Le.refl _) (.cons (Le.trans Le.spare (Le.sl (LeEs.map _ ih1))) (.cons (Le.trans Le.spare (Le.sl (LeEs.map _ ih2))) .nil))))))
theorem LeE.le {a b : Term} (h : Les (flat a.lent) (flat b.enc)) : Le a.lent b.enc := by
  rw [← a.fold_lent, ← b.fold_enc]
  rw [a.flat_lent, b.flat_enc] at h
  exact Le.agg h (fun d hd => by simp at hd; rcases hd with rfl | rfl | rfl | rfl | rfl | rfl | rfl <;> rfl)
theorem lent_le (t : Term) : Le t.lent t.enc := LeE.le (lent_leE t).cells
theorem flat7l {l : List Term} : ∀ a, a ∈ l.map Term.lent → (flat a).length = 7 := fun a ha => by
  obtain ⟨x, _, rfl⟩ := List.mem_map.1 ha
  rw [x.flat_lent]; rfl
theorem tfN : aelt Tryd.prog 24 = some (26, 7, 104) := tf24.2.2.2.2.2.2
theorem tfE : el Tryd.prog 24 = some 26 := tf24.2.2.2.1
theorem lents_pure (l : List Term) (hl : l.length ≤ 1000000000) (hf : ∀ x, x ∈ l → Pure Tryd.prog G 9 [x.enc] x.lent) : Pure Tryd.prog G 30 [encs l] (lents l) := by
  refine Pure.of_le fun σ => ?_
  have hw0 : IntKind.i64.wrap ((l.length : Int) + 12) = l.length + 12 := wrap_nat (by omega) (by omega)
  refine Tri.of_awp mixed Tryd.func30 rfl (by kernel_rfl) (by kernel_rfl) (by simp [Tryd.ntmps30]) Tryd.results30 ?_
  simp -dsimp only [↓bp, bq, br, afin, bsk, cWrites, opsWrites, pieceGh, rsk, ne_eq, if_true, if_false, exists_eq_left', forall_const, forall_eq, Nat.reduceLT, Int.reduceSub, Nat.reduceAdd, Nat.reduceSub, Nat.reduceMul, Nat.reduceLeDiff, Nat.reduceEqDiff, Nat.reduceBEq, Nat.reduceBNe, Int.reduceNeg, Int.reduceAdd, Int.reduceMul, Int.reduceLE, Int.reduceLT, Int.reduceEq, Int.reduceToNat, reduceIte, reduceCtorEq, tbTermLent, hw0]
  refine make_buf tfN (by omega) (by omega) (AS.le.refl σ) (fun v σ1 hB1 hx1 => ?_)
  simp -dsimp only [↓bp, bq, br, afin, bsk, cWrites, opsWrites, pieceGh, rsk, ne_eq, if_true, if_false, exists_eq_left', forall_const, forall_eq, Nat.reduceLT, Int.reduceSub, Nat.reduceAdd, Nat.reduceSub, Nat.reduceMul, Nat.reduceLeDiff, Nat.reduceEqDiff, Nat.reduceBEq, Nat.reduceBNe, Int.reduceNeg, Int.reduceAdd, Int.reduceMul, Int.reduceLE, Int.reduceLT, Int.reduceEq, Int.reduceToNat, reduceIte, reduceCtorEq, tbTermLent]
  refine loop_intro (fun n e σ' => ∃ (i : Nat) (v : AV), i ≤ l.length ∧ n = l.length - i ∧ e 4 = .int .i64 i ∧ e 3 = v ∧ Buf 7 σ σ' v ((l.take i).map Term.lent)) l.length
    ⟨0, v, by omega, by omega, by simp -dsimp only [↓bp, bq, br, afin, bsk, cWrites, opsWrites, pieceGh, rsk, ne_eq, if_true, if_false, exists_eq_left', forall_const, forall_eq, Nat.reduceLT, Int.reduceSub, Nat.reduceAdd, Nat.reduceSub, Nat.reduceMul, Nat.reduceLeDiff, Nat.reduceEqDiff, Nat.reduceBEq, Nat.reduceBNe, Int.reduceNeg, Int.reduceAdd, Int.reduceMul, Int.reduceLE, Int.reduceLT, Int.reduceEq, Int.reduceToNat, reduceIte, reduceCtorEq, tbTermLent]; rfl, by simp -dsimp only [↓bp, bq, br, afin, bsk, cWrites, opsWrites, pieceGh, rsk, ne_eq, if_true, if_false, exists_eq_left', forall_const, forall_eq, Nat.reduceLT, Int.reduceSub, Nat.reduceAdd, Nat.reduceSub, Nat.reduceMul, Nat.reduceLeDiff, Nat.reduceEqDiff, Nat.reduceBEq, Nat.reduceBNe, Int.reduceNeg, Int.reduceAdd, Int.reduceMul, Int.reduceLE, Int.reduceLT, Int.reduceEq, Int.reduceToNat, reduceIte, reduceCtorEq, tbTermLent], by simpa using hB1⟩ ?_
  rintro n e1 σ2 ⟨i, v2, hi, rfl, h4, h3, hB2⟩
  simp -dsimp only [↓bp, bq, br, afin, bsk, cWrites, opsWrites, pieceGh, rsk, ne_eq, if_true, if_false, exists_eq_left', forall_const, forall_eq, Nat.reduceLT, Int.reduceSub, Nat.reduceAdd, Nat.reduceSub, Nat.reduceMul, Nat.reduceLeDiff, Nat.reduceEqDiff, Nat.reduceBEq, Nat.reduceBNe, Int.reduceNeg, Int.reduceAdd, Int.reduceMul, Int.reduceLE, Int.reduceLT, Int.reduceEq, Int.reduceToNat, reduceIte, reduceCtorEq, tbTermLent] at h4 h3
  simp -dsimp only [↓bp, bq, br, afin, bsk, cWrites, opsWrites, pieceGh, rsk, ne_eq, if_true, if_false, exists_eq_left', forall_const, forall_eq, Nat.reduceLT, Int.reduceSub, Nat.reduceAdd, Nat.reduceSub, Nat.reduceMul, Nat.reduceLeDiff, Nat.reduceEqDiff, Nat.reduceBEq, Nat.reduceBNe, Int.reduceNeg, Int.reduceAdd, Int.reduceMul, Int.reduceLE, Int.reduceLT, Int.reduceEq, Int.reduceToNat, reduceIte, reduceCtorEq, tbTermLent, h4, h3]
  refine condW_dec (fun hlt => ?_) (fun hge => ?_)
  · obtain ⟨k, hk⟩ : ∃ k, l[i]? = some k := ⟨_, List.getElem?_eq_getElem (by omega)⟩
    have hkm : k ∈ l := List.mem_of_getElem? hk
    simp -dsimp only [↓bp, bq, br, afin, bsk, cWrites, opsWrites, pieceGh, rsk, ne_eq, if_true, if_false, exists_eq_left', forall_const, forall_eq, Nat.reduceLT, Int.reduceSub, Nat.reduceAdd, Nat.reduceSub, Nat.reduceMul, Nat.reduceLeDiff, Nat.reduceEqDiff, Nat.reduceBEq, Nat.reduceBNe, Int.reduceNeg, Int.reduceAdd, Int.reduceMul, Int.reduceLE, Int.reduceLT, Int.reduceEq, Int.reduceToNat, reduceIte, reduceCtorEq, tbTermLent, h4, h3, hk]
    refine Pure.use (hf k hkm) ?_
    simp -dsimp only [↓bp, bq, br, afin, bsk, cWrites, opsWrites, pieceGh, rsk, ne_eq, if_true, if_false, exists_eq_left', forall_const, forall_eq, Nat.reduceLT, Int.reduceSub, Nat.reduceAdd, Nat.reduceSub, Nat.reduceMul, Nat.reduceLeDiff, Nat.reduceEqDiff, Nat.reduceBEq, Nat.reduceBNe, Int.reduceNeg, Int.reduceAdd, Int.reduceMul, Int.reduceLE, Int.reduceLT, Int.reduceEq, Int.reduceToNat, reduceIte, reduceCtorEq, tbTermLent, h4, h3]
    refine newT_plain fun c hc => ?_
    simp -dsimp only [↓bp, bq, br, afin, bsk, cWrites, opsWrites, pieceGh, rsk, ne_eq, if_true, if_false, exists_eq_left', forall_const, forall_eq, Nat.reduceLT, Int.reduceSub, Nat.reduceAdd, Nat.reduceSub, Nat.reduceMul, Nat.reduceLeDiff, Nat.reduceEqDiff, Nat.reduceBEq, Nat.reduceBNe, Int.reduceNeg, Int.reduceAdd, Int.reduceMul, Int.reduceLE, Int.reduceLT, Int.reduceEq, Int.reduceToNat, reduceIte, reduceCtorEq, tbTermLent, h4, h3, Term.flat_lent, Term.isv_lent, Term.fold_lent]
    refine build_one tfN (Term.isv_lent k) (by rw [k.flat_lent]; rfl) (by omega) ?_
    simp -dsimp only [↓bp, bq, br, afin, bsk, cWrites, opsWrites, pieceGh, rsk, ne_eq, if_true, if_false, exists_eq_left', forall_const, forall_eq, Nat.reduceLT, Int.reduceSub, Nat.reduceAdd, Nat.reduceSub, Nat.reduceMul, Nat.reduceLeDiff, Nat.reduceEqDiff, Nat.reduceBEq, Nat.reduceBNe, Int.reduceNeg, Int.reduceAdd, Int.reduceMul, Int.reduceLE, Int.reduceLT, Int.reduceEq, Int.reduceToNat, reduceIte, reduceCtorEq, tbTermLent, h4, h3]
    refine app_buf (ys := [k.lent]) (hB2.newBox hc _) tfN (asrc_sl tfE) (fun a ha => by simp at ha; subst ha; rw [k.flat_lent]; rfl) (by simp; omega) (fun v3 σ3 hB4 hx4 => ?_)
    simp -dsimp only [↓bp, bq, br, afin, bsk, cWrites, opsWrites, pieceGh, rsk, ne_eq, if_true, if_false, exists_eq_left', forall_const, forall_eq, Nat.reduceLT, Int.reduceSub, Nat.reduceAdd, Nat.reduceSub, Nat.reduceMul, Nat.reduceLeDiff, Nat.reduceEqDiff, Nat.reduceBEq, Nat.reduceBNe, Int.reduceNeg, Int.reduceAdd, Int.reduceMul, Int.reduceLE, Int.reduceLT, Int.reduceEq, Int.reduceToNat, reduceIte, reduceCtorEq, tbTermLent, h4, h3]
    refine ⟨l.length - (i + 1), by omega, i + 1, v3, by omega, rfl, ?_, rfl, ?_⟩
    · rw [wrap_nat (by omega) (by omega)]; rfl
    · rw [take_succ_get _ _ _ hk, List.map_append]; exact hB4
  · have : i = l.length := by omega
    subst this
    simp -dsimp only [↓bp, bq, br, afin, bsk, cWrites, opsWrites, pieceGh, rsk, ne_eq, if_true, if_false, exists_eq_left', forall_const, forall_eq, Nat.reduceLT, Int.reduceSub, Nat.reduceAdd, Nat.reduceSub, Nat.reduceMul, Nat.reduceLeDiff, Nat.reduceEqDiff, Nat.reduceBEq, Nat.reduceBNe, Int.reduceNeg, Int.reduceAdd, Int.reduceMul, Int.reduceLE, Int.reduceLT, Int.reduceEq, Int.reduceToNat, reduceIte, reduceCtorEq, tbTermLent, h4, h3]
    rw [List.take_length] at hB2
    refine loop_intro (fun n e σ' => ∃ (i : Nat) (v : AV), i ≤ 12 ∧ n = 12 - i ∧ e 6 = .int .i64 i ∧ e 3 = v ∧ Buf 7 σ σ' v (l.map Term.lent ++ marksTo 1 i)) 12
      ⟨0, v2, by omega, by omega, by simp -dsimp only [↓bp, bq, br, afin, bsk, cWrites, opsWrites, pieceGh, rsk, ne_eq, if_true, if_false, exists_eq_left', forall_const, forall_eq, Nat.reduceLT, Int.reduceSub, Nat.reduceAdd, Nat.reduceSub, Nat.reduceMul, Nat.reduceLeDiff, Nat.reduceEqDiff, Nat.reduceBEq, Nat.reduceBNe, Int.reduceNeg, Int.reduceAdd, Int.reduceMul, Int.reduceLE, Int.reduceLT, Int.reduceEq, Int.reduceToNat, reduceIte, reduceCtorEq, tbTermLent]; rfl, by simp -dsimp only [↓bp, bq, br, afin, bsk, cWrites, opsWrites, pieceGh, rsk, ne_eq, if_true, if_false, exists_eq_left', forall_const, forall_eq, Nat.reduceLT, Int.reduceSub, Nat.reduceAdd, Nat.reduceSub, Nat.reduceMul, Nat.reduceLeDiff, Nat.reduceEqDiff, Nat.reduceBEq, Nat.reduceBNe, Int.reduceNeg, Int.reduceAdd, Int.reduceMul, Int.reduceLE, Int.reduceLT, Int.reduceEq, Int.reduceToNat, reduceIte, reduceCtorEq, tbTermLent, h3], by simpa [marksTo] using hB2⟩ ?_
    rintro n e2 σ3 ⟨i, v3, hi2, rfl, h6, h3', hB3⟩
    simp -dsimp only [↓bp, bq, br, afin, bsk, cWrites, opsWrites, pieceGh, rsk, ne_eq, if_true, if_false, exists_eq_left', forall_const, forall_eq, Nat.reduceLT, Int.reduceSub, Nat.reduceAdd, Nat.reduceSub, Nat.reduceMul, Nat.reduceLeDiff, Nat.reduceEqDiff, Nat.reduceBEq, Nat.reduceBNe, Int.reduceNeg, Int.reduceAdd, Int.reduceMul, Int.reduceLE, Int.reduceLT, Int.reduceEq, Int.reduceToNat, reduceIte, reduceCtorEq, tbTermLent] at h6 h3'
    simp -dsimp only [↓bp, bq, br, afin, bsk, cWrites, opsWrites, pieceGh, rsk, ne_eq, if_true, if_false, exists_eq_left', forall_const, forall_eq, Nat.reduceLT, Int.reduceSub, Nat.reduceAdd, Nat.reduceSub, Nat.reduceMul, Nat.reduceLeDiff, Nat.reduceEqDiff, Nat.reduceBEq, Nat.reduceBNe, Int.reduceNeg, Int.reduceAdd, Int.reduceMul, Int.reduceLE, Int.reduceLT, Int.reduceEq, Int.reduceToNat, reduceIte, reduceCtorEq, tbTermLent, h6, h3', h4]
    refine condW_dec (fun hlt => ?_) (fun hge => ?_)
    · simp -dsimp only [↓bp, bq, br, afin, bsk, cWrites, opsWrites, pieceGh, rsk, ne_eq, if_true, if_false, exists_eq_left', forall_const, forall_eq, Nat.reduceLT, Int.reduceSub, Nat.reduceAdd, Nat.reduceSub, Nat.reduceMul, Nat.reduceLeDiff, Nat.reduceEqDiff, Nat.reduceBEq, Nat.reduceBNe, Int.reduceNeg, Int.reduceAdd, Int.reduceMul, Int.reduceLE, Int.reduceLT, Int.reduceEq, Int.reduceToNat, reduceIte, reduceCtorEq, tbTermLent, h6, h3', h4]
      refine Pure.use (markTerm_pure G 1 i) ?_
      simp -dsimp only [↓bp, bq, br, afin, bsk, cWrites, opsWrites, pieceGh, rsk, ne_eq, if_true, if_false, exists_eq_left', forall_const, forall_eq, Nat.reduceLT, Int.reduceSub, Nat.reduceAdd, Nat.reduceSub, Nat.reduceMul, Nat.reduceLeDiff, Nat.reduceEqDiff, Nat.reduceBEq, Nat.reduceBNe, Int.reduceNeg, Int.reduceAdd, Int.reduceMul, Int.reduceLE, Int.reduceLT, Int.reduceEq, Int.reduceToNat, reduceIte, reduceCtorEq, tbTermLent, h6, h3', h4]
      refine build_one tfN (Term.isv_enc _) (by rw [Term.flat_enc]; rfl) (by omega) ?_
      simp -dsimp only [↓bp, bq, br, afin, bsk, cWrites, opsWrites, pieceGh, rsk, ne_eq, if_true, if_false, exists_eq_left', forall_const, forall_eq, Nat.reduceLT, Int.reduceSub, Nat.reduceAdd, Nat.reduceSub, Nat.reduceMul, Nat.reduceLeDiff, Nat.reduceEqDiff, Nat.reduceBEq, Nat.reduceBNe, Int.reduceNeg, Int.reduceAdd, Int.reduceMul, Int.reduceLE, Int.reduceLT, Int.reduceEq, Int.reduceToNat, reduceIte, reduceCtorEq, tbTermLent, h6, h3', h4]
      refine app_buf (ys := [(markT 1 (i : Int)).enc]) hB3 tfN (asrc_sl tfE) (fun a ha => by simp at ha; subst ha; rw [Term.flat_enc]; rfl) (by simp [marksTo_len]; omega) (fun v4 σ4 hB4 hx4 => ?_)
      simp -dsimp only [↓bp, bq, br, afin, bsk, cWrites, opsWrites, pieceGh, rsk, ne_eq, if_true, if_false, exists_eq_left', forall_const, forall_eq, Nat.reduceLT, Int.reduceSub, Nat.reduceAdd, Nat.reduceSub, Nat.reduceMul, Nat.reduceLeDiff, Nat.reduceEqDiff, Nat.reduceBEq, Nat.reduceBNe, Int.reduceNeg, Int.reduceAdd, Int.reduceMul, Int.reduceLE, Int.reduceLT, Int.reduceEq, Int.reduceToNat, reduceIte, reduceCtorEq, tbTermLent, h6, h3', h4]
      refine ⟨12 - (i + 1), by omega, i + 1, v4, by omega, rfl, ?_, rfl, ?_⟩
      · rw [wrap_nat (by omega) (by omega)]; rfl
      · rw [marksTo_succ, ← List.append_assoc]; exact hB4
    · have : i = 12 := by omega
      subst this
      simp -dsimp only [↓bp, bq, br, afin, bsk, cWrites, opsWrites, pieceGh, rsk, ne_eq, if_true, if_false, exists_eq_left', forall_const, forall_eq, Nat.reduceLT, Int.reduceSub, Nat.reduceAdd, Nat.reduceSub, Nat.reduceMul, Nat.reduceLeDiff, Nat.reduceEqDiff, Nat.reduceBEq, Nat.reduceBNe, Int.reduceNeg, Int.reduceAdd, Int.reduceMul, Int.reduceLE, Int.reduceLT, Int.reduceEq, Int.reduceToNat, reduceIte, reduceCtorEq, tbTermLent, h6, h3', h4]
      rcases hB3.isNil with ⟨hn, _⟩ | ⟨b, hb⟩
      · have := congrArg List.length hn; simp [marksTo_len] at this
      · subst hb
        refine piece (l := 0) (h := l.length) tfE tf26.1 rfl (by simp [abnd]) (by omega) (by simp) (fun a ha => ?_) (fun g' => ?_)
        · rw [List.append_nil] at ha
          cases hB3 with
          | own _ _ _ _ _ hx => exact hx a ha
        · simp -dsimp only [↓bp, bq, br, afin, bsk, cWrites, opsWrites, pieceGh, rsk, ne_eq, if_true, if_false, exists_eq_left', forall_const, forall_eq, Nat.reduceLT, Int.reduceSub, Nat.reduceAdd, Nat.reduceSub, Nat.reduceMul, Nat.reduceLeDiff, Nat.reduceEqDiff, Nat.reduceBEq, Nat.reduceBNe, Int.reduceNeg, Int.reduceAdd, Int.reduceMul, Int.reduceLE, Int.reduceLT, Int.reduceEq, Int.reduceToNat, reduceIte, reduceCtorEq, tbTermLent, h6, h3', h4]
          refine finish_le ?_ hB3.le
          have e1 : (l.map Term.lent ++ marksTo 1 12).take l.length = l.map Term.lent := by
            rw [List.take_append_of_le_length (by simp), List.take_of_length_le (by simp)]
          have e2 : (l.map Term.lent ++ marksTo 1 12).drop l.length = marks := by
            rw [List.drop_append_of_le_length (by simp), List.drop_eq_nil_of_le (by simp)]; rfl
          rw [e1, e2]
          exact Le.gh
theorem lent_pure (t : Term) (hb : t.bulk ≤ 1000000000) : Pure Tryd.prog G 9 [t.enc] t.lent := by
  revert hb
  refine Term.ind (P := fun t => t.bulk ≤ 1000000000 → Pure Tryd.prog G 9 [t.enc] t.lent) (fun t ih1 ih2 hb => ?_) t
  have hl1 := lents_pure G t.items (by have := len_items t; omega) (fun x hx => ih1 x hx (by have := bulk_item hx; omega))
  have hl2 := lents_pure G t.tail (by have := len_tail t; omega) (fun x hx => ih2 x hx (by have := bulk_tail hx; omega))
  have hl3 := lentlims_pure G t.limbs (by have := len_limbs t; omega)
  intro σ
  refine Tri.of_awp mixed Tryd.func9 rfl (by kernel_rfl) (by kernel_rfl) (by simp [Tryd.ntmps9]) Tryd.results9 ?_
  repeat' (first
    | with_reducible refine condW_both (fun _ _ => ?_) (fun _ _ => ?_)
    | with_reducible refine gW_both (fun _ _ => ?_) (fun _ _ => ?_)
    | with_reducible refine condW_split (fun _ => ?_) (fun _ => ?_)
    | with_reducible refine gW_split (fun _ => ?_) (fun _ => ?_)
    | with_reducible refine pickW_split (fun _ => ?_) (fun _ => ?_)
    | (refine newW_intro ?_; intro bx hbx; (try simp only [fresh_box, fresh_tip, fresh_ty] at hbx))
    | (refine newT_plain ?_; intro bx hbx; (try simp only [fresh_box, fresh_tip, fresh_ty] at hbx))
    | refine Pure.use (hl1) ?_
    | refine Pure.head (hl1) ?_
    | refine Pure.use (hl2) ?_
    | refine Pure.head (hl2) ?_
    | refine Pure.use (hl3) ?_
    | refine Pure.head (hl3) ?_
    | refine storeX_w ?_
    | ((with_reducible refine And.intro ?_ ?_); omega)
    | refine bo_buildSlice (d' := ⟨⟩) ?_
    | (refine draw_all (by kernel_rfl) ?_)
    | refine finish_pure ?_ (by repeat' (first | exact AS.le.refl _ | assumption | (refine le_set (by first | assumption | (simp only [*]; done) | exact AS.le.fresh (by assumption) (by simp only [*])) ?_) | (refine le_ty (by first | assumption | (simp only [*]; done) | exact AS.le.fresh (by assumption) (by simp only [*])) ?_)))
    | simp -dsimp only [↓bp, bq, br, afin, bsk, cWrites, opsWrites, pieceGh, rsk, ne_eq, if_true, if_false, exists_eq_left', forall_const, forall_eq, Nat.reduceLT, Int.reduceSub, Nat.reduceAdd, Nat.reduceSub, Nat.reduceMul, Nat.reduceLeDiff, Nat.reduceEqDiff, Nat.reduceBEq, Nat.reduceBNe, Int.reduceNeg, Int.reduceAdd, Int.reduceMul, Int.reduceLE, Int.reduceLT, Int.reduceEq, Int.reduceToNat, reduceIte, reduceCtorEq, tbTermLent, Term.isv_lent, Term.flat_lent, Term.fold_lent, isv_lents, flat_lents, isv_lentLims, flat_lentLims, *])
  all_goals rfl
theorem sl_lents {t : TypeId} (l : List Term) (h : Int) (hh : h = l.length + 12) (ht : t = 24) {K : AV → Prop} {d : Dum K} (hK : ∀ g, K (.sl g (l.map Term.lent ++ marks) [])) : bo (aslice Tryd.prog t (lents l) none (some (.int .i64 h))) K d := by
  subst hh ht
  refine piece (l := 0) (h := l.length + 12) tfE tf26.1 rfl (by simp [abnd]; omega) (by omega) (by simp [marks, marksTo_len]) (fun a ha => ?_) (fun g' => ?_)
  · rcases List.mem_append.1 ha with ha | ha
    · exact flat7l a ha
    · obtain ⟨i, _, rfl⟩ := List.mem_map.1 ha
      rw [Term.flat_enc]; rfl
  · have e1 : ((l.map Term.lent ++ marks).take (l.length + 12)).drop 0 = l.map Term.lent ++ marks := by
      rw [List.drop_zero, List.take_of_length_le (by simp [marks, marksTo_len])]
    have e2 : (l.map Term.lent ++ marks).drop (l.length + 12) = [] := List.drop_eq_nil_of_le (by simp [marks, marksTo_len])
    rw [e1, e2]
    have hml : marks.length = 12 := by simp [marks, marksTo_len]
    unfold slim
    split
    · rename_i heq _
      have h2 : marks = [] := by injection heq
      rw [h2] at hml
      cases hml
    · exact hK g'
theorem sl_lents_len {P : Program} {t : TypeId} (l : List Term) : ablt P .len #[t] [lents l] = if (el P t).isSome then some (.int .i64 l.length) else none := by
  simp [lents, l_sl]
theorem kepts_pure (l : List Term) (hl : l.length ≤ 1000000000) (hf : ∀ x, x ∈ l → Pure Tryd.prog G 14 [x.lent, x.enc] (.bool true)) : Pure Tryd.prog G 35 [lents l, encs l] (.bool true) := by
  intro σ
  have hw0 : IntKind.i64.wrap ((l.length : Int) + 12) = l.length + 12 := wrap_nat (by omega) (by omega)
  have hml : marks.length = 12 := by simp [marks, marksTo_len]
  have hsm : ∀ i : Int, Pure Tryd.prog G 16 [(markT 1 i).enc, (markT 1 i).enc] (.bool true) := fun i => by
    have := same_pure G (markT 1 i) (markT 1 i) (by simp [markT, Term.bulk, bulks]) (by simp [markT, Term.bulk, bulks])
    rwa [(same_iff _ _).2 rfl] at this
  refine Tri.of_awp mixed Tryd.func35 rfl (by kernel_rfl) (by kernel_rfl) (by simp [Tryd.ntmps35]) Tryd.results35 ?_
  simp -dsimp only [↓bp, bq, br, afin, bsk, cWrites, opsWrites, pieceGh, rsk, ne_eq, if_true, if_false, exists_eq_left', forall_const, forall_eq, Nat.reduceLT, Int.reduceSub, Nat.reduceAdd, Nat.reduceSub, Nat.reduceMul, Nat.reduceLeDiff, Nat.reduceEqDiff, Nat.reduceBEq, Nat.reduceBNe, Int.reduceNeg, Int.reduceAdd, Int.reduceMul, Int.reduceLE, Int.reduceLT, Int.reduceEq, Int.reduceToNat, reduceIte, reduceCtorEq, tbTermLent, hw0, sl_lents_len]
  refine sl_lents l _ rfl rfl fun g => ?_
  simp -dsimp only [↓bp, bq, br, afin, bsk, cWrites, opsWrites, pieceGh, rsk, ne_eq, if_true, if_false, exists_eq_left', forall_const, forall_eq, Nat.reduceLT, Int.reduceSub, Nat.reduceAdd, Nat.reduceSub, Nat.reduceMul, Nat.reduceLeDiff, Nat.reduceEqDiff, Nat.reduceBEq, Nat.reduceBNe, Int.reduceNeg, Int.reduceAdd, Int.reduceMul, Int.reduceLE, Int.reduceLT, Int.reduceEq, Int.reduceToNat, reduceIte, reduceCtorEq, tbTermLent]
  refine loop_intro (fun n e σ' => ∃ i : Nat, i ≤ ((l.map Term.lent ++ marks)).length ∧ n = ((l.map Term.lent ++ marks)).length - i ∧ e 6 = .int .i64 i ∧ σ.le σ') ((l.map Term.lent ++ marks)).length
      ⟨0, by omega, by omega, by simp -dsimp only [↓bp, bq, br, afin, bsk, cWrites, opsWrites, pieceGh, rsk, ne_eq, if_true, if_false, exists_eq_left', forall_const, forall_eq, Nat.reduceLT, Int.reduceSub, Nat.reduceAdd, Nat.reduceSub, Nat.reduceMul, Nat.reduceLeDiff, Nat.reduceEqDiff, Nat.reduceBEq, Nat.reduceBNe, Int.reduceNeg, Int.reduceAdd, Int.reduceMul, Int.reduceLE, Int.reduceLT, Int.reduceEq, Int.reduceToNat, reduceIte, reduceCtorEq, tbTermLent]; first | done | rfl, AS.le.refl σ⟩ ?_
  rintro n v σ' ⟨i, hi, rfl, h6, hle⟩
  simp -dsimp only [↓bp, bq, br, afin, bsk, cWrites, opsWrites, pieceGh, rsk, ne_eq, if_true, if_false, exists_eq_left', forall_const, forall_eq, Nat.reduceLT, Int.reduceSub, Nat.reduceAdd, Nat.reduceSub, Nat.reduceMul, Nat.reduceLeDiff, Nat.reduceEqDiff, Nat.reduceBEq, Nat.reduceBNe, Int.reduceNeg, Int.reduceAdd, Int.reduceMul, Int.reduceLE, Int.reduceLT, Int.reduceEq, Int.reduceToNat, reduceIte, reduceCtorEq, tbTermLent] at h6
  simp -dsimp only [↓bp, bq, br, afin, bsk, cWrites, opsWrites, pieceGh, rsk, ne_eq, if_true, if_false, exists_eq_left', forall_const, forall_eq, Nat.reduceLT, Int.reduceSub, Nat.reduceAdd, Nat.reduceSub, Nat.reduceMul, Nat.reduceLeDiff, Nat.reduceEqDiff, Nat.reduceBEq, Nat.reduceBNe, Int.reduceNeg, Int.reduceAdd, Int.reduceMul, Int.reduceLE, Int.reduceLT, Int.reduceEq, Int.reduceToNat, reduceIte, reduceCtorEq, tbTermLent, h6]
  refine condW_dec (fun hlt => ?_) (fun hge => ?_)
  · have hl3 : i < l.length + 12 := by rw [List.length_append, List.length_map, hml] at hlt; omega
    by_cases hi2 : (i : Int) < l.length
    · obtain ⟨k, hk⟩ : ∃ k, l[i]? = some k := ⟨_, List.getElem?_eq_getElem (by omega)⟩
      have hkm : k ∈ l := List.mem_of_getElem? hk
      have hx : (l.map Term.lent ++ marks)[i]? = some k.lent := by rw [List.getElem?_append_left (by simp; omega), List.getElem?_map, hk]; rfl
      have hge : ¬ (l.length : Int) ≤ i := by omega
      clear hi hlt
      repeat' (first
    | with_reducible refine condW_both (fun _ _ => ?_) (fun _ _ => ?_)
    | with_reducible refine gW_both (fun _ _ => ?_) (fun _ _ => ?_)
    | with_reducible refine condW_split (fun _ => ?_) (fun _ => ?_)
    | with_reducible refine gW_split (fun _ => ?_) (fun _ => ?_)
    | with_reducible refine pickW_split (fun _ => ?_) (fun _ => ?_)
    | (refine newW_intro ?_; intro bx hbx; (try simp only [fresh_box, fresh_tip, fresh_ty] at hbx))
    | (refine newT_plain ?_; intro bx hbx; (try simp only [fresh_box, fresh_tip, fresh_ty] at hbx))
    | refine Pure.use (hf k hkm) ?_
    | refine Pure.head (hf k hkm) ?_
    | refine storeX_w ?_
    | ((with_reducible refine And.intro ?_ ?_); omega)
    | refine bo_buildSlice (d' := ⟨⟩) ?_
    | (refine draw_all (by kernel_rfl) ?_)
    | refine finish_pure ?_ (by repeat' (first | exact AS.le.refl _ | assumption | (refine le_set (by first | assumption | (simp only [*]; done) | exact AS.le.fresh (by assumption) (by simp only [*])) ?_) | (refine le_ty (by first | assumption | (simp only [*]; done) | exact AS.le.fresh (by assumption) (by simp only [*])) ?_)))
    | simp -dsimp only [↓bp, bq, br, afin, bsk, cWrites, opsWrites, pieceGh, rsk, ne_eq, if_true, if_false, exists_eq_left', forall_const, forall_eq, Nat.reduceLT, Int.reduceSub, Nat.reduceAdd, Nat.reduceSub, Nat.reduceMul, Nat.reduceLeDiff, Nat.reduceEqDiff, Nat.reduceBEq, Nat.reduceBNe, Int.reduceNeg, Int.reduceAdd, Int.reduceMul, Int.reduceLE, Int.reduceLT, Int.reduceEq, Int.reduceToNat, reduceIte, reduceCtorEq, tbTermLent, Term.flat_lent, Term.isv_lent, Term.fold_lent, isv_lents, flat_lents, sl_lents_len, *])
      all_goals (have hl2 : (l.map Term.lent ++ marks).length = l.length + 12 := by simp [hml])
      all_goals exact ⟨(l.map Term.lent ++ marks).length - (i + 1), by omega, i + 1, by omega, rfl, by rw [wrap_nat (by omega) (by omega)]; rfl⟩
    · have hx : (l.map Term.lent ++ marks)[i]? = some (markT 1 ((i - l.length : Nat) : Int)).enc := by
        rw [List.getElem?_append_right (by simp; omega), List.length_map]
        have : i - l.length < 12 := by omega
        simp [marks, marksTo, this]
      have hge : (l.length : Int) ≤ i := by omega
      have hw1 : IntKind.i64.wrap ((i : Int) - l.length) = ((i - l.length : Nat) : Int) := by rw [wrap_nat (by omega) (by omega)]; omega
      clear hi hlt
      repeat' (first
    | with_reducible refine condW_both (fun _ _ => ?_) (fun _ _ => ?_)
    | with_reducible refine gW_both (fun _ _ => ?_) (fun _ _ => ?_)
    | with_reducible refine condW_split (fun _ => ?_) (fun _ => ?_)
    | with_reducible refine gW_split (fun _ => ?_) (fun _ => ?_)
    | with_reducible refine pickW_split (fun _ => ?_) (fun _ => ?_)
    | (refine newW_intro ?_; intro bx hbx; (try simp only [fresh_box, fresh_tip, fresh_ty] at hbx))
    | (refine newT_plain ?_; intro bx hbx; (try simp only [fresh_box, fresh_tip, fresh_ty] at hbx))
    | refine Pure.use (markTerm_pure G 1 _) ?_
    | refine Pure.head (markTerm_pure G 1 _) ?_
    | refine Pure.use (hsm _) ?_
    | refine Pure.head (hsm _) ?_
    | refine storeX_w ?_
    | ((with_reducible refine And.intro ?_ ?_); omega)
    | refine bo_buildSlice (d' := ⟨⟩) ?_
    | (refine draw_all (by kernel_rfl) ?_)
    | refine finish_pure ?_ (by repeat' (first | exact AS.le.refl _ | assumption | (refine le_set (by first | assumption | (simp only [*]; done) | exact AS.le.fresh (by assumption) (by simp only [*])) ?_) | (refine le_ty (by first | assumption | (simp only [*]; done) | exact AS.le.fresh (by assumption) (by simp only [*])) ?_)))
    | simp -dsimp only [↓bp, bq, br, afin, bsk, cWrites, opsWrites, pieceGh, rsk, ne_eq, if_true, if_false, exists_eq_left', forall_const, forall_eq, Nat.reduceLT, Int.reduceSub, Nat.reduceAdd, Nat.reduceSub, Nat.reduceMul, Nat.reduceLeDiff, Nat.reduceEqDiff, Nat.reduceBEq, Nat.reduceBNe, Int.reduceNeg, Int.reduceAdd, Int.reduceMul, Int.reduceLE, Int.reduceLT, Int.reduceEq, Int.reduceToNat, reduceIte, reduceCtorEq, tbTermLent, Term.flat_lent, Term.isv_lent, Term.fold_lent, isv_lents, flat_lents, sl_lents_len, *])
      all_goals (have hl2 : (l.map Term.lent ++ marks).length = l.length + 12 := by simp [hml])
      all_goals exact ⟨(l.map Term.lent ++ marks).length - (i + 1), by omega, i + 1, by omega, rfl, by rw [wrap_nat (by omega) (by omega)]; rfl⟩
  · have : i = (l.map Term.lent ++ marks).length := by omega
    subst this
    clear hi hge
    repeat' (first
    | with_reducible refine condW_both (fun _ _ => ?_) (fun _ _ => ?_)
    | with_reducible refine gW_both (fun _ _ => ?_) (fun _ _ => ?_)
    | with_reducible refine condW_split (fun _ => ?_) (fun _ => ?_)
    | with_reducible refine gW_split (fun _ => ?_) (fun _ => ?_)
    | with_reducible refine pickW_split (fun _ => ?_) (fun _ => ?_)
    | (refine newW_intro ?_; intro bx hbx; (try simp only [fresh_box, fresh_tip, fresh_ty] at hbx))
    | (refine newT_plain ?_; intro bx hbx; (try simp only [fresh_box, fresh_tip, fresh_ty] at hbx))
    | refine storeX_w ?_
    | ((with_reducible refine And.intro ?_ ?_); omega)
    | refine bo_buildSlice (d' := ⟨⟩) ?_
    | (refine draw_all (by kernel_rfl) ?_)
    | refine finish_pure ?_ (by repeat' (first | exact AS.le.refl _ | assumption | (refine le_set (by first | assumption | (simp only [*]; done) | exact AS.le.fresh (by assumption) (by simp only [*])) ?_) | (refine le_ty (by first | assumption | (simp only [*]; done) | exact AS.le.fresh (by assumption) (by simp only [*])) ?_)))
    | simp -dsimp only [↓bp, bq, br, afin, bsk, cWrites, opsWrites, pieceGh, rsk, ne_eq, if_true, if_false, exists_eq_left', forall_const, forall_eq, Nat.reduceLT, Int.reduceSub, Nat.reduceAdd, Nat.reduceSub, Nat.reduceMul, Nat.reduceLeDiff, Nat.reduceEqDiff, Nat.reduceBEq, Nat.reduceBNe, Int.reduceNeg, Int.reduceAdd, Int.reduceMul, Int.reduceLE, Int.reduceLT, Int.reduceEq, Int.reduceToNat, reduceIte, reduceCtorEq, tbTermLent, *])
    all_goals rfl
theorem kept_pure (t : Term) (hb : t.bulk ≤ 1000000000) : Pure Tryd.prog G 14 [t.lent, t.enc] (.bool true) := by
  revert hb
  refine Term.ind (P := fun t => t.bulk ≤ 1000000000 → Pure Tryd.prog G 14 [t.lent, t.enc] (.bool true)) (fun t ih1 ih2 hb => ?_) t
  have hl1 := kepts_pure G t.items (by have := len_items t; omega) (fun x hx => ih1 x hx (by have := bulk_item hx; omega))
  have hl2 := kepts_pure G t.tail (by have := len_tail t; omega) (fun x hx => ih2 x hx (by have := bulk_tail hx; omega))
  have hl3 := keptlims_pure G t.limbs (by have := len_limbs t; omega)
  have hs := (same_pure G t t hb hb).lessArgs (args := [t.lent, t.enc]) (.cons (lent_le t) (.cons (Le.refl _) .nil))
  rw [(same_iff t t).2 rfl] at hs
  intro σ
  refine Tri.of_awp mixed Tryd.func14 rfl (by kernel_rfl) (by kernel_rfl) (by simp [Tryd.ntmps14]) Tryd.results14 ?_
  repeat' (first
    | with_reducible refine condW_both (fun _ _ => ?_) (fun _ _ => ?_)
    | with_reducible refine gW_both (fun _ _ => ?_) (fun _ _ => ?_)
    | with_reducible refine condW_split (fun _ => ?_) (fun _ => ?_)
    | with_reducible refine gW_split (fun _ => ?_) (fun _ => ?_)
    | with_reducible refine pickW_split (fun _ => ?_) (fun _ => ?_)
    | (refine newW_intro ?_; intro bx hbx; (try simp only [fresh_box, fresh_tip, fresh_ty] at hbx))
    | (refine newT_plain ?_; intro bx hbx; (try simp only [fresh_box, fresh_tip, fresh_ty] at hbx))
    | refine Pure.use (hl1) ?_
    | refine Pure.head (hl1) ?_
    | refine Pure.use (hl2) ?_
    | refine Pure.head (hl2) ?_
    | refine Pure.use (hl3) ?_
    | refine Pure.head (hl3) ?_
    | refine Pure.use (hs) ?_
    | refine Pure.head (hs) ?_
    | refine storeX_w ?_
    | ((with_reducible refine And.intro ?_ ?_); omega)
    | refine bo_buildSlice (d' := ⟨⟩) ?_
    | (refine draw_all (by kernel_rfl) ?_)
    | refine finish_pure ?_ (by repeat' (first | exact AS.le.refl _ | assumption | (refine le_set (by first | assumption | (simp only [*]; done) | exact AS.le.fresh (by assumption) (by simp only [*])) ?_) | (refine le_ty (by first | assumption | (simp only [*]; done) | exact AS.le.fresh (by assumption) (by simp only [*])) ?_)))
    | simp -dsimp only [↓bp, bq, br, afin, bsk, cWrites, opsWrites, pieceGh, rsk, ne_eq, if_true, if_false, exists_eq_left', forall_const, forall_eq, Nat.reduceLT, Int.reduceSub, Nat.reduceAdd, Nat.reduceSub, Nat.reduceMul, Nat.reduceLeDiff, Nat.reduceEqDiff, Nat.reduceBEq, Nat.reduceBNe, Int.reduceNeg, Int.reduceAdd, Int.reduceMul, Int.reduceLE, Int.reduceLT, Int.reduceEq, Int.reduceToNat, reduceIte, reduceCtorEq, tbTermLent, Term.flat_lent, Term.isv_lent, Term.fold_lent, isv_lents, flat_lents, sl_lents_len, isv_lentLims, flat_lentLims, *])
  all_goals rfl
end Go.Proofs.YtjnhalmeddafdaaDoor
