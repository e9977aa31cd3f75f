/- CodeGoes on abstract values. -/
import Derived.Test.YtjmdaeabllkgnaaGreatDoorY31
set_option linter.unusedVariables false
set_option linter.unusedSimpArgs false
set_option maxRecDepth 20000
set_option linter.defProp false
namespace Go.Proofs.YtjmdaeabllkgnaaGreatDoor
open Go Go.Av
def tbLawCodG := And.intro (And.intro (And.intro (And.intro @tf3 (And.intro @tf4 @tf5)) (And.intro (And.intro @tf9 @tf37) (And.intro @tf39 @tf23))) (And.intro (And.intro (And.intro @tf30 @tf53) (And.intro @tf22 @tf26)) (And.intro (And.intro @tf24 @isv_rowOf) (And.intro @flat_rowOf @len_rowOf)))) (And.intro (And.intro (And.intro @ix_rowOf (And.intro @isv_encs @flat_encs)) (And.intro (And.intro @len_encs @Ins.flat_enc) (And.intro @Ins.isv_enc @Ins.fold_enc))) (And.intro (And.intro (And.intro @Ent.flat_enc @Ent.isv_enc) (And.intro @Ent.fold_enc @Cod.flat_enc)) (And.intro (And.intro @Cod.isv_enc @Cod.fold_enc) (And.intro @ares_tmpc @ares_cellc))))
variable {G : Nat → AV}
theorem endOf_at {c : Cod} {k : Nat} {e : Ent} (h : c.entries[k]? = some e) : endOf c (c.entries.drop k) = e.pos := by rw [drop_get _ _ _ h]; rfl
theorem endOf_over {c : Cod} {k : Nat} (h : c.entries.length ≤ k) : endOf c (c.entries.drop k) = c.instrs.length := by rw [List.drop_eq_nil_of_le h]; rfl
theorem goes_at {c : Cod} (h : codRight c = true) {k : Nat} {e : Ent} (hk : c.entries[k]? = some e) : ∃ P Z : Nat, e.pos = P ∧ endOf c (c.entries.drop (k + 1)) = Z ∧ P < Z ∧ Z ≤ c.instrs.length ∧ c.instrs.length ≤ 16384 ∧ ∀ (j : Nat) (x : Ins), P ≤ j → j < Z → c.instrs[j]? = some x → insRight c e P Z x = true := by
  have h' := h
  simp only [codRight, Bool.and_eq_true, decide_eq_true_eq] at h
  obtain ⟨⟨⟨⟨h1, h2⟩, h3⟩, h4⟩, h5, h6⟩ := h
  obtain ⟨z, hz, g1, g2, g3, g4⟩ := ents_at c _ _ k e h6 hk
  simp only [entOK, Bool.and_eq_true, decide_eq_true_eq] at g1
  have hp : 0 ≤ e.pos := by
    rcases Nat.eq_zero_or_pos k with h0 | h0
    · have := g3 h0; omega
    · have := g4 h0; omega
  obtain ⟨P, hP⟩ := Int.eq_ofNat_of_zero_le hp
  obtain ⟨Z, hZ⟩ := Int.eq_ofNat_of_zero_le (a := z) (by omega)
  refine ⟨P, Z, hP, by rw [← hz, hZ], by omega, by omega, h2, fun j x h7 h8 hx => ?_⟩
  have := List.all_eq_true.1 g2 x ?_
  · rw [hP, hZ] at this; exact this
  · unfold within
    rw [hP, hZ]
    refine List.mem_of_getElem? (i := j - P) ?_
    rw [List.getElem?_drop, List.getElem?_take_of_lt (by simp only [Int.toNat_natCast]; omega)]
    simp only [Int.toNat_natCast]
    rw [show P + (j - P) = j by omega]; exact hx
theorem shift_bulk (b : Int) (i : Ins) : (shift b i).bulk = i.bulk := by unfold shift; split <;> rfl
theorem bulk_shift (b : Int) : ∀ l : List Ins, bulkL Ins.bulk (l.map (shift b)) = bulkL Ins.bulk l
  | [] => rfl
  | x :: l => by simp only [List.map_cons, bulkL, shift_bulk, bulk_shift b l]
theorem bulk_drop {α : Type} (f : α → Nat) : ∀ (l : List α) (k : Nat), bulkL f (l.drop k) ≤ bulkL f l
  | [], k => by simp
  | x :: l, 0 => by simp
  | x :: l, k + 1 => by have := bulk_drop f l k; simp only [List.drop_succ_cons, bulkL]; omega
theorem alone_bulk (c : Cod) (e : Ent) (he : e ∈ c.entries) (P Z : Int) : (aloneOf c e (within c P Z)).bulk ≤ 2 * c.bulk := by
  have h1 := bulkL_mem (f := Ent.bulk) he
  have h2 := bulk_drop Ins.bulk (c.instrs.take Z.toNat) P.toNat
  have h3 := bulkL_take (f := Ins.bulk) c.instrs Z.toNat
  have h4 : ({ e with pos := 0 } : Ent).bulk = e.bulk := rfl
  unfold aloneOf Cod.bulk within
  simp only [bulk_shift, bulkL, h4]
  omega
theorem line_or {c : Cod} {e : Ent} {b z : Int} {i : Ins} (h : insRight c e b z i = true) : i.l = 0 ∨ b ≤ i.l ∧ i.l < z := by
  by_cases hl : (shpOf i.op).fields.contains 108 = true
  · exact .inr (line_ok h hl)
  · refine .inl ?_
    simp only [insRight, Bool.and_eq_true] at h
    have hb := h.2.2
    unfold bareOK at hb
    have hl' : (shpOf i.op).fields.contains 108 = false := by simpa using hl
    rw [hl'] at hb
    simp only [Bool.and_eq_true, Bool.or_eq_true, decide_eq_true_eq, Bool.false_eq_true, false_or] at hb
    omega
theorem le_three {σ : AS} {a b : Nat} {r0 r1 z : List AV} (hb : σ.box b = none) (hab : b ≠ a) : (σ.setBox a r1).le (((σ.setBox a r0).setBox b z).setBox a r1) := by
  refine ⟨fun i cs hi => ?_, fun _ _ h => h, fun _ _ h => h⟩
  simp only [AS.setBox] at hi ⊢
  by_cases h1 : i = a
  · rw [if_pos h1] at hi ⊢; exact hi
  · rw [if_neg h1] at hi ⊢
    rw [if_neg h1]
    by_cases h2 : i = b
    · subst h2; rw [hb] at hi; cases hi
    · rw [if_neg h2]; exact hi
theorem bySign_len (x : Ins) : ∀ fs : List UInt8, (fs.flatMap (bySign x)).length ≤ fs.length * (x.slots.length + 1)
  | [] => by simp
  | f :: fs => by
    have h1 := bySign_len x fs
    have h2 : (bySign x f).length ≤ x.slots.length + 1 := by unfold bySign; repeat' split
                                                             all_goals first | (simp; done) | omega
    simp only [List.flatMap_cons, List.length_append, List.length_cons, Nat.add_mul, Nat.one_mul]
    omega
theorem buf_up {n : Nat} {σ0 σ σ' : AS} {v : AV} {xs : List AV} (h : Buf n σ0 σ v xs) (hl : σ.le σ') : Buf n σ0 σ' v xs := by
  cases h with
  | nil h => exact .nil (h.trans hl)
  | own b xs h h0 ht hx => exact .own b xs (h.trans hl) h0 (hl.tip _ _ ht) hx
theorem within_at {c : Cod} {P Z j : Nat} (hZ : Z ≤ c.instrs.length) (hj : P + j < Z) : (within c P Z)[j]? = c.instrs[P + j]? := by
  unfold within
  rw [List.getElem?_drop, List.getElem?_take_of_lt (by simp only [Int.toNat_natCast]; omega)]
  simp only [Int.toNat_natCast]
theorem within_len {c : Cod} {P Z : Nat} (hZ : Z ≤ c.instrs.length) (hP : P ≤ Z) : (within c P Z).length = Z - P := by
  unfold within
  rw [List.length_drop, List.length_take]
  simp only [Int.toNat_natCast]
  omega
theorem ints_flat (l : List Int) : (l.map intA).flatMap flat = l.map intA := by
  induction l with
  | nil => rfl
  | cons a l ih => rw [List.map_cons, List.flatMap_cons, ih]; rfl
theorem ints_head {l : List Int} {q : Nat} {y : Int} (h : l[q]? = some y) : ((l.map intA).drop (q * 1)).head? = some (intA y) := by
  rw [Nat.mul_one, ← List.map_drop, drop_get _ _ _ h]; rfl
theorem goes_great {c : Cod} (w : Pure Tryz.prog G 9 [] (.bool true)) (g : Pure Tryz.prog G 8 [c.enc] (.bool true)) : Pure Tryz.prog G 6 [c.enc] (.bool true) := by
  have r := g
  intro σ
  refine Tri.of_awp mixed Tryz.func6 rfl (by kernel_rfl) (by kernel_rfl) (by simp [Tryz.ntmps6]) Tryz.results6 ?_
  repeat' (first | refine xs ?_ ?_ <;> intros | ((first | refine xh ?_ | refine xi ?_); intro bx hbx; (try simp only [fb] at hbx)) | refine Pure.use (w) ?_ | refine Pure.head (w) ?_ | refine Pure.use (g) ?_ | refine Pure.head (g) ?_ | refine Pure.use (r) ?_ | refine Pure.head (r) ?_ | refine xj ?_ | refine cv_plain ?_ | ((with_reducible refine And.intro ?_ ?_); omega) | refine bo_buildSlice (d' := ⟨⟩) ?_ | refine xk (by kernel_rfl) ?_ | refine xf ?_ (by repeat' first | exact lr _ | assumption | refine ls ?_ ?_ | refine lt ?_ ?_ | simp only [*]; done | simp only [fb, *, not_false_eq_true, and_self]; done | exact lf ‹_› (by simp only [*])) | refine finish_two ?_ (by repeat' first | exact lr _ | assumption | refine ls ?_ ?_ | refine lt ?_ ?_ | simp only [*]; done | simp only [fb, *, not_false_eq_true, and_self]; done | exact lf ‹_› (by simp only [*])) | simp -dsimp only [↓bp, bq, br, seval, tbLawCodG, *] | refine slW_bo ?_ | refine cv_any ?_)
  all_goals rfl
theorem goes_bad {es : List Ent} {is : List Ins} {cs : List Term} (w : Pure Tryz.prog G 9 [] (.bool true)) (g : Pure Tryz.prog G 8 [.agg [rowOf Ent.enc es, rowOf Ins.enc is, encs cs]] (.bool false)) (r : Pure Tryz.prog G 12 [.agg [rowOf Ent.enc es, rowOf Ins.enc is, encs cs]] (.bool false)) : Pure Tryz.prog G 6 [.agg [rowOf Ent.enc es, rowOf Ins.enc is, encs cs]] (.bool true) := by
  intro σ
  refine Tri.of_awp mixed Tryz.func6 rfl (by kernel_rfl) (by kernel_rfl) (by simp [Tryz.ntmps6]) Tryz.results6 ?_
  repeat' (first | refine xs ?_ ?_ <;> intros | ((first | refine xh ?_ | refine xi ?_); intro bx hbx; (try simp only [fb] at hbx)) | refine Pure.use (w) ?_ | refine Pure.head (w) ?_ | refine Pure.use (g) ?_ | refine Pure.head (g) ?_ | refine Pure.use (r) ?_ | refine Pure.head (r) ?_ | refine xj ?_ | refine cv_plain ?_ | ((with_reducible refine And.intro ?_ ?_); omega) | refine bo_buildSlice (d' := ⟨⟩) ?_ | refine xk (by kernel_rfl) ?_ | refine xf ?_ (by repeat' first | exact lr _ | assumption | refine ls ?_ ?_ | refine lt ?_ ?_ | simp only [*]; done | simp only [fb, *, not_false_eq_true, and_self]; done | exact lf ‹_› (by simp only [*])) | refine finish_two ?_ (by repeat' first | exact lr _ | assumption | refine ls ?_ ?_ | refine lt ?_ ?_ | simp only [*]; done | simp only [fb, *, not_false_eq_true, and_self]; done | exact lf ‹_› (by simp only [*])) | simp -dsimp only [↓bp, bq, br, seval, tbLawCodG, *] | refine slW_bo ?_ | refine cv_any ?_)
  all_goals rfl
theorem tfEn : aelt Tryz.prog 22 = some (53, 5, 48) := by kernel_rfl
theorem tfMn : el Tryz.prog 23 = some 39 := tf23.2.2.2.1
structure GoesE (G : Nat → AV) (es : List Ent) (is : List Ins) (cs : List Term) : Prop where
  ent : ∀ (k : Nat) (e : Ent), es[k]? = some e → ∃ P Z : Nat, e.pos = P ∧ endOf ⟨es, is, cs⟩ (es.drop (k + 1)) = Z ∧ P < Z ∧ Z ≤ is.length ∧ is.length ≤ 16384 ∧ ∀ (j : Nat) (x : Ins), P ≤ j → j < Z → is[j]? = some x → insRight ⟨es, is, cs⟩ e P Z x = true
  reads : ∀ x, x ∈ is → ∀ σ, Tri Tryz.prog G 20 [x.enc] σ fun r σ' => WBuf 1 3 σ σ' r ((reads x).map intA)
  writes : ∀ x : Ins, Pure Tryz.prog G 21 [x.enc] (.tup [.int .i64 (if writesB x = true then x.a else 0), .bool (writesB x)])
  next : ∀ p : Nat, Pure Tryz.prog G 11 [.agg [rowOf Ent.enc es, rowOf Ins.enc is, encs cs], .int .i64 (p : Int)] (rowOf intA (nexts ⟨es, is, cs⟩ p))
  copy : ∀ x, x ∈ is → Pure Tryz.prog G 32 [x.enc] x.enc
  alone : ∀ (k : Nat) (e : Ent) (P Z : Nat), es[k]? = some e → e.pos = P → endOf ⟨es, is, cs⟩ (es.drop (k + 1)) = Z → ((within ⟨es, is, cs⟩ P Z).any named = false) → Pure Tryz.prog G 12 [(aloneOf ⟨es, is, cs⟩ e (within ⟨es, is, cs⟩ P Z)).enc] (.bool true)
  slots : ∀ x, x ∈ is → x.slots.length ≤ 100000000
  len : es.length ≤ 1000000000
set_option maxHeartbeats 16000000 in
theorem goes_main {es : List Ent} {is : List Ins} {cs : List Term} (w : Pure Tryz.prog G 9 [] (.bool true)) (g : Pure Tryz.prog G 8 [.agg [rowOf Ent.enc es, rowOf Ins.enc is, encs cs]] (.bool false)) (r : Pure Tryz.prog G 12 [.agg [rowOf Ent.enc es, rowOf Ins.enc is, encs cs]] (.bool true)) (H : GoesE G es is cs) : Pure Tryz.prog G 6 [.agg [rowOf Ent.enc es, rowOf Ins.enc is, encs cs]] (.bool true) := by
  have hlen := H.len
  intro σ
  refine Tri.of_awp mixed Tryz.func6 rfl (by kernel_rfl) (by kernel_rfl) (by simp [Tryz.ntmps6]) Tryz.results6 ?_
  simp -dsimp only [↓bp, bq, br, seval, tbLawCodG]
  refine newW_intro ?_
  intro bc hbc
  obtain ⟨S, hS⟩ : ∃ S : AS, S = σ.setBox bc [rowOf Ent.enc es, rowOf Ins.enc is, encs cs] := ⟨_, rfl⟩
  have hSb : S.box bc = some [rowOf Ent.enc es, rowOf Ins.enc is, encs cs] := by rw [hS]; exact AS.set_get
  have hSl : σ.le S := by rw [hS]; exact (AS.le.refl σ).setBox hbc.1 _
  rw [← hS]
  clear hS
  repeat' (first | refine xs ?_ ?_ <;> intros | ((first | refine xh ?_ | refine xi ?_); intro bx hbx; (try simp only [fb] at hbx)) | refine Pure.use (w) ?_ | refine Pure.head (w) ?_ | refine Pure.use (g) ?_ | refine Pure.head (g) ?_ | refine Pure.use (r) ?_ | refine Pure.head (r) ?_ | refine xj ?_ | refine cv_plain ?_ | ((with_reducible refine And.intro ?_ ?_); omega) | refine bo_buildSlice (d' := ⟨⟩) ?_ | refine xk (by kernel_rfl) ?_ | refine xf ?_ (by repeat' first | exact lr _ | assumption | refine ls ?_ ?_ | refine lt ?_ ?_ | simp only [*]; done | simp only [fb, *, not_false_eq_true, and_self]; done | exact lf ‹_› (by simp only [*])) | refine finish_two ?_ (by repeat' first | exact lr _ | assumption | refine ls ?_ ?_ | refine lt ?_ ?_ | simp only [*]; done | simp only [fb, *, not_false_eq_true, and_self]; done | exact lf ‹_› (by simp only [*])) | simp -dsimp only [↓bp, bq, br, seval, tbLawCodG, *] | refine slW_bo ?_ | refine cv_any ?_)
  clear w g r
  refine loop_intro (fun n e σ' => ∃ k : Nat, k ≤ es.length ∧ n = es.length - k ∧ e 3 = .int .i64 k ∧ S.le σ') es.length
    ⟨0, by omega, by omega, by first | (simp -dsimp only [↓bp, bq, br, seval, tbLawCodG]; done) | (simp -dsimp only [↓bp, bq, br, seval, tbLawCodG]; try rfl), AS.le.refl S⟩ ?_
  rintro n v0 σ0 ⟨k, hk, rfl, h3, hL⟩
  simp -dsimp only [↓bp, bq, br, seval, tbLawCodG] at h3
  have hb0 := hL.box _ _ hSb
  by_cases hlt : k < es.length
  case neg =>
    have : k = es.length := by omega
    subst this
    have hlt' : ((es.length : Int) < es.length) = False := eq_false (by omega)
    clear H
    have hL2 := hSl.trans hL
    repeat' (first | refine xs ?_ ?_ <;> intros | ((first | refine xh ?_ | refine xi ?_); intro bx hbx; (try simp only [fb] at hbx)) | refine xj ?_ | refine cv_plain ?_ | ((with_reducible refine And.intro ?_ ?_); omega) | refine bo_buildSlice (d' := ⟨⟩) ?_ | refine xk (by kernel_rfl) ?_ | refine xf ?_ (by repeat' first | exact lr _ | assumption | refine ls ?_ ?_ | refine lt ?_ ?_ | simp only [*]; done | simp only [fb, *, not_false_eq_true, and_self]; done | exact lf ‹_› (by simp only [*])) | refine finish_two ?_ (by repeat' first | exact lr _ | assumption | refine ls ?_ ?_ | refine lt ?_ ?_ | simp only [*]; done | simp only [fb, *, not_false_eq_true, and_self]; done | exact lf ‹_› (by simp only [*])) | simp -dsimp only [↓bp, bq, br, seval, tbLawCodG, *] | refine slW_bo ?_ | refine cv_any ?_)
    all_goals rfl
  have hlt' : ((k : Int) < es.length) = True := eq_true (by omega)
  have hwk : IntKind.i64.wrap ((k : Int) + 1) = ((k + 1 : Nat) : Int) := by rw [wrap_nat (by omega) (by omega)]; rfl
  obtain ⟨e, he⟩ : ∃ e, es[k]? = some e := ⟨_, List.getElem?_eq_getElem hlt⟩
  obtain ⟨P, Z, hP, hZ, hPZ, hZl, hl4, hR⟩ := H.ent k e he
  have hal := H.alone k e P Z he hP hZ
  repeat' (first | ((first | refine xh ?_ | refine xi ?_); intro bx hbx; (try simp only [fb] at hbx); try (have nn := fresh_ne (c := bx) hb0 (by simp only [hbx]))) | refine xj ?_ | refine cv_plain ?_ | ((with_reducible refine And.intro ?_ ?_); omega) | refine bo_buildSlice (d' := ⟨⟩) ?_ | refine xk (by kernel_rfl) ?_ | refine xf ?_ (by repeat' first | exact lr _ | assumption | refine ls ?_ ?_ | refine lt ?_ ?_ | simp only [*]; done | simp only [fb, *, not_false_eq_true, and_self]; done | exact lf ‹_› (by simp only [*])) | refine finish_two ?_ (by repeat' first | exact lr _ | assumption | refine ls ?_ ?_ | refine lt ?_ ?_ | simp only [*]; done | simp only [fb, *, not_false_eq_true, and_self]; done | exact lf ‹_› (by simp only [*])) | simp -dsimp only [↓bp, bq, br, seval, tbLawCodG, *] | refine slW_bo ?_ | refine cv_any ?_)
  rename Nat => b4
  rename σ0.fresh b4 => hf4
  obtain ⟨S4, hS4⟩ : ∃ S4 : AS, S4 = σ0.setBox b4 [.str e.name, .int .i64 e.arity, .int .i64 e.extra, .int .i64 e.slots, .int .i64 (P : Int)] := ⟨_, rfl⟩
  have h4b : S4.box b4 = some [.str e.name, .int .i64 e.arity, .int .i64 e.extra, .int .i64 e.slots, .int .i64 (P : Int)] := by rw [hS4]; exact AS.set_get
  have h4l : σ0.le S4 := by rw [hS4]; exact (AS.le.refl σ0).setBox hf4.1 _
  have h4c := h4l.box _ _ hb0
  rw [← hS4]
  clear hS4
  refine cond_meet mixed (fun ev s => ev 5 = .int .i64 (Z : Int) ∧ s = S4) ?_ ?_
  · by_cases hk1 : k + 1 < es.length
    · have hk1' : (((k + 1 : Nat) : Int) < es.length) = True := eq_true (by omega)
      obtain ⟨e2, he2⟩ : ∃ e2, es[k + 1]? = some e2 := ⟨_, List.getElem?_eq_getElem hk1⟩
      have hz2 : e2.pos = (Z : Int) := by rw [← hZ]; exact (endOf_at (c := ⟨es, is, cs⟩) he2).symm
      clear hal hR H
      repeat' (first | ((first | refine xh ?_ | refine xi ?_); intro bx hbx; (try simp only [fb] at hbx)) | refine xj ?_ | refine cv_plain ?_ | ((with_reducible refine And.intro ?_ ?_); omega) | refine bo_buildSlice (d' := ⟨⟩) ?_ | refine xk (by kernel_rfl) ?_ | refine xf ?_ (by repeat' first | exact lr _ | assumption | refine ls ?_ ?_ | refine lt ?_ ?_ | simp only [*]; done | simp only [fb, *, not_false_eq_true, and_self]; done | exact lf ‹_› (by simp only [*])) | refine finish_two ?_ (by repeat' first | exact lr _ | assumption | refine ls ?_ ?_ | refine lt ?_ ?_ | simp only [*]; done | simp only [fb, *, not_false_eq_true, and_self]; done | exact lf ‹_› (by simp only [*])) | simp -dsimp only [↓bp, bq, br, seval, tbLawCodG, *] | refine slW_bo ?_ | refine cv_any ?_)
      all_goals exact ⟨rfl, rfl⟩
    · have hk1' : (((k + 1 : Nat) : Int) < es.length) = False := eq_false (by omega)
      have hz2 : (is.length : Int) = (Z : Int) := by rw [← hZ]; exact (endOf_over (c := ⟨es, is, cs⟩) (by simpa using hk1)).symm
      clear hal hR H
      repeat' (first | ((first | refine xh ?_ | refine xi ?_); intro bx hbx; (try simp only [fb] at hbx)) | refine xj ?_ | refine cv_plain ?_ | ((with_reducible refine And.intro ?_ ?_); omega) | refine bo_buildSlice (d' := ⟨⟩) ?_ | refine xk (by kernel_rfl) ?_ | refine xf ?_ (by repeat' first | exact lr _ | assumption | refine ls ?_ ?_ | refine lt ?_ ?_ | simp only [*]; done | simp only [fb, *, not_false_eq_true, and_self]; done | exact lf ‹_› (by simp only [*])) | refine finish_two ?_ (by repeat' first | exact lr _ | assumption | refine ls ?_ ?_ | refine lt ?_ ?_ | simp only [*]; done | simp only [fb, *, not_false_eq_true, and_self]; done | exact lf ‹_› (by simp only [*])) | simp -dsimp only [↓bp, bq, br, seval, tbLawCodG, *] | refine slW_bo ?_ | refine cv_any ?_)
      all_goals exact ⟨rfl, rfl⟩
  rintro v1 S4 ⟨h5, rfl⟩
  simp -dsimp only [↓bp, bq, br, seval, tbLawCodG] at h5
  repeat' (first | ((first | refine xh ?_ | refine xi ?_); intro bx hbx; (try simp only [fb] at hbx); try (have nn := fresh_ne (c := bx) h4c (by simp only [hbx])); try (have nn := fresh_ne (c := bx) h4b (by simp only [hbx]))) | ((refine build_oneM tfEn rfl rfl (by omega) (fun rr hrr => ?_); have nrr := fresh_ne h4c hrr; have nr4 := fresh_ne h4b hrr)) | refine xj ?_ | refine cv_plain ?_ | ((with_reducible refine And.intro ?_ ?_); omega) | refine bo_buildSlice (d' := ⟨⟩) ?_ | refine xk (by kernel_rfl) ?_ | refine xf ?_ (by repeat' first | exact lr _ | assumption | refine ls ?_ ?_ | refine lt ?_ ?_ | simp only [*]; done | simp only [fb, *, not_false_eq_true, and_self]; done | exact lf ‹_› (by simp only [*])) | refine finish_two ?_ (by repeat' first | exact lr _ | assumption | refine ls ?_ ?_ | refine lt ?_ ?_ | simp only [*]; done | simp only [fb, *, not_false_eq_true, and_self]; done | exact lf ‹_› (by simp only [*])) | simp -dsimp only [↓bp, bq, br, seval, tbLawCodG, *] | refine slW_bo ?_ | refine cv_any ?_)
  rename Nat => b6
  obtain ⟨hf6, n6r, nr6⟩ := hbx
  obtain ⟨RE, hRE⟩ : ∃ RE : List AV, RE = [.str e.name, .int .i64 e.arity, .int .i64 e.extra, .int .i64 e.slots, .int .i64 0] := ⟨_, rfl⟩
  rw [← hRE]
  -- the base: without the row of the function's own code
  obtain ⟨U, hU⟩ : ∃ U : AS, U = S4.setBox rr RE := ⟨_, rfl⟩
  have hUl : S4.le U := by rw [hU]; exact (AS.le.refl S4).setBox hrr.1 _
  have hUr : U.box rr = some RE := by rw [hU]; exact AS.set_get
  have hU6 : U.box b6 = none := by rw [hU]; simp only [AS.setBox, if_neg n6r]; exact hf6.1
  obtain ⟨W, hW⟩ : ∃ W : List Ins, W = within ⟨es, is, cs⟩ P Z := ⟨_, rfl⟩
  have hWl : W.length = Z - P := by rw [hW]; exact within_len hZl (by omega)
  have hWa : ∀ j, P + j < Z → W[j]? = is[P + j]? := fun j hj => by rw [hW]; exact within_at hZl hj
  rw [← hW] at hal
  clear hW
  refine loop_intro (fun n ev s => ∃ (j : Nat) (v : AV), j ≤ Z - P ∧ n = Z - P - j ∧ ev 8 = .int .i64 ((P + j : Nat) : Int) ∧ ev 7 = .bool ((W.take j).any named) ∧ s.box b6 = some [.bs rr 1 5 53, v, encs cs] ∧ Buf 8 U s v (((W.take j).map (shift P)).map Ins.enc)) (Z - P)
    ⟨0, .nil, by omega, by omega, by first | (simp -dsimp only [↓bp, bq, br, seval, tbLawCodG]; done) | (simp -dsimp only [↓bp, bq, br, seval, tbLawCodG]; try rfl), by first | (simp -dsimp only [↓bp, bq, br, seval, tbLawCodG]; done) | (simp -dsimp only [↓bp, bq, br, seval, tbLawCodG]; try rfl), by simp [AS.setBox, n6r], .nil (by rw [hU]; exact le_three hf6.1 n6r)⟩ ?_
  clear hU
  rintro n2 v2 s ⟨j, v, hj, rfl, h8, h7, hs6, hB⟩
  simp -dsimp only [↓bp, bq, br, seval, tbLawCodG] at h8 h7
  have hsc := hB.le.box _ _ (hUl.box _ _ h4c)
  have hs4 := hB.le.box _ _ (hUl.box _ _ h4b)
  have hsr := hB.le.box _ _ hUr
  by_cases hjz : P + j < Z
  case neg =>
    have hjm : j = Z - P := by omega
    subst hjm
    have hc : (((P + (Z - P) : Nat) : Int) < (Z : Int)) = False := eq_false (by omega)
    have ht : W.take (Z - P) = W := List.take_of_length_le (by omega)
    rw [ht] at h7 hB
    have hSs := (hL.trans h4l).trans (hUl.trans hB.le)
    cases hnm : W.any named with
    | true =>
      rw [hnm] at h7
      clear H hal hR
      repeat' (first | refine xs ?_ ?_ <;> intros | ((first | refine xh ?_ | refine xi ?_); intro bx hbx; (try simp only [fb] at hbx)) | refine xj ?_ | refine cv_plain ?_ | ((with_reducible refine And.intro ?_ ?_); omega) | refine bo_buildSlice (d' := ⟨⟩) ?_ | refine xk (by kernel_rfl) ?_ | refine xf ?_ (by repeat' first | exact lr _ | assumption | refine ls ?_ ?_ | refine lt ?_ ?_ | simp only [*]; done | simp only [fb, *, not_false_eq_true, and_self]; done | exact lf ‹_› (by simp only [*])) | refine finish_two ?_ (by repeat' first | exact lr _ | assumption | refine ls ?_ ?_ | refine lt ?_ ?_ | simp only [*]; done | simp only [fb, *, not_false_eq_true, and_self]; done | exact lf ‹_› (by simp only [*])) | simp -dsimp only [↓bp, bq, br, seval, tbLawCodG, *] | refine slW_bo ?_ | refine cv_any ?_)
      all_goals exact ⟨es.length - (k + 1), by omega, k + 1, by omega, rfl, rfl⟩
    | false =>
      rw [hnm] at h7
      have hr := hal hnm
      have hlend : Lends G s [.agg [.bs rr 1 5 53, v, encs cs]] [(aloneOf ⟨es, is, cs⟩ e W).enc] := by
        have hE : RE = flat ({ e with pos := 0 } : Ent).enc := by rw [hRE, Ent.flat_enc]
        have hP0 : e.pos = (P : Int) := hP
        refine .cons ?_ .nil
        rw [Cod.enc]
        refine Lend.agg (.cons ?_ (.cons ?_ (.cons (.id _) .nil))) ?_
        · rw [hE] at hsr
          exact Lend.row hsr (by rw [List.take_length]; exact Lends.ids _) (Nat.le_refl _) (xs := [({ e with pos := 0 } : Ent).enc]) (sp := []) (by simp) (by omega) (fun a ha => by
            simp at ha; subst ha
            exact ⟨Ent.len_flat _, Ent.isv_enc _, Ent.ones _⟩)
        · have := Lend.le (Lend.id (G := G) (σ := s) v) hB.told
          show Lend G s v (rowOf Ins.enc (W.map (shift e.pos)))
          rw [hP0]
          exact this
        · intro d hd
          simp only [List.mem_cons, List.not_mem_nil, or_false] at hd
          rcases hd with rfl | rfl | rfl <;> rfl
      have hrl := Pure.lend hr rfl hlend
      clear H hal hR hr
      repeat' (first | refine xs ?_ ?_ <;> intros | ((first | refine xh ?_ | refine xi ?_); intro bx hbx; (try simp only [fb] at hbx)) | ((refine Tri.mono hrl ?_; rintro _ _ ⟨rfl, rfl⟩)) | refine xj ?_ | refine cv_plain ?_ | ((with_reducible refine And.intro ?_ ?_); omega) | refine bo_buildSlice (d' := ⟨⟩) ?_ | refine xk (by kernel_rfl) ?_ | refine xf ?_ (by repeat' first | exact lr _ | assumption | refine ls ?_ ?_ | refine lt ?_ ?_ | simp only [*]; done | simp only [fb, *, not_false_eq_true, and_self]; done | exact lf ‹_› (by simp only [*])) | refine finish_two ?_ (by repeat' first | exact lr _ | assumption | refine ls ?_ ?_ | refine lt ?_ ?_ | simp only [*]; done | simp only [fb, *, not_false_eq_true, and_self]; done | exact lf ‹_› (by simp only [*])) | simp -dsimp only [↓bp, bq, br, seval, tbLawCodG, *] | refine slW_bo ?_ | refine cv_any ?_)
      all_goals exact ⟨es.length - (k + 1), by omega, k + 1, by omega, rfl, rfl⟩
  have hc : (((P + j : Nat) : Int) < (Z : Int)) = True := eq_true (by omega)
  have hlt3 : P + j < is.length := by omega
  obtain ⟨x, hx⟩ : ∃ x, is[P + j]? = some x := ⟨_, List.getElem?_eq_getElem hlt3⟩
  have hxm := List.mem_of_getElem? hx
  have hxW : W[j]? = some x := by rw [hWa j hjz]; exact hx
  have hri := hR (P + j) x (by omega) hjz hx
  have h0pj : ((0 : Int) ≤ ((P + j : Nat) : Int)) = True := eq_true (by omega)
  have hrd := H.reads x hxm
  have hwr := H.writes x
  have hnx := H.next (P + j)
  have hcp := H.copy x hxm
  have hxs := H.slots x hxm
  clear H hal
  repeat' (first | ((first | refine xh ?_ | refine xi ?_); intro bx hbx; (try simp only [fb] at hbx); try (have nn := fresh_ne (c := bx) hsc (by simp only [hbx])); try (have nn := fresh_ne (c := bx) hs4 (by simp only [hbx])); try (have nn := fresh_ne (c := bx) hs6 (by simp only [hbx])); try (have nn := fresh_ne (c := bx) hsr (by simp only [hbx]))) | refine xj ?_ | refine cv_plain ?_ | ((with_reducible refine And.intro ?_ ?_); omega) | refine bo_buildSlice (d' := ⟨⟩) ?_ | refine xk (by kernel_rfl) ?_ | refine xf ?_ (by repeat' first | exact lr _ | assumption | refine ls ?_ ?_ | refine lt ?_ ?_ | simp only [*]; done | simp only [fb, *, not_false_eq_true, and_self]; done | exact lf ‹_› (by simp only [*])) | refine finish_two ?_ (by repeat' first | exact lr _ | assumption | refine ls ?_ ?_ | refine lt ?_ ?_ | simp only [*]; done | simp only [fb, *, not_false_eq_true, and_self]; done | exact lf ‹_› (by simp only [*])) | simp -dsimp only [↓bp, bq, br, seval, tbLawCodG, *] | refine slW_bo ?_ | refine cv_any ?_)
  rename Nat => b9
  rename s.fresh b9 => hf9
  obtain ⟨s1, hs1⟩ : ∃ s1 : AS, s1 = s.setBox b9 [.int .u8 x.opI, .int .i64 x.a, .int .i64 x.b, .int .i64 x.c, .int .i64 x.n, .int .i64 x.l, .str x.text, rowOf intA x.slots] := ⟨_, rfl⟩
  have hl1 : s.le s1 := by rw [hs1]; exact (AS.le.refl s).setBox hf9.1 _
  have t1x : s1.box b9 = some [.int .u8 x.opI, .int .i64 x.a, .int .i64 x.b, .int .i64 x.c, .int .i64 x.n, .int .i64 x.l, .str x.text, rowOf intA x.slots] := by rw [hs1]; exact AS.set_get
  rw [← hs1]
  clear hs1
  refine Tri.mono (hrd s1) ?_
  rintro l s2 hWl2
  clear hrd
  have t2c := (hl1.trans hWl2.le).box _ _ hsc
  have t24 := (hl1.trans hWl2.le).box _ _ hs4
  have t2x := hWl2.le.box _ _ t1x
  repeat' (first | ((first | refine xh ?_ | refine xi ?_); intro bx hbx; (try simp only [fb] at hbx)) | refine Pure.use (hwr) ?_ | refine Pure.head (hwr) ?_ | refine xj ?_ | refine cv_plain ?_ | ((with_reducible refine And.intro ?_ ?_); omega) | refine bo_buildSlice (d' := ⟨⟩) ?_ | refine xk (by kernel_rfl) ?_ | refine xf ?_ (by repeat' first | exact lr _ | assumption | refine ls ?_ ?_ | refine lt ?_ ?_ | simp only [*]; done | simp only [fb, *, not_false_eq_true, and_self]; done | exact lf ‹_› (by simp only [*])) | refine finish_two ?_ (by repeat' first | exact lr _ | assumption | refine ls ?_ ?_ | refine lt ?_ ?_ | simp only [*]; done | simp only [fb, *, not_false_eq_true, and_self]; done | exact lf ‹_› (by simp only [*])) | simp -dsimp only [↓bp, bq, br, seval, tbLawCodG, *] | refine slW_bo ?_ | refine cv_any ?_)
  obtain ⟨L, hL2⟩ : ∃ L : List Int, L = reads x ++ (if writesB x = true then [x.a] else []) := ⟨_, rfl⟩
  have hrl : (reads x).length ≤ 1000000000 := by
    unfold reads readsF
    have := op_all (p := fun op => asciiF (shpOf op).fields) fields_ascii x.op
    have hb := bySign_len x (shpOf x.op).fields
    unfold asciiF at this
    rw [Bool.and_eq_true, decide_eq_true_eq] at this
    have h4 := Nat.le_trans hb (Nat.mul_le_mul_right _ this.1)
    omega
  refine cond_meet mixed (fun ev s3 => ∃ l', ev 10 = l' ∧ WBuf 1 3 s1 s3 l' (L.map intA)) ?_ ?_
  · cases hw : writesB x with
    | true =>
      rw [hw, if_pos rfl] at hL2
      repeat' (first | ((first | refine xh ?_ | refine xi ?_); intro bx hbx; (try simp only [fb] at hbx)) | ((refine app_wb (ys := [intA x.a]) hWl2 tfI (asrc_sl tfIE) (ints_ok [x.a]) (by simp only [List.length_map, List.length_cons, List.length_nil]; omega) (fun v3 σ3 hA => ?_))) | refine xj ?_ | refine cv_plain ?_ | ((with_reducible refine And.intro ?_ ?_); omega) | refine bo_buildSlice (d' := ⟨⟩) ?_ | refine xk (by kernel_rfl) ?_ | refine xf ?_ (by repeat' first | exact lr _ | assumption | refine ls ?_ ?_ | refine lt ?_ ?_ | simp only [*]; done | simp only [fb, *, not_false_eq_true, and_self]; done | exact lf ‹_› (by simp only [*])) | refine finish_two ?_ (by repeat' first | exact lr _ | assumption | refine ls ?_ ?_ | refine lt ?_ ?_ | simp only [*]; done | simp only [fb, *, not_false_eq_true, and_self]; done | exact lf ‹_› (by simp only [*])) | simp -dsimp only [↓bp, bq, br, seval, tbLawCodG, *] | refine slW_bo ?_ | refine cv_any ?_)
      all_goals (try refine ⟨_, rfl, ?_⟩)
      all_goals (first | (rw [hL2, List.map_append]; exact hA.buf) | (rw [List.map_append]; exact hA.buf))
    | false =>
      rw [hw, if_neg (by simp), List.append_nil] at hL2
      repeat' (first | ((first | refine xh ?_ | refine xi ?_); intro bx hbx; (try simp only [fb] at hbx)) | refine xj ?_ | refine cv_plain ?_ | ((with_reducible refine And.intro ?_ ?_); omega) | refine bo_buildSlice (d' := ⟨⟩) ?_ | refine xk (by kernel_rfl) ?_ | refine xf ?_ (by repeat' first | exact lr _ | assumption | refine ls ?_ ?_ | refine lt ?_ ?_ | simp only [*]; done | simp only [fb, *, not_false_eq_true, and_self]; done | exact lf ‹_› (by simp only [*])) | refine finish_two ?_ (by repeat' first | exact lr _ | assumption | refine ls ?_ ?_ | refine lt ?_ ?_ | simp only [*]; done | simp only [fb, *, not_false_eq_true, and_self]; done | exact lf ‹_› (by simp only [*])) | simp -dsimp only [↓bp, bq, br, seval, tbLawCodG, *] | refine slW_bo ?_ | refine cv_any ?_)
      all_goals (try refine ⟨_, rfl, ?_⟩)
      all_goals (first | (rw [hL2]; exact hWl2) | exact hWl2)
  clear t2c t24 t2x hWl2
  rintro v3 s3 ⟨l', h10, hWl3⟩
  simp -dsimp only [↓bp, bq, br, seval, tbLawCodG] at h10
  have hl3 := hl1.trans hWl3.le
  have s3c := hl3.box _ _ hsc
  have s34 := hl3.box _ _ hs4
  have s36 := hl3.box _ _ hs6
  have s3x := hWl3.le.box _ _ t1x
  have hB3 := buf_up hB hl3
  have hLs : ∀ y, y ∈ L → 0 ≤ y ∧ y < e.slots := fun y hy => by
    rw [hL2] at hy
    rcases List.mem_append.1 hy with hy | hy
    · have := reads_ok hri y hy
      simpa [slotOK] using this
    · split at hy
      · rename_i hw
        have := writes_ok hri hw
        simp at hy
        subst hy
        simpa [slotOK] using this
      · cases hy
  have hLlen : L.length ≤ 2000000000 := by rw [hL2, List.length_append]; split <;> simp only [List.length_cons, List.length_nil] <;> omega
  have hlenL : ∀ t, ablt Tryz.prog .len #[t] [l'] = if (el Tryz.prog t).isSome then some (.int .i64 (L.map intA).length) else none := fun t => hWl3.len
  have hnk := nexts_ok hri (pos := ((P + j : Nat) : Int)) (by omega) (by omega)
  have hNe : nexts ⟨es, is, cs⟩ ((P + j : Nat) : Int) = nextsOf x ((P + j : Nat) : Int) := by
    unfold nexts; rw [if_pos (by omega)]; simp only [Int.toNat_natCast, hx]
  rw [hNe] at hnx
  generalize nextsOf x ((P + j : Nat) : Int) = N at *
  clear hWa hRE hB hsc hs4 hs6 hsr t1x hl1 hL2 hrl hwr hNe
  repeat' (first | ((first | refine xh ?_ | refine xi ?_); intro bx hbx; (try simp only [fb] at hbx)) | refine xj ?_ | refine cv_plain ?_ | ((with_reducible refine And.intro ?_ ?_); omega) | refine bo_buildSlice (d' := ⟨⟩) ?_ | refine xk (by kernel_rfl) ?_ | refine xf ?_ (by repeat' first | exact lr _ | assumption | refine ls ?_ ?_ | refine lt ?_ ?_ | simp only [*]; done | simp only [fb, *, not_false_eq_true, and_self]; done | exact lf ‹_› (by simp only [*])) | refine finish_two ?_ (by repeat' first | exact lr _ | assumption | refine ls ?_ ?_ | refine lt ?_ ?_ | simp only [*]; done | simp only [fb, *, not_false_eq_true, and_self]; done | exact lf ‹_› (by simp only [*])) | simp -dsimp only [↓bp, bq, br, seval, tbLawCodG, *] | refine slW_bo ?_ | refine cv_any ?_)
  refine loop_keep mixed (fun n ev => ∃ q : Nat, q ≤ L.length ∧ n = L.length - q ∧ ev 13 = .int .i64 q) L.length
    ⟨0, by omega, by omega, by first | (simp -dsimp only [↓bp, bq, br, seval, tbLawCodG]; done) | (simp -dsimp only [↓bp, bq, br, seval, tbLawCodG]; try rfl)⟩ ?_
  rintro n4 v4 ⟨q, hq, rfl, h13⟩
  simp -dsimp only [↓bp, bq, br, seval, tbLawCodG] at h13
  by_cases hql : q < L.length
  · obtain ⟨r, hv, hrb, _, _⟩ := hWl3.form (by intro h0; rw [List.map_eq_nil_iff] at h0; subst h0; simp at hql)
    rw [ints_flat] at hrb
    subst hv
    obtain ⟨y, hy⟩ : ∃ y, L[q]? = some y := ⟨_, List.getElem?_eq_getElem hql⟩
    have hyb := hLs y (List.mem_of_getElem? hy)
    have k1 : (y < 0) = False := eq_false (by omega)
    have k2 : (e.slots ≤ y) = False := eq_false (by omega)
    have hhd : ((L.map intA).drop (q * 1)).head? = some (.int .i64 y) := ints_head hy
    have hw13 : IntKind.i64.wrap ((q : Int) + 1) = ((q + 1 : Nat) : Int) := by rw [wrap_nat (by omega) (by omega)]; rfl
    have hql' : ((q : Int) < L.length) = True := eq_true (by omega)
    have h0q : ((0 : Int) ≤ q) = True := eq_true (by omega)
    clear hLs hnx hcp hnk hri hR hB3
    repeat' (first | refine xs ?_ ?_ <;> intros | ((first | refine xh ?_ | refine xi ?_); intro bx hbx; (try simp only [fb] at hbx)) | refine xj ?_ | refine cv_plain ?_ | ((with_reducible refine And.intro ?_ ?_); omega) | refine bo_buildSlice (d' := ⟨⟩) ?_ | refine xk (by kernel_rfl) ?_ | refine xf ?_ (by repeat' first | exact lr _ | assumption | refine ls ?_ ?_ | refine lt ?_ ?_ | simp only [*]; done | simp only [fb, *, not_false_eq_true, and_self]; done | exact lf ‹_› (by simp only [*])) | refine finish_two ?_ (by repeat' first | exact lr _ | assumption | refine ls ?_ ?_ | refine lt ?_ ?_ | simp only [*]; done | simp only [fb, *, not_false_eq_true, and_self]; done | exact lf ‹_› (by simp only [*])) | simp -dsimp only [↓bp, bq, br, seval, tbLawCodG, hlenL, hrb, hhd, *] | refine slW_bo ?_ | refine cv_any ?_)
    all_goals exact ⟨L.length - (q + 1), by omega, q + 1, by omega, rfl, rfl⟩
  have : q = L.length := by omega
  subst this
  have hql' : ((L.length : Int) < L.length) = False := eq_false (by omega)
  clear hLs
  repeat' (first | ((first | refine xh ?_ | refine xi ?_); intro bx hbx; (try simp only [fb] at hbx)) | refine Pure.use (hnx) ?_ | refine Pure.head (hnx) ?_ | refine xj ?_ | refine cv_plain ?_ | ((with_reducible refine And.intro ?_ ?_); omega) | refine bo_buildSlice (d' := ⟨⟩) ?_ | refine xk (by kernel_rfl) ?_ | refine xf ?_ (by repeat' first | exact lr _ | assumption | refine ls ?_ ?_ | refine lt ?_ ?_ | simp only [*]; done | simp only [fb, *, not_false_eq_true, and_self]; done | exact lf ‹_› (by simp only [*])) | refine finish_two ?_ (by repeat' first | exact lr _ | assumption | refine ls ?_ ?_ | refine lt ?_ ?_ | simp only [*]; done | simp only [fb, *, not_false_eq_true, and_self]; done | exact lf ‹_› (by simp only [*])) | simp -dsimp only [↓bp, bq, br, seval, tbLawCodG, hlenL, *] | refine slW_bo ?_ | refine cv_any ?_)
  clear hlenL hnx
  refine loop_keep mixed (fun n ev => ∃ q : Nat, q ≤ N.length ∧ n = N.length - q ∧ ev 15 = .int .i64 q) N.length
    ⟨0, by omega, by omega, by first | (simp -dsimp only [↓bp, bq, br, seval, tbLawCodG]; done) | (simp -dsimp only [↓bp, bq, br, seval, tbLawCodG]; try rfl)⟩ ?_
  rintro n5 v5 ⟨q, hq2, rfl, h15⟩
  simp -dsimp only [↓bp, bq, br, seval, tbLawCodG] at h15
  by_cases hqn : q < N.length
  · obtain ⟨y, hy⟩ : ∃ y, N[q]? = some y := ⟨_, List.getElem?_eq_getElem hqn⟩
    have hyb := hnk.2.1 y (List.mem_of_getElem? hy)
    have k1 : (y < (P : Int)) = False := eq_false (by omega)
    have k2 : ((Z : Int) < y) = False := eq_false (by omega)
    have hw15 : IntKind.i64.wrap ((q : Int) + 1) = ((q + 1 : Nat) : Int) := by rw [wrap_nat (by omega) (by omega)]; rfl
    have hqn' : ((q : Int) < N.length) = True := eq_true (by omega)
    have h0q : ((0 : Int) ≤ q) = True := eq_true (by omega)
    have hq01 : q ≤ 1 := by have := hnk.1; omega
    by_cases hq0 : q = 0
    · have kz : ((0 : Int) < (q : Int)) = False := eq_false (by omega)
      clear hnk hcp hri hR hB3 hq0 hq01
      repeat' (first | refine xs ?_ ?_ <;> intros | ((first | refine xh ?_ | refine xi ?_); intro bx hbx; (try simp only [fb] at hbx)) | refine xj ?_ | refine cv_plain ?_ | ((with_reducible refine And.intro ?_ ?_); omega) | refine bo_buildSlice (d' := ⟨⟩) ?_ | refine xk (by kernel_rfl) ?_ | refine xf ?_ (by repeat' first | exact lr _ | assumption | refine ls ?_ ?_ | refine lt ?_ ?_ | simp only [*]; done | simp only [fb, *, not_false_eq_true, and_self]; done | exact lf ‹_› (by simp only [*])) | refine finish_two ?_ (by repeat' first | exact lr _ | assumption | refine ls ?_ ?_ | refine lt ?_ ?_ | simp only [*]; done | simp only [fb, *, not_false_eq_true, and_self]; done | exact lf ‹_› (by simp only [*])) | simp -dsimp only [↓bp, bq, br, seval, tbLawCodG, intA, *] | refine slW_bo ?_ | refine cv_any ?_)
      all_goals exact ⟨N.length - (q + 1), by omega, q + 1, by omega, rfl, rfl⟩
    · have kz : ((0 : Int) < (q : Int)) = True := eq_true (by omega)
      obtain ⟨y0, hy0⟩ : ∃ y0, N[q - 1]? = some y0 := ⟨_, List.getElem?_eq_getElem (by omega)⟩
      have hlt01 : y0 < y := by
        have e1 : q = 1 := by omega
        subst e1
        exact hnk.2.2 y0 y hy0 hy
      have k3 : (y ≤ y0) = False := eq_false (by omega)
      have hwm : IntKind.i64.wrap ((q : Int) - 1) = ((q - 1 : Nat) : Int) := by rw [wrap_nat (by omega) (by omega)]; omega
      have h0m : ((0 : Int) ≤ ((q - 1 : Nat) : Int)) = True := eq_true (by omega)
      clear hnk hcp hri hR hB3 hq0 hq01
      repeat' (first | refine xs ?_ ?_ <;> intros | ((first | refine xh ?_ | refine xi ?_); intro bx hbx; (try simp only [fb] at hbx)) | refine xj ?_ | refine cv_plain ?_ | ((with_reducible refine And.intro ?_ ?_); omega) | refine bo_buildSlice (d' := ⟨⟩) ?_ | refine xk (by kernel_rfl) ?_ | refine xf ?_ (by repeat' first | exact lr _ | assumption | refine ls ?_ ?_ | refine lt ?_ ?_ | simp only [*]; done | simp only [fb, *, not_false_eq_true, and_self]; done | exact lf ‹_› (by simp only [*])) | refine finish_two ?_ (by repeat' first | exact lr _ | assumption | refine ls ?_ ?_ | refine lt ?_ ?_ | simp only [*]; done | simp only [fb, *, not_false_eq_true, and_self]; done | exact lf ‹_› (by simp only [*])) | simp -dsimp only [↓bp, bq, br, seval, tbLawCodG, intA, *] | refine slW_bo ?_ | refine cv_any ?_)
      all_goals exact ⟨N.length - (q + 1), by omega, q + 1, by omega, rfl, rfl⟩
  have : q = N.length := by omega
  subst this
  have hqn' : ((N.length : Int) < N.length) = False := eq_false (by omega)
  have hn2 : ((2 : Int) < N.length) = False := eq_false (by have := hnk.1; omega)
  clear hnk
  have hnext : (W.take (j + 1)).any named = ((W.take j).any named || named x) := by
    rw [take_succ_get _ _ _ hxW, List.any_append]; simp
  have ho5 : (x.opI = 5) = (x.op = 5) := propext ⟨fun h => UInt8.toNat_inj.1 (by have : (5 : UInt8).toNat = 5 := rfl; unfold Ins.opI at h; omega), fun h => by unfold Ins.opI; rw [h]; rfl⟩
  have ho6 : (x.opI = 6) = (x.op = 6) := propext ⟨fun h => UInt8.toNat_inj.1 (by have : (6 : UInt8).toNat = 6 := rfl; unfold Ins.opI at h; omega), fun h => by unfold Ins.opI; rw [h]; rfl⟩
  have ho7 : (x.opI = 7) = (x.op = 7) := propext ⟨fun h => UInt8.toNat_inj.1 (by have : (7 : UInt8).toNat = 7 := rfl; unfold Ins.opI at h; omega), fun h => by unfold Ins.opI; rw [h]; rfl⟩
  have hline := line_or hri
  have hshm : ((W.take (j + 1)).map (shift P)).map Ins.enc = ((W.take j).map (shift P)).map Ins.enc ++ [(shift P x).enc] := by
    rw [take_succ_get _ _ _ hxW, List.map_append, List.map_append]; rfl
  have hwj : IntKind.i64.wrap (((P + j : Nat) : Int) + 1) = ((P + (j + 1) : Nat) : Int) := by rw [wrap_nat (by omega) (by omega)]; rfl
  have hBl : (((W.take j).map (shift P)).map Ins.enc).length ≤ 16384 := by rw [List.length_map, List.length_map, List.length_take]; omega
  have hshL : (shift P x).l = if x.l = 0 then 0 else x.l - P := by unfold shift; split <;> simp_all
  have hshE : flat (shift (P : Int) x).enc = [.int .u8 x.opI, .int .i64 x.a, .int .i64 x.b, .int .i64 x.c, .int .i64 x.n, .int .i64 (shift P x).l, .str x.text, rowOf intA x.slots] := by
    rw [Ins.flat_enc]; unfold shift; split <;> rfl
  have hshI := Ins.isv_enc (shift (P : Int) x)
  have hshN := Ins.len_flat (shift (P : Int) x)
  clear hri hR hLlen hql hql' hq hqn hq2 hxW hx hxm h0pj hlt3
  generalize shift (P : Int) x = xs at *
  cases hA : (W.take j).any named with
  | true =>
    rw [hA, Bool.true_or] at hnext
    rw [hA] at h7
    clear ho5 ho6 ho7
    repeat' (first | ((first | refine xh ?_ | refine xi ?_); intro bx hbx; (try simp only [fb] at hbx)) | refine Pure.use (hcp) ?_ | refine Pure.head (hcp) ?_ | refine xj ?_ | refine cv_plain ?_ | ((with_reducible refine And.intro ?_ ?_); omega) | refine bo_buildSlice (d' := ⟨⟩) ?_ | refine xk (by kernel_rfl) ?_ | refine xf ?_ (by repeat' first | exact lr _ | assumption | refine ls ?_ ?_ | refine lt ?_ ?_ | simp only [*]; done | simp only [fb, *, not_false_eq_true, and_self]; done | exact lf ‹_› (by simp only [*])) | refine finish_two ?_ (by repeat' first | exact lr _ | assumption | refine ls ?_ ?_ | refine lt ?_ ?_ | simp only [*]; done | simp only [fb, *, not_false_eq_true, and_self]; done | exact lf ‹_› (by simp only [*])) | simp -dsimp only [↓bp, bq, br, seval, tbLawCodG, *] | refine slW_bo ?_ | refine cv_any ?_)
    rename Nat => b16
    rename s3.fresh b16 => hf16
    refine cond_meet mixed (fun ev s => s = s3.setBox b16 (flat xs.enc)) ?_ ?_
    · by_cases hl0 : x.l = 0
      · have hl0' := eq_true hl0
        rw [if_pos hl0] at hshL
        repeat' (first | ((first | refine xh ?_ | refine xi ?_); intro bx hbx; (try simp only [fb] at hbx)) | refine xj ?_ | refine cv_plain ?_ | ((with_reducible refine And.intro ?_ ?_); omega) | refine bo_buildSlice (d' := ⟨⟩) ?_ | refine xk (by kernel_rfl) ?_ | refine xf ?_ (by repeat' first | exact lr _ | assumption | refine ls ?_ ?_ | refine lt ?_ ?_ | simp only [*]; done | simp only [fb, *, not_false_eq_true, and_self]; done | exact lf ‹_› (by simp only [*])) | refine finish_two ?_ (by repeat' first | exact lr _ | assumption | refine ls ?_ ?_ | refine lt ?_ ?_ | simp only [*]; done | simp only [fb, *, not_false_eq_true, and_self]; done | exact lf ‹_› (by simp only [*])) | simp -dsimp only [↓bp, bq, br, seval, tbLawCodG, *] | refine slW_bo ?_ | refine cv_any ?_)
        all_goals (rw [hshE, hshL])
        all_goals (first | rfl | (rw [hl0]))
      · have hl0' := eq_false hl0
        rw [if_neg hl0] at hshL
        have hwl : IntKind.i64.wrap (x.l - (P : Int)) = x.l - (P : Int) := wrap_nat (by omega) (by omega)
        have n416 := fresh_ne s34 hf16
        repeat' (first | ((first | refine xh ?_ | refine xi ?_); intro bx hbx; (try simp only [fb] at hbx)) | refine xj ?_ | refine cv_plain ?_ | ((with_reducible refine And.intro ?_ ?_); omega) | refine bo_buildSlice (d' := ⟨⟩) ?_ | refine xk (by kernel_rfl) ?_ | refine xf ?_ (by repeat' first | exact lr _ | assumption | refine ls ?_ ?_ | refine lt ?_ ?_ | simp only [*]; done | simp only [fb, *, not_false_eq_true, and_self]; done | exact lf ‹_› (by simp only [*])) | refine finish_two ?_ (by repeat' first | exact lr _ | assumption | refine ls ?_ ?_ | refine lt ?_ ?_ | simp only [*]; done | simp only [fb, *, not_false_eq_true, and_self]; done | exact lf ‹_› (by simp only [*])) | simp -dsimp only [↓bp, bq, br, seval, tbLawCodG, *] | refine slW_bo ?_ | refine cv_any ?_)
        all_goals (rw [hshE, hshL])
        all_goals rfl
    rintro v5 _ rfl
    have n6 := fresh_ne s36 hf16
    have hB6 := hB3.newBox hf16 (flat xs.enc)
    have q6 : (s3.setBox b16 (flat xs.enc)).box b6 = some [.bs rr 1 5 53, v, encs cs] := by simp only [AS.setBox, if_neg n6.1]; exact s36
    have q16 : (s3.setBox b16 (flat xs.enc)).box b16 = some (flat xs.enc) := AS.set_get
    clear hshE hshL hline s34 s3x s3c hB3 hcp
    generalize AS.setBox s3 b16 (flat xs.enc) = s6 at *
    rw [Ins.flat_enc] at q16
    repeat' (first | ((first | refine xh ?_ | refine xi ?_); intro bx hbx; (try simp only [fb] at hbx)) | ((refine build_one tf23.2.2.2.2.2.2 hshI hshN (by omega) ?_)) | ((refine app_buf (ys := [xs.enc]) hB6 tf23.2.2.2.2.2.2 (asrc_sl tfMn) (fun a ha => by simp at ha; subst ha; exact hshN) (by simp only [List.length_cons, List.length_nil]; omega) (fun v7 s7 hB7 hx7 => ?_); have q67 : s7.box b6 = some [.bs rr 1 5 53, v, encs cs] := by rw [hx7]; exact q6)) | refine xj ?_ | refine cv_plain ?_ | ((with_reducible refine And.intro ?_ ?_); omega) | refine bo_buildSlice (d' := ⟨⟩) ?_ | refine xk (by kernel_rfl) ?_ | refine xf ?_ (by repeat' first | exact lr _ | assumption | refine ls ?_ ?_ | refine lt ?_ ?_ | simp only [*]; done | simp only [fb, *, not_false_eq_true, and_self]; done | exact lf ‹_› (by simp only [*])) | refine finish_two ?_ (by repeat' first | exact lr _ | assumption | refine ls ?_ ?_ | refine lt ?_ ?_ | simp only [*]; done | simp only [fb, *, not_false_eq_true, and_self]; done | exact lf ‹_› (by simp only [*])) | simp -dsimp only [↓bp, bq, br, seval, tbLawCodG, *] | refine slW_bo ?_ | refine cv_any ?_)
    refine ⟨⟨hB7.isv, by rw [hB7.flat]; rfl⟩, Z - P - (j + 1), by omega, j + 1, v7, by omega, rfl, rfl, by rw [hnext], by rw [hB7.flat]; rfl, ?_⟩
    rw [hshm]
    exact hB7.setBox hU6 _
  | false =>
    rw [hA, Bool.false_or] at hnext
    rw [hA] at h7
    by_cases c5 : x.op = 5
    · rw [eq_true c5] at ho5
      rw [show named x = true by simp [named, c5]] at hnext
      clear ho6 ho7 c5
      repeat' (first | ((first | refine xh ?_ | refine xi ?_); intro bx hbx; (try simp only [fb] at hbx)) | refine Pure.use (hcp) ?_ | refine Pure.head (hcp) ?_ | refine xj ?_ | refine cv_plain ?_ | ((with_reducible refine And.intro ?_ ?_); omega) | refine bo_buildSlice (d' := ⟨⟩) ?_ | refine xk (by kernel_rfl) ?_ | refine xf ?_ (by repeat' first | exact lr _ | assumption | refine ls ?_ ?_ | refine lt ?_ ?_ | simp only [*]; done | simp only [fb, *, not_false_eq_true, and_self]; done | exact lf ‹_› (by simp only [*])) | refine finish_two ?_ (by repeat' first | exact lr _ | assumption | refine ls ?_ ?_ | refine lt ?_ ?_ | simp only [*]; done | simp only [fb, *, not_false_eq_true, and_self]; done | exact lf ‹_› (by simp only [*])) | simp -dsimp only [↓bp, bq, br, seval, tbLawCodG, *] | refine slW_bo ?_ | refine cv_any ?_)
      rename Nat => b16
      rename s3.fresh b16 => hf16
      refine cond_meet mixed (fun ev s => s = s3.setBox b16 (flat xs.enc)) ?_ ?_
      · by_cases hl0 : x.l = 0
        · have hl0' := eq_true hl0
          rw [if_pos hl0] at hshL
          repeat' (first | ((first | refine xh ?_ | refine xi ?_); intro bx hbx; (try simp only [fb] at hbx)) | refine xj ?_ | refine cv_plain ?_ | ((with_reducible refine And.intro ?_ ?_); omega) | refine bo_buildSlice (d' := ⟨⟩) ?_ | refine xk (by kernel_rfl) ?_ | refine xf ?_ (by repeat' first | exact lr _ | assumption | refine ls ?_ ?_ | refine lt ?_ ?_ | simp only [*]; done | simp only [fb, *, not_false_eq_true, and_self]; done | exact lf ‹_› (by simp only [*])) | refine finish_two ?_ (by repeat' first | exact lr _ | assumption | refine ls ?_ ?_ | refine lt ?_ ?_ | simp only [*]; done | simp only [fb, *, not_false_eq_true, and_self]; done | exact lf ‹_› (by simp only [*])) | simp -dsimp only [↓bp, bq, br, seval, tbLawCodG, *] | refine slW_bo ?_ | refine cv_any ?_)
          all_goals (rw [hshE, hshL])
          all_goals (first | rfl | (rw [hl0]))
        · have hl0' := eq_false hl0
          rw [if_neg hl0] at hshL
          have hwl : IntKind.i64.wrap (x.l - (P : Int)) = x.l - (P : Int) := wrap_nat (by omega) (by omega)
          have n416 := fresh_ne s34 hf16
          repeat' (first | ((first | refine xh ?_ | refine xi ?_); intro bx hbx; (try simp only [fb] at hbx)) | refine xj ?_ | refine cv_plain ?_ | ((with_reducible refine And.intro ?_ ?_); omega) | refine bo_buildSlice (d' := ⟨⟩) ?_ | refine xk (by kernel_rfl) ?_ | refine xf ?_ (by repeat' first | exact lr _ | assumption | refine ls ?_ ?_ | refine lt ?_ ?_ | simp only [*]; done | simp only [fb, *, not_false_eq_true, and_self]; done | exact lf ‹_› (by simp only [*])) | refine finish_two ?_ (by repeat' first | exact lr _ | assumption | refine ls ?_ ?_ | refine lt ?_ ?_ | simp only [*]; done | simp only [fb, *, not_false_eq_true, and_self]; done | exact lf ‹_› (by simp only [*])) | simp -dsimp only [↓bp, bq, br, seval, tbLawCodG, *] | refine slW_bo ?_ | refine cv_any ?_)
          all_goals (rw [hshE, hshL])
          all_goals rfl
      rintro v5 _ rfl
      have n6 := fresh_ne s36 hf16
      have hB6 := hB3.newBox hf16 (flat xs.enc)
      have q6 : (s3.setBox b16 (flat xs.enc)).box b6 = some [.bs rr 1 5 53, v, encs cs] := by simp only [AS.setBox, if_neg n6.1]; exact s36
      have q16 : (s3.setBox b16 (flat xs.enc)).box b16 = some (flat xs.enc) := AS.set_get
      clear hshE hshL hline s34 s3x s3c hB3 hcp
      generalize AS.setBox s3 b16 (flat xs.enc) = s6 at *
      rw [Ins.flat_enc] at q16
      repeat' (first | ((first | refine xh ?_ | refine xi ?_); intro bx hbx; (try simp only [fb] at hbx)) | ((refine build_one tf23.2.2.2.2.2.2 hshI hshN (by omega) ?_)) | ((refine app_buf (ys := [xs.enc]) hB6 tf23.2.2.2.2.2.2 (asrc_sl tfMn) (fun a ha => by simp at ha; subst ha; exact hshN) (by simp only [List.length_cons, List.length_nil]; omega) (fun v7 s7 hB7 hx7 => ?_); have q67 : s7.box b6 = some [.bs rr 1 5 53, v, encs cs] := by rw [hx7]; exact q6)) | refine xj ?_ | refine cv_plain ?_ | ((with_reducible refine And.intro ?_ ?_); omega) | refine bo_buildSlice (d' := ⟨⟩) ?_ | refine xk (by kernel_rfl) ?_ | refine xf ?_ (by repeat' first | exact lr _ | assumption | refine ls ?_ ?_ | refine lt ?_ ?_ | simp only [*]; done | simp only [fb, *, not_false_eq_true, and_self]; done | exact lf ‹_› (by simp only [*])) | refine finish_two ?_ (by repeat' first | exact lr _ | assumption | refine ls ?_ ?_ | refine lt ?_ ?_ | simp only [*]; done | simp only [fb, *, not_false_eq_true, and_self]; done | exact lf ‹_› (by simp only [*])) | simp -dsimp only [↓bp, bq, br, seval, tbLawCodG, *] | refine slW_bo ?_ | refine cv_any ?_)
      refine ⟨⟨hB7.isv, by rw [hB7.flat]; rfl⟩, Z - P - (j + 1), by omega, j + 1, v7, by omega, rfl, rfl, by rw [hnext], by rw [hB7.flat]; rfl, ?_⟩
      rw [hshm]
      exact hB7.setBox hU6 _
    rw [eq_false c5] at ho5
    by_cases c6 : x.op = 6
    · rw [eq_true c6] at ho6
      rw [show named x = true by simp [named, c6]] at hnext
      clear ho7 c5 c6
      repeat' (first | ((first | refine xh ?_ | refine xi ?_); intro bx hbx; (try simp only [fb] at hbx)) | refine Pure.use (hcp) ?_ | refine Pure.head (hcp) ?_ | refine xj ?_ | refine cv_plain ?_ | ((with_reducible refine And.intro ?_ ?_); omega) | refine bo_buildSlice (d' := ⟨⟩) ?_ | refine xk (by kernel_rfl) ?_ | refine xf ?_ (by repeat' first | exact lr _ | assumption | refine ls ?_ ?_ | refine lt ?_ ?_ | simp only [*]; done | simp only [fb, *, not_false_eq_true, and_self]; done | exact lf ‹_› (by simp only [*])) | refine finish_two ?_ (by repeat' first | exact lr _ | assumption | refine ls ?_ ?_ | refine lt ?_ ?_ | simp only [*]; done | simp only [fb, *, not_false_eq_true, and_self]; done | exact lf ‹_› (by simp only [*])) | simp -dsimp only [↓bp, bq, br, seval, tbLawCodG, *] | refine slW_bo ?_ | refine cv_any ?_)
      rename Nat => b16
      rename s3.fresh b16 => hf16
      refine cond_meet mixed (fun ev s => s = s3.setBox b16 (flat xs.enc)) ?_ ?_
      · by_cases hl0 : x.l = 0
        · have hl0' := eq_true hl0
          rw [if_pos hl0] at hshL
          repeat' (first | ((first | refine xh ?_ | refine xi ?_); intro bx hbx; (try simp only [fb] at hbx)) | refine xj ?_ | refine cv_plain ?_ | ((with_reducible refine And.intro ?_ ?_); omega) | refine bo_buildSlice (d' := ⟨⟩) ?_ | refine xk (by kernel_rfl) ?_ | refine xf ?_ (by repeat' first | exact lr _ | assumption | refine ls ?_ ?_ | refine lt ?_ ?_ | simp only [*]; done | simp only [fb, *, not_false_eq_true, and_self]; done | exact lf ‹_› (by simp only [*])) | refine finish_two ?_ (by repeat' first | exact lr _ | assumption | refine ls ?_ ?_ | refine lt ?_ ?_ | simp only [*]; done | simp only [fb, *, not_false_eq_true, and_self]; done | exact lf ‹_› (by simp only [*])) | simp -dsimp only [↓bp, bq, br, seval, tbLawCodG, *] | refine slW_bo ?_ | refine cv_any ?_)
          all_goals (rw [hshE, hshL])
          all_goals (first | rfl | (rw [hl0]))
        · have hl0' := eq_false hl0
          rw [if_neg hl0] at hshL
          have hwl : IntKind.i64.wrap (x.l - (P : Int)) = x.l - (P : Int) := wrap_nat (by omega) (by omega)
          have n416 := fresh_ne s34 hf16
          repeat' (first | ((first | refine xh ?_ | refine xi ?_); intro bx hbx; (try simp only [fb] at hbx)) | refine xj ?_ | refine cv_plain ?_ | ((with_reducible refine And.intro ?_ ?_); omega) | refine bo_buildSlice (d' := ⟨⟩) ?_ | refine xk (by kernel_rfl) ?_ | refine xf ?_ (by repeat' first | exact lr _ | assumption | refine ls ?_ ?_ | refine lt ?_ ?_ | simp only [*]; done | simp only [fb, *, not_false_eq_true, and_self]; done | exact lf ‹_› (by simp only [*])) | refine finish_two ?_ (by repeat' first | exact lr _ | assumption | refine ls ?_ ?_ | refine lt ?_ ?_ | simp only [*]; done | simp only [fb, *, not_false_eq_true, and_self]; done | exact lf ‹_› (by simp only [*])) | simp -dsimp only [↓bp, bq, br, seval, tbLawCodG, *] | refine slW_bo ?_ | refine cv_any ?_)
          all_goals (rw [hshE, hshL])
          all_goals rfl
      rintro v5 _ rfl
      have n6 := fresh_ne s36 hf16
      have hB6 := hB3.newBox hf16 (flat xs.enc)
      have q6 : (s3.setBox b16 (flat xs.enc)).box b6 = some [.bs rr 1 5 53, v, encs cs] := by simp only [AS.setBox, if_neg n6.1]; exact s36
      have q16 : (s3.setBox b16 (flat xs.enc)).box b16 = some (flat xs.enc) := AS.set_get
      clear hshE hshL hline s34 s3x s3c hB3 hcp
      generalize AS.setBox s3 b16 (flat xs.enc) = s6 at *
      rw [Ins.flat_enc] at q16
      repeat' (first | ((first | refine xh ?_ | refine xi ?_); intro bx hbx; (try simp only [fb] at hbx)) | ((refine build_one tf23.2.2.2.2.2.2 hshI hshN (by omega) ?_)) | ((refine app_buf (ys := [xs.enc]) hB6 tf23.2.2.2.2.2.2 (asrc_sl tfMn) (fun a ha => by simp at ha; subst ha; exact hshN) (by simp only [List.length_cons, List.length_nil]; omega) (fun v7 s7 hB7 hx7 => ?_); have q67 : s7.box b6 = some [.bs rr 1 5 53, v, encs cs] := by rw [hx7]; exact q6)) | refine xj ?_ | refine cv_plain ?_ | ((with_reducible refine And.intro ?_ ?_); omega) | refine bo_buildSlice (d' := ⟨⟩) ?_ | refine xk (by kernel_rfl) ?_ | refine xf ?_ (by repeat' first | exact lr _ | assumption | refine ls ?_ ?_ | refine lt ?_ ?_ | simp only [*]; done | simp only [fb, *, not_false_eq_true, and_self]; done | exact lf ‹_› (by simp only [*])) | refine finish_two ?_ (by repeat' first | exact lr _ | assumption | refine ls ?_ ?_ | refine lt ?_ ?_ | simp only [*]; done | simp only [fb, *, not_false_eq_true, and_self]; done | exact lf ‹_› (by simp only [*])) | simp -dsimp only [↓bp, bq, br, seval, tbLawCodG, *] | refine slW_bo ?_ | refine cv_any ?_)
      refine ⟨⟨hB7.isv, by rw [hB7.flat]; rfl⟩, Z - P - (j + 1), by omega, j + 1, v7, by omega, rfl, rfl, by rw [hnext], by rw [hB7.flat]; rfl, ?_⟩
      rw [hshm]
      exact hB7.setBox hU6 _
    rw [eq_false c6] at ho6
    by_cases c7 : x.op = 7
    · rw [eq_true c7] at ho7
      rw [show named x = true by simp [named, c7]] at hnext
      clear c5 c6 c7
      repeat' (first | ((first | refine xh ?_ | refine xi ?_); intro bx hbx; (try simp only [fb] at hbx)) | refine Pure.use (hcp) ?_ | refine Pure.head (hcp) ?_ | refine xj ?_ | refine cv_plain ?_ | ((with_reducible refine And.intro ?_ ?_); omega) | refine bo_buildSlice (d' := ⟨⟩) ?_ | refine xk (by kernel_rfl) ?_ | refine xf ?_ (by repeat' first | exact lr _ | assumption | refine ls ?_ ?_ | refine lt ?_ ?_ | simp only [*]; done | simp only [fb, *, not_false_eq_true, and_self]; done | exact lf ‹_› (by simp only [*])) | refine finish_two ?_ (by repeat' first | exact lr _ | assumption | refine ls ?_ ?_ | refine lt ?_ ?_ | simp only [*]; done | simp only [fb, *, not_false_eq_true, and_self]; done | exact lf ‹_› (by simp only [*])) | simp -dsimp only [↓bp, bq, br, seval, tbLawCodG, *] | refine slW_bo ?_ | refine cv_any ?_)
      rename Nat => b16
      rename s3.fresh b16 => hf16
      refine cond_meet mixed (fun ev s => s = s3.setBox b16 (flat xs.enc)) ?_ ?_
      · by_cases hl0 : x.l = 0
        · have hl0' := eq_true hl0
          rw [if_pos hl0] at hshL
          repeat' (first | ((first | refine xh ?_ | refine xi ?_); intro bx hbx; (try simp only [fb] at hbx)) | refine xj ?_ | refine cv_plain ?_ | ((with_reducible refine And.intro ?_ ?_); omega) | refine bo_buildSlice (d' := ⟨⟩) ?_ | refine xk (by kernel_rfl) ?_ | refine xf ?_ (by repeat' first | exact lr _ | assumption | refine ls ?_ ?_ | refine lt ?_ ?_ | simp only [*]; done | simp only [fb, *, not_false_eq_true, and_self]; done | exact lf ‹_› (by simp only [*])) | refine finish_two ?_ (by repeat' first | exact lr _ | assumption | refine ls ?_ ?_ | refine lt ?_ ?_ | simp only [*]; done | simp only [fb, *, not_false_eq_true, and_self]; done | exact lf ‹_› (by simp only [*])) | simp -dsimp only [↓bp, bq, br, seval, tbLawCodG, *] | refine slW_bo ?_ | refine cv_any ?_)
          all_goals (rw [hshE, hshL])
          all_goals (first | rfl | (rw [hl0]))
        · have hl0' := eq_false hl0
          rw [if_neg hl0] at hshL
          have hwl : IntKind.i64.wrap (x.l - (P : Int)) = x.l - (P : Int) := wrap_nat (by omega) (by omega)
          have n416 := fresh_ne s34 hf16
          repeat' (first | ((first | refine xh ?_ | refine xi ?_); intro bx hbx; (try simp only [fb] at hbx)) | refine xj ?_ | refine cv_plain ?_ | ((with_reducible refine And.intro ?_ ?_); omega) | refine bo_buildSlice (d' := ⟨⟩) ?_ | refine xk (by kernel_rfl) ?_ | refine xf ?_ (by repeat' first | exact lr _ | assumption | refine ls ?_ ?_ | refine lt ?_ ?_ | simp only [*]; done | simp only [fb, *, not_false_eq_true, and_self]; done | exact lf ‹_› (by simp only [*])) | refine finish_two ?_ (by repeat' first | exact lr _ | assumption | refine ls ?_ ?_ | refine lt ?_ ?_ | simp only [*]; done | simp only [fb, *, not_false_eq_true, and_self]; done | exact lf ‹_› (by simp only [*])) | simp -dsimp only [↓bp, bq, br, seval, tbLawCodG, *] | refine slW_bo ?_ | refine cv_any ?_)
          all_goals (rw [hshE, hshL])
          all_goals rfl
      rintro v5 _ rfl
      have n6 := fresh_ne s36 hf16
      have hB6 := hB3.newBox hf16 (flat xs.enc)
      have q6 : (s3.setBox b16 (flat xs.enc)).box b6 = some [.bs rr 1 5 53, v, encs cs] := by simp only [AS.setBox, if_neg n6.1]; exact s36
      have q16 : (s3.setBox b16 (flat xs.enc)).box b16 = some (flat xs.enc) := AS.set_get
      clear hshE hshL hline s34 s3x s3c hB3 hcp
      generalize AS.setBox s3 b16 (flat xs.enc) = s6 at *
      rw [Ins.flat_enc] at q16
      repeat' (first | ((first | refine xh ?_ | refine xi ?_); intro bx hbx; (try simp only [fb] at hbx)) | ((refine build_one tf23.2.2.2.2.2.2 hshI hshN (by omega) ?_)) | ((refine app_buf (ys := [xs.enc]) hB6 tf23.2.2.2.2.2.2 (asrc_sl tfMn) (fun a ha => by simp at ha; subst ha; exact hshN) (by simp only [List.length_cons, List.length_nil]; omega) (fun v7 s7 hB7 hx7 => ?_); have q67 : s7.box b6 = some [.bs rr 1 5 53, v, encs cs] := by rw [hx7]; exact q6)) | refine xj ?_ | refine cv_plain ?_ | ((with_reducible refine And.intro ?_ ?_); omega) | refine bo_buildSlice (d' := ⟨⟩) ?_ | refine xk (by kernel_rfl) ?_ | refine xf ?_ (by repeat' first | exact lr _ | assumption | refine ls ?_ ?_ | refine lt ?_ ?_ | simp only [*]; done | simp only [fb, *, not_false_eq_true, and_self]; done | exact lf ‹_› (by simp only [*])) | refine finish_two ?_ (by repeat' first | exact lr _ | assumption | refine ls ?_ ?_ | refine lt ?_ ?_ | simp only [*]; done | simp only [fb, *, not_false_eq_true, and_self]; done | exact lf ‹_› (by simp only [*])) | simp -dsimp only [↓bp, bq, br, seval, tbLawCodG, *] | refine slW_bo ?_ | refine cv_any ?_)
      refine ⟨⟨hB7.isv, by rw [hB7.flat]; rfl⟩, Z - P - (j + 1), by omega, j + 1, v7, by omega, rfl, rfl, by rw [hnext], by rw [hB7.flat]; rfl, ?_⟩
      rw [hshm]
      exact hB7.setBox hU6 _
    · rw [eq_false c7] at ho7
      rw [show named x = false by simp [named, c5, c6, c7]] at hnext
      clear c5 c6 c7
      repeat' (first | ((first | refine xh ?_ | refine xi ?_); intro bx hbx; (try simp only [fb] at hbx)) | refine Pure.use (hcp) ?_ | refine Pure.head (hcp) ?_ | refine xj ?_ | refine cv_plain ?_ | ((with_reducible refine And.intro ?_ ?_); omega) | refine bo_buildSlice (d' := ⟨⟩) ?_ | refine xk (by kernel_rfl) ?_ | refine xf ?_ (by repeat' first | exact lr _ | assumption | refine ls ?_ ?_ | refine lt ?_ ?_ | simp only [*]; done | simp only [fb, *, not_false_eq_true, and_self]; done | exact lf ‹_› (by simp only [*])) | refine finish_two ?_ (by repeat' first | exact lr _ | assumption | refine ls ?_ ?_ | refine lt ?_ ?_ | simp only [*]; done | simp only [fb, *, not_false_eq_true, and_self]; done | exact lf ‹_› (by simp only [*])) | simp -dsimp only [↓bp, bq, br, seval, tbLawCodG, *] | refine slW_bo ?_ | refine cv_any ?_)
      rename Nat => b16
      rename s3.fresh b16 => hf16
      refine cond_meet mixed (fun ev s => s = s3.setBox b16 (flat xs.enc)) ?_ ?_
      · by_cases hl0 : x.l = 0
        · have hl0' := eq_true hl0
          rw [if_pos hl0] at hshL
          repeat' (first | ((first | refine xh ?_ | refine xi ?_); intro bx hbx; (try simp only [fb] at hbx)) | refine xj ?_ | refine cv_plain ?_ | ((with_reducible refine And.intro ?_ ?_); omega) | refine bo_buildSlice (d' := ⟨⟩) ?_ | refine xk (by kernel_rfl) ?_ | refine xf ?_ (by repeat' first | exact lr _ | assumption | refine ls ?_ ?_ | refine lt ?_ ?_ | simp only [*]; done | simp only [fb, *, not_false_eq_true, and_self]; done | exact lf ‹_› (by simp only [*])) | refine finish_two ?_ (by repeat' first | exact lr _ | assumption | refine ls ?_ ?_ | refine lt ?_ ?_ | simp only [*]; done | simp only [fb, *, not_false_eq_true, and_self]; done | exact lf ‹_› (by simp only [*])) | simp -dsimp only [↓bp, bq, br, seval, tbLawCodG, *] | refine slW_bo ?_ | refine cv_any ?_)
          all_goals (rw [hshE, hshL])
          all_goals (first | rfl | (rw [hl0]))
        · have hl0' := eq_false hl0
          rw [if_neg hl0] at hshL
          have hwl : IntKind.i64.wrap (x.l - (P : Int)) = x.l - (P : Int) := wrap_nat (by omega) (by omega)
          have n416 := fresh_ne s34 hf16
          repeat' (first | ((first | refine xh ?_ | refine xi ?_); intro bx hbx; (try simp only [fb] at hbx)) | refine xj ?_ | refine cv_plain ?_ | ((with_reducible refine And.intro ?_ ?_); omega) | refine bo_buildSlice (d' := ⟨⟩) ?_ | refine xk (by kernel_rfl) ?_ | refine xf ?_ (by repeat' first | exact lr _ | assumption | refine ls ?_ ?_ | refine lt ?_ ?_ | simp only [*]; done | simp only [fb, *, not_false_eq_true, and_self]; done | exact lf ‹_› (by simp only [*])) | refine finish_two ?_ (by repeat' first | exact lr _ | assumption | refine ls ?_ ?_ | refine lt ?_ ?_ | simp only [*]; done | simp only [fb, *, not_false_eq_true, and_self]; done | exact lf ‹_› (by simp only [*])) | simp -dsimp only [↓bp, bq, br, seval, tbLawCodG, *] | refine slW_bo ?_ | refine cv_any ?_)
          all_goals (rw [hshE, hshL])
          all_goals rfl
      rintro v5 _ rfl
      have n6 := fresh_ne s36 hf16
      have hB6 := hB3.newBox hf16 (flat xs.enc)
      have q6 : (s3.setBox b16 (flat xs.enc)).box b6 = some [.bs rr 1 5 53, v, encs cs] := by simp only [AS.setBox, if_neg n6.1]; exact s36
      have q16 : (s3.setBox b16 (flat xs.enc)).box b16 = some (flat xs.enc) := AS.set_get
      clear hshE hshL hline s34 s3x s3c hB3 hcp
      generalize AS.setBox s3 b16 (flat xs.enc) = s6 at *
      rw [Ins.flat_enc] at q16
      repeat' (first | ((first | refine xh ?_ | refine xi ?_); intro bx hbx; (try simp only [fb] at hbx)) | ((refine build_one tf23.2.2.2.2.2.2 hshI hshN (by omega) ?_)) | ((refine app_buf (ys := [xs.enc]) hB6 tf23.2.2.2.2.2.2 (asrc_sl tfMn) (fun a ha => by simp at ha; subst ha; exact hshN) (by simp only [List.length_cons, List.length_nil]; omega) (fun v7 s7 hB7 hx7 => ?_); have q67 : s7.box b6 = some [.bs rr 1 5 53, v, encs cs] := by rw [hx7]; exact q6)) | refine xj ?_ | refine cv_plain ?_ | ((with_reducible refine And.intro ?_ ?_); omega) | refine bo_buildSlice (d' := ⟨⟩) ?_ | refine xk (by kernel_rfl) ?_ | refine xf ?_ (by repeat' first | exact lr _ | assumption | refine ls ?_ ?_ | refine lt ?_ ?_ | simp only [*]; done | simp only [fb, *, not_false_eq_true, and_self]; done | exact lf ‹_› (by simp only [*])) | refine finish_two ?_ (by repeat' first | exact lr _ | assumption | refine ls ?_ ?_ | refine lt ?_ ?_ | simp only [*]; done | simp only [fb, *, not_false_eq_true, and_self]; done | exact lf ‹_› (by simp only [*])) | simp -dsimp only [↓bp, bq, br, seval, tbLawCodG, *] | refine slW_bo ?_ | refine cv_any ?_)
      refine ⟨⟨hB7.isv, by rw [hB7.flat]; rfl⟩, Z - P - (j + 1), by omega, j + 1, v7, by omega, rfl, rfl, by rw [hnext], by rw [hB7.flat]; rfl, ?_⟩
      rw [hshm]
      exact hB7.setBox hU6 _
end Go.Proofs.YtjmdaeabllkgnaaGreatDoor
