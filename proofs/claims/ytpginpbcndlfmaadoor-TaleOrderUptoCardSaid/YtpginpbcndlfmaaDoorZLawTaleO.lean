/- TaleOrder on abstract values: all cases. -/
import Derived.Test.YtpginpbcndlfmaaDoorZLawTaleB
import Derived.Test.YtpginpbcndlfmaaDoorZLawTaleC
import Derived.Test.YtpginpbcndlfmaaDoorZLawTaleD
set_option linter.unusedVariables false
set_option linter.unusedSimpArgs false
set_option maxRecDepth 20000
set_option linter.defProp false
namespace Go.Proofs.YtpginpbcndlfmaaDoor
open Go Go.Av
def tbLawTaleO := And.intro (And.intro (And.intro (And.intro @tf3 @tf4) (And.intro @tf5 (And.intro @tf9 @tf31))) (And.intro (And.intro @tf22 @tf23) (And.intro @tf24 (And.intro @tf26 @isv_encs)))) (And.intro (And.intro (And.intro @flat_encs @len_encs) (And.intro @Seen.flat_enc (And.intro @Seen.isv_enc @Seen.fold_enc))) (And.intro (And.intro @isv_encE (And.intro @flat_encE @len_encE)) (And.intro @isv_encN (And.intro @flat_encN @len_encN))))
variable {G : Nat → AV}
theorem slice_T (l : List Term) (p : Nat) (h : p ≤ l.length) : aslice Tryd.prog 22 (encs l) none (some (.int .i64 (p : Int))) = some (encs (l.take p)) := by
  rw [sl_encs _ _ _ tkT]
  have e1 : abnd (some (.int .i64 (p : Int))) l.length = some p := by simp [abnd]
  have e2 : abnd none 0 = some 0 := rfl
  rw [e1, e2]
  simp only [List.drop_zero]
  rw [if_pos ⟨by omega, h⟩]
theorem slice_E (l : List Ended) (p : Nat) (h : p ≤ l.length) : aslice Tryd.prog 23 (encE l) none (some (.int .i64 (p : Int))) = some (encE (l.take p)) := by
  rw [sl_encE _ _ _ tkE]
  have e1 : abnd (some (.int .i64 (p : Int))) l.length = some p := by simp [abnd]
  have e2 : abnd none 0 = some 0 := rfl
  rw [e1, e2]
  simp only [List.drop_zero]
  rw [if_pos ⟨by omega, h⟩]
theorem pick_at (m : Int) (k : Nat) (hk : k ≤ 100000000) : ∃ p : Nat, p ≤ k ∧ Pure Tryd.prog G 12 [.int .i64 m, .int .i64 ((k : Int) + 1)] (.int .i64 (p : Int)) := by
  have h1 := pickI_lt m ((k : Int) + 1) (by omega)
  have h2 := pick_pure G m ((k : Int) + 1) (by omega) (by omega)
  refine ⟨(pickI m ((k : Int) + 1)).toNat, by omega, ?_⟩
  rw [show (((pickI m ((k : Int) + 1)).toNat : Nat) : Int) = pickI m ((k : Int) + 1) by omega]
  exact h2
theorem tale_great {a b c : Seen} {m n : Int} {x y z : Bool} (h : x = true ∨ x = false ∧ y = true ∨ x = false ∧ y = false ∧ z = true) (w : Pure Tryd.prog G 5 [] (.bool true)) (ga : Pure Tryd.prog G 6 [a.enc] (.bool x)) (gb : Pure Tryd.prog G 6 [b.enc] (.bool y)) (gc : Pure Tryd.prog G 6 [c.enc] (.bool z)) : Pure Tryd.prog G 3 [a.enc, b.enc, c.enc, .int .i64 m, .int .i64 n] (.bool true) := by
  rcases h with rfl | ⟨rfl, rfl⟩ | ⟨rfl, rfl, rfl⟩
  all_goals
    intro σ
    refine Tri.of_awp mixed Tryd.func3 rfl (by kernel_rfl) (by kernel_rfl) (by simp [Tryd.ntmps3]) Tryd.results3 ?_
    repeat' (first
    | with_reducible refine condW_both (fun _ _ => ?_) (fun _ _ => ?_)
    | with_reducible refine gW_both (fun _ _ => ?_) (fun _ _ => ?_)
    | with_reducible refine condW_split (fun _ => ?_) (fun _ => ?_)
    | with_reducible refine gW_split (fun _ => ?_) (fun _ => ?_)
    | with_reducible refine pickW_split (fun _ => ?_) (fun _ => ?_)
    | (refine newW_intro ?_; intro bx hbx; (try simp only [fresh_box, fresh_tip, fresh_ty] at hbx))
    | (refine newT_plain ?_; intro bx hbx; (try simp only [fresh_box, fresh_tip, fresh_ty] at hbx))
    | refine Pure.use (w) ?_
    | refine Pure.head (w) ?_
    | refine Pure.use (ga) ?_
    | refine Pure.head (ga) ?_
    | refine Pure.use (gb) ?_
    | refine Pure.head (gb) ?_
    | refine Pure.use (gc) ?_
    | refine Pure.head (gc) ?_
    | refine storeX_w ?_
    | ((with_reducible refine And.intro ?_ ?_); omega)
    | refine bo_buildSlice (d' := ⟨⟩) ?_
    | (refine draw_all (by kernel_rfl) ?_)
    | refine finish_pure ?_ (by repeat' (first | exact AS.le.refl _ | assumption | (refine le_set (by first | assumption | (simp only [*]; done) | exact AS.le.fresh (by assumption) (by simp only [*])) ?_) | (refine le_ty (by first | assumption | (simp only [*]; done) | exact AS.le.fresh (by assumption) (by simp only [*])) ?_)))
    | simp -dsimp only [↓bp, bq, br, afin, bsk, cWrites, opsWrites, pieceGh, rsk, ne_eq, if_true, if_false, exists_eq_left', forall_const, forall_eq, Nat.reduceLT, Int.reduceSub, Nat.reduceAdd, Nat.reduceSub, Nat.reduceMul, Nat.reduceLeDiff, Nat.reduceEqDiff, Nat.reduceBEq, Nat.reduceBNe, Int.reduceNeg, Int.reduceAdd, Int.reduceMul, Int.reduceLE, Int.reduceLT, Int.reduceEq, Int.reduceToNat, reduceIte, reduceCtorEq, tbLawTaleO, *])
    all_goals rfl
theorem tale_law (hg : GlobT G) (a b c : Seen) (m n : Int) (ha : a.bulk ≤ 2000000) (hb : b.bulk ≤ 2000000) (hc : c.bulk ≤ 2000000) (ra : a.Rng) (rb : b.Rng) : Pure Tryd.prog G 3 [a.enc, b.enc, c.enc, .int .i64 m, .int .i64 n] (.bool true) := by
  have w := awake_pure hg
  have ga := greatS_pure G a ha
  have gb := greatS_pure G b hb
  have gc := greatS_pure G c hc
  by_cases hgo : greatS a = true ∨ greatS a = false ∧ greatS b = true ∨ greatS a = false ∧ greatS b = false ∧ greatS c = true
  · exact tale_great hgo w ga gb gc
  · have e : greatS a = false ∧ greatS b = false ∧ greatS c = false := by
      cases h1 : greatS a <;> cases h2 : greatS b <;> cases h3 : greatS c <;> simp_all
    rw [e.1] at ga
    rw [e.2.1] at gb
    rw [e.2.2] at gc
    clear e hgo
    have l1 : a.out.length ≤ 2000000 := by have := len_le_bulks a.out; unfold Seen.bulk at ha; omega
    have l2 : a.ended.length ≤ 2000000 := by have := lenE_le a.ended; unfold Seen.bulk at ha; omega
    obtain ⟨p, hp, pk1⟩ := pick_at (G := G) m a.out.length (by omega)
    obtain ⟨q, hq, pk2⟩ := pick_at (G := G) n a.ended.length (by omega)
    have hcb : (cutS a p q).bulk ≤ 100000000 := by
      have h1 : bulks (a.out.take p) ≤ bulks a.out := bulks_take _ _
      have h2 : bulkE (a.ended.take q) ≤ bulkE a.ended := by
        have : ∀ (l : List Ended) (k : Nat), bulkE (l.take k) ≤ bulkE l := by
          intro l
          induction l with
          | nil => intro k; simp
          | cons x l ih =>
            intro k
            cases k with
            | zero => simp [bulkE]
            | succ k => have := ih k; simp only [List.take_succ_cons, bulkE]; omega
        exact this _ _
      unfold Seen.bulk at *
      show bulks (a.out.take p) + bulkE (a.ended.take q) + bulkN a.names + 4 ≤ _
      omega
    have wca := within_pure G (cutS a p q) a hcb (by omega)
    rw [cutS_within] at wca
    have wcb := within_pure G a (cutS a p q) (by omega) hcb
    have ht := within_cut a p q
    have hS : sameS b a = sameS a b := by
      rw [Bool.eq_iff_iff, sameS_iff, sameS_iff]; exact ⟨Eq.symm, Eq.symm⟩
    have sba := sameS_pure G b a (by omega) (by omega)
    rw [hS] at sba
    have waa := within_pure G a a (by omega) (by omega)
    rw [within_refl] at waa
    have saa := sameS_pure G a a (by omega) (by omega)
    rw [(sameS_iff a a).2 rfl] at saa
    have hx := sameX_pure G (tlines a) (tlines a) (by rw [tlines_len]; have := lenN_le a.names; unfold Seen.bulk at ha; omega) (by rw [tlines_len]; have := lenN_le a.names; unfold Seen.bulk at ha; omega)
    rw [decide_eq_true rfl] at hx
    have hd : within a b = true → within b a = true → sameS a { b with names := a.names, verdict := a.verdict } = true := fun h1 h2 => by
      obtain ⟨e1, e2, e3, e4⟩ := within_anti h1 h2
      rw [sameS_iff]
      cases a; cases b
      simp only at e1 e2 e3 e4 ⊢
      rw [e1, e2, e3, e4]
    have hdb : ({ b with names := a.names, verdict := a.verdict } : Seen).bulk ≤ 100000000 := by
      unfold Seen.bulk at *
      show bulks b.out + bulkE b.ended + bulkN a.names + 4 ≤ _
      omega
    have hE : TEnds G a b c m n p q (within a b) (within b c) (within a c) (within b a) (sameS a b) (within a (cutS a p q)) := {
      w := w, ga := ga, gb := gb, gc := gc, waa := waa, saa := saa
      wab := within_pure G a b (by omega) (by omega)
      wbc := within_pure G b c (by omega) (by omega)
      wac := within_pure G a c (by omega) (by omega)
      wba := within_pure G b a (by omega) (by omega)
      sab := sameS_pure G a b (by omega) (by omega)
      sba := sba
      sad := fun h1 h2 => by
        have := sameS_pure G a { b with names := a.names, verdict := a.verdict } (by omega) hdb
        rw [hd h1 h2] at this
        exact this
      ta := taleText_pure hg a ha ra
      tb := fun h => by
        rw [(sameS_iff a b).1 h]
        exact taleText_pure hg b hb rb
      tx := hx
      cp := kcopyS_pure G a (by omega)
      hw1 := wrap_nat (by omega) (by omega)
      hw2 := wrap_nat (by omega) (by omega)
      pk1 := pk1
      pk2 := pk2
      sl1 := slice_T _ _ hp
      sl2 := slice_E _ _ hq
      wca := wca
      wcb := wcb
      tt := by
        rw [ht]
        by_cases t1 : ((a.out.take p).length : Int) = a.out.length
        · by_cases t2 : ((a.ended.take q).length : Int) = a.ended.length
          · exact .inl ⟨eq_true t1, eq_true t2, by rw [decide_eq_true t1, decide_eq_true t2]; rfl⟩
          · exact .inr (.inl ⟨eq_true t1, eq_false t2, by rw [decide_eq_true t1, decide_eq_false t2]; rfl⟩)
        · exact .inr (.inr ⟨eq_false t1, by rw [decide_eq_false t1]; rfl⟩) }
    have hZ : within a b = true → within b c = true → within a c = true := within_trans
    have hXS : sameS a b = true → within a b = true ∧ within b a = true := fun h => by
      have := (sameS_iff a b).1 h
      subst this
      exact ⟨within_refl a, within_refl a⟩
    clear wca wcb ht hS sba waa saa hx hd hdb w ga gb gc pk1 pk2 hg
    generalize within a b = X at *
    generalize within b c = Y at *
    generalize within a c = Z at *
    generalize within b a = V at *
    generalize sameS a b = S at *
    generalize within a (cutS a p q) = T at *
    cases X
    · cases S
      · exact tale_c1 hE
      · have := (hXS rfl).1; cases this
    · cases V
      · cases S
        · cases Y
          · exact tale_c2 hE
          · have := hZ rfl rfl; subst this; exact tale_c5 hE
        · have := (hXS rfl).2; cases this
      · cases Y
        · cases S
          · exact tale_c3 hE
          · exact tale_c4 hE
        · have := hZ rfl rfl
          subst this
          cases S
          · exact tale_c6 hE
          · exact tale_c7 hE
end Go.Proofs.YtpginpbcndlfmaaDoor
