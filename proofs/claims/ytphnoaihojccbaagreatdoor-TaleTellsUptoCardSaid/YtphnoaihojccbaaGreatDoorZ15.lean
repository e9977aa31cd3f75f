/- Is more seen than is gone through? Is all of it such as has one text? -/
import Derived.Test.YtphnoaihojccbaaGreatDoorZ04
import Derived.Test.YtphnoaihojccbaaGreatDoorZ05
import Derived.Test.YtphnoaihojccbaaGreatDoorZ07
import Derived.Test.YtphnoaihojccbaaGreatDoorZ08
import Derived.Test.YtphnoaihojccbaaGreatDoorZ09
import Derived.Test.YtphnoaihojccbaaGreatDoorZ10
import Derived.Test.YtphnoaihojccbaaGreatDoorZ13
import Derived.Test.YtphnoaihojccbaaGreatDoorZ14
import Derived.Test.YtphnoaihojccbaaGreatDoorRows
set_option linter.unusedVariables false
set_option linter.unusedSimpArgs false
set_option maxRecDepth 20000
set_option linter.defProp false
namespace Go.Proofs.YtphnoaihojccbaaGreatDoor
open Go Go.Av
def tbTaleG := And.intro (And.intro (And.intro (And.intro (And.intro @tf3 @tf4) (And.intro @tf5 (And.intro @tf85 @tf9))) (And.intro (And.intro @tf31 @tf40) (And.intro @tf39 (And.intro @tf22 @tf42)))) (And.intro (And.intro (And.intro @tf23 @tf44) (And.intro @tf24 (And.intro @tf46 @tf26))) (And.intro (And.intro @Term.flat_enc (And.intro @Term.isv_enc @Term.fold_enc)) (And.intro @isv_encs (And.intro @flat_encs @len_encs))))) (And.intro (And.intro (And.intro (And.intro @ix_encs @ix_encs') (And.intro @isv_lims (And.intro @flat_lims @len_lims))) (And.intro (And.intro @Ended.flat_enc (And.intro @Ended.isv_enc @Ended.fold_enc)) (And.intro @Named.flat_enc (And.intro @Named.isv_enc @Named.fold_enc)))) (And.intro (And.intro (And.intro @Seen.flat_enc @Seen.isv_enc) (And.intro @Seen.fold_enc (And.intro @isv_encE @flat_encE))) (And.intro (And.intro @len_encE (And.intro @ix_encE @isv_encN)) (And.intro @flat_encN (And.intro @len_encN @ix_encN)))))
variable (G : Nat → AV)
def greatsE : List Ended → Int → Int
  | [], n => n
  | t :: l, n => if n ≤ 6000 then greatsE l (n + termsOf t.reason 6000) else n
def greatsN : List Named → Int → Int
  | [], n => n
  | t :: l, n => if n ≤ 6000 then greatsN l (n + (t.name.length : Int).tdiv 8) else n
def greatS (s : Seen) : Bool := decide (6000 < greatsN s.names (greatsE s.ended (greats s.out ((s.out.length : Int) + s.ended.length + s.names.length))))
set_option maxHeartbeats 4000000 in
theorem greatS_pure (s : Seen) (hb : s.bulk ≤ 2000000) : Pure Tryz.prog G 5 [s.enc] (.bool (greatS s)) := by
  have n1 : s.out.length ≤ 2000000 := by have := len_le_bulks s.out; unfold Seen.bulk at hb; omega
  have n2 : s.ended.length ≤ 2000000 := by have := lenE_le s.ended; unfold Seen.bulk at hb; omega
  have n3 : s.names.length ≤ 2000000 := by have := lenN_le s.names; unfold Seen.bulk at hb; omega
  have hto : ∀ x, x ∈ s.out → Pure Tryz.prog G 19 [x.enc, .int .i64 6000] (.int .i64 (termsOf x 6000)) ∧ 0 ≤ termsOf x 6000 ∧ termsOf x 6000 ≤ 2000000 := fun x hx => by
    have := bulk_mem hx
    have h2 := termsOf_le x 6000
    unfold Seen.bulk at hb
    exact ⟨termsOf_pure G x 6000 (by omega) (by omega) (by omega), by omega, by omega⟩
  have hte : ∀ x, x ∈ s.ended → Pure Tryz.prog G 19 [x.reason.enc, .int .i64 6000] (.int .i64 (termsOf x.reason 6000)) ∧ 0 ≤ termsOf x.reason 6000 ∧ termsOf x.reason 6000 ≤ 2000000 := fun x hx => by
    have := bulkE_mem hx
    have h2 := termsOf_le x.reason 6000
    unfold Seen.bulk at hb
    exact ⟨termsOf_pure G x.reason 6000 (by omega) (by omega) (by omega), by omega, by omega⟩
  have htn : ∀ x, x ∈ s.names → IntKind.i64.wrap ((x.name.length : Int).tdiv 8) = (x.name.length : Int).tdiv 8 ∧ 0 ≤ (x.name.length : Int).tdiv 8 ∧ (x.name.length : Int).tdiv 8 ≤ 2000000 := fun x hx => by
    have := bulkN_mem hx
    have e : (x.name.length : Int).tdiv 8 = (x.name.length : Int) / 8 := Int.tdiv_eq_ediv_of_nonneg (by omega)
    unfold Seen.bulk at hb
    rw [e]
    exact ⟨wrap_nat (by omega) (by omega), by omega, by omega⟩
  have w1 : IntKind.i64.wrap ((s.out.length : Int) + s.ended.length) = s.out.length + s.ended.length := wrap_nat (by omega) (by omega)
  obtain ⟨r, hr⟩ : ∃ r, r = greatS s := ⟨_, rfl⟩
  rw [← hr]
  unfold greatS at hr
  obtain ⟨n0, hn0⟩ : ∃ n0, n0 = (s.out.length : Int) + s.ended.length + s.names.length := ⟨_, rfl⟩
  have w2 : IntKind.i64.wrap ((s.out.length : Int) + s.ended.length + s.names.length) = n0 := by rw [hn0]; exact wrap_nat (by omega) (by omega)
  rw [← hn0] at hr
  have hn1 : 0 ≤ n0 ∧ n0 ≤ 8100000 := by omega
  clear hb hn0
  intro σ
  refine Tri.of_awp mixed Tryz.func5 rfl (by kernel_rfl) (by kernel_rfl) (by simp [Tryz.ntmps5]) Tryz.results5 ?_
  simp -dsimp only [↓bp, bq, br, seval, tbTaleG]
  refine newW_intro fun b hb => ?_
  have hle0 := le_set (cs := [encs s.out, encE s.ended, encN s.names, .int .i64 s.verdict, .int .i64 s.spent, .int .i64 s.clock]) hb (AS.le.refl σ)
  simp -dsimp only [↓bp, bq, br, seval, tbTaleG, w1, w2]
  refine loop_keep mixed (fun n e => ∃ (i : Nat) (z : Int), i ≤ s.out.length ∧ n = s.out.length - i ∧ e 4 = .int .i64 i ∧ e 3 = .int .i64 z ∧ 0 ≤ z ∧ z ≤ 8100000 ∧ greats (s.out.drop i) z = greats s.out n0) s.out.length
    ⟨0, n0, by omega, by omega, by first | (simp -dsimp only [↓bp, bq, br, seval, tbTaleG]; done) | (simp -dsimp only [↓bp, bq, br, seval, tbTaleG]; try rfl), by first | (simp -dsimp only [↓bp, bq, br, seval, tbTaleG, *]; done) | (simp -dsimp only [↓bp, bq, br, seval, tbTaleG, *]; try rfl), by omega, by omega, by rw [List.drop_zero]⟩ ?_
  clear w1 w2 hn1
  rintro n v ⟨i, z, hi, rfl, hI, hN, hz0, hz1, hz⟩
  simp -dsimp only [↓bp, bq, br, seval, tbTaleG] at hI hN
  have hc : (∃ x, s.out[i]? = some x ∧ z ≤ 6000 ∧ greats (s.out.drop (i + 1)) (z + termsOf x 6000) = greats s.out n0) ∨ (((i : Int) < s.out.length) = True ∧ (z ≤ 6000) = False ∧ greats s.out n0 = z) ∨ (((i : Int) < s.out.length) = False ∧ True ∧ greats s.out n0 = z) := by
    by_cases hlt : i < s.out.length
    · obtain ⟨x, hx⟩ : ∃ x, s.out[i]? = some x := ⟨_, List.getElem?_eq_getElem hlt⟩
      rw [drop_get _ _ _ hx, greats] at hz
      by_cases hle : z ≤ 6000
      · rw [if_pos hle] at hz; exact .inl ⟨x, hx, hle, hz⟩
      · rw [if_neg hle] at hz; exact .inr (.inl ⟨eq_true (by omega), eq_false hle, hz.symm⟩)
    · have : i = s.out.length := by omega
      subst this
      rw [List.drop_length, greats] at hz
      exact .inr (.inr ⟨eq_false (by omega), trivial, hz.symm⟩)
  rcases hc with ⟨x, hx, hle, hz2⟩ | ⟨c1, c2, hz2⟩ | ⟨c1, c2, hz2⟩
  · obtain ⟨hp, t0, t1⟩ := hto x (List.mem_of_getElem? hx)
    have hw : IntKind.i64.wrap ((i : Int) + 1) = ((i + 1 : Nat) : Int) := by rw [wrap_nat (by omega) (by omega)]; rfl
    have hw2 : IntKind.i64.wrap (z + termsOf x 6000) = z + termsOf x 6000 := wrap_nat (by omega) (by omega)
    have hlt := (List.getElem?_eq_some_iff.1 hx).1
    have hlt' : ((i : Int) < s.out.length) = True := eq_true (by omega)
    have hle' := eq_true hle
    simp -dsimp only [↓bp, bq, br, seval, tbTaleG, hI, hN, hlt', hle', hx]
    refine Pure.use hp ?_; simp -dsimp only [↓bp, bq, br, seval, tbTaleG, hI, hN, hlt', hle', hx, hw, hw2]
    exact ⟨s.out.length - (i + 1), by omega, i + 1, z + termsOf x 6000, by omega, rfl, rfl, rfl, by omega, by omega, hz2⟩
  all_goals
    rw [hz2] at hr
    clear hz2 hz hto hi
    simp -dsimp only [↓bp, bq, br, seval, tbTaleG, hI, hN, c1, c2]
    clear c1 c2 hI
    generalize z = z1 at *
    refine loop_keep mixed (fun n e => ∃ (i : Nat) (z : Int), i ≤ s.ended.length ∧ n = s.ended.length - i ∧ e 5 = .int .i64 i ∧ e 3 = .int .i64 z ∧ 0 ≤ z ∧ z ≤ 8100000 ∧ greatsE (s.ended.drop i) z = greatsE s.ended z1) s.ended.length
      ⟨0, z1, by omega, by omega, by first | (simp -dsimp only [↓bp, bq, br, seval, tbTaleG]; done) | (simp -dsimp only [↓bp, bq, br, seval, tbTaleG]; try rfl), by first | (simp -dsimp only [↓bp, bq, br, seval, tbTaleG, *]; done) | (simp -dsimp only [↓bp, bq, br, seval, tbTaleG, *]; try rfl), by omega, by omega, by rw [List.drop_zero]⟩ ?_
    clear hz0 hz1
    rintro n v ⟨i, z, hi, rfl, hI, hN, hz0, hz1, hz⟩
    simp -dsimp only [↓bp, bq, br, seval, tbTaleG] at hI hN
    have hc : (∃ x, s.ended[i]? = some x ∧ z ≤ 6000 ∧ greatsE (s.ended.drop (i + 1)) (z + termsOf x.reason 6000) = greatsE s.ended z1) ∨ (((i : Int) < s.ended.length) = True ∧ (z ≤ 6000) = False ∧ greatsE s.ended z1 = z) ∨ (((i : Int) < s.ended.length) = False ∧ True ∧ greatsE s.ended z1 = z) := by
      by_cases hlt : i < s.ended.length
      · obtain ⟨x, hx⟩ : ∃ x, s.ended[i]? = some x := ⟨_, List.getElem?_eq_getElem hlt⟩
        rw [drop_get _ _ _ hx, greatsE] at hz
        by_cases hle : z ≤ 6000
        · rw [if_pos hle] at hz; exact .inl ⟨x, hx, hle, hz⟩
        · rw [if_neg hle] at hz; exact .inr (.inl ⟨eq_true (by omega), eq_false hle, hz.symm⟩)
      · have : i = s.ended.length := by omega
        subst this
        rw [List.drop_length, greatsE] at hz
        exact .inr (.inr ⟨eq_false (by omega), trivial, hz.symm⟩)
    rcases hc with ⟨x, hx, hle, hz2⟩ | ⟨c1, c2, hz2⟩ | ⟨c1, c2, hz2⟩
    · obtain ⟨hp, t0, t1⟩ := hte x (List.mem_of_getElem? hx)
      have hw : IntKind.i64.wrap ((i : Int) + 1) = ((i + 1 : Nat) : Int) := by rw [wrap_nat (by omega) (by omega)]; rfl
      have hw2 : IntKind.i64.wrap (z + termsOf x.reason 6000) = z + termsOf x.reason 6000 := wrap_nat (by omega) (by omega)
      have hlt := (List.getElem?_eq_some_iff.1 hx).1
      have hlt' : ((i : Int) < s.ended.length) = True := eq_true (by omega)
      have hle' := eq_true hle
      simp -dsimp only [↓bp, bq, br, seval, tbTaleG, hI, hN, hlt', hle', hx]
      refine Pure.use hp ?_; simp -dsimp only [↓bp, bq, br, seval, tbTaleG, hI, hN, hlt', hle', hx, hw, hw2]
      exact ⟨s.ended.length - (i + 1), by omega, i + 1, z + termsOf x.reason 6000, by omega, rfl, rfl, rfl, by omega, by omega, hz2⟩
    all_goals
      rw [hz2] at hr
      clear hz2 hz hte hi
      simp -dsimp only [↓bp, bq, br, seval, tbTaleG, hI, hN, c1, c2]
      clear c1 c2 hI
      generalize z = z2 at *
      refine loop_keep mixed (fun n e => ∃ (i : Nat) (z : Int), i ≤ s.names.length ∧ n = s.names.length - i ∧ e 6 = .int .i64 i ∧ e 3 = .int .i64 z ∧ 0 ≤ z ∧ z ≤ 8100000 ∧ greatsN (s.names.drop i) z = greatsN s.names z2) s.names.length
        ⟨0, z2, by omega, by omega, by first | (simp -dsimp only [↓bp, bq, br, seval, tbTaleG]; done) | (simp -dsimp only [↓bp, bq, br, seval, tbTaleG]; try rfl), by first | (simp -dsimp only [↓bp, bq, br, seval, tbTaleG, *]; done) | (simp -dsimp only [↓bp, bq, br, seval, tbTaleG, *]; try rfl), by omega, by omega, by rw [List.drop_zero]⟩ ?_
      clear hz0 hz1
      rintro n v ⟨i, z, hi, rfl, hI, hN, hz0, hz1, hz⟩
      simp -dsimp only [↓bp, bq, br, seval, tbTaleG] at hI hN
      have hc : (∃ x, s.names[i]? = some x ∧ z ≤ 6000 ∧ greatsN (s.names.drop (i + 1)) (z + (x.name.length : Int).tdiv 8) = greatsN s.names z2) ∨ (((i : Int) < s.names.length) = True ∧ (z ≤ 6000) = False ∧ greatsN s.names z2 = z) ∨ (((i : Int) < s.names.length) = False ∧ True ∧ greatsN s.names z2 = z) := by
        by_cases hlt : i < s.names.length
        · obtain ⟨x, hx⟩ : ∃ x, s.names[i]? = some x := ⟨_, List.getElem?_eq_getElem hlt⟩
          rw [drop_get _ _ _ hx, greatsN] at hz
          by_cases hle : z ≤ 6000
          · rw [if_pos hle] at hz; exact .inl ⟨x, hx, hle, hz⟩
          · rw [if_neg hle] at hz; exact .inr (.inl ⟨eq_true (by omega), eq_false hle, hz.symm⟩)
        · have : i = s.names.length := by omega
          subst this
          rw [List.drop_length, greatsN] at hz
          exact .inr (.inr ⟨eq_false (by omega), trivial, hz.symm⟩)
      rcases hc with ⟨x, hx, hle, hz2⟩ | ⟨c1, c2, hz2⟩ | ⟨c1, c2, hz2⟩
      · obtain ⟨hp, t0, t1⟩ := htn x (List.mem_of_getElem? hx)
        have hw : IntKind.i64.wrap ((i : Int) + 1) = ((i + 1 : Nat) : Int) := by rw [wrap_nat (by omega) (by omega)]; rfl
        have hw2 : IntKind.i64.wrap (z + (x.name.length : Int).tdiv 8) = z + (x.name.length : Int).tdiv 8 := wrap_nat (by omega) (by omega)
        have hlt := (List.getElem?_eq_some_iff.1 hx).1
        have hlt' : ((i : Int) < s.names.length) = True := eq_true (by omega)
        have hle' := eq_true hle
        simp -dsimp only [↓bp, bq, br, seval, tbTaleG, hI, hN, hlt', hle', hx]
        simp -dsimp only [↓bp, bq, br, seval, tbTaleG, hI, hN, hlt', hle', hx, hw, hw2, hp]
        exact ⟨s.names.length - (i + 1), by omega, i + 1, z + (x.name.length : Int).tdiv 8, by omega, rfl, rfl, rfl, by omega, by omega, hz2⟩
      all_goals
        rw [hz2] at hr
        clear hz2 hz htn hi
        simp -dsimp only [↓bp, bq, br, seval, tbTaleG, hI, hN, c1, c2]
        exact finish_pure (by rw [hr]) hle0
end Go.Proofs.YtphnoaihojccbaaGreatDoor
set_option maxRecDepth 20000
namespace Go.Proofs.YtphnoaihojccbaaGreatDoor
open Go Go.Av
def tbTaleW := And.intro (And.intro (And.intro (And.intro (And.intro @tf3 @tf4) (And.intro @tf5 (And.intro @tf85 @tf9))) (And.intro (And.intro @tf31 @tf40) (And.intro @tf39 (And.intro @tf22 @tf42)))) (And.intro (And.intro (And.intro @tf23 @tf44) (And.intro @tf24 (And.intro @tf46 @tf26))) (And.intro (And.intro @Term.flat_enc @Term.isv_enc) (And.intro @Term.fold_enc (And.intro @isv_encs @flat_encs))))) (And.intro (And.intro (And.intro (And.intro @len_encs @ix_encs) (And.intro @isv_lims (And.intro @flat_lims @len_lims))) (And.intro (And.intro @Ended.flat_enc @Ended.isv_enc) (And.intro @Named.flat_enc (And.intro @Named.isv_enc @Named.fold_enc)))) (And.intro (And.intro (And.intro @Seen.flat_enc @Seen.isv_enc) (And.intro @isv_encE (And.intro @flat_encE @len_encE))) (And.intro (And.intro @ix_encE @isv_encN) (And.intro @flat_encN (And.intro @len_encN @ix_encN)))))
variable {G : Nat → AV}
def aT : Term := atomTm [97]
def bT : Term := atomTm [98]
def nT : Term := atomTm [110, 111, 114, 109, 97, 108]
def smallS : Seen := ⟨[aT], [⟨1, nT⟩], [⟨[115, 114, 118], 2⟩], 2, 9, 0⟩
def moreS : Seen := ⟨[aT, bT], [⟨1, nT⟩], [⟨[115, 114, 118], 2⟩], 2, 9, 0⟩
def smallF : AV := .agg [.sl .full [aT.enc] [], .sl .full [(Ended.mk 1 nT).enc] [], .sl .full [(Named.mk [115, 114, 118] 2).enc] [], .int .i64 2, .int .i64 9, .int .i64 0]
theorem seen_le (s : Seen) {cs : List AV} (h : Les cs [encs s.out, encE s.ended, encN s.names, .int .i64 s.verdict, .int .i64 s.spent, .int .i64 s.clock]) : Le (.agg cs) s.enc := by
  rw [← Seen.fold_enc s]
  exact Le.agg h (fun d hd => by simp at hd; rcases hd with rfl | rfl | rfl | rfl | rfl | rfl <;> rfl)
theorem small_le : Le smallF smallS.enc := seen_le smallS (.cons Le.gh (.cons Le.gh (.cons Le.gh (.cons (Le.refl _) (.cons (Le.refl _) (.cons (Le.refl _) .nil))))))
theorem atomK_pure (s : List UInt8) : Pure Tryz.prog G 20 [.str s] (atomTm s).enc := by
  refine Pure.of_le fun σ => ?_
  refine Tri.of_awp mixed Tryz.func20 rfl (by kernel_rfl) (by kernel_rfl) (by simp [Tryz.ntmps20]) Tryz.results20 ?_
  repeat' (first | (with_reducible first | refine xa ?_ ?_ | refine xb ?_ ?_ | refine xc ?_ ?_ | refine xd ?_ ?_ | refine xe ?_ ?_) <;> intros | ((first | refine xh ?_ | refine xi ?_); intro bx hbx; (try simp only [fb] at hbx)) | refine xj ?_ | ((with_reducible refine And.intro ?_ ?_); omega) | refine bo_buildSlice (d' := ⟨⟩) ?_ | refine xk (by kernel_rfl) ?_ | refine xf ?_ (by repeat' first | exact lr _ | assumption | refine ls ?_ ?_ | refine lt ?_ ?_ | simp only [*]; done | exact lf ‹_› (by simp only [*])) | simp -dsimp only [↓bp, bq, br, seval, tbTaleW, *])
  exact finish_le (enc_nil 2 false s 0) (by repeat' first | exact lr _ | assumption | refine ls ?_ ?_ | refine lt ?_ ?_ | simp only [*]; done | exact lf ‹_› (by simp only [*]))
theorem small_pure : Pure Tryz.prog G 18 [] smallF := by
  have h1 : Pure Tryz.prog G 20 [.str [97]] aT.enc := atomK_pure _
  have h2 : Pure Tryz.prog G 20 [.str [110, 111, 114, 109, 97, 108]] nT.enc := atomK_pure _
  intro σ
  refine Tri.of_awp mixed Tryz.func18 rfl (by kernel_rfl) (by kernel_rfl) (by simp [Tryz.ntmps18]) Tryz.results18 ?_
  repeat' (first | (with_reducible first | refine xa ?_ ?_ | refine xb ?_ ?_ | refine xc ?_ ?_ | refine xd ?_ ?_ | refine xe ?_ ?_) <;> intros | ((first | refine xh ?_ | refine xi ?_); intro bx hbx; (try simp only [fb] at hbx)) | refine Pure.use (h1) ?_ | refine Pure.head (h1) ?_ | refine Pure.use (h2) ?_ | refine Pure.head (h2) ?_ | refine xj ?_ | ((with_reducible refine And.intro ?_ ?_); omega) | refine bo_buildSlice (d' := ⟨⟩) ?_ | refine xk (by kernel_rfl) ?_ | refine xf ?_ (by repeat' first | exact lr _ | assumption | refine ls ?_ ?_ | refine lt ?_ ?_ | simp only [*]; done | exact lf ‹_› (by simp only [*])) | simp -dsimp only [↓bp, bq, br, seval, tbTaleW, *])
  all_goals rfl
theorem small_rng : smallS.Rng := ⟨fun e he => by simp [smallS] at he; subst he; unfold i64R; decide, fun n hn => by simp [smallS] at hn; subst hn; unfold i64R; decide, by unfold i64R; decide, by unfold i64R; decide, by unfold i64R; decide⟩
def lines6 : List (List UInt8) := [[111, 117, 116, 32, 97], [101, 110, 100, 101, 100, 32, 49, 32, 110, 111, 114, 109, 97, 108], [110, 97, 109, 101, 32, 115, 114, 118, 32, 50], [118, 101, 114, 100, 105, 99, 116, 32, 50], [115, 112, 101, 110, 116, 32, 57], [99, 108, 111, 99, 107, 32, 48]]
theorem small_lines : tlines smallS = lines6 := by decide +kernel
theorem small_bulk : smallS.bulk ≤ 2000000 := by decide
theorem more_bulk : moreS.bulk ≤ 2000000 := by decide
theorem same_more : sameS smallS moreS = false := by
  rw [Bool.eq_false_iff]
  intro h
  have := congrArg (fun s => s.out.length) ((sameS_iff _ _).1 h)
  simp [smallS, moreS] at this
theorem within_more : within smallS moreS = true := (within_iff _ _).2 ⟨by decide, by decide, ⟨[bT], rfl⟩, List.prefix_refl _⟩
theorem more_within : within moreS smallS = false := by
  rw [Bool.eq_false_iff]
  intro h
  have := ((within_iff _ _).1 h).2.2.1.length_le
  simp [smallS, moreS] at this
theorem le_fullX (l : List (List UInt8)) : Le (.sl .full (l.map AV.str) []) (texts l) := Le.gh
set_option maxHeartbeats 2000000 in
theorem awake_pure (hg : GlobT G) : Pure Tryz.prog G 6 [] (.bool true) := by
  have hs : Pure Tryz.prog G 18 [] smallF := small_pure
  have hb : Pure Tryz.prog G 20 [.str [98]] bT.enc := atomK_pure _
  have ht := (taleText_pure hg smallS small_bulk small_rng).lessArgs (.cons small_le .nil)
  rw [small_lines] at ht
  have hx := (sameX_pure G lines6 lines6 (by decide) (by decide)).lessArgs (args := [texts lines6, .sl .full (lines6.map AV.str) []]) (.cons (Le.refl _) (.cons (le_fullX _) .nil))
  rw [decide_eq_true rfl] at hx
  have h1 := (sameS_pure G smallS smallS (by have := small_bulk; omega) (by have := small_bulk; omega)).lessArgs (.cons small_le (.cons small_le .nil))
  rw [(sameS_iff _ _).2 rfl] at h1
  have h2 := sameS_pure G smallS moreS (by have := small_bulk; omega) (by have := more_bulk; omega)
  have h3 := within_pure G smallS moreS (by have := small_bulk; omega) (by have := more_bulk; omega)
  have h4 := within_pure G moreS smallS (by have := more_bulk; omega) (by have := small_bulk; omega)
  rw [same_more] at h2
  rw [within_more] at h3
  rw [more_within] at h4
  unfold smallF at hs ht h1
  clear hg
  intro σ
  refine Tri.of_awp mixed Tryz.func6 rfl (by kernel_rfl) (by kernel_rfl) (by simp [Tryz.ntmps6]) Tryz.results6 ?_
  repeat' (first | (with_reducible first | refine xa ?_ ?_ | refine xb ?_ ?_ | refine xc ?_ ?_ | refine xd ?_ ?_ | refine xe ?_ ?_) <;> intros | ((first | refine xh ?_ | refine xi ?_); intro bx hbx; (try simp only [fb] at hbx)) | refine Pure.use (hs) ?_ | refine Pure.head (hs) ?_ | refine Pure.use (hb) ?_ | refine Pure.head (hb) ?_ | refine xj ?_ | ((with_reducible refine And.intro ?_ ?_); omega) | refine bo_buildSlice (d' := ⟨⟩) ?_ | refine xk (by kernel_rfl) ?_ | refine xf ?_ (by repeat' first | exact lr _ | assumption | refine ls ?_ ?_ | refine lt ?_ ?_ | simp only [*]; done | exact lf ‹_› (by simp only [*])) | simp -dsimp only [↓bp, bq, br, seval, tbTaleW, *])
  obtain ⟨S, hS⟩ : ∃ S, S = σ.setBox bx [.sl .full [aT.enc] [], .sl .full [(Ended.mk 1 nT).enc] [], .sl .full [(Named.mk [115, 114, 118] 2).enc] [], .int .i64 2, .int .i64 9, .int .i64 0] := ⟨_, rfl⟩
  have hle : σ.le S := by rw [hS]; exact le_set hbx (AS.le.refl σ)
  have hSb : S.box bx = some [.sl .full [aT.enc] [], .sl .full [(Ended.mk 1 nT).enc] [], .sl .full [(Named.mk [115, 114, 118] 2).enc] [], .int .i64 2, .int .i64 9, .int .i64 0] := by rw [hS]; simp [AS.setBox]
  rw [← hS]
  refine app_full (ys := [bT.enc]) (σ0 := S) (AS.le.refl _) (fun a ha => by simp at ha; subst ha; rw [Term.flat_enc]; rfl) tfN (asrc_sl tfE) (fun a ha => by simp at ha; subst ha; rw [Term.flat_enc]; rfl) (by simp) (fun h => by cases h) (fun v3 σ3 hB4 hx4 => ?_)
  obtain ⟨p1, p2, p3⟩ := buf_one hB4
  have hb3 : σ3.box bx = some [.sl .full [aT.enc] [], .sl .full [(Ended.mk 1 nT).enc] [], .sl .full [(Named.mk [115, 114, 118] 2).enc] [], .int .i64 2, .int .i64 9, .int .i64 0] := by rw [hx4]; exact hSb
  have hm : Le (.agg [v3, .sl .full [(Ended.mk 1 nT).enc] [], .sl .full [(Named.mk [115, 114, 118] 2).enc] [], .int .i64 2, .int .i64 9, .int .i64 0]) moreS.enc :=
    seen_le moreS (.cons hB4.told (.cons Le.gh (.cons Le.gh (.cons (Le.refl _) (.cons (Le.refl _) (.cons (Le.refl _) .nil))))))
  have hsm := small_le
  unfold smallF at hsm
  have h2 := h2.lessArgs (.cons hsm (.cons hm .nil))
  have h3 := h3.lessArgs (.cons hsm (.cons hm .nil))
  have h4 := h4.lessArgs (.cons hm (.cons hsm .nil))
  have hfin : σ.le (σ3.setBox bx [v3, .sl .full [(Ended.mk 1 nT).enc] [], .sl .full [(Named.mk [115, 114, 118] 2).enc] [], .int .i64 2, .int .i64 9, .int .i64 0]) := le_set hbx (hle.trans hB4.le)
  clear hm hsm hB4 hx4 hle hS hSb hb
  repeat' (first | (with_reducible first | refine xa ?_ ?_ | refine xb ?_ ?_ | refine xc ?_ ?_ | refine xd ?_ ?_ | refine xe ?_ ?_) <;> intros | ((first | refine xh ?_ | refine xi ?_); intro bx hbx; (try simp only [fb] at hbx)) | refine Pure.use (hs) ?_ | refine Pure.head (hs) ?_ | refine Pure.use (ht) ?_ | refine Pure.head (ht) ?_ | refine Pure.use (hx) ?_ | refine Pure.head (hx) ?_ | refine Pure.use (h1) ?_ | refine Pure.head (h1) ?_ | refine Pure.use (h2) ?_ | refine Pure.head (h2) ?_ | refine Pure.use (h3) ?_ | refine Pure.head (h3) ?_ | refine Pure.use (h4) ?_ | refine Pure.head (h4) ?_ | refine xj ?_ | ((with_reducible refine And.intro ?_ ?_); omega) | refine bo_buildSlice (d' := ⟨⟩) ?_ | refine xk (by kernel_rfl) ?_ | refine xf ?_ (by repeat' first | exact lr _ | assumption | refine ls ?_ ?_ | refine lt ?_ ?_ | simp only [*]; done | exact lf ‹_› (by simp only [*])) | simp -dsimp only [↓bp, bq, br, seval, tbTaleW, *])
  all_goals skip
end Go.Proofs.YtphnoaihojccbaaGreatDoor
set_option maxRecDepth 20000
namespace Go.Proofs.YtphnoaihojccbaaGreatDoor
open Go Go.Av
def tbLawTaleTells := And.intro (And.intro (And.intro (And.intro @tf3 (And.intro @tf4 @tf5)) (And.intro (And.intro @tf9 @tf31) (And.intro @tf35 @tf22))) (And.intro (And.intro (And.intro @tf23 @tf24) (And.intro @tf26 @isv_encs)) (And.intro (And.intro @flat_encs @len_encs) (And.intro @Seen.flat_enc @Seen.isv_enc)))) (And.intro (And.intro (And.intro (And.intro @Seen.fold_enc @isv_encE) (And.intro @flat_encE @len_encE)) (And.intro (And.intro @isv_encN @flat_encN) (And.intro @len_encN @Seen.flat_lent))) (And.intro (And.intro (And.intro @Seen.isv_lent @Seen.fold_lent) (And.intro @isv_lents @flat_lents)) (And.intro (And.intro @isv_lentsE @flat_lentsE) (And.intro @isv_lentsN @flat_lentsN))))
variable {G : Nat → AV}
theorem tells_great {a b : Seen} {x y : Bool} (h : x = true ∨ x = false ∧ y = true) (w : Pure Tryz.prog G 6 [] (.bool true)) (ga : Pure Tryz.prog G 5 [a.enc] (.bool x)) (gb : Pure Tryz.prog G 5 [b.enc] (.bool y)) : Pure Tryz.prog G 3 [a.enc, b.enc] (.bool true) := by
  rcases h with rfl | ⟨rfl, rfl⟩
  all_goals
    intro σ
    refine Tri.of_awp mixed Tryz.func3 rfl (by kernel_rfl) (by kernel_rfl) (by simp [Tryz.ntmps3]) Tryz.results3 ?_
    repeat' (first | (with_reducible first | refine xa ?_ ?_ | refine xb ?_ ?_ | refine xc ?_ ?_ | refine xd ?_ ?_ | refine xe ?_ ?_) <;> intros | ((first | refine xh ?_ | refine xi ?_); intro bx hbx; (try simp only [fb] at hbx)) | refine Pure.use (w) ?_ | refine Pure.head (w) ?_ | refine Pure.use (ga) ?_ | refine Pure.head (ga) ?_ | refine Pure.use (gb) ?_ | refine Pure.head (gb) ?_ | refine xj ?_ | ((with_reducible refine And.intro ?_ ?_); omega) | refine bo_buildSlice (d' := ⟨⟩) ?_ | refine xk (by kernel_rfl) ?_ | refine xf ?_ (by repeat' first | exact lr _ | assumption | refine ls ?_ ?_ | refine lt ?_ ?_ | simp only [*]; done | exact lf ‹_› (by simp only [*])) | simp -dsimp only [↓bp, bq, br, seval, tbLawTaleTells, *])
    all_goals rfl
theorem row_lend {σ : AS} {r : Nat} {L : List (List UInt8)} (hb : σ.box r = some (L.map AV.str)) : Lend G σ (.bs r L.length 1 9) (texts L) := by
  have h := Lend.row (G := G) (σ := σ) (b := r) (s := 1) (E := 9) (cs := L.map AV.str) (ds := L.map AV.str) hb (by rw [List.take_length]; exact Lends.ids _) (Nat.le_refl _) (xs := L.map AV.str) (sp := []) (by
    rw [List.append_nil]
    clear hb
    induction L with
    | nil => rfl
    | cons x l ih => rw [List.map_cons, List.flatMap_cons, ih]; rfl) (by omega) (fun e he => by
    rw [List.append_nil] at he
    obtain ⟨x, _, rfl⟩ := List.mem_map.1 he
    exact ⟨rfl, rfl, fun c hc => by simp [flat] at hc; subst hc; rfl⟩)
  rw [List.length_map] at h
  exact h
theorem two_rows {r1 r2 n m : Nat} (h : r1 ≠ r2) : Distinct [some (r1, n), some (r2, m)] := by
  intro i j b n' m' hi hj
  match i, j, hi, hj with
  | 0, 0, hi, hj => rfl
  | 0, 1, hi, hj => simp at hi hj; exact absurd (hi.1.trans hj.1.symm) h
  | 1, 0, hi, hj => simp at hi hj; exact absurd (hj.1.trans hi.1.symm) h
  | 1, 1, hi, hj => rfl
  | 0, j + 2, hi, hj => simp at hj
  | 1, j + 2, hi, hj => simp at hj
  | i + 2, j, hi, hj => simp at hi
/-- what the calls answer -/
structure TT (G : Nat → AV) (a b : Seen) (S W : Bool) (L : List (List UInt8)) : Prop where
  w : Pure Tryz.prog G 6 [] (.bool true)
  ga : Pure Tryz.prog G 5 [a.enc] (.bool false)
  gb : Pure Tryz.prog G 5 [b.enc] (.bool false)
  la : Pure Tryz.prog G 7 [a.enc] a.lent
  lb : Pure Tryz.prog G 7 [b.enc] b.lent
  s : Pure Tryz.prog G 8 [a.lent, b.lent] (.bool S)
  wi : Pure Tryz.prog G 9 [a.lent, b.lent] (.bool W)
  rs : Pure Tryz.prog G 11 [a.enc, b.enc] (.bool S)
  rw_ : Pure Tryz.prog G 12 [a.enc, b.enc] (.bool W)
  rt : Pure Tryz.prog G 14 [a.enc] (texts L)
  tx : Pure Tryz.prog G 13 [texts L, texts L] (.bool true)
  ka : Pure Tryz.prog G 15 [a.lent, a.enc] (.bool true)
  kb : Pure Tryz.prog G 15 [b.lent, b.enc] (.bool true)
  tt : ∀ σ, Tri Tryz.prog G 10 [a.lent] σ fun r σ' => MadeRow L.length 1 9 (L.map AV.str) σ r σ'
  hl : L.length ≤ 1000000000
set_option maxHeartbeats 1000000 in
theorem tells_go {a b : Seen} {S W : Bool} {L : List (List UInt8)} (h : TT G a b S W L) : Pure Tryz.prog G 3 [a.enc, b.enc] (.bool true) := by
  obtain ⟨w, ga, gb, la, lb, s, wi, rs, rw_, rt, tx, ka, kb, tt, hl⟩ := h
  intro σ
  refine Tri.back (Q := fun r => r = .bool true) ?_
  refine Tri.of_awp mixed Tryz.func3 rfl (by kernel_rfl) (by kernel_rfl) (by simp [Tryz.ntmps3]) Tryz.results3 ?_
  repeat' (first | (with_reducible first | refine xa ?_ ?_ | refine xb ?_ ?_ | refine xc ?_ ?_ | refine xd ?_ ?_ | refine xe ?_ ?_) <;> intros | ((first | refine xh ?_ | refine xi ?_); intro bx hbx; (try simp only [fb] at hbx)) | refine Pure.use (ga) ?_ | refine Pure.head (ga) ?_ | refine Pure.use (gb) ?_ | refine Pure.head (gb) ?_ | refine Pure.use (la) ?_ | refine Pure.head (la) ?_ | refine Pure.use (lb) ?_ | refine Pure.head (lb) ?_ | refine xj ?_ | ((with_reducible refine And.intro ?_ ?_); omega) | refine bo_buildSlice (d' := ⟨⟩) ?_ | refine xk (by kernel_rfl) ?_ | refine xf ?_ (by repeat' first | exact lr _ | assumption | refine ls ?_ ?_ | refine lt ?_ ?_ | simp only [*]; done | exact lf ‹_› (by simp only [*])) | simp -dsimp only [↓bp, bq, br, seval, tbLawTaleTells, *])
  repeat' (first | (with_reducible first | refine xa ?_ ?_ | refine xb ?_ ?_ | refine xc ?_ ?_ | refine xd ?_ ?_ | refine xe ?_ ?_) <;> intros | ((first | refine xh ?_ | refine xi ?_); intro bx hbx; (try simp only [fb] at hbx)) | refine Pure.use (s) ?_ | refine Pure.head (s) ?_ | refine Pure.use (wi) ?_ | refine Pure.head (wi) ?_ | ((refine draw_calls (by decide +kernel) ?_; refine m_read (v := a.lent) rfl (by simp only [rdv]; simp -dsimp only [↓bp, bq, br, seval, tbLawTaleTells, *]) ?_; with_reducible rename_i b1 h1 b2 h2 b3 h3; clear la lb s wi ga gb)) | refine xj ?_ | ((with_reducible refine And.intro ?_ ?_); omega) | refine bo_buildSlice (d' := ⟨⟩) ?_ | refine xk (by kernel_rfl) ?_ | refine xf ?_ (by repeat' first | exact lr _ | assumption | refine ls ?_ ?_ | refine lt ?_ ?_ | simp only [*]; done | exact lf ‹_› (by simp only [*])) | simp -dsimp only [↓bp, bq, br, seval, tbLawTaleTells, *])
  refine m_call (Maker.row L.length 1 9 (L.map AV.str)) rfl (fun σ' hle => ?_) (fun r σ1 hr => ?_)
  · simp -dsimp only [↓bp, bq, br, seval, tbLawTaleTells]
    exact (tt σ').inf
  obtain ⟨r1, rfl, q1, l1, n1, t1⟩ := Maker.row_rel hr
  refine m_read (v := a.lent) rfl (by simp only [rdv]; simp -dsimp only [↓bp, bq, br, seval, tbLawTaleTells, *]) ?_
  refine m_call (Maker.row L.length 1 9 (L.map AV.str)) rfl (fun σ' hle => ?_) (fun r σ2 hr2 => ?_)
  · simp -dsimp only [↓bp, bq, br, seval, tbLawTaleTells]
    exact (tt σ').inf
  obtain ⟨r2, rfl, q2, l2, n2, t2⟩ := Maker.row_rel hr2
  have hne : r1 ≠ r2 := fun e => by subst e; rw [q1] at n2; cases n2
  have q1' := l2.box _ _ q1
  refine m_read (v := .bs r1 L.length 1 9) rfl (by simp only [rdv]; simp -dsimp only [↓bp, bq, br, seval, tbLawTaleTells]) ?_
  refine m_read (v := .bs r2 L.length 1 9) rfl (by simp only [rdv]; simp -dsimp only [↓bp, bq, br, seval, tbLawTaleTells]) ?_
  rw [m_nil]
  have l12 := l1.trans l2
  have e1 : σ2.box b1 = some [encs a.out, encE a.ended, encN a.names, .int .i64 a.verdict, .int .i64 a.spent, .int .i64 a.clock] := l12.box _ _ (by simp -dsimp only [↓bp, bq, br, seval, tbLawTaleTells, *])
  have e2 : σ2.box b2 = some [encs b.out, encE b.ended, encN b.names, .int .i64 b.verdict, .int .i64 b.spent, .int .i64 b.clock] := l12.box _ _ (by simp -dsimp only [↓bp, bq, br, seval, tbLawTaleTells, *])
  have e3 : σ2.box b3 = some [lents a.out, lentsE a.ended, lentsN a.names, .int .i64 a.verdict, .int .i64 a.spent, .int .i64 a.clock] := l12.box _ _ (by simp -dsimp only [↓bp, bq, br, seval, tbLawTaleTells, *])
  have e4 : σ2.box bx = some [lents b.out, lentsE b.ended, lentsN b.names, .int .i64 b.verdict, .int .i64 b.spent, .int .i64 b.clock] := l12.box _ _ (by simp -dsimp only [↓bp, bq, br, seval, tbLawTaleTells, *])
  have hl0 : σ.le σ2 := AS.le.trans (by repeat' first | exact lr _ | assumption | refine ls ?_ ?_ | refine lt ?_ ?_ | simp only [*]; done | exact lf ‹_› (by simp only [*])) l12
  have z1 : σ.box r1 = none := le_none (AS.le.trans (by repeat' first | exact lr _ | assumption | refine ls ?_ ?_ | refine lt ?_ ?_ | simp only [*]; done | exact lf ‹_› (by simp only [*])) (AS.le.refl _)) n1
  have z2 : σ.box r2 = none := le_none (AS.le.trans (by repeat' first | exact lr _ | assumption | refine ls ?_ ?_ | refine lt ?_ ?_ | simp only [*]; done | exact lf ‹_› (by simp only [*])) l1) n2
  clear hr hr2 l1 l2 n1 n2 t1 t2 l12 tt q1
  have hx := tx.lend (σ := σ2) rfl (.cons (row_lend q1') (.cons (Lend.id _) .nil))
  have hA := apartTexts_tri G [some (r1, L.length), some (r2, L.length)] .full (two_rows hne) (by simp) (fun k r hr => by
    match k, hr with
    | 0, hr => simp at hr; subst hr; exact hl
    | 1, hr => simp at hr; subst hr; exact hl
    | k + 2, hr => simp at hr) σ2 (fun j b n hj => by
    match j, hj with
    | 0, hj => simp at hj; obtain ⟨rfl, rfl⟩ := hj; exact ⟨_, q1', by rw [List.length_map]; omega⟩
    | 1, hj => simp at hj; obtain ⟨rfl, rfl⟩ := hj; exact ⟨_, q2, by rw [List.length_map]; omega⟩
    | j + 2, hj => simp at hj)
  have hfin : ∀ s4, LeX (InS [some (r1, L.length), some (r2, L.length)]) σ2 s4 → σ.le s4 := fun s4 hX => ⟨fun b cs hb => hX.box b cs (fun ⟨n, hn⟩ => by
    simp only [List.mem_cons, Option.some.injEq, Prod.mk.injEq, List.not_mem_nil, or_false] at hn
    rcases hn with ⟨rfl, _⟩ | ⟨rfl, _⟩
    · rw [z1] at hb; cases hb
    · rw [z2] at hb; cases hb) (hl0.box b cs hb), fun b x hb => hX.tip b x (hl0.tip b x hb), fun b x hb => hX.ty b x (hl0.ty b x hb)⟩
  clear hl0 z1 z2 q1' q2 tx
  repeat' (first | (with_reducible first | refine xa ?_ ?_ | refine xb ?_ ?_ | refine xc ?_ ?_ | refine xd ?_ ?_ | refine xe ?_ ?_) <;> intros | ((first | refine xh ?_ | refine xi ?_); intro bx hbx; (try simp only [fb] at hbx)) | refine Pure.use (rs) ?_ | refine Pure.head (rs) ?_ | refine Pure.use (rw_) ?_ | refine Pure.head (rw_) ?_ | refine Pure.use (rt) ?_ | refine Pure.head (rt) ?_ | refine Pure.use (ka) ?_ | refine Pure.head (ka) ?_ | refine Pure.use (kb) ?_ | refine Pure.head (kb) ?_ | ((refine Tri.mono hx ?_; rintro r s3 ⟨rfl, rfl⟩)) | ((refine Tri.mono hA ?_; rintro r s4 ⟨rfl, hX⟩)) | refine Pure.use (w) ?_ | refine Pure.head (w) ?_ | refine xj ?_ | ((with_reducible refine And.intro ?_ ?_); omega) | refine bo_buildSlice (d' := ⟨⟩) ?_ | refine xk (by kernel_rfl) ?_ | refine xf ?_ (by repeat' first | exact lr _ | assumption | refine ls ?_ ?_ | refine lt ?_ ?_ | simp only [*]; done | exact lf ‹_› (by simp only [*])) | simp -dsimp only [↓bp, bq, br, seval, tbLawTaleTells, *])
  all_goals exact finishW_some _ (AS.le.refl _) ⟨rfl, hfin _ hX⟩
theorem taleTells_pure (hg : GlobT G) (a b : Seen) (ha : a.bulk ≤ 2000000) (hb : b.bulk ≤ 2000000) (ra : a.Rng) (rb : b.Rng) : Pure Tryz.prog G 3 [a.enc, b.enc] (.bool true) := by
  have w := awake_pure hg
  have ga := greatS_pure G a ha
  have gb := greatS_pure G b hb
  by_cases hgo : greatS a = true ∨ greatS a = false ∧ greatS b = true
  · exact tells_great hgo w ga gb
  · have e : greatS a = false ∧ greatS b = false := by
      cases h1 : greatS a <;> cases h2 : greatS b <;> simp_all
    rw [e.1] at ga
    rw [e.2] at gb
    have hn : (tlines a).length ≤ 1000000000 := by
      have n1 := len_le_bulks a.out
      have n2 := lenE_le a.ended
      have n3 := lenN_le a.names
      rw [tlines_len]; unfold Seen.bulk at ha; omega
    have hx := sameX_pure G (tlines a) (tlines a) hn hn
    rw [decide_eq_true rfl] at hx
    refine tells_go (S := sameS a b) (W := within a b) (L := tlines a) {
      w := w, ga := ga, gb := gb
      la := lentS_pure G a (by omega)
      lb := lentS_pure G b (by omega)
      s := (sameS_pure G a b (by omega) (by omega)).lessArgs (.cons a.lent_le (.cons b.lent_le .nil))
      wi := (within_pure G a b (by omega) (by omega)).lessArgs (.cons a.lent_le (.cons b.lent_le .nil))
      rs := rsame_pure G a b (by omega) (by omega)
      rw_ := rwithin_pure G a b (by omega) (by omega)
      rt := rTaleText_pure G a ha ra
      tx := hx
      ka := keptS_pure G a (by omega)
      kb := keptS_pure G b (by omega)
      tt := fun σ => (taleText_tri hg a ha ra σ).weaken (.cons a.lent_le .nil)
      hl := hn }
end Go.Proofs.YtphnoaihojccbaaGreatDoor
set_option maxRecDepth 100000
namespace Go.Proofs.YtphnoaihojccbaaGreatDoor
open Go Go.Av Go.RowKit
variable {H : Type}
theorem bulks_le {l : List Term} {xs : List (DataW H)} (hl : l.length = xs.length) (h : ∀ (i : Nat) x a, xs[i]? = some x → l[i]? = some a → a.bulk ≤ Rows.uptoBulk x) : bulks l ≤ Rows.uptoBulkAll xs := by
  induction l generalizing xs with
  | nil => simp [bulks]
  | cons a l ih =>
    cases xs with
    | nil => simp at hl
    | cons x xs =>
      have h0 := h 0 x a rfl rfl
      have h1 := ih (xs := xs) (by simpa using hl) (fun i y b hy hb => h (i + 1) y b (by simpa using hy) (by simpa using hb))
      simp only [bulks, Rows.uptoBulkAll]; omega
theorem lims_le {l : List UInt32} {xs : List (DataW H)} (hl : l.length = xs.length) (h : ∀ (i : Nat) x (a : UInt32), xs[i]? = some x → l[i]? = some a → 1 ≤ Rows.uptoBulk x) : l.length ≤ Rows.uptoBulkAll xs := by
  induction l generalizing xs with
  | nil => simp
  | cons a l ih =>
    cases xs with
    | nil => simp at hl
    | cons x xs =>
      have h0 := h 0 x a rfl rfl
      have h1 := ih (xs := xs) (by simpa using hl) (fun i y b hy hb => h (i + 1) y b (by simpa using hy) (by simpa using hb))
      simp only [List.length_cons, Rows.uptoBulkAll]; omega
theorem u8_of {m : Int} (h : (Lit.int .u8 m).wf = true) : ∃ k : UInt8, m = (k.toNat : Int) := by
  have hr : 0 ≤ m ∧ m < 256 := by
    have h0 : IntKind.u8.min = 0 := by decide
    have h1 : IntKind.u8.max = 255 := by decide
    simp only [Lit.wf, Bool.and_eq_true, decide_eq_true_eq, h0, h1] at h
    omega
  refine ⟨UInt8.ofNat m.toNat, ?_⟩
  rw [UInt8.toNat_ofNat']
  omega
theorem u32_of {m : Int} (h : (Lit.int .u32 m).wf = true) : ∃ k : UInt32, m = (k.toNat : Int) := by
  have hr : 0 ≤ m ∧ m < 4294967296 := by
    have h0 : IntKind.u32.min = 0 := by decide
    have h1 : IntKind.u32.max = 4294967295 := by decide
    simp only [Lit.wf, Bool.and_eq_true, decide_eq_true_eq, h0, h1] at h
    omega
  refine ⟨UInt32.ofNat m.toNat, ?_⟩
  rw [UInt32.toNat_ofNat']
  omega
theorem read_term : ∀ (n : Nat) (d : DataW H), tyW Tryz.prog n 42 d → ∃ t : Term, avW d = t.enc ∧ t.bulk ≤ Rows.uptoBulk d := by
  intro n
  induction n using Nat.strongRecOn with
  | _ n ih =>
    intro d h
    obtain ⟨ds, m, rfl, rfl, hl, hf⟩ := tyW_struct h Tryz.underlying42
    match ds, hl with
    | [d0, d1, d2, d3, d4, d5, d6], _ =>
      obtain ⟨k, rfl, hk⟩ := tyW_int (hf 0 _ d0 rfl rfl) Tryz.underlying39
      obtain ⟨g, rfl⟩ := tyW_bool (hf 1 _ d1 rfl rfl) Tryz.underlying4
      obtain ⟨xs, sp, q, hx, hq, hxs⟩ := tyW_slice (hf 2 _ d2 rfl rfl) Tryz.underlying40
      obtain ⟨s, rfl, _⟩ := tyW_str (hf 3 _ d3 rfl rfl) Tryz.underlying9
      obtain ⟨nn, rfl, _⟩ := tyW_int (hf 4 _ d4 rfl rfl) Tryz.underlying3
      obtain ⟨ys, sq, q2, hy, hq2, hys⟩ := tyW_slice (hf 5 _ d5 rfl rfl) Tryz.underlying22
      obtain ⟨zs, sr, q3, hz, hq3, hzs⟩ := tyW_slice (hf 6 _ d6 rfl rfl) Tryz.underlying22
      obtain ⟨k', rfl⟩ := u8_of hk
      obtain ⟨l, h1, h2, h3⟩ := slice_dec (enc := limA) (good := fun x _ => 1 ≤ Rows.uptoBulk x) (fun x hx => by
        obtain ⟨z, rfl, hz⟩ := tyW_int hx Tryz.underlying85
        obtain ⟨z', rfl⟩ := u32_of hz
        exact ⟨z', by simp [avW, limA], by simp [Rows.uptoBulk]⟩) xs hxs
      obtain ⟨l2, i1, i2, i3⟩ := slice_dec (enc := Term.enc) (good := fun x a => a.bulk ≤ Rows.uptoBulk x) (fun x hx => ih q2 (by omega) x hx) ys hys
      obtain ⟨l3, j1, j2, j3⟩ := slice_dec (enc := Term.enc) (good := fun x a => a.bulk ≤ Rows.uptoBulk x) (fun x hx => ih q3 (by omega) x hx) zs hzs
      have hb := lims_le h2 h3
      have hb2 := bulks_le i2 i3
      have hb3 := bulks_le j2 j3
      refine ⟨.mk k' g l s nn l2 l3, ?_, ?_⟩
      · have e1 : flat (avW d2) = [lims l] := by
          rcases hx with ⟨rfl, rfl⟩ | rfl
          · simp only [avWs, List.length_nil, List.length_eq_zero_iff] at h1 h2
            subst h2
            simp [avW, flat, lims]
          · simp [avW, flat, lims, h1]
        have e2 : flat (avW d5) = [.sl .none (l2.map Term.enc) []] := by
          rcases hy with ⟨rfl, rfl⟩ | rfl
          · simp only [avWs, List.length_nil, List.length_eq_zero_iff] at i1 i2
            subst i2
            simp [avW, flat]
          · simp [avW, flat, i1]
        have e3 : flat (avW d6) = [.sl .none (l3.map Term.enc) []] := by
          rcases hz with ⟨rfl, rfl⟩ | rfl
          · simp only [avWs, List.length_nil, List.length_eq_zero_iff] at j1 j2
            subst j2
            simp [avW, flat]
          · simp [avW, flat, j1]
        have e4 : avW (.agg [.lit (.int .u8 (k'.toNat : Int)), .lit (.bool g), d2, .lit (.string s), .lit (.int .i64 nn), d5, d6] : DataW H) = .agg (flat (.int .u8 (k'.toNat : Int)) ++ (flat (.bool g) ++ (flat (avW d2) ++ (flat (.str s) ++ (flat (.int .i64 nn) ++ (flat (avW d5) ++ (flat (avW d6) ++ []))))))) := by
          simp [avW, flatsW]
        rw [e4, e1, e2, e3]
        simp [flat, Term.enc, lims]
      · rw [Term.bulk]
        rcases hx with ⟨rfl, rfl⟩ | rfl <;> rcases hy with ⟨rfl, rfl⟩ | rfl <;> rcases hz with ⟨rfl, rfl⟩ | rfl <;> simp only [Rows.uptoBulk, Rows.uptoBulkAll] at hb hb2 hb3 ⊢ <;> omega
def S : List TypeId := [42, 39, 4, 40, 85, 9, 3, 22, 210, 5, 137, 230]
theorem closedS : closedT Tryz.prog S = true := by kernel_rfl
def Gv : Nat → AV := fun g => if g = 0 then .rp (words.map AV.str) else if g = 2 then .tab powV else .raw (.pointer (some ⟨g, 0, none⟩))
theorem globGv : GlobT Gv := { words := rfl, pow := rfl }
theorem laid_tab {P : Program} {W : World} {S : List TypeId} (hS : closedT P S = true) {laid : List (String × DataW Unit)} (hL : laidMet P laid W) {n : String} {d : DataW Unit} (hm : (n, d) ∈ laid) {g : Nat} {t : TypeId} (hg : P.globalNamed n = some g)
    (ht : (P.globals[g]?).map (·.type) = some t) (htS : t ∈ S) {k : IntKind} {zs : List Int} (hcs : flat (avW d) = zs.map fun z => .int k z) : VR (entryK W) (.tab (zs.map fun z => .int k z)) (.pointer (some ⟨g, 0, none⟩)) := by
  obtain ⟨ps, h1, _⟩ := hL
  obtain ⟨g', t', vs, fuel, p, hg', ht', hvar, hd⟩ := laidVars_mem laid ps h1 hm
  obtain rfl := Option.some.inj (hg.symm.trans hg')
  obtain rfl := Option.some.inj (ht.symm.trans ht')
  obtain ⟨_, h2, _⟩ := read_all (K := entryK W) hS (fun b o v h => h) fuel t _ _ htS hd
  simp only [hcs] at h2
  have hsz := h2.size
  have hv : vs = (zs.map fun z => Value.int k z).toArray := by
    apply Array.toList_inj.1
    refine List.ext_getElem? fun j => ?_
    by_cases hj : j < zs.length
    · have h3 := h2.at_ j (by simpa using hj)
      simp only [List.getElem_map, VR.int_iff] at h3
      have hj2 : j < vs.toList.length := by rw [hsz]; simpa using hj
      rw [List.getD_eq_getElem?_getD, List.getElem?_eq_getElem hj2] at h3
      simp only [Option.getD_some] at h3
      rw [List.getElem?_eq_getElem hj2, h3]
      simp [hj]
    · rw [List.getElem?_eq_none (by simp at hsz ⊢; omega), List.getElem?_eq_none (by simp; omega)]
  unfold World.var? at hvar
  rw [hg] at hvar
  simp only [Option.bind_some] at hvar
  cases hw : W.heap[g]? with
  | none => rw [hw] at hvar; simp at hvar
  | some o =>
    rw [hw] at hvar
    cases o with
    | cells cs E fz =>
      simp only [Option.some.injEq] at hvar
      subst hvar
      rw [hv] at hw
      exact .tab _ g E fz (Array.getElem?_eq_some_iff.1 hw).1 hw
    | _ => simp at hvar
theorem entry_glob {W : World} {laid : List (String × DataW Unit)} (hL : laidMetH Tryz.prog laid W) (hl : laid = [("math/bits.deBruijn32tab", Rows.laid_math_bits_deBruijn32tab), ("math/bits.deBruijn64tab", Rows.laid_math_bits_deBruijn64tab), ("internal/strconv.uint64pow10", Rows.laid_internal_strconv_uint64pow10), ("pigeonhole/term.words", Rows.laid_pigeonhole_term_words)]) :
    ∀ g, VR (entryK W) (Gv g) (.pointer (some ⟨g, 0, none⟩)) := by
  subst hl
  have hL' : laidMet Tryz.prog [("math/bits.deBruijn32tab", Rows.laid_math_bits_deBruijn32tab), ("math/bits.deBruijn64tab", Rows.laid_math_bits_deBruijn64tab), ("internal/strconv.uint64pow10", Rows.laid_internal_strconv_uint64pow10), ("pigeonhole/term.words", Rows.laid_pigeonhole_term_words)] W := hL
  have h0 : VR (entryK W) (.rp (words.map AV.str)) (.pointer (some ⟨0, 0, none⟩)) :=
    laid_glob closedS hL' (n := "pigeonhole/term.words") (d := Rows.laid_pigeonhole_term_words) (by simp) (g := 0) (t := 210) (by kernel_rfl) (by kernel_rfl) (by decide) (by kernel_rfl)
  have h1 : VR (entryK W) (.tab powV) (.pointer (some ⟨2, 0, none⟩)) :=
    laid_tab closedS hL' (n := "internal/strconv.uint64pow10") (d := Rows.laid_internal_strconv_uint64pow10) (by simp) (g := 2) (t := 230) (k := .u64) (zs := Lib.pow10Tab) (by kernel_rfl) (by kernel_rfl) (by decide) (by kernel_rfl)
  intro g
  unfold Gv
  by_cases hg0 : g = 0
  · subst hg0; exact h0
  · by_cases hg1 : g = 2
    · subst hg1; exact h1
    · rw [if_neg hg0, if_neg hg1]; exact .raw _
end Go.Proofs.YtphnoaihojccbaaGreatDoor
set_option maxRecDepth 100000
namespace Go.Proofs.YtphnoaihojccbaaGreatDoor
open Go Go.Av Go.RowKit Go.ChangeShapes
variable {H : Type}
theorem i64_of {m : Int} (h : (Lit.int .i64 m).wf = true) : i64R m := by
  have h0 : IntKind.i64.min = -9223372036854775808 := by decide
  have h1 : IntKind.i64.max = 9223372036854775807 := by decide
  simp only [Lit.wf, Bool.and_eq_true, decide_eq_true_eq, h0, h1] at h
  exact h
theorem read_ended (n : Nat) (d : DataW H) (h : tyW Tryz.prog n 44 d) : ∃ e : Ended, avW d = e.enc ∧ (e.reason.bulk + 1 ≤ Rows.uptoBulk d ∧ i64R e.pid) := by
  obtain ⟨ds, m, rfl, rfl, hl, hf⟩ := tyW_struct h Tryz.underlying44
  match ds, hl with
  | [d0, d1], _ =>
    obtain ⟨k, rfl, hk⟩ := tyW_int (hf 0 _ d0 rfl rfl) Tryz.underlying3
    obtain ⟨t, ht, hb⟩ := read_term m d1 (hf 1 _ d1 rfl rfl)
    refine ⟨⟨k, t⟩, ?_, ?_, i64_of hk⟩
    · have e4 : avW (.agg [.lit (.int .i64 k), d1] : DataW H) = .agg (flat (.int .i64 k) ++ (flat (avW d1) ++ [])) := by
        simp [avW, flatsW]
      rw [e4, ht, t.flat_enc]
      simp [flat, Ended.enc]
    · simp only [Rows.uptoBulk, Rows.uptoBulkAll]; omega
theorem read_named (n : Nat) (d : DataW H) (h : tyW Tryz.prog n 46 d) : ∃ e : Named, avW d = e.enc ∧ (e.name.length + 2 ≤ Rows.uptoBulk d ∧ i64R e.pid) := by
  obtain ⟨ds, m, rfl, rfl, hl, hf⟩ := tyW_struct h Tryz.underlying46
  match ds, hl with
  | [d0, d1], _ =>
    obtain ⟨s, rfl, _⟩ := tyW_str (hf 0 _ d0 rfl rfl) Tryz.underlying9
    obtain ⟨k, rfl, hk⟩ := tyW_int (hf 1 _ d1 rfl rfl) Tryz.underlying3
    refine ⟨⟨s, k⟩, ?_, ?_, i64_of hk⟩
    · simp [avW, flatsW, flat, Named.enc]
    · simp only [Rows.uptoBulk, Rows.uptoBulkAll]; omega
theorem bulkE_le {l : List Ended} {xs : List (DataW H)} (hl : l.length = xs.length) (h : ∀ (i : Nat) x a, xs[i]? = some x → l[i]? = some a → a.reason.bulk + 1 ≤ Rows.uptoBulk x ∧ i64R a.pid) : bulkE l ≤ Rows.uptoBulkAll xs ∧ ∀ a, a ∈ l → i64R a.pid := by
  induction l generalizing xs with
  | nil => exact ⟨by simp [bulkE], fun a ha => by cases ha⟩
  | cons a l ih =>
    cases xs with
    | nil => simp at hl
    | cons x xs =>
      have h0 := h 0 x a rfl rfl
      have h1 := ih (xs := xs) (by simpa using hl) (fun i y b hy hb => h (i + 1) y b (by simpa using hy) (by simpa using hb))
      refine ⟨by simp only [bulkE, Rows.uptoBulkAll]; omega, fun b hb => ?_⟩
      rcases List.mem_cons.1 hb with rfl | hb
      · exact h0.2
      · exact h1.2 b hb
theorem bulkN_le {l : List Named} {xs : List (DataW H)} (hl : l.length = xs.length) (h : ∀ (i : Nat) x a, xs[i]? = some x → l[i]? = some a → a.name.length + 2 ≤ Rows.uptoBulk x ∧ i64R a.pid) : bulkN l ≤ Rows.uptoBulkAll xs ∧ ∀ a, a ∈ l → i64R a.pid := by
  induction l generalizing xs with
  | nil => exact ⟨by simp [bulkN], fun a ha => by cases ha⟩
  | cons a l ih =>
    cases xs with
    | nil => simp at hl
    | cons x xs =>
      have h0 := h 0 x a rfl rfl
      have h1 := ih (xs := xs) (by simpa using hl) (fun i y b hy hb => h (i + 1) y b (by simpa using hy) (by simpa using hb))
      refine ⟨by simp only [bulkN, Rows.uptoBulkAll]; omega, fun b hb => ?_⟩
      rcases List.mem_cons.1 hb with rfl | hb
      · exact h0.2
      · exact h1.2 b hb
theorem read_seen (n : Nat) (d : DataW H) (h : tyW Tryz.prog n 26 d) : ∃ s : Seen, avW d = s.enc ∧ s.bulk ≤ Rows.uptoBulk d ∧ s.Rng := by
  obtain ⟨ds, m, rfl, rfl, hl, hf⟩ := tyW_struct h Tryz.underlying26
  match ds, hl with
  | [d0, d1, d2, d3, d4, d5], _ =>
    obtain ⟨xs, sp, q, hx, hq, hxs⟩ := tyW_slice (hf 0 _ d0 rfl rfl) Tryz.underlying22
    obtain ⟨ys, sq, q2, hy, hq2, hys⟩ := tyW_slice (hf 1 _ d1 rfl rfl) Tryz.underlying23
    obtain ⟨zs, sr, q3, hz, hq3, hzs⟩ := tyW_slice (hf 2 _ d2 rfl rfl) Tryz.underlying24
    obtain ⟨k3, rfl, hk3⟩ := tyW_int (hf 3 _ d3 rfl rfl) Tryz.underlying3
    obtain ⟨k4, rfl, hk4⟩ := tyW_int (hf 4 _ d4 rfl rfl) Tryz.underlying3
    obtain ⟨k5, rfl, hk5⟩ := tyW_int (hf 5 _ d5 rfl rfl) Tryz.underlying3
    obtain ⟨l, h1, h2, h3⟩ := slice_dec (enc := Term.enc) (good := fun x a => a.bulk ≤ Rows.uptoBulk x) (fun x hx => read_term q x hx) xs hxs
    obtain ⟨l2, i1, i2, i3⟩ := slice_dec (enc := Ended.enc) (good := fun x a => a.reason.bulk + 1 ≤ Rows.uptoBulk x ∧ i64R a.pid) (fun x hx => read_ended q2 x hx) ys hys
    obtain ⟨l3, j1, j2, j3⟩ := slice_dec (enc := Named.enc) (good := fun x a => a.name.length + 2 ≤ Rows.uptoBulk x ∧ i64R a.pid) (fun x hx => read_named q3 x hx) zs hzs
    have hb := bulks_le h2 h3
    have hb2 := bulkE_le i2 i3
    have hb3 := bulkN_le j2 j3
    refine ⟨⟨l, l2, l3, k3, k4, k5⟩, ?_, ?_, ⟨hb2.2, hb3.2, i64_of hk3, i64_of hk4, i64_of hk5⟩⟩
    · have e1 : flat (avW d0) = [.sl .none (l.map Term.enc) []] := by
        rcases hx with ⟨rfl, rfl⟩ | rfl
        · simp only [avWs, List.length_nil, List.length_eq_zero_iff] at h1 h2
          subst h2
          simp [avW, flat]
        · simp [avW, flat, h1]
      have e2 : flat (avW d1) = [.sl .none (l2.map Ended.enc) []] := by
        rcases hy with ⟨rfl, rfl⟩ | rfl
        · simp only [avWs, List.length_nil, List.length_eq_zero_iff] at i1 i2
          subst i2
          simp [avW, flat]
        · simp [avW, flat, i1]
      have e3 : flat (avW d2) = [.sl .none (l3.map Named.enc) []] := by
        rcases hz with ⟨rfl, rfl⟩ | rfl
        · simp only [avWs, List.length_nil, List.length_eq_zero_iff] at j1 j2
          subst j2
          simp [avW, flat]
        · simp [avW, flat, j1]
      have e4 : avW (.agg [d0, d1, d2, .lit (.int .i64 k3), .lit (.int .i64 k4), .lit (.int .i64 k5)] : DataW H) = .agg (flat (avW d0) ++ (flat (avW d1) ++ (flat (avW d2) ++ (flat (.int .i64 k3) ++ (flat (.int .i64 k4) ++ (flat (.int .i64 k5) ++ [])))))) := by
        simp [avW, flatsW]
      rw [e4, e1, e2, e3]
      simp [flat, Seen.enc, encs, encE, encN]
    · have hb2 := hb2.1
      have hb3 := hb3.1
      unfold Seen.bulk
      rcases hx with ⟨rfl, rfl⟩ | rfl <;> rcases hy with ⟨rfl, rfl⟩ | rfl <;> rcases hz with ⟨rfl, rfl⟩ | rfl <;> simp only [Rows.uptoBulk, Rows.uptoBulkAll] at hb hb2 hb3 ⊢ <;> omega
def S2 : List TypeId := [26, 44, 46, 23, 24] ++ S
theorem closedS2 : closedT Tryz.prog S2 = true := by kernel_rfl
end Go.Proofs.YtphnoaihojccbaaGreatDoor
